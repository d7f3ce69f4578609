/-
  The program's kernel and the page's, apart: a new one, and each call of theirs. Conditions: as each says.
  The program's kernel and the page's: alike, as far as can be seen. Conditions: as each says.
-/
import Derived.Test.YtpoaacnnhgebfaaGreatKaA
import Derived.Test.YtpoaacnnhgebfaaGreatKeP
import Derived.Test.YtpoaacnnhgebfaaGreatKeW
import Derived.Test.YtpoaacnnhgebfaaGreatKf
import Derived.Test.YtpoaacnnhgebfaaGreatCf
import Derived.Test.YtpoaacnnhgebfaaGreatSk
import Derived.Test.YtpoaacnnhgebfaaGreatGkI
import Derived.Test.YtpoaacnnhgebfaaGreatLGa
set_option linter.unusedVariables false
namespace Go.Proofs.YtpoaacnnhgebfaaGreat
open Go.Lw

/-- A kernel of the program and one of the page, alike and apart. -/
structure Duo (W w : World) (gk pk : Nat) (s : AK) (L M : KL) (tl : Nat → Nat) (nm : Nat → ByteArray) : Prop where
  hk : KernO w gk s L
  hp : PagO w pk s M tl nm
  hi : PInv s
  ap : ∀ z, L.own z ≠ none → M.own z = none
  nk : ∀ z, L.own z ≠ none → W.heap.size ≤ z
  nm : ∀ z, M.own z ≠ none → W.heap.size ≤ z
  kp : Kept No W w

theorem Duo.no {W w w' : World} {gk pk : Nat} {s : AK} {L M : KL} {tl : Nat → Nat} {nm : Nat → ByteArray} (h : Duo W w gk pk s L M tl nm) (k : Kept No w w') : Duo W w' gk pk s L M tl nm := ⟨h.hk.no k, h.hp.no k, h.hi, h.ap, h.nk, h.nm, h.kp.no k⟩

theorem Duo.pa {W w : World} {gk pk : Nat} {s : AK} {L M : KL} {tl : Nat → Nat} {nm : Nat → ByteArray} (h : Duo W w gk pk s L M tl nm) {z : Nat} (hz : M.own z ≠ none) : L.own z = none := by
  cases ho : L.own z with
  | none => rfl
  | some t => exact absurd (h.ap z (by rw [ho]; simp)) hz

theorem Duo.old {W w : World} {gk pk : Nat} {s : AK} {L M : KL} {tl : Nat → Nat} {nm : Nat → ByteArray} (h : Duo W w gk pk s L M tl nm) {z : Nat} (hz : z < W.heap.size) : L.own z = none ∧ M.own z = none := by
  constructor
  · cases ho : L.own z with
    | none => rfl
    | some t => have := h.nk z (by rw [ho]; simp); omega
  · cases ho : M.own z with
    | none => rfl
    | some t => have := h.nm z (by rw [ho]; simp); omega

/-- The program's call, then the page's. -/
theorem Duo.both {W w w1 w2 : World} {gk pk : Nat} {s s' : AK} {L M L' M' : KL} {tl tl' : Nat → Nat} {nm nm' : Nat → ByteArray} (h : Duo W w gk pk s L M tl nm) (hK : KernO w1 gk s' L') (st : KStep w w1 L L') (hP : PagO w2 pk s' M' tl' nm') (st' : KStep w1 w2 M M') (hi : PInv s') : Duo W w2 gk pk s' L' M' tl' nm' := by
  have ap1 : ∀ z, L'.own z ≠ none → M.own z = none := fun z hz => by
    rcases st.grew z hz with e | e
    · exact h.ap z e
    · cases ho : M.own z with
      | none => rfl
      | some t => have := h.hp.lt z (by rw [ho]; simp); omega
  have k1 : Kept No W w1 := h.kp.trans st.kept fun y hy e => by have := h.nk y e; omega
  have hz0 : w.heap.size ≤ w1.heap.size := st.kept.size
  have hz1 : W.heap.size ≤ w.heap.size := h.kp.size
  refine ⟨hK.keep st'.kept fun x hx => ?_, hP, hi, fun z hz => ?_, fun z hz => ?_, fun z hz => ?_, k1.trans st'.kept fun y hy e => by have := h.nm y e; omega⟩
  · cases ho : L'.own x with
    | none => rfl
    | some t => exact absurd (ap1 x (by rw [ho]; simp)) hx
  · cases ho : M'.own z with
    | none => rfl
    | some t =>
      rcases st'.grew z (by rw [ho]; simp) with e | e
      · exact absurd (ap1 z hz) e
      · have := hK.lt z hz; omega
  · rcases st.grew z hz with e | e
    · exact h.nk z e
    · omega
  · rcases st'.grew z hz with e | e
    · exact h.nm z e
    · omega

/-- The page's kernel, across the program's call. -/
theorem Duo.mid {W w w1 : World} {gk pk : Nat} {s s' : AK} {L M L' : KL} {tl : Nat → Nat} {nm : Nat → ByteArray} (h : Duo W w gk pk s L M tl nm) (st : KStep w w1 L L') : PagO w1 pk s M tl nm := h.hp.keep st.kept fun x hx => h.ap x hx
theorem Duo.kmid {W w w1 : World} {gk pk : Nat} {s s' : AK} {L M L' : KL} {tl : Nat → Nat} {nm : Nat → ByteArray} (h : Duo W w gk pk s L M tl nm) (st : KStep w w1 L L') : Kept No W w1 := h.kp.trans st.kept fun y hy e => by have := h.nk y e; omega

theorem does_ok {W w : World} {gk pk : Nat} {s : AK} {L M : KL} {tl : Nat → Nat} {nm : Nat → ByteArray} (h : Duo W w gk pk s L M tl nm) {q : Addr} {x : SV} (hx : SVat W q x) (hn : s.next ≤ 4611686018427387903) (h0 : s.c0 ≤ 4611686018427387904) (h1 : s.c1 ≤ 4611686018427387904) :
    CallR Tryz.prog 13 [pd gk, pd pk, .agg #[.int .i64 x.what, .string x.nm, .int .i64 x.a, .int .i64 x.b, .int .i64 x.c, .slice x.sl.1 x.sl.2.1 x.sl.2.2]] w fun v w' => v = .bool true ∧ ∃ s' L' M' tl' nm', Duo W w' gk pk s' L' M' tl' nm' ∧ s'.next ≤ s.next + 2 ∧ s'.c0 ≤ s.c0 + 1 ∧ s'.c1 ≤ s.c1 + 1 := by
  refine C13 ?_
  unfold L13
  intro w1
  have hb : Blk w1 w.heap.size #[.int .i64 x.what, .string x.nm, .int .i64 x.a, .int .i64 x.b, .int .i64 x.c, .slice x.sl.1 x.sl.2.1 x.sl.2.2] := Blk.alloc _ _ _
  have hka : Kept No w w1 := Kept.alloc _ _ _
  clear_value w1
  have hold : ∀ {w' : World}, Kept No W w' → RdB w' x.sl.1 x.sl.2.1 x.sl.2.2 x.bs := fun k => hx.rd.keep k fun _ _ _ e => e
  have hlow : x.bs ≠ [] → ∀ k, inA x.sl.1 k → k < W.heap.size := fun hne k hk => RdS.old hx.rd (fun e => hne (By_inj (b := []) e)) k hk
  have hnk : L.own w.heap.size = none := none_new h.hk (Nat.le_refl _)
  replace h := h.no hka
  clear hka
  generalize w.heap.size = e at hb hnk
  refine ⟨_, (hb.cell 0).trans rfl, ?_⟩
  refine condI (fun _ => ⟨_, (hb.cell 1).trans rfl, _, (hb.cell 2).trans rfl, CallR.mono (kernOpen_ok h.hk _ _ (by omega)) ?_⟩) (fun _ => condI (fun _ => CallR.mono (kernPipe_ok h.hk (by omega)) ?_) (fun _ => condI (fun _ => ⟨_, (hb.cell 2).trans rfl, _, (hb.cell 3).trans rfl, CallR.mono (kernRead_ok h.hk _ _ (by omega)) ?_⟩) (fun _ => condI (fun _ => ⟨_, _, _, (hb.cell 5).trans rfl, CallR.mono (copyb_ok (hold h.kp) (by have := hx.le; omega)) ?_⟩) (fun _ => condI (fun _ => ⟨_, (hb.cell 2).trans rfl, _, (hb.cell 3).trans rfl, _, (hb.cell 4).trans rfl, CallR.mono (kernSeek_ok h.hk _ _ _) ?_⟩) (fun _ => condI (fun _ => ?_) (fun _ => ?_))))))
  · rintro v w2 ⟨rfl, L', h', st⟩
    have hb2 := hb.keep st.kept fun e => e hnk
    refine ⟨_, _, rfl, _, (hb2.cell 1).trans rfl, _, (hb2.cell 2).trans rfl, CallR.mono (popen_ok (h.mid (s' := s) st) _ _ (by omega)) ?_⟩
    rintro v w3 ⟨rfl, M', tl', nm', h'', st'⟩
    obtain ⟨o1, o2, o3, o4⟩ := AK.open_cs s x.nm x.a
    exact ⟨_, _, rfl, condT (by simp) (lnum_to ⟨_, rfl, by simp, _, _, _, _, _, h.both h' st h'' st' (h.hi.open_ h.hp.ok _ _), by omega, by omega, by omega⟩)⟩
  · rintro v w2 ⟨rfl, L', h', st⟩
    refine ⟨_, _, _, rfl, CallR.mono (ppipe_ok (h.mid (s' := s) st) (by omega)) ?_⟩
    rintro v w3 ⟨rfl, M', tl', nm', h'', st'⟩
    obtain ⟨o1, o2, o3, o4⟩ := AK.pipe_cs s
    exact ⟨_, _, _, rfl, condT (by simp) (condT (by simp) (lnum_to ⟨_, rfl, by simp, _, _, _, _, _, h.both h' st h'' st' (h.hi.pipe h.hp.ok), by omega, by omega, by omega⟩))⟩
  · rintro v w2 ⟨a, l, c, L', rfl, ho, hf, h', st, _⟩
    have hb2 := hb.keep st.kept fun e => e hnk
    refine ⟨_, _, _, _, rfl, _, (hb2.cell 2).trans rfl, _, (hb2.cell 3).trans rfl, CallR.mono (pread_ok (h.mid (s' := s) st) _ _ (by omega)) ?_⟩
    rintro v w3 ⟨a', l', c', M', rfl, hr', h'', st'⟩
    have ho3 := ho.keep st'.kept fun b hb e => by have := hf b hb; have := h.hp.lt b e; omega
    have hln : l ≤ 140737488355328 := by
      have h1 := ho.rd.len
      have h2 := AK.read_bound s x.a x.b
      omega
    obtain ⟨o1, o2, o3, o4, _⟩ := AK.read_cs s x.a x.b
    refine ⟨_, _, _, _, rfl, CallR.mono (same_ok ho3.rd hr' hln) ?_⟩
    rintro v w4 ⟨rfl, hk4, _⟩
    exact ⟨_, rfl, condT (by simp) (lnum_to ⟨_, rfl, by simp, _, _, _, _, _, (h.both h' st h'' st' (h.hi.read _ _)).no hk4, by omega, by omega, by omega⟩)⟩
  · rintro v w2 ⟨a', c', rfl, ho, hk2, hf⟩
    have hb2 := hb.keep hk2 fun e => e
    have hN2 := h.no hk2
    refine ⟨_, _, _, rfl, _, (hb2.cell 2).trans rfl, CallR.mono (kernWrite_ok hN2.hk _ ho.rd (fun _ k hk => none_new h.hk (hf k hk)) (by omega)) ?_⟩
    rintro v w3 ⟨rfl, L', h', st⟩
    have hb3 := hb2.keep st.kept fun e => e hnk
    refine ⟨_, _, rfl, _, (hb3.cell 2).trans rfl, _, _, _, (hb3.cell 5).trans rfl, CallR.mono (pwrite_ok (hN2.mid (s' := s) st) _ (hold (hN2.kmid (s' := s) st)) (fun hne k hk => (h.old (hlow hne k hk)).2) (by omega)) ?_⟩
    rintro v w4 ⟨rfl, M', h'', st'⟩
    obtain ⟨o1, o2, o3, o4, _⟩ := AK.write_cs s x.a x.bs
    have hD := hN2.both h' st h'' st' (h.hi.write _ _)
    have ho4 := (ho.keep st.kept fun b hb e => e (none_new h.hk (hf b hb))).keep st'.kept fun b hb e => by have := hf b hb; have := h.hp.lt b e; omega
    refine ⟨_, _, rfl, CallR.mono (spoil_ok ho4 (by have := hx.le; omega)) ?_⟩
    rintro v w5 ⟨rfl, _, hk5⟩
    have hL' : ∀ z, L'.own z ≠ none → ¬ inA a' z := fun z hz e => by
      rcases st.grew z hz with g | g
      · exact g (none_new h.hk (hf z e))
      · have := ho.lt z e; omega
    have hM' : ∀ z, M'.own z ≠ none → ¬ inA a' z := fun z hz e => by
      rcases st'.grew z hz with g | g
      · have := h.hp.lt z g; have := hf z e; omega
      · have := ho.lt z e; have := st.kept.size; omega
    have hD5 : Duo W w5 gk pk (s.write x.a x.bs).2.2 L' M' tl nm := ⟨hD.hk.keep hk5 fun z e => (by
        cases hz : L'.own z with
        | none => rfl
        | some t => exact absurd e (hL' z (by rw [hz]; simp))), hD.hp.keep hk5 (fun z e => (by
        cases hz : M'.own z with
        | none => rfl
        | some t => exact absurd e (hM' z (by rw [hz]; simp)))), hD.hi, hD.ap, hD.nk, hD.nm, hD.kp.trans hk5 fun y hy e => (by have := hf y e; have := h.kp.size; omega)⟩
    exact ⟨rfl, condT (by simp) (lnum_to ⟨_, rfl, by simp, _, _, _, _, _, hD5, by omega, by omega, by omega⟩)⟩
  · rintro v w2 ⟨rfl, L', h', st⟩
    have hb2 := hb.keep st.kept fun e => e hnk
    refine ⟨_, _, rfl, _, (hb2.cell 2).trans rfl, _, (hb2.cell 3).trans rfl, _, (hb2.cell 4).trans rfl, CallR.mono (pseek_ok (h.mid (s' := s) st) _ _ _) ?_⟩
    rintro v w3 ⟨rfl, M', h'', st'⟩
    obtain ⟨o1, o2, o3⟩ := AK.seek_cs s x.a x.b x.c
    exact ⟨_, _, rfl, condT (by simp) (lnum_to ⟨_, rfl, by simp, _, _, _, _, _, h.both h' st h'' st' (h.hi.seek _ _ _), by omega, by omega, by omega⟩)⟩
  · refine ⟨fun w' => Blk w' e #[.int .i64 x.what, .string x.nm, .int .i64 x.a, .int .i64 x.b, .int .i64 x.c, .slice x.sl.1 x.sl.2.1 x.sl.2.2], hb.drew, _, fun wS hS => (hS.cell 2).trans rfl, _, fun wS hS => (hS.cell 2).trans rfl, CallR.mono (kernKeep_ok (h.no (Kept.drew No _)).hk _) ?_⟩
    have hN := h.no (Kept.drew No _)
    rintro v w2 ⟨rfl, L', h', st⟩
    have hb2 := hb.drew.keep st.kept fun e => e hnk
    refine ⟨_, rfl, hb2, lnum_to ⟨_, rfl, hb2, CallR.mono (pkeep_ok (hN.mid (s' := s) st) _) ?_⟩⟩
    rintro v w3 ⟨rfl, M', h'', st'⟩
    obtain ⟨o1, o2, o3⟩ := AK.keep_cs s x.a
    exact ⟨_, rfl, by simp, _, _, _, _, _, hN.both h' st h'' st' (h.hi.keep _), by omega, by omega, by omega⟩
  · refine ⟨fun w' => Blk w' e #[.int .i64 x.what, .string x.nm, .int .i64 x.a, .int .i64 x.b, .int .i64 x.c, .slice x.sl.1 x.sl.2.1 x.sl.2.2], hb.drew, _, fun wS hS => (hS.cell 2).trans rfl, _, fun wS hS => (hS.cell 2).trans rfl, CallR.mono (kernDrop_ok (h.no (Kept.drew No _)).hk _) ?_⟩
    have hN := h.no (Kept.drew No _)
    rintro v w2 ⟨rfl, L', h', st⟩
    have hb2 := hb.drew.keep st.kept fun e => e hnk
    refine ⟨_, rfl, hb2, lnum_to ⟨_, rfl, hb2, CallR.mono (pdrop_ok (hN.mid (s' := s) st) _) ?_⟩⟩
    rintro v w3 ⟨rfl, M', h'', st'⟩
    obtain ⟨o1, o2, o3⟩ := AK.drop_cs s x.a
    exact ⟨_, rfl, by simp, _, _, _, _, _, hN.both h' st h'' st' (h.hi.drop _), by omega, by omega, by omega⟩

/-- A setup's kernel of the page; none: it may not be. -/
theorem page_ok {w : World} {fs : List (ByteArray × List Int)} {ts : List (ByteArray × List (List Int))} {ps : List (Int × Int)} {af : Option Addr} {lf cf : Nat} {at_ : Option Addr} {lt ct : Nat} {ap : Option Addr} {lp cp : Nat}
    (h : SetupO w fs ts ps af lf cf at_ lt ct ap lp cp) :
    CallR Tryz.prog 10 [.agg #[.slice af lf cf, .slice at_ lt ct, .slice ap lp cp]] w fun v w' => Kept No w w' ∧ ((checkK fs ts ps ≠ 0 ∧ v = .pointer none) ∨
      (checkK fs ts ps = 0 ∧ ∃ pk L tl nm, v = pd pk ∧ PagO w' pk (AK.new fs ts ps) L tl nm ∧ ∀ z, L.own z ≠ none → w.heap.size ≤ z)) := by
  obtain ⟨ef, hef⟩ := h.ef
  obtain ⟨et, het⟩ := h.et
  have q1 := h.lf
  have q2 := h.lt
  refine C10 ?_
  unfold L10
  intro w1
  have hb : Blk w1 w.heap.size #[.slice af lf cf, .slice at_ lt ct, .slice ap lp cp] := Blk.alloc _ _ _
  have hk1 : Kept No w w1 := Kept.alloc _ _ _
  clear_value w1
  have h1 := h.no hk1
  refine ⟨_, _, _, (hb.cell 0).trans rfl, _, _, _, (hb.cell 1).trans rfl, _, _, _, (hb.cell 2).trans rfl, CallR.mono (pcheck_ok (hef.no (fun _ _ _ _ h k => h.no k) hk1) (het.no (fun _ _ _ _ h k => h.no k) hk1) h1.pp (by omega) (by omega)) ?_⟩
  rintro v w2 ⟨rfl, hk2⟩
  have hb2 := hb.keep hk2 fun e => e
  have k2 := hk1.no hk2
  refine ⟨_, rfl, condI (fun hc => ⟨k2, .inl ⟨bne_iff_ne.1 hc, rfl⟩⟩) (fun hc => ?_)⟩
  have hz : checkK fs ts ps = 0 := by
    cases hd : decide (checkK fs ts ps = 0) with
    | true => exact of_decide_eq_true hd
    | false => rw [bne_iff_ne.2 (of_decide_eq_false hd)] at hc; cases hc
  have kd : Kept No w w2.drew := k2.no (Kept.drew No _)
  have hbd : Blk w2.drew w.heap.size #[.slice af lf cf, .slice at_ lt ct, .slice ap lp cp] := hb2.drew
  refine ⟨fun w' => Blk w' w.heap.size #[.slice af lf cf, .slice at_ lt ct, .slice ap lp cp], hbd, _, _, _, fun wS hS => (hS.cell 0).trans rfl, _, _, _, fun wS hS => (hS.cell 1).trans rfl, _, _, _, fun wS hS => (hS.cell 2).trans rfl, CallR.mono (copyFaults_ok (h.no kd).pp h.lp) ?_⟩
  rintro v w4 ⟨a', c', rfl, hk4, ho, hf⟩
  refine ⟨_, _, _, rfl, hbd.keep hk4 fun e => e, CallR.mono (pnew_ok (kd.no hk4) hef het ho (AK.check_zero hz) (by omega) (by omega) fun b hb => ?_) ?_⟩
  · have := hf b hb
    have := kd.size
    omega
  · rintro v w5 ⟨pk, L, tl, nm, rfl, hP, hl, hk5⟩
    exact ⟨_, rfl, hk5, .inr ⟨hz, pk, L, tl, nm, rfl, hP, hl⟩⟩

end Go.Proofs.YtpoaacnnhgebfaaGreat

namespace Go.Proofs.YtpoaacnnhgebfaaGreat
open Go.Lw

theorem AK.scr_bound {w : World} {gk : Nat} {s : AK} {L : KL} (h : KernO w gk s L) (nm : ByteArray) : (s.screenV nm).1.length ≤ 1048576 := by
  unfold AK.screenV
  split
  · rename_i g hg
    unfold AK.termOf at hg
    have hm := List.mem_of_find?_eq_some hg
    have hO := h.ob g.2 (h.ok.ti g hm).1
    show (scrO (s.objs g.2)).length ≤ 1048576
    cases ho : s.objs g.2 with
    | term LL scr =>
      rw [ho] at hO
      have hT : TermO _ _ w (L.loc g.2) LL scr := hO
      exact hT.scr
    | file bs => simp [scrO]
    | pipe bs e0 e1 => simp [scrO]
  · simp

theorem AK.held_bound {w : World} {gk : Nat} {s : AK} {L : KL} (h : KernO w gk s L) (d : Int) : (s.held d).length ≤ 1048576 := by
  unfold AK.held
  split
  · simp
  · split
    · simp
    · rename_i x hx
      have hO := h.ofO hx
      cases ho : s.objs x.ob with
      | term LL scr => simp
      | file bs => simp
      | pipe bs e0 e1 =>
        rw [ho] at hO
        have hT : PipeO w (L.loc x.ob) bs e0 e1 := hO.1
        have := hT.len
        show bs.length ≤ 1048576
        omega

theorem same6_ok {W w : World} {gk pk : Nat} {s : AK} {L M : KL} {tl : Nat → Nat} {nm : Nat → ByteArray} (h : Duo W w gk pk s L M tl nm) (hn : s.next ≤ 4611686018427387903) :
    CallR Tryz.prog 14 [pd gk, pd pk] w fun v w' => v = .bool true ∧ Kept No w w' := by
  obtain ⟨T, ta, tc, da, dc, hB⟩ := h.hp.kb
  refine C14 ?_
  unfold L14
  refine CallR.mono (calls_ok h.hk) ?_
  rintro v w1 ⟨rfl, hk1⟩
  have kd : Kept No w w1.drew := hk1.no (Kept.drew No _)
  have keepB : ∀ {w' : World}, Kept No w w' → PKb w' pk s M tl T ta tc da dc := fun k => hB.keep h.hp.oK k fun z t e => e.elim
  refine ⟨_, _, rfl, fun w' => Kept No w w', kd, nnI ⟨_, fun wS hS => (keepB hS).b.at (i := 4) rfl, condF (by simp) (nnI ⟨_, fun wS hS => (keepB hS).b.at (i := 5) rfl, condF (by simp) (CallR.mono (kernFiles_ok (h.no kd).hk) ?_)⟩)⟩⟩
  rintro v w3 ⟨a, l, c, es, rfl, hf, hk3⟩
  have k3 := kd.no hk3
  refine ⟨_, _, _, rfl, k3, CallR.mono (pfiles_ok (h.no k3).hp (keepB k3)) ?_⟩
  rintro v w4 ⟨a', c', es', rfl, hf', hk4⟩
  have k4 := k3.no hk4
  have hfl : l = s.filesV.length := by have := hf.len_eq; omega
  have hok := h.hk.ok.fl
  have hfv := AK.filesV_len s
  refine ⟨_, _, _, rfl, k4, CallR.mono (sameNamed_ok (hf.no hk4).rd hf'.rd (by omega) fun f hf => by have := AK.filesV_bound h.hk f hf; omega) ?_⟩
  rintro v w5 ⟨rfl, hk5⟩
  have k5 := k4.no hk5
  have heq := files_eq h.hp.ok hB.pm hB.so
  refine ⟨_, rfl, k5, condF (by rw [heq]; simp) ?_⟩
  obtain ⟨fa, fl, fc, hpg, hfr, _⟩ := h.hp.pl
  have keepP : ∀ {w' : World}, Kept No w w' → Blk w' M.pg #[.slice fa fl fc] := fun k => hpg.keep k fun e => e
  have keepF : ∀ {w' : World}, Kept No w w' → RdS 2 w' fa fl fc (Fv s.ps) := fun k => hfr.keep k fun _ _ _ e => e
  refine nnI ⟨_, fun wS hS => (keepB hS).b.at (i := 3) rfl, nnI ⟨_, _, _, fun wS hS => (keepP hS).at0 rfl, CallR.mono (rest_ok (h.no k5).hk) ?_⟩⟩
  rintro v w6 ⟨a6, c6, rfl, hr6, hk6, hf6⟩
  have k6 := k5.no hk6
  have := h.hk.ok.ps
  refine ⟨_, _, _, rfl, k6, CallR.mono (sameFaults_ok hr6.rd (keepF k6) (by omega)) ?_⟩
  rintro v w7 ⟨rfl, hk7⟩
  have k7 := k6.no hk7
  refine ⟨_, rfl, condF (by simp) (CallR.mono (pscreens_ok (h.no k7).hp (keepB k7)) ?_)⟩
  rintro v w8 ⟨a8, c8, es8, rfl, hs8, hk8⟩
  have k8 := k7.no hk8
  have hsc : ∀ {w' : World}, Kept No w8 w' → RdN RB w' a8 (ofK s .scr scrO T).length c8 (ofK s .scr scrO T) es8 := fun k => (hs8.no k).rd
  have hsm : ∀ f ∈ ofK s .scr scrO T, s.screenV f.1 = (f.2, true) := fun f hf => screen_mem h.hp.ok hB.pm hf
  have hsl : (ofK s .scr scrO T).length ≤ 140737488355328 := by
    have h1 := ofK_len s .scr scrO T
    have h2 := hB.pm.length_eq
    rw [List.length_append] at h2
    have h3 := h.hk.ok.fl
    omega
  generalize ofK s .scr scrO T = G at hs8 hsc hsm hsl
  refine ⟨_, _, _, rfl, fun vs w' => ∃ n : Nat, vs = [.int .i64 (n : Int)] ∧ n ≤ G.length ∧ Kept No w8 w', fun vs _ => G.length - ix vs, ⟨0, rfl, Nat.zero_le _, Kept.refl _ _⟩, ?_⟩
  rintro _ n29 w9 ⟨n, hv, hnl, hk9⟩
  simp only [List.cons.injEq, Value.int.injEq, true_and, and_true] at hv
  subst hv
  refine condP (fun hlt => ?_) (fun hge => ?_)
  · have hi : n < G.length := by omega
    obtain ⟨q, _, haq, e1, _, _, _⟩ := (hsc hk9).at hi
    have e0 : Int.toNat (n : Int) = n := Int.toNat_natCast n
    rw [e0]
    refine ⟨by omega, nnE2 haq ⟨_, e1, CallR.mono (screen_ok ((h.no k8).no hk9).hk _) ?_⟩⟩
    rw [hsm _ (List.getElem_mem hi)]
    rintro v w10 ⟨ax, lx, cx, rfl, ho, hk10, _⟩
    have kx := hk9.no hk10
    obtain ⟨q', sl, haq', _, e2, hR, _⟩ := (hsc kx).at hi
    refine ⟨_, _, _, _, rfl, condF (by simp) ⟨by omega, nnE2 haq' ⟨_, _, _, e2, CallR.mono (same_ok ho.rd hR ?_) ?_⟩⟩⟩
    · have h1 := ho.rd.len
      have h2 := AK.scr_bound h.hk G[n].1
      rw [hsm _ (List.getElem_mem hi)] at h2
      omega
    · rintro v w11 ⟨rfl, hk11, _⟩
      exact ⟨_, rfl, condF (by simp) ⟨⟨by omega, by omega⟩, ⟨n + 1, rfl, by omega, kx.no hk11⟩, by simp only [ix]; omega⟩⟩
  have k9 := k8.no hk9
  refine ⟨fun vs w' => ∃ n : Nat, vs = [.int .i64 (n : Int)] ∧ (n : Int) ≤ s.next + 1 ∧ Kept No w w', fun vs _ => (s.next + 1).toNat - ix vs, ⟨0, rfl, ?_, k9⟩, ?_⟩
  · have := h.hk.ok.nx
    omega
  rintro _ n41 w12 ⟨d, hv, hd, k12⟩
  simp only [List.cons.injEq, Value.int.injEq, true_and, and_true] at hv
  subst hv
  refine nnI ⟨_, (keepB k12).b.at (i := 2) rfl, ⟨by omega, by omega⟩, condP (fun hlt => ?_) (fun hge => ⟨rfl, k12⟩)⟩
  have h12 := h.no k12
  refine CallR.mono (kind_ok h12.hk _) ?_
  rintro v w13 ⟨rfl, hk13⟩
  have h13 := h12.no hk13
  refine ⟨_, rfl, pkind_ok h13.hp _ ⟨_, rfl, condF (by simp) (CallR.mono (canread_ok h13.hk _) ?_)⟩⟩
  rintro v w15 ⟨rfl, hk15⟩
  have h15 := h13.no hk15
  refine ⟨_, rfl, pcanread_ok h15.hp _ ⟨_, rfl, condF (by simp) (CallR.mono (canwrite_ok h15.hk _ _) ?_)⟩⟩
  rintro v w17 ⟨rfl, hk17⟩
  have h17 := h15.no hk17
  refine ⟨_, rfl, pcanwrite_ok h17.hp h17.hi _ _ ⟨_, rfl, condF (by simp) (CallR.mono (kernHeld_ok h17.hk _) ?_)⟩⟩
  rintro v w19 ⟨a19, l19, c19, rfl, ho, hf19, hk19⟩
  have h19 := h17.no hk19
  refine ⟨_, _, _, rfl, CallR.mono (pheld_ok h19.hp _) ?_⟩
  rintro v w20 ⟨rfl, a20, l20, c20, rfl, hr20⟩
  refine ⟨_, _, _, rfl, CallR.mono (same_ok ho.rd hr20 ?_) ?_⟩
  · have h1 := ho.rd.len
    have h2 := AK.held_bound h.hk (d : Int)
    omega
  rintro v w21 ⟨rfl, hk21, _⟩
  exact ⟨_, rfl, condF (by simp) ⟨⟨by omega, by omega⟩, ⟨d + 1, rfl, by omega, (((((k12.no hk13).no hk15).no hk17).no hk19).no hk21)⟩, by simp only [ix]; omega⟩⟩

end Go.Proofs.YtpoaacnnhgebfaaGreat
