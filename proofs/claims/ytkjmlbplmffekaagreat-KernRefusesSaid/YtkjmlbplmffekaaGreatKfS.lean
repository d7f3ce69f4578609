/-
  Whether named files, and faults, are the same; a kernel's faults that are left, its counts, its screens; a handle's seek. Conditions: as each says.
-/
import Derived.Test.YtkjmlbplmffekaaGreatKfB
import Derived.Test.YtkjmlbplmffekaaGreatLZs
import Derived.Laws.StructEq
set_option linter.unusedVariables false
namespace Go.Proofs.YtkjmlbplmffekaaGreat
open Go.Lw

theorem strEq (a b : ByteArray) : (ByteArray.toList a == ByteArray.toList b) = decide (a = b) := by
  rw [ByteArray.toList_eq, ByteArray.toList_eq]
  by_cases h : a = b
  · subst h; simp
  · rw [decide_eq_false h]
    have : ¬ a.data.toList = b.data.toList := fun e => h (by
      cases a; cases b
      simp only at e
      rw [Array.toList_inj.1 e])
    simpa using this

theorem sameNamed_ok {w : World} {a : Option Addr} {l c : Nat} {fs : List (ByteArray × List Int)} {es : List (ByteArray × Slc)} (h : RdN RB w a l c fs es) {a2 : Option Addr} {l2 c2 : Nat} {gs : List (ByteArray × List Int)} {es2 : List (ByteArray × Slc)} (h2 : RdN RB w a2 l2 c2 gs es2)
    (hl : l ≤ 140737488355328) (hb : ∀ f ∈ fs, f.2.length ≤ 140737488355328) :
    CallR Tryz.prog 24 [.slice a l c, .slice a2 l2 c2] w fun v w' => v = .bool (decide (fs = gs)) ∧ Kept No w w' := by
  have hfl : fs.length = l := by have := h.rd.1; rw [Nv_len, h.len] at this; omega
  have hgl : gs.length = l2 := by have := h2.rd.1; rw [Nv_len, h2.len] at this; omega
  refine C24 ?_
  unfold L24
  refine condI (fun hne => ⟨?_, Kept.refl _ _⟩) (fun heq => ?_)
  · have hne : l ≠ l2 := by simp at hne; omega
    rw [decide_eq_false]
    rintro rfl
    omega
  · have hll : l = l2 := by simp at heq; omega
    subst hll
    refine ⟨fun vs w' => ∃ n : Nat, vs = [.int .i64 (n : Int)] ∧ n ≤ l ∧ fs.take n = gs.take n ∧ Kept No w w', fun vs _ => l - ix vs, ⟨0, rfl, Nat.zero_le _, by simp, Kept.refl _ _⟩, ?_⟩
    rintro _ n5 w1 ⟨n, hv, hn, htk, hk⟩
    simp only [List.cons.injEq, Value.int.injEq, true_and, and_true] at hv
    subst hv
    refine condP (fun hlt => ?_) (fun hge => ?_)
    · intro w2
      have hk2 : Kept No w w2 := hk.no (Kept.drew _ _)
      clear_value w2
      have hx : n < fs.length := by omega
      have hy : n < gs.length := by omega
      obtain ⟨q, sl, haq, e1, e2, hR, _⟩ := (h.no (fun _ _ _ _ h k => h.no k) hk2).at hx
      obtain ⟨q2, sl2, haq2, e3, e4, hR2, _⟩ := (h2.no (fun _ _ _ _ h k => h.no k) hk2).at hy
      have e0 : Int.toNat (n : Int) = n := Int.toNat_natCast n
      rw [e0]
      have hr : 0 ≤ (n : Int) ∧ (n : Int) < ((l : Nat) : Int) := by omega
      have no : fs[n] ≠ gs[n] → ((.bool false : Value) = .bool (decide (fs = gs)) ∧ Kept No w w2) := fun hne => ⟨by
        rw [decide_eq_false]
        rintro rfl
        exact hne rfl, hk2⟩
      refine ⟨hr, nnE2 haq ⟨_, e1, hr, nnE2 haq2 ⟨_, e3, ?_⟩⟩⟩
      rw [strEq]
      by_cases hnm : fs[n].1 = gs[n].1
      · rw [decide_eq_true hnm]
        have hbl := hb fs[n] (List.getElem_mem hx)
        refine condFa2 ⟨hr, nnE2 haq ⟨_, _, _, e2, hr, nnE2 haq2 ⟨_, _, _, e4, CallR.mono (same_ok hR hR2 (by have := RdB.len hR; omega)) ?_⟩⟩⟩
        rintro v w3 ⟨rfl, hk3, _⟩
        refine ⟨_, rfl, ?_⟩
        by_cases hd : fs[n].2 = gs[n].2
        · rw [decide_eq_true hd]
          refine condFa2 ⟨⟨by omega, by omega⟩, ⟨n + 1, rfl, by omega, ?_, hk2.no hk3⟩, by simp only [ix]; omega⟩
          rw [List.take_add_one, List.take_add_one, htk, List.getElem?_eq_getElem hx, List.getElem?_eq_getElem hy, Prod.ext hnm hd]
        · rw [decide_eq_false hd]
          have := no fun e => hd (by rw [e])
          exact condTr2 ⟨this.1, hk2.no hk3⟩
      · rw [decide_eq_false hnm]
        exact condTr2 (no fun e => hnm (by rw [e]))
    · have : n = l := by omega
      subst this
      rw [List.take_of_length_le (by omega), List.take_of_length_le (by omega)] at htk
      exact ⟨by rw [decide_eq_true htk], hk⟩

theorem run_Bind' {α β : Type} {P : Program} (m : Sem α) (f : α → Sem β) (w : World) : Sem.run P (Sem.bind m f) w = (m.run P w).andThen fun a w' => (f a).run P w' := by
  have : Sem.bind m f = (m >>= f) := rfl
  rw [this, Sem.run_bind]

def intsB (P : Program) (n : Nat) : List Field → Nat → Bool
  | [], o => Nat.beq o n
  | f :: r, o => Nat.beq f.offset o && !(f.name == "_") && (match P.underlying f.type with | some (.int .i64) => true | _ => false) && intsB P n r (o + 1)

theorem eqfI {P : Program} {w : World} {m : Nat} {xs ys : Array Value} {X Y : Nat → Int} (hx : ∀ i, i < m → xs[i]? = some (.int .i64 (X i))) (hy : ∀ i, i < m → ys[i]? = some (.int .i64 (Y i))) (d : Nat) :
    ∀ (fs : List Field) (o : Nat), intsB P m fs o = true → (Op.eqFields (d + 1) xs ys fs).run P w = .ok ((List.range' o fs.length).all fun i => X i == Y i) w ∧ o + fs.length = m
  | [], o, h => by
    have := Nat.eq_of_beq_eq_true h
    subst this
    exact ⟨rfl, rfl⟩
  | f :: r, o, h => by
    unfold intsB at h
    simp only [Bool.and_eq_true] at h
    obtain ⟨⟨⟨h1, h2⟩, h3⟩, h4⟩ := h
    have ho : f.offset = o := Nat.eq_of_beq_eq_true h1
    have hn : f.name ≠ "_" := by simpa using h2
    have hu : P.underlying f.type = some (.int .i64) := by
      split at h3
      · assumption
      · cases h3
    obtain ⟨ih, hl⟩ := eqfI (w := w) hx hy d r (o + 1) h4
    have hlen : o + (f :: r).length = m := by simp; omega
    have ho8 : o < m := by simp at hlen; omega
    have hag : isAggB P f.type = false := by unfold isAggB; rw [hu]
    have px : (part f.type xs f.offset).run P w = .ok (.int .i64 (X o)) w := by
      unfold part
      simp only [Sem.run_bind, run_isAgg hu, hag, Result.andThen_ok, Bool.false_eq_true, if_false, ho, hx o ho8, Sem.run_pure]
    have py : (part f.type ys f.offset).run P w = .ok (.int .i64 (Y o)) w := by
      unfold part
      simp only [Sem.run_bind, run_isAgg hu, hag, Result.andThen_ok, Bool.false_eq_true, if_false, ho, hy o ho8, Sem.run_pure]
    refine ⟨?_, hlen⟩
    unfold Op.eqFields
    simp only [hn, ne_eq, not_false_eq_true, if_true, Sem.run_bind, px, py, Result.andThen_ok, run_equalIn_int w d f.type .i64 .i64 (X o) (Y o) hu]
    cases hxy : (X o == Y o) with
    | false => simp [List.range'_succ, hxy]
    | true => simp [List.range'_succ, hxy, ih]

theorem neFault {w : World} {x y : Operand} (f g : Int × Int) : Sem.run Tryz.prog (Sem.bind (eqGuard .neq 82 x y (.agg #[.int .i64 f.1, .int .i64 f.2]) (.agg #[.int .i64 g.1, .int .i64 g.2])) (fun _ => binOp .neq 82 (.agg #[.int .i64 f.1, .int .i64 f.2]) (.agg #[.int .i64 g.1, .int .i64 g.2]))) w = .ok (.bool (!decide (f = g))) w := by
  have h1 : Tryz.prog.eqGuardType Tryz.prog.depth 82 = false := by kernel_rfl
  have h2 : Tryz.prog.underlying 82 = some (.struct (Tryz.prog.fieldsOf 82)) := by kernel_rfl
  have h3 : Tryz.prog.stoodInHeld 82 = false := by kernel_rfl
  have h4 : intsB Tryz.prog 2 (Tryz.prog.fieldsOf 82).toList 0 = true := by kernel_rfl
  have he := eqfI (P := Tryz.prog) (w := w) (m := 2) (xs := #[.int .i64 f.1, .int .i64 f.2]) (ys := #[.int .i64 g.1, .int .i64 g.2]) (X := fun i => if i = 0 then f.1 else f.2) (Y := fun i => if i = 0 then g.1 else g.2)
    (fun i hi => by match i, hi with | 0, _ => rfl | 1, _ => rfl) (fun i hi => by match i, hi with | 0, _ => rfl | 1, _ => rfl) 9998 _ 0 h4
  have hlen : (Tryz.prog.fieldsOf 82).toList.length = 2 := by have := he.2; omega
  have hall : ((List.range' 0 2).all fun i => (if i = 0 then f.1 else f.2) == (if i = 0 then g.1 else g.2)) = decide (f = g) := by
    obtain ⟨f1, f2⟩ := f
    obtain ⟨g1, g2⟩ := g
    rw [Bool.eq_iff_iff]
    simp [List.range'_succ]
  rw [run_Bind', run_eqGuard_agg w .neq 82 x y _ _ h1, Result.andThen_ok, run_neq_struct, run_equalIn_struct w 9999 82 _ _ h2 h3, he.1, hlen, hall]
  rfl

theorem sameFaults_ok {w : World} {a : Option Addr} {l c : Nat} {ps : List (Int × Int)} (h : RdS 2 w a l c (Fv ps)) {a2 : Option Addr} {l2 c2 : Nat} {qs : List (Int × Int)} (h2 : RdS 2 w a2 l2 c2 (Fv qs)) (hl : l ≤ 140737488355328) :
    CallR Tryz.prog 28 [.slice a l c, .slice a2 l2 c2] w fun v w' => v = .bool (decide (ps = qs)) ∧ Kept No w w' := by
  have hfl : ps.length = l := by have := h.1; rw [Fv_len] at this; omega
  have hgl : qs.length = l2 := by have := h2.1; rw [Fv_len] at this; omega
  refine C28 ?_
  unfold L28
  refine condI (fun hne => ⟨?_, Kept.refl _ _⟩) (fun heq => ?_)
  · have hne : l ≠ l2 := by simp at hne; omega
    rw [decide_eq_false]
    rintro rfl
    omega
  · have hll : l = l2 := by simp at heq; omega
    subst hll
    refine ⟨fun vs w' => ∃ n : Nat, vs = [.int .i64 (n : Int)] ∧ n ≤ l ∧ ps.take n = qs.take n ∧ Kept No w w', fun vs _ => l - ix vs, ⟨0, rfl, Nat.zero_le _, by simp, Kept.refl _ _⟩, ?_⟩
    rintro _ n5 w1 ⟨n, hv, hn, htk, hk⟩
    simp only [List.cons.injEq, Value.int.injEq, true_and, and_true] at hv
    subst hv
    refine condP (fun hlt => ?_) (fun hge => ?_)
    · intro w2
      have hk2 : Kept No w w2 := hk.no (Kept.drew _ _)
      clear_value w2
      have hx : n < ps.length := by omega
      have hy : n < qs.length := by omega
      have h' := h.keep hk2 fun _ _ _ e => e
      have h2' := h2.keep hk2 fun _ _ _ e => e
      obtain ⟨q, haq⟩ : ∃ q, a = some q := by
        cases ha : a with
        | none => have := RdS.isNone h' ha; omega
        | some q => exact ⟨q, rfl⟩
      obtain ⟨q2, haq2⟩ : ∃ q, a2 = some q := by
        cases ha : a2 with
        | none => have := RdS.isNone h2' ha; omega
        | some q => exact ⟨q, rfl⟩
      obtain ⟨f1, f2⟩ := Fv_at hx
      obtain ⟨g1, g2⟩ := Fv_at hy
      have e1 := h'.2.2.2 q haq _ _ f1
      have e2 := h'.2.2.2 q haq _ _ f2
      have e3 := h2'.2.2.2 q2 haq2 _ _ g1
      have e4 := h2'.2.2.2 q2 haq2 _ _ g2
      rw [← Lw.add_add] at e2 e4
      have e0 : Int.toNat (n : Int) = n := Int.toNat_natCast n
      rw [e0]
      have hr : 0 ≤ (n : Int) ∧ (n : Int) < ((l : Nat) : Int) := by omega
      refine ⟨hr, nnE2 haq ⟨_, _, e1, e2, hr, nnE2 haq2 ⟨_, _, e3, e4, _, _, neFault ps[n] qs[n], ?_⟩⟩⟩
      by_cases he : ps[n] = qs[n]
      · rw [decide_eq_true he]
        refine condFa2 ⟨⟨by omega, by omega⟩, ⟨n + 1, rfl, by omega, ?_, hk2⟩, by simp only [ix]; omega⟩
        rw [List.take_add_one, List.take_add_one, htk, List.getElem?_eq_getElem hx, List.getElem?_eq_getElem hy, he]
      · rw [decide_eq_false he]
        refine condTr2 ⟨?_, hk2⟩
        rw [decide_eq_false]
        rintro rfl
        exact he rfl
    · have : n = l := by omega
      subst this
      rw [List.take_of_length_le (by omega), List.take_of_length_le (by omega)] at htk
      exact ⟨by rw [decide_eq_true htk], hk⟩

/-- Six cells, filled. -/
theorem newSix {w : World} {e : TypeId} {v0 v1 v2 v3 v4 v5 u0 u1 u2 u3 u4 u5 : Value} {K : World → Prop} (hk : ∀ w', Blk w' w.heap.size #[v0, v1, v2, v3, v4, v5] → Kept No w w' → K w') :
    stC (Addr.mk w.heap.size 0 none) v0 (w.alloc (.cells #[u0, u1, u2, u3, u4, u5] e)) fun w1 => stC (Addr.mk w.heap.size 1 none) v1 w1 fun w2 => stC (Addr.mk w.heap.size 2 none) v2 w2 fun w3 => stC (Addr.mk w.heap.size 3 none) v3 w3 fun w4 => stC (Addr.mk w.heap.size 4 none) v4 w4 fun w5 => stC (Addr.mk w.heap.size 5 none) v5 w5 K := by
  have hb : Blk (w.alloc (.cells #[u0, u1, u2, u3, u4, u5] e)) w.heap.size #[u0, u1, u2, u3, u4, u5] := Blk.alloc _ _ _
  have hk1 : Kept No w (w.alloc (.cells #[u0, u1, u2, u3, u4, u5] e)) := Kept.alloc _ _ _
  refine stC_blk hb (by simp) fun w1 h1 k1 _ => stC_blk h1 (by simp) fun w2 h2 k2 _ => stC_blk h2 (by simp) fun w3 h3 k3 _ => stC_blk h3 (by simp) fun w4 h4 k4 _ => stC_blk h4 (by simp) fun w5 h5 k5 _ => stC_blk h5 (by simp) fun w6 h6 k6 _ => ?_
  have h6' : Blk w6 w.heap.size #[v0, v1, v2, v3, v4, v5] := by simpa using h6
  exact hk w6 h6' ((((((hk1.fresh k1 fun x e => by omega).fresh k2 fun x e => by omega).fresh k3 fun x e => by omega).fresh k4 fun x e => by omega).fresh k5 fun x e => by omega).fresh k6 fun x e => by omega)

/-- The faults that are left: the caller's. -/
theorem rest_ok {w : World} {gk : Nat} {s : AK} {L : KL} (h : KernO w gk s L) :
    CallR Tryz.prog 27 [pd gk] w fun v w' => ∃ a c, v = .slice a s.ps.length c ∧ SlO 2 w' a s.ps.length c (Fv s.ps) ∧ Kept No w w' ∧ Fresh w a := by
  refine C27 ?_
  unfold L27
  refine enone_to h ⟨false, rfl, condF rfl (nnI ⟨_, h.blk.at (i := 5) rfl, C100 ?_⟩)⟩
  unfold L100
  obtain ⟨a, l, c, hp, _⟩ := h.pl
  have hl : s.ps.length = l := by have := hp.rd.1; rw [Fv_len] at this; omega
  have := h.ok.ps
  refine condFa2 (nnI ⟨_, _, _, hp.blk.at (i := 1) rfl, CallR.mono (fclone_ok hp.rd (by omega)) ?_⟩)
  rintro v w1 ⟨a', c', rfl, hs, hk, hf⟩
  exact ⟨_, _, _, rfl, _, _, _, rfl, a', c', by rw [hl], by rw [hl]; exact hs, hk, hf⟩

theorem calls_ok {w : World} {gk : Nat} {s : AK} {L : KL} (h : KernO w gk s L) :
    CallR Tryz.prog 114 [pd gk] w fun v w' => v = .tuple #[.int .i64 s.c0, .int .i64 s.c1] ∧ Kept No w w' := by
  refine C114 ?_
  unfold L114
  have hc : ((⟨gk, 0, none⟩ : Addr).add 6).add 1 = (⟨gk, 0, none⟩ : Addr).add 7 := by rw [Lw.add_add]
  have hc0 : ((⟨gk, 0, none⟩ : Addr).add 6).add (Int.toNat 0) = (⟨gk, 0, none⟩ : Addr).add 6 := by rw [Lw.add_add]; rfl
  refine enone_to h ⟨false, rfl, condF rfl (nnI ⟨⟨by omega, by omega⟩, s.c0, ?_, nnI ⟨⟨by omega, by omega⟩, s.c1, ?_, fun nd => ⟨rfl, Kept.drewN _ _ _⟩⟩⟩)⟩
  · rw [hc0]; exact h.blk.at (i := 6) rfl
  · show w.cell? (((⟨gk, 0, none⟩ : Addr).add 6).add 1) = _
    rw [hc]; exact h.blk.at (i := 7) rfl

def scrO : AObj → List Int
  | .term _ scr => scr
  | _ => []

/-- What a terminal's screen is; whether there is one of that name. -/
def AK.screenV (s : AK) (nm : ByteArray) : List Int × Bool := match s.termOf nm with
  | some t => (scrO (s.objs t.2), true)
  | none => ([], false)

theorem screen_ok {w : World} {gk : Nat} {s : AK} {L : KL} (h : KernO w gk s L) (nm : ByteArray) :
    CallR Tryz.prog 117 [pd gk, .string nm] w fun v w' => ∃ a l c, v = .tuple #[.slice a l c, .bool (s.screenV nm).2] ∧ OB w' a l c (s.screenV nm).1 ∧ Kept No w w' ∧ Fresh w a := by
  refine C117 ?_
  unfold L117
  have hT : Tryz.prog.underlying 68 = some (.map 9 158) := by kernel_rfl
  have hS : Tryz.prog.underlying 9 = some .string := by kernel_rfl
  refine enone_to h ⟨false, rfl, condF rfl (nnI ⟨_, h.blk.at (i := 2) rfl, ?_⟩)⟩
  unfold AK.screenV
  cases ht : s.termOf nm with
  | none =>
    have hout : ∀ x ∈ s.mT L, x.1 ≠ .string nm := by
      intro x hx e
      obtain ⟨t, htm, rfl⟩ := List.mem_map.1 hx
      simp only [Value.string.injEq] at e
      unfold AK.termOf at ht
      rw [List.find?_eq_none] at ht
      have := ht t htm
      simp [e] at this
    refine ⟨none, false, w, lookup_out hT hS h.mt (k := .string nm) trivial hout (z := .pointer none) (by kernel_rfl) true, C212 ?_⟩
    unfold L212
    exact condTr2 ⟨_, _, _, rfl, none, 0, 0, rfl, OB.nil _, Kept.refl _ _, Fresh.none _⟩
  | some t =>
    have htm := List.mem_of_find?_eq_some ht
    have htn : t.1 = nm := by simpa using List.find?_some ht
    have hti := h.ok.ti t htm
    obtain ⟨LL, scr, hob⟩ : ∃ LL scr, s.objs t.2 = .term LL scr := by
      cases ho : s.objs t.2 with
      | file bs => have := hti.2; rw [ho] at this; cases this
      | term LL scr => exact ⟨LL, scr, rfl⟩
      | pipe bs e0 e1 => have := hti.2; rw [ho] at this; cases this
    have hO := h.ob t.2 hti.1
    rw [hob] at hO
    have hO : TermO _ _ w (L.loc t.2) LL scr := hO
    have hin : ((.string nm, pd (L.loc t.2)) : Value × Value) ∈ s.mT L := by rw [← htn]; exact List.mem_map.2 ⟨t, htm, rfl⟩
    refine ⟨some ⟨L.loc t.2, 0, none⟩, true, w, lookup_in hT hS h.mt (k := .string nm) trivial hin true, CallR.mono (tscreen_ok hO) ?_⟩
    rintro v w' ⟨a', c', rfl, ho, hf, hk⟩
    dsimp only
    rw [hob]
    exact ⟨_, _, _, rfl, a', _, c', rfl, ho, hk, hf⟩

theorem hseek_ok {w : World} {gk : Nat} {s : AK} {L : KL} (h : KernO w gk s L) (d off wh : Int) :
    CallR Tryz.prog 15 [.agg #[pd gk, .int .i64 d], .int .i64 off, .int .i64 wh] w fun v w' => v = .tuple #[.int .i64 (s.seek d off wh).1, .int .i64 (s.seek d off wh).2.1] ∧ ∃ L', KernO w' gk (s.seek d off wh).2.2 L' ∧ KStep w w' L L' := by
  refine C15 ?_
  unfold L15
  intro w1
  have hb1 : Blk w1 w.heap.size #[pd gk, .int .i64 d] := Blk.alloc _ _ _
  have hk1 : Kept No w w1 := Kept.alloc _ _ _
  clear_value w1
  refine ⟨_, (hb1.cell 0).trans rfl, _, (hb1.cell 1).trans rfl, CallR.mono (kernSeek_ok (h.no hk1) d off wh) ?_⟩
  rintro v w2 ⟨rfl, L', h2, st⟩
  exact ⟨_, _, rfl, rfl, L', h2, st.fresh hk1⟩

end Go.Proofs.YtkjmlbplmffekaaGreat
