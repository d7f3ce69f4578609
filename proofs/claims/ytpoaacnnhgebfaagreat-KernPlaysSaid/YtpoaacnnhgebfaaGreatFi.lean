
/-
  A file: what its methods do. Conditions: as each says.
-/
import Derived.Test.YtpoaacnnhgebfaaGreatBas
import Derived.Test.YtpoaacnnhgebfaaGreatLay
import Derived.Test.YtpoaacnnhgebfaaGreatLFa
namespace Go.Proofs.YtpoaacnnhgebfaaGreat
open Go.Lw

def okN (n : Int) : Bool := decide (0 ≤ n ∧ n ≤ 1048576)

theorem within_ok {w : World} {a : Option Addr} {l c : Nat} {ns : List Int} (h : RdS 1 w a l c (In ns)) (hl : l ≤ 140737488355328) :
    CallR Tryz.prog 195 [.slice a l c] w fun v w' => v = .bool (ns.all okN) ∧ w' = w := by
  refine C195 ?_
  unfold L195
  have hlen : ns.length = l := by have := h.1; simpa using this
  refine ⟨fun vs w' => w' = w ∧ ∃ n : Nat, vs = [.int .i64 (n : Int)] ∧ n ≤ ns.length ∧ (ns.take n).all okN = true, fun vs _ => l - ix vs, ⟨rfl, 0, rfl, Nat.zero_le _, by simp⟩, fun _ n4 w1 hI => ?_⟩
  obtain ⟨rfl, n, hv, hn, hall⟩ := hI
  simp only [List.cons.injEq, Value.int.injEq, true_and, and_true] at hv
  subst hv
  refine condP (fun hlt => ?_) (fun hge => ?_)
  · have hlt' : n < ns.length := by omega
    refine ⟨⟨by omega, hlt⟩, ?_⟩
    cases a with
    | none => obtain ⟨h1, _, _⟩ := RdS.isNone h rfl; omega
    | some q =>
      have hg := h.2.2.2 q rfl n _ (In_get ns n hlt')
      refine ⟨_, by simpa using hg, ?_⟩
      have hsplit : ns.all okN = ((ns.take n).all okN && (okN ns[n] && (ns.drop (n + 1)).all okN)) := by
        rw [← List.all_cons, ← List.drop_eq_getElem_cons hlt', ← List.all_append, List.take_append_drop]
      refine condP (fun hneg => ⟨?_, rfl⟩) (fun hneg => condP (fun hbig => ⟨?_, rfl⟩) (fun hbig => ⟨by unfold inI; omega, ⟨rfl, n + 1, by simp, by omega, ?_⟩, ?_⟩))
      · rw [hsplit]; have : okN ns[n] = false := by unfold okN; simp; omega
        simp [this]
      · rw [hsplit]; have : okN ns[n] = false := by unfold okN; simp; omega
        simp [this]
      · rw [List.take_add_one]; simp only [List.getElem?_eq_getElem hlt', Option.toList_some, List.all_append, hall, Bool.true_and]
        have : okN ns[n] = true := by unfold okN; simp; omega
        simp [this]
      · simp only [ix]; omega
  · have : n = ns.length := by omega
    subst this
    rw [List.take_length] at hall
    exact ⟨by rw [hall], rfl⟩


/-- A file of these bytes; F is the memory it has. -/
def FileO (F : Nat → Prop) (w : World) (b : Nat) (bs : List Int) : Prop :=
  ∃ a l c, Blk w b #[.bool true, .slice a l c] ∧ OB w a l c bs ∧ ¬ inA a b ∧ bs.length ≤ 1048576 ∧ ∀ k, F k ↔ k = b ∨ inA a k

theorem FileO.keep {F S : Nat → Prop} {w w' : World} {b : Nat} {bs : List Int} (h : FileO F w b bs) (k : Kept S w w') (hn : ∀ k, F k → ¬ S k) : FileO F w' b bs := by
  obtain ⟨a, l, c, hb, ho, hna, hl, hF⟩ := h
  exact ⟨a, l, c, hb.keep k (hn b ((hF b).2 (.inl rfl))), ho.keep k fun x hx => hn x ((hF x).2 (.inr hx)), hna, hl, hF⟩

theorem FileO.lt {F : Nat → Prop} {w : World} {b : Nat} {bs : List Int} (h : FileO F w b bs) : ∀ k, F k → k < w.heap.size := by
  obtain ⟨a, l, c, hb, ho, hna, hl, hF⟩ := h
  intro k hk
  rcases (hF k).1 hk with rfl | hk
  · exact hb.lt
  · exact SlO.lt ho k hk

theorem FileO.len {F : Nat → Prop} {w : World} {b : Nat} {bs : List Int} (h : FileO F w b bs) : bs.length ≤ 1048576 := by
  obtain ⟨a, l, c, hb, ho, hna, hl, hF⟩ := h; exact hl

theorem grow_ok {F : Nat → Prop} {w : World} {b : Nat} {bs : List Int} (h : FileO F w b bs) {n : Nat} (hn : n ≤ 1048576) :
    CallR Tryz.prog 196 [pt b, .int .i64 (n : Int)] w fun v w' => v = .tuple #[] ∧ ∃ F', FileO F' w' b (grown bs n) ∧ Grew F w F' ∧ Kept F w w' := by
  obtain ⟨a, l, c, hb, ho, hna, hbl, hF⟩ := h
  have hlen := ho.len
  refine C196 ?_
  unfold L196
  refine nnI ⟨a, l, c, hb.at rfl, condP (fun hgt => ?_) (fun hle => ?_)⟩
  · intro w1
    have hk1 : Kept No w w1 := Kept.drew _ w
    refine nnI ⟨a, l, c, hb.drew.at rfl, nnI ⟨a, l, c, hb.drew.at rfl, by unfold inI; omega, ?_⟩⟩
    have hnl : (n : Int) - (l : Int) = ((n - l : Nat) : Int) := by omega
    rw [hnl]
    obtain ⟨a', c', w2, hrun, hs, hk, hat, hnn⟩ := run_app_zeros (P := Tryz.prog) (t := 40) (t2 := 3) (ty := 40) tyB (by kernel_rfl) (w := w1) ho.drew (k := .i64) (m := n - l) (by intro u hu; simp [Value.cells] at hu; subst hu; rfl) (by omega) (by omega)
    refine ⟨a', _, c', w2, hrun, nnI ?_⟩
    have hb2 : Blk w2 b #[.bool true, .slice a l c] := hb.drew.keep hk hna
    have hna' : ¬ inA a' b := fun hin => by
      rcases hat.in hin with hin | hin
      · exact hna hin
      · have := hb.lt; have : w1.heap.size = w.heap.size := rfl; omega
    refine stC_at hb2 (by simp) fun w3 hb3 hk3 hsz => ⟨rfl, fun k => k = b ∨ inA a' k, ⟨a', _, c', hb3, ?_, hna', ?_, fun k => Iff.rfl⟩, fun k hk' => ?_, ?_⟩
    · have hs3 := SlO.keep hs hk3 (fun x hx e => hna' (e ▸ hx))
      have e1 : By bs ++ (Builtin.zeroCells (Value.int .u8 0).cells (n - l)).toList = By (grown bs n) := by
        show By bs ++ (Builtin.zeroCells #[.int .u8 0] (n - l)).toList = _
        rw [By_zeros, ← By_append, grown, hlen]
      rw [e1] at hs3
      exact hs3
    · simp [grown]; omega
    · rcases hk' with rfl | hk'
      · exact .inl ((hF _).2 (.inl rfl))
      · rcases hat.in hk' with hin | rfl
        · exact .inl ((hF _).2 (.inr hin))
        · exact .inr (Nat.le_refl _)
    · exact ((Kept.drew F w).trans hk (fun x _ e => (hF x).2 (.inr e))).trans hk3 (fun x _ e => (hF x).2 (.inl e))
  · have hg : grown bs n = bs := by unfold grown; rw [Nat.sub_eq_zero_of_le (by omega)]; simp
    rw [hg]
    exact ⟨rfl, F, ⟨a, l, c, hb, ho, hna, hbl, hF⟩, .same, Kept.refl _ _⟩

theorem finew_ok {w : World} {a : Option Addr} {l c : Nat} {bs : List Int} (h : RdB w a l c bs) (hl : l ≤ 140737488355328) :
    CallR Tryz.prog 54 [.slice a l c] w fun v w' => (1048576 < bs.length ∧ v = .tuple #[.pointer none, .int .i64 5] ∧ w' = w) ∨
      (bs.length ≤ 1048576 ∧ ∃ b F, v = .tuple #[pt b, .int .i64 0] ∧ FileO F w' b bs ∧ Kept No w w' ∧ ∀ k, F k → w.heap.size ≤ k) := by
  have hlen := h.len
  refine C54 ?_
  unfold L54
  refine condP (fun hgt => .inl ⟨by omega, rfl, rfl⟩) (fun hle => ?_)
  refine (clone_ok h hl).mono fun v w1 ⟨a', c', hv, ho, hk, hf, _⟩ => ⟨a', l, c', hv, ?_⟩
  intro w2
  have hlen' : bs.length ≤ 1048576 := by omega
  have hk2 : Kept No w1 w2 := Kept.alloc _ w1 _
  refine .inr ⟨hlen', w1.heap.size, fun k => k = w1.heap.size ∨ inA a' k, rfl, ⟨a', l, c', Blk.alloc w1 _ _, ?_, ?_, hlen', fun k => Iff.rfl⟩, hk.trans hk2 (fun _ _ h => h), fun k hk' => ?_⟩
  · rw [← hlen]; exact ho.keep hk2 (fun _ _ e => e)
  · intro hin; have := SlO.lt ho _ hin; omega
  · rcases hk' with rfl | hk'
    · exact hk.size
    · exact hf k hk'

theorem readAt_ok {F : Nat → Prop} {w : World} {b : Nat} {bs : List Int} (h : FileO F w b bs) (off n : Int) :
    CallR Tryz.prog 278 [pt b, .int .i64 off, .int .i64 n] w fun v w' => ∃ a' c' cs e, v = .tuple #[.slice a' cs.length c', .int .i64 e] ∧ OB w' a' cs.length c' cs ∧ Fresh w a' ∧ Kept No w w' ∧
      (okN off = true → okN n = true → e = 0 ∧ cs = piece bs off n) ∧ ((okN off && okN n) = false → e = 4 ∧ cs = []) := by
  obtain ⟨a, l, c, hb, ho, hna, hbl, hF⟩ := h
  have hlen := ho.len
  refine C278 ?_
  unfold L278
  refine condF rfl (nnI ⟨true, hb.at0 rfl, condF rfl ?_⟩)
  intro w1
  have hk1 : Kept No w w1 := Kept.alloc _ w _
  have hrd : RdS 1 w1 (some ⟨w.heap.size, 0, none⟩) 2 2 (In [off, n]) := (SlO.of_blk (sz := 1) (n := 2) (Blk.alloc w #[.int .i64 off, .int .i64 n] _) rfl).rd
  refine (within_ok hrd (by omega)).mono fun v w2 ⟨hv, hw⟩ => ⟨_, hv, ?_⟩
  subst hw
  have hall : [off, n].all okN = (okN off && okN n) := by simp
  rw [hall]
  refine condI (fun hno => ?_) (fun hyes => ?_)
  · have hno' : (okN off && okN n) = false := notT hno
    refine ⟨none, 0, [], 4, rfl, OB.nil _, Fresh.none _, hk1, fun h1 h2 => ?_, fun _ => ⟨rfl, rfl⟩⟩
    rw [h1, h2] at hno'; cases hno'
  · have hyes' : (okN off && okN n) = true := notF hyes
    simp only [Bool.and_eq_true] at hyes'
    have ho1 : 0 ≤ off ∧ off ≤ 1048576 := by simpa [okN] using hyes'.1
    have ho2 : 0 ≤ n ∧ n ≤ 1048576 := by simpa [okN] using hyes'.2
    have hb1 : Blk w1 b _ := hb.keep hk1 (fun e => e)
    refine nnI ⟨a, l, c, hb1.at rfl, ?_⟩
    intro w3
    refine nnI ⟨a, l, c, hb1.at rfl, by simp only [mn_eq]; unfold inI; omega, nnI ⟨a, l, c, hb1.at rfl, ?_⟩⟩
    have hlc : l ≤ c := ho.rd.2.1
    simp only [mn_eq]
    refine ⟨by omega, by omega, ?_⟩
    have ho3 : RdB w3 a l c bs := RdB.keep ho.rd (hk1.trans (Kept.drew No _) (fun _ _ e => e)) (fun _ _ _ e => e)
    generalize hi : Int.toNat (min off (l : Int)) = i
    generalize hj : Int.toNat (min (min off (l : Int) + n) (l : Int)) = j
    have hij : i ≤ j := by omega
    have hjl : j ≤ l := by omega
    have hcut : RdB w3 (adv a i c 1) (j - i) (c - i) ((bs.take j).drop i) := by
      have := RdS.cut ho3 i j hij hjl
      unfold RdB; rw [By_drop, By_take]; simpa using this
    refine (clone_ok hcut (by omega)).mono fun v w4 ⟨a', c', hv, ho4, hk, hf, _⟩ => ⟨a', _, c', hv, ?_⟩
    have hcl := hcut.len
    refine ⟨a', c', _, 0, by rw [hcl], ho4, ?_, (hk1.trans (Kept.drew No _) (fun _ _ e => e)).trans hk (fun _ _ e => e), fun _ _ => ⟨rfl, ?_⟩, fun hno => by have := notF hyes; rw [this] at hno; cases hno⟩
    · intro x hx
      have h1 := hf x hx
      have h2 : w.heap.size ≤ w3.heap.size := (hk1.trans (Kept.drew No _) (fun _ _ e => e)).size
      omega
    · unfold piece
      rw [List.drop_take]
      by_cases hol : off ≤ l
      · have : i = off.toNat := by omega
        subst this
        by_cases hol2 : off + n ≤ l
        · have : j - off.toNat = n.toNat := by omega
          rw [this]
        · rw [List.take_of_length_le (by simp; omega), List.take_of_length_le (by simp; omega)]
      · rw [List.drop_of_length_le (by omega), List.drop_of_length_le (by omega)]; simp

def writeF (bs : List Int) (off : Int) (ds : List Int) : Int × List Int :=
  if okN off = false then (4, bs) else if 1048576 - off < (ds.length : Int) then (31, bs) else if ds.length = 0 then (0, bs) else (0, lay bs off.toNat ds)

theorem writeAt_ok {F : Nat → Prop} {w : World} {b : Nat} {bs : List Int} (h : FileO F w b bs) (off : Int) {a2 : Option Addr} {l2 c2 : Nat} {ds : List Int} (hd : RdB w a2 l2 c2 ds) (hl2 : l2 ≤ 140737488355328) (hap : ds ≠ [] → ∀ k, inA a2 k → ¬ F k) :
    CallR Tryz.prog 280 [pt b, .int .i64 off, .slice a2 l2 c2] w fun v w' => v = .int .i64 (writeF bs off ds).1 ∧ ∃ F', FileO F' w' b (writeF bs off ds).2 ∧ Grew F w F' ∧ Kept F w w' := by
  have hfo := h
  obtain ⟨a, l, c, hb, ho, hna, hbl, hF⟩ := h
  have hlen2 := hd.len
  refine C280 ?_
  unfold L280
  refine condF rfl (nnI ⟨true, hb.at0 rfl, condF rfl ?_⟩)
  intro w1
  have hk1 : Kept No w w1 := Kept.alloc _ w _
  have hrd : RdS 1 w1 (some ⟨w.heap.size, 0, none⟩) 1 1 (In [off]) := (SlO.of_blk (sz := 1) (n := 1) (Blk.alloc w #[.int .i64 off] _) rfl).rd
  refine (within_ok hrd (by omega)).mono fun v w2 ⟨hv, hw⟩ => ⟨_, hv, ?_⟩
  subst hw
  have hall : [off].all okN = okN off := by simp
  rw [hall]
  have hkF : Kept F w w1 := hk1.mono (fun _ _ e => e.elim)
  have hsame : FileO F w1 b bs := hfo.keep hk1 (fun _ _ e => e)
  have done : ∀ e : Int, writeF bs off ds = (e, bs) → (.int .i64 e : Value) = .int .i64 (writeF bs off ds).1 ∧ ∃ F', FileO F' w1 b (writeF bs off ds).2 ∧ Grew F w F' ∧ Kept F w w1 := fun e he => by
    rw [he]; exact ⟨rfl, F, hsame, .same, hkF⟩
  refine condI (fun hno => done 4 ?_) (fun hyes => ?_)
  · have : okN off = false := notT hno
    simp [writeF, this]
  · have hyes' : okN off = true := notF hyes
    have ho1 : 0 ≤ off ∧ off ≤ 1048576 := by simpa [okN] using hyes'
    refine ⟨by unfold inI; omega, condP (fun hfull => done 31 ?_) (fun hfit => condI (fun hz => done 0 ?_) (fun hnz => ⟨by unfold inI; omega, ?_⟩))⟩
    · have h1 : 1048576 - off < (ds.length : Int) := by rw [hlen2]; omega
      simp [writeF, hyes', h1]
    · have hz' : l2 = 0 := by simpa using hz
      have h1 : ¬ (1048576 - off < (ds.length : Int)) := by rw [hlen2]; omega
      have h2 : ds = [] := List.eq_nil_of_length_eq_zero (by omega)
      have h3 : ¬ (1048576 - off < 0) := by omega
      subst h2
      simp [writeF, hyes', h3]
    · have hnz' : ¬ l2 = 0 := by simpa using hnz
      have hsum : off + (l2 : Int) = ((off.toNat + l2 : Nat) : Int) := by omega
      rw [hsum]
      refine (grow_ok hsame (n := off.toNat + l2) (by omega)).mono fun v w3 ⟨hv, F3, hf3, hg3, hk3⟩ => ⟨hv, ?_⟩
      have hf3' := hf3
      obtain ⟨a3, l3, c3, hb3, ho3, hna3, hbl3, hF3⟩ := hf3'
      have hlen3 := ho3.len
      have hgl : (grown bs (off.toNat + l2)).length = max bs.length (off.toNat + l2) := by simp [grown]; omega
      refine nnI ⟨a3, l3, c3, hb3.at rfl, by omega, ?_⟩
      have hd3 : RdB w3 a2 l2 c2 ds := (hd.keep hk1 (fun _ _ _ e => e)).keep hk3 (fun x hx hin hFx => by
        exact hap (fun e => by rw [e] at hlen2; simp at hlen2; omega) x hin hFx)
      have hsub : SlO 1 w3 (adv a3 off.toNat c3 1) (l3 - off.toNat) (c3 - off.toNat) (By ((grown bs (off.toNat + l2)).drop off.toNat)) := OB.from ho3 off.toNat (by omega)
      obtain ⟨w4, hrun, hs4, hk4, hsz4, hcur⟩ := run_copy_own (P := Tryz.prog) (t := 40) (t2 := 40) (ty := 3) (by kernel_rfl : slTyB Tryz.prog 40 1 1 = true) hsub hd3 (By_one ds)
      refine ⟨_, w4, hrun, ?_⟩
      have h1 : ¬ (1048576 - off < (ds.length : Int)) := by rw [hlen2]; omega
      have hw : writeF bs off ds = (0, lay bs off.toNat ds) := by
        unfold writeF
        rw [if_neg (by rw [hyes']; simp), if_neg h1, if_neg (by omega)]
      rw [hw]
      have hmin : min l2 (l3 - off.toNat) = l2 := by omega
      refine ⟨rfl, F3, ⟨a3, l3, c3, hb3.keep hk4 (fun e => hna3 (inA_adv.1 e)), ?_, hna3, ?_, hF3⟩, ?_, ?_⟩
      · -- the bytes
        rcases ho3.2 with ⟨rfl, rfl, rfl⟩ | ⟨g, o, cur, rfl, hgb, hlc, hcs, htk⟩
        · exfalso; omega
        · have hadv : adv (some ⟨g, o, none⟩) off.toNat c3 1 = some ⟨g, o + off.toNat, none⟩ := by
            rw [adv_map _ _ _ _ (by omega)]; simp [add_none]
          have hb4 := hcur g (o + off.toNat) cur hadv hgb
          rw [hmin, Nat.mul_one, List.take_of_length_le (by simp; omega)] at hb4
          refine ⟨?_, .inr ⟨g, o, _, rfl, hb4, hlc, ?_, ?_⟩⟩
          · rw [By_length, Nat.mul_one, lay, over_length _ _ _ (by rw [hlen2]; omega), hlen2]; omega
          · simp only [List.size_toArray]
            rw [over_length _ _ _ (by simp; omega)]
            simpa using hcs
          · unfold lay
            rw [By_over, hlen2, ← htk, Nat.mul_one]
            exact over_window _ _ o l3 off.toNat (by simp; omega) (by simp; omega)
      · rw [lay, over_length _ _ _ (by rw [hlen2]; omega), hlen2]; omega
      · intro k hk
        rcases hg3 k hk with h | h
        · exact .inl h
        · right; have := hk1.size; omega
      · refine hkF.trans (hk3.trans (hk4.mono (S' := fun k => F k ∨ w1.heap.size ≤ k) fun x _ e => hg3 x ((hF3 x).2 (.inr (inA_adv.1 e)))) (fun x hx e => ?_)) (fun _ _ e => e)
        rcases e with e | e
        · exact e
        · omega

def truncF (bs : List Int) (n : Int) : Int × List Int :=
  if okN n = false then (4, bs) else (0, (grown bs n.toNat).take n.toNat)

theorem trunc_ok {F : Nat → Prop} {w : World} {b : Nat} {bs : List Int} (h : FileO F w b bs) (n : Int) :
    CallR Tryz.prog 124 [pt b, .int .i64 n] w fun v w' => v = .int .i64 (truncF bs n).1 ∧ ∃ F', FileO F' w' b (truncF bs n).2 ∧ Grew F w F' ∧ Kept F w w' := by
  have hfo := h
  obtain ⟨a, l, c, hb, ho, hna, hbl, hF⟩ := h
  refine C124 ?_
  unfold L124
  refine condF rfl (nnI ⟨true, hb.at0 rfl, condF rfl ?_⟩)
  intro w1
  have hk1 : Kept No w w1 := Kept.alloc _ w _
  have hrd : RdS 1 w1 (some ⟨w.heap.size, 0, none⟩) 1 1 (In [n]) := (SlO.of_blk (sz := 1) (n := 1) (Blk.alloc w #[.int .i64 n] _) rfl).rd
  refine (within_ok hrd (by omega)).mono fun v w2 ⟨hv, hw⟩ => ⟨_, hv, ?_⟩
  subst hw
  have hall : [n].all okN = okN n := by simp
  rw [hall]
  have hkF : Kept F w w1 := hk1.mono (fun _ _ e => e.elim)
  have hsame : FileO F w1 b bs := hfo.keep hk1 (fun _ _ e => e)
  refine condI (fun hno => ?_) (fun hyes => ?_)
  · have : okN n = false := notT hno
    have ht : truncF bs n = (4, bs) := by simp [truncF, this]
    rw [ht]; exact ⟨rfl, F, hsame, .same, hkF⟩
  · have hyes' : okN n = true := notF hyes
    have ho1 : 0 ≤ n ∧ n ≤ 1048576 := by simpa [okN] using hyes'
    have ht : truncF bs n = (0, (grown bs n.toNat).take n.toNat) := by simp [truncF, hyes']
    rw [ht]
    obtain ⟨m, rfl⟩ : ∃ m : Nat, n = (m : Int) := ⟨n.toNat, by omega⟩
    simp only [Int.toNat_natCast]
    refine (grow_ok hsame (n := m) (by omega)).mono fun v w3 ⟨hv, F3, hf3, hg3, hk3⟩ => ⟨hv, ?_⟩
    obtain ⟨a3, l3, c3, hb3, ho3, hna3, hbl3, hF3⟩ := hf3
    have hlen3 := ho3.len
    have hgl : (grown bs m).length = max bs.length m := by simp [grown]; omega
    have hlc3 : l3 ≤ c3 := ho3.rd.2.1
    refine nnI ⟨a3, l3, c3, hb3.at rfl, by omega, by omega, nnI (stC_at hb3 (by simp) fun w4 hb4 hk4 _ => ⟨trivial, F3, ⟨a3, m, m, hb4, ?_, hna3, by simp; omega, hF3⟩, ?_, ?_⟩)⟩
    · have := SlO.to3 ho3 m m (by omega) (Nat.le_refl _) (by omega)
      rw [Nat.mul_one, ← By_take] at this
      exact SlO.keep this hk4 (fun x hx e => hna3 (e ▸ hx))
    · intro k hk
      rcases hg3 k hk with h | h
      · exact .inl h
      · right; have := hk1.size; omega
    · refine hkF.trans (hk3.trans (hk4.mono (S' := fun k => F k ∨ w1.heap.size ≤ k) fun x _ e => hg3 x ((hF3 x).2 (.inl e))) (fun x hx e => ?_)) (fun _ _ e => e)
      rcases e with e | e
      · exact e
      · omega

theorem size_ok {F : Nat → Prop} {w : World} {b : Nat} {bs : List Int} (h : FileO F w b bs) :
    CallR Tryz.prog 178 [pt b] w fun v w' => v = .int .i64 (bs.length : Int) ∧ w' = w := by
  obtain ⟨a, l, c, hb, ho, hna, hbl, hF⟩ := h
  refine C178 ?_
  unfold L178
  exact condF rfl (nnI ⟨a, l, c, hb.at rfl, by rw [ho.len], rfl⟩)

theorem bytes_ok {F : Nat → Prop} {w : World} {b : Nat} {bs : List Int} (h : FileO F w b bs) :
    CallR Tryz.prog 181 [pt b] w fun v w' => ∃ a' c', v = .slice a' bs.length c' ∧ OB w' a' bs.length c' bs ∧ Fresh w a' ∧ Kept No w w' := by
  obtain ⟨a, l, c, hb, ho, hna, hbl, hF⟩ := h
  refine C181 ?_
  unfold L181
  have hlen := ho.len
  exact condF rfl (nnI ⟨a, l, c, hb.at rfl, (clone_ok ho.rd (by omega)).mono fun v w4 ⟨a', c', hv, ho4, hk, hf, _⟩ => ⟨a', _, c', hv, a', c', by rw [hlen], ho4, hf, hk⟩⟩)

end Go.Proofs.YtpoaacnnhgebfaaGreat
