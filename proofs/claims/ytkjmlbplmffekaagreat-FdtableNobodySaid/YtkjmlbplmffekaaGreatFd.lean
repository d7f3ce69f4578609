/-
  A table of descriptors in memory; the free ones, rising; the first ones of them. Conditions: as each says.
-/
import Derived.Test.YtkjmlbplmffekaaGreatKeN
import Derived.Test.YtkjmlbplmffekaaGreatKeP
import Derived.Test.YtkjmlbplmffekaaGreatLFd
set_option linter.unusedVariables false
namespace Go.Proofs.YtkjmlbplmffekaaGreat
open Go.Lw

theorem yieldMono {P : Program} {l : Nat} {x : List Value} {W : World} {R R' : Bool → World → Prop} (h : YieldR P l x W R) (hr : ∀ b W', R b W' → R' b W') : YieldR P l x W R' := by
  obtain ⟨fn, tmps, asg, bd, h1, h2⟩ := h
  exact ⟨fn, tmps, asg, bd, h1, RoundIn.mono h2 fun e W' ⟨b, e1, h⟩ => ⟨b, e1, hr b W' h⟩⟩

/-- A table's block: its kernel, its slots. -/
def TabC (cur : Array Value) (gk : Nat) (sl : List (Int × Bool)) : Prop :=
  cur.size = 129 ∧ sl.length = 64 ∧ cur[0]? = some (pd gk) ∧ ∀ i, (h : i < sl.length) → cur[1 + i * 2]? = some (.int .i64 sl[i].1) ∧ cur[1 + i * 2 + 1]? = some (.bool sl[i].2)

def TabO (w : World) (t gk : Nat) (sl : List (Int × Bool)) : Prop := ∃ cur, Blk w t cur ∧ TabC cur gk sl

theorem TabO.keep {w w' : World} {t gk : Nat} {sl : List (Int × Bool)} (h : TabO w t gk sl) {S : Nat → Prop} (k : Kept S w w') (hn : ¬ S t) : TabO w' t gk sl := by
  obtain ⟨cur, hb, hc⟩ := h; exact ⟨cur, hb.keep k hn, hc⟩
theorem TabO.lt {w : World} {t gk : Nat} {sl : List (Int × Bool)} (h : TabO w t gk sl) : t < w.heap.size := by
  obtain ⟨cur, hb, hc⟩ := h; exact hb.lt
theorem TabO.len {w : World} {t gk : Nat} {sl : List (Int × Bool)} (h : TabO w t gk sl) : sl.length = 64 := by
  obtain ⟨cur, hb, hc⟩ := h; exact hc.2.1
theorem TabO.at0 {w : World} {t gk : Nat} {sl : List (Int × Bool)} (h : TabO w t gk sl) : w.cell? ⟨t, 0, none⟩ = some (pd gk) := by
  obtain ⟨cur, hb, hc⟩ := h; exact hb.at0 hc.2.2.1
theorem tadd (t i : Nat) : ((⟨t, 0, none⟩ : Addr).add 1).add (i * 2) = ⟨t, 1 + i * 2, none⟩ := by rw [Lw.add_add, add_none, Nat.zero_add]
theorem tadd1 (t i : Nat) : (((⟨t, 0, none⟩ : Addr).add 1).add (i * 2)).add 1 = ⟨t, 1 + i * 2 + 1, none⟩ := by rw [tadd, add_none]
theorem TabO.desc {w : World} {t gk : Nat} {sl : List (Int × Bool)} (h : TabO w t gk sl) {i : Nat} (hi : i < sl.length) : w.cell? (((⟨t, 0, none⟩ : Addr).add 1).add (i * 2)) = some (.int .i64 sl[i].1) := by
  obtain ⟨cur, hb, hc⟩ := h
  rw [tadd, hb.cell]; exact (hc.2.2.2 i hi).1
theorem TabO.mark {w : World} {t gk : Nat} {sl : List (Int × Bool)} (h : TabO w t gk sl) {i : Nat} (hi : i < sl.length) : w.cell? ((((⟨t, 0, none⟩ : Addr).add 1).add (i * 2)).add 1) = some (.bool sl[i].2) := by
  obtain ⟨cur, hb, hc⟩ := h
  rw [tadd1, hb.cell]; exact (hc.2.2.2 i hi).2

theorem TabO.stD {w : World} {t gk : Nat} {sl : List (Int × Bool)} (h : TabO w t gk sl) {i : Nat} (hi : i < sl.length) {d : Int} {K : World → Prop} (hk : ∀ w', TabO w' t gk (sl.set i (d, sl[i].2)) → Kept (· = t) w w' → w'.heap.size = w.heap.size → K w') :
    stC (((⟨t, 0, none⟩ : Addr).add 1).add (i * 2)) (.int .i64 d) w K := by
  obtain ⟨cur, hb, h1, h2, h3, h4⟩ := h
  rw [tadd]
  refine stC_blk hb (by omega) fun w' hb' hk' hs' => hk w' ⟨_, hb', by simpa using h1, by simpa using h2, ?_, fun j hj => ?_⟩ hk' hs'
  · rw [Array.getElem?_setIfInBounds_ne (by omega)]; exact h3
  · rw [List.length_set] at hj
    obtain ⟨g1, g2⟩ := h4 j hj
    rw [List.getElem_set]
    by_cases e : i = j
    · subst e
      rw [if_pos rfl, Array.getElem?_setIfInBounds_self_of_lt (by omega), Array.getElem?_setIfInBounds_ne (by omega)]
      exact ⟨rfl, g2⟩
    · rw [if_neg e, Array.getElem?_setIfInBounds_ne (by omega), Array.getElem?_setIfInBounds_ne (by omega)]
      exact ⟨g1, g2⟩

theorem TabO.stM {w : World} {t gk : Nat} {sl : List (Int × Bool)} (h : TabO w t gk sl) {i : Nat} (hi : i < sl.length) {m : Bool} {K : World → Prop} (hk : ∀ w', TabO w' t gk (sl.set i (sl[i].1, m)) → Kept (· = t) w w' → w'.heap.size = w.heap.size → K w') :
    stC ((((⟨t, 0, none⟩ : Addr).add 1).add (i * 2)).add 1) (.bool m) w K := by
  obtain ⟨cur, hb, h1, h2, h3, h4⟩ := h
  rw [tadd1]
  refine stC_blk hb (by omega) fun w' hb' hk' hs' => hk w' ⟨_, hb', by simpa using h1, by simpa using h2, ?_, fun j hj => ?_⟩ hk' hs'
  · rw [Array.getElem?_setIfInBounds_ne (by omega)]; exact h3
  · rw [List.length_set] at hj
    obtain ⟨g1, g2⟩ := h4 j hj
    rw [List.getElem_set]
    by_cases e : i = j
    · subst e
      rw [if_pos rfl, Array.getElem?_setIfInBounds_ne (by omega), Array.getElem?_setIfInBounds_self_of_lt (by omega)]
      exact ⟨g1, rfl⟩
    · rw [if_neg e, Array.getElem?_setIfInBounds_ne (by omega), Array.getElem?_setIfInBounds_ne (by omega)]
      exact ⟨g1, g2⟩

/-- A slot, laid whole. -/
theorem TabO.st {w : World} {t gk : Nat} {sl : List (Int × Bool)} (h : TabO w t gk sl) {i : Nat} (hi : i < sl.length) {d : Int} {m : Bool} {K : World → Prop} (hk : ∀ w', TabO w' t gk (sl.set i (d, m)) → Kept (· = t) w w' → w'.heap.size = w.heap.size → K w') :
    stC (((⟨t, 0, none⟩ : Addr).add 1).add (i * 2)) (.int .i64 d) w fun w1 => stC ((((⟨t, 0, none⟩ : Addr).add 1).add (i * 2)).add 1) (.bool m) w1 K :=
  h.stD hi fun w1 h1 hk1 hs1 => h1.stM (by rw [List.length_set]; exact hi) fun w2 h2 hk2 hs2 => hk w2 (by
    rw [List.set_set] at h2
    simpa using h2) (hk1.trans hk2 fun _ _ e => e) (by omega)

/-- The slots, as they are read at once. -/
theorem TabO.all {w : World} {t gk : Nat} {sl : List (Int × Bool)} (h : TabO w t gk sl) : ∃ vs : List Value, vs.length = 128 ∧ (∀ i v, vs[i]? = some v → w.cell? (((⟨t, 0, none⟩ : Addr).add 1).add i) = some v) ∧
    ∀ i, (hi : i < sl.length) → List.take 2 (List.drop (i * 2) (Array.toList vs.toArray)) = [.int .i64 sl[i].1, .bool sl[i].2] := by
  obtain ⟨cur, hb, h1, h2, h3, h4⟩ := h
  refine ⟨cur.toList.drop 1, by rw [List.length_drop, Array.length_toList, h1], fun i v hv => ?_, fun i hi => ?_⟩
  · rw [Lw.add_add, add_none, Nat.zero_add, hb.cell]
    rw [List.getElem?_drop] at hv
    simpa using hv
  · obtain ⟨g1, g2⟩ := h4 i hi
    apply List.ext_getElem?
    intro j
    rw [List.getElem?_take]
    match j with
    | 0 => rw [if_pos (by omega)]; simpa [Nat.add_comm] using g1
    | 1 => rw [if_pos (by omega)]; simpa [Nat.add_comm, Nat.add_left_comm, Nat.add_assoc] using g2
    | j + 2 => rw [if_neg (by omega)]; simp

/-- The free ones, rising. -/
def freeL (sl : List (Int × Bool)) (i : Nat) : Nat → List Nat
  | 0 => []
  | n + 1 => if (sl.getD i (0, false)).1 = 0 then i :: freeL sl (i + 1) n else freeL sl (i + 1) n
def freeIx (sl : List (Int × Bool)) : List Nat := freeL sl 0 64

theorem freeL_lt (sl : List (Int × Bool)) : ∀ (n i : Nat), ∀ x ∈ freeL sl i n, i ≤ x ∧ x < i + n
  | 0, i, x, hx => by cases hx
  | n + 1, i, x, hx => by
    unfold freeL at hx
    split at hx
    · rcases List.mem_cons.1 hx with rfl | hx
      · omega
      · have := freeL_lt sl n (i + 1) x hx; omega
    · have := freeL_lt sl n (i + 1) x hx; omega

def xsF (sl : List (Int × Bool)) : List (List Value) := (freeIx sl).map fun (i : Nat) => ([Value.int .i64 (i : Int)] : List Value)

theorem free_iter {w : World} {g t gk : Nat} {sl : List (Int × Bool)} (hb : Blk w g #[pd t]) (h : TabO w t gk sl) :
    IterOK Tryz.prog 247 [.pointer (some ⟨g, 0, none⟩)] (xsF sl) (fun _ => False) w := by
  intro l' J Jx W hW hJ hJx hy h0
  refine C247 ?_
  unfold L247
  have hbW := hb.keep hW (fun e => e)
  have hlen := h.len
  obtain ⟨vs, hv1, hv2, hv3⟩ := (h.keep hW (fun e => e)).all
  refine nnI ⟨_, (hbW.cell 0).trans rfl, nnI ⟨vs, hv1, hv2, fun vs w' => ∃ (i : Nat) (pre : List Nat), vs = [.int .i64 (i : Int)] ∧ i ≤ 64 ∧ freeIx sl = pre ++ freeL sl i (64 - i) ∧ J pre.length w',
    fun vs _ => 64 - ix vs, ⟨0, [], rfl, by omega, rfl, h0⟩, ?_⟩⟩
  rintro _ n9 w1 ⟨i, pre, hvs, hi, hpre, hj⟩
  simp only [List.cons.injEq, Value.int.injEq, true_and, and_true] at hvs
  subst hvs
  refine condP (fun hlt => ?_) (fun hge => ?_)
  · have hil : i < sl.length := by omega
    obtain ⟨k, hk⟩ : ∃ k, 64 - i = k + 1 := ⟨63 - i, by omega⟩
    have hk' : 64 - (i + 1) = k := by omega
    rw [hk] at hpre
    have hget : sl.getD i (0, false) = sl[i] := by rw [List.getD_eq_getElem?_getD, List.getElem?_eq_getElem hil]; rfl
    refine ⟨⟨by omega, by omega⟩, sl[i].1, sl[i].2, by rw [Int.toNat_natCast]; exact hv3 i hil, ?_⟩
    refine newPair fun w4 hb4 hk4 hz4 => ⟨_, (hb4.cell 0).trans rfl, ?_⟩
    have hj4 := hJ _ _ _ hj hk4
    refine condI (fun hz => ?_) (fun hz => ?_)
    · have hz : sl[i].1 = 0 := by simpa using hz
      have hf : freeL sl i (k + 1) = i :: freeL sl (i + 1) k := by
        show (if (sl.getD i (0, false)).1 = 0 then _ else _) = _
        rw [hget, if_pos hz]
      rw [hf] at hpre
      refine ⟨l', rfl, ?_⟩
      have hx : (xsF sl)[pre.length]? = some [.int .i64 (i : Int)] := by
        unfold xsF
        rw [List.getElem?_map, hpre, List.getElem?_append_right (Nat.le_refl _), Nat.sub_self]
        rfl
      refine yieldMono (hy pre.length _ w4 hx hj4) fun b B hB => ?_
      cases b
      · refine .inr ⟨pre.length, ?_, hB⟩
        unfold xsF
        rw [List.length_map, hpre, List.length_append, List.length_cons]
        omega
      · obtain ⟨hB1, hB2⟩ := hB
        refine condFa2 ⟨⟨by omega, by omega⟩, ⟨i + 1, pre ++ [i], rfl, by omega, by rw [hpre, hk', List.append_assoc]; rfl, by rw [List.length_append]; exact hB1⟩, ?_⟩
        simp only [ix]; omega
    · have hz : ¬ sl[i].1 = 0 := by simpa using hz
      have hf : freeL sl i (k + 1) = freeL sl (i + 1) k := by
        show (if (sl.getD i (0, false)).1 = 0 then _ else _) = _
        rw [hget, if_neg hz]
      rw [hf] at hpre
      refine ⟨⟨by omega, by omega⟩, ⟨i + 1, pre, rfl, by omega, by rw [hpre, hk'], hj4⟩, ?_⟩
      simp only [ix]; omega
  · have : 64 - i = 0 := by omega
    rw [this] at hpre
    have hpre : freeIx sl = pre := by rw [hpre]; exact List.append_nil _
    exact .inl (by unfold xsF; rw [List.length_map, hpre]; exact hj)

theorem tnone_to {w : World} {t gk : Nat} {sl : List (Int × Bool)} (h : TabO w t gk sl) {Q : Value → World → Prop} (hq : Q (.bool false) w) : CallR Tryz.prog 132 [pd t] w Q := by
  refine C132 ?_
  unfold L132
  exact condFa2 (nnI ⟨_, h.at0, hq⟩)

/-- The first k free ones. -/
theorem some_okT {w : World} {t gk : Nat} {sl : List (Int × Bool)} (h : TabO w t gk sl) {k : Nat} (hk0 : 1 ≤ k) (hk1 : k ≤ 64) :
    CallR Tryz.prog 133 [pd t, .int .i64 (k : Int)] w fun v w' => ∃ a l c, v = .slice a l c ∧ Kept No w w' ∧ ((freeIx sl).length < k ∧ a = none ∨ k ≤ (freeIx sl).length ∧ a ≠ none ∧ l = k ∧ SlO 1 w' a l c (In (((freeIx sl).take k).map fun (i : Nat) => (i : Int))) ∧ Fresh w a) := by
  refine C133 ?_
  unfold L133
  intro w1 w2 w3
  have hb1 : Blk w1 w.heap.size #[.int .i64 (k : Int)] := Blk.alloc _ _ _
  have hk1' : Kept No w w1 := Kept.alloc _ _ _
  have hs1 : w1.heap.size = w.heap.size + 1 := by simp [w1]
  clear_value w1
  have hb2 : Blk w2 w1.heap.size #[.slice none 0 0] := Blk.alloc _ _ _
  have hk2 : Kept No w1 w2 := Kept.alloc _ _ _
  have hs2 : w2.heap.size = w1.heap.size + 1 := by simp [w2]
  clear_value w2
  have hb3 : Blk w3 w2.heap.size #[.slice none 0 0] := Blk.alloc _ _ _
  have hk3 : Kept No w2 w3 := Kept.alloc _ _ _
  have hs3 : w3.heap.size = w2.heap.size + 1 := by simp [w3]
  clear_value w3
  have k3 := (hk1'.no hk2).no hk3
  refine C215 ?_
  unfold L215
  intro w4
  have hb4 : Blk w4 w3.heap.size #[pd t] := Blk.alloc _ _ _
  have hk4 : Kept No w3 w4 := Kept.alloc _ _ _
  have hs4 : w4.heap.size = w3.heap.size + 1 := by simp [w4]
  clear_value w4
  have k4 := k3.no hk4
  have hb14 := ((hb1.keep hk2 fun e => e).keep hk3 fun e => e).keep hk4 fun e => e
  have hb24 := (hb2.keep hk3 fun e => e).keep hk4 fun e => e
  have hb34 := hb3.keep hk4 fun e => e
  have hxl : (xsF sl).length = (freeIx sl).length := by unfold xsF; rw [List.length_map]
  refine ⟨_, rfl, 247, _, xsF sl, fun _ => False, fun z => z ≠ w4.heap.size ∧ z ≠ w4.heap.size + 1,
    fun i W => ∃ a c, i < k ∧ Blk W w2.heap.size #[.slice a i c] ∧ SlO 1 W a i c (In (((freeIx sl).take i).map fun (i : Nat) => (i : Int))) ∧ Blk W w.heap.size #[.int .i64 (k : Int)] ∧ Blk W w1.heap.size #[.slice none 0 0] ∧ Kept No w W ∧ (∀ b, inA a b → w4.heap.size + 2 ≤ b),
    fun i W => ∃ a c, k ≤ (freeIx sl).length ∧ a ≠ none ∧ Blk W w1.heap.size #[.slice a k c] ∧ SlO 1 W a k c (In (((freeIx sl).take k).map fun (i : Nat) => (i : Int))) ∧ Kept No w W ∧ (∀ b, inA a b → w4.heap.size + 2 ≤ b),
    rfl, by kernel_rfl, free_iter hb4 (h.keep k4 fun e => e), fun z hz => hz.elim, fun z hz => ⟨fun e => e, hz⟩, ?_, ?_, ?_, ?_, ?_, ?_⟩
  · rintro i A B ⟨a, c, h0, h1, h2, h3, h4, h5, h6⟩ hkk
    exact ⟨a, c, h0, h1.keep hkk (by omega), h2.keep hkk (fun b hb e => by have := h6 b hb; omega), h3.keep hkk (by omega), h4.keep hkk (by omega), h5.fresh hkk (fun x e => by omega), h6⟩
  · rintro i A B ⟨a, c, h0, h1, h2, h3, h5, h6⟩ hkk
    exact ⟨a, c, h0, h1, h2.keep hkk (by omega), h3.keep hkk (fun b hb e => by have := h6 b hb; omega), h5.fresh hkk (fun x e => by omega), h6⟩
  · exact ⟨none, 0, by omega, hb34, SlO.nil 1 _, hb14, hb24, k4, fun b hb => absurd hb (inA_none b)⟩
  · rintro i x w5 hx ⟨a, c, h0, h1, h2, h3, h4, h5, h6⟩ hz5
    have hil : i < (freeIx sl).length := by have := (List.getElem?_eq_some_iff.1 hx).1; omega
    have hxe : x = [.int .i64 ((freeIx sl)[i] : Int)] := by
      unfold xsF at hx
      rw [List.getElem?_map, List.getElem?_eq_getElem hil] at hx
      exact (Option.some.inj hx).symm
    subst hxe
    refine ⟨rfl, _, rfl, rfl, fun w6 hk6 => ?_⟩
    have h1' := h1.keep hk6 (by omega)
    have h2' := h2.keep hk6 (fun b hb e => by have := h6 b hb; omega)
    have h3' := h3.keep hk6 (by omega)
    have h4' := h4.keep hk6 (by omega)
    have h5' : Kept No w w6 := h5.fresh hk6 (fun x e => by omega)
    have hz6 := hk6.size
    refine ⟨_, _, _, (h1'.cell 0).trans rfl, ?_⟩
    intro w10
    have hk10 : Kept No w6 w10 := Kept.alloc _ _ _
    have hone : RdS 1 w10 (some ⟨w6.heap.size, 0, none⟩) 1 1 (In [((freeIx sl)[i] : Int)]) := (SlO.of_blk (sz := 1) (n := 1) (Blk.alloc w6 #[.int .i64 ((freeIx sl)[i] : Int)] _) (by simp)).rd
    have hs10 : w10.heap.size = w6.heap.size + 1 := by simp [w10]
    clear_value w10
    obtain ⟨a16, c16, w11, hrun, hs11, hk11, hat, hnn⟩ := run_app_sl (P := Tryz.prog) (t := 98) (t2 := 98) (ty := 98) (by kernel_rfl : slTyB Tryz.prog 98 1 8 = true) (by kernel_rfl) (h2'.keep hk10 fun _ _ e => e) hone (In_one _) (by omega) (by omega)
    have hin : ∀ b, inA a16 b → w4.heap.size + 2 ≤ b := fun b hb => by
      rcases hat.in hb with e | e
      · exact h6 b e
      · omega
    have htk : In (((freeIx sl).take i).map fun (i : Nat) => (i : Int)) ++ In [((freeIx sl)[i] : Int)] = In (((freeIx sl).take (i + 1)).map fun (i : Nat) => (i : Int)) := by
      rw [← In_append, List.take_add_one, List.getElem?_eq_getElem hil, List.map_append]
      rfl
    rw [htk] at hs11
    have h1a := (h1'.keep hk10 fun e => e).keep hk11 (fun e => by have := h6 _ e; omega)
    refine ⟨a16, i + 1, c16, w11, hrun, stC_blk h1a (by simp) fun w12 hb12 hk12 hs12 => ?_⟩
    have hb12 : Blk w12 w2.heap.size #[.slice a16 (i + 1) c16] := by simpa using hb12
    have g3 := ((h3'.keep hk10 fun e => e).keep hk11 (fun e => by have := h6 _ e; omega)).keep hk12 (by omega)
    have g4 := ((h4'.keep hk10 fun e => e).keep hk11 (fun e => by have := h6 _ e; omega)).keep hk12 (by omega)
    have g5 : Kept No w w12 := ((h5'.no hk10).fresh hk11 fun x e => by have := h6 x e; have := k4.size; omega).fresh hk12 fun x e => by have := k4.size; omega
    have g2 := hs11.keep hk12 (fun b hb e => by have := hin b hb; omega)
    have kT : Kept (fun z => z ≠ w4.heap.size ∧ z ≠ w4.heap.size + 1) w6 w12 := ((hk10.mono fun _ _ e => e.elim).trans hk11 fun z hz e => by
      have := h6 z e
      exact ⟨by omega, by omega⟩).trans hk12 fun z hz e => ⟨by omega, by omega⟩
    refine ⟨_, _, _, (hb12.cell 0).trans rfl, _, (g3.cell 0).trans rfl, ?_⟩
    have han : a16 ≠ none := fun e => by have := (SlO.rd hs11).isNone e; omega
    refine condI (fun hz => ?_) (fun hz => ?_)
    · have hik : i + 1 = k := by
        have : (((i + 1 : Nat)) : Int) = (k : Int) := by simpa using hz
        omega
      refine ⟨_, _, _, (hb12.cell 0).trans rfl, stC_blk g4 (by simp) fun w13 hb13 hk13 hs13 => ⟨kT.trans hk13 fun z hz e => ⟨by omega, by omega⟩, a16, c16, by omega, han, ?_, ?_, ?_, hin⟩⟩
      · rw [← hik]; simpa using hb13
      · rw [← hik]; exact g2.keep hk13 (fun b hb e => by have := hin b hb; omega)
      · exact g5.fresh hk13 fun x e => by have := k4.size; omega
    · have hik : i + 1 ≠ k := fun e => by
        have : ¬ (((i + 1 : Nat)) : Int) = (k : Int) := by simpa using hz
        omega
      exact ⟨kT, a16, c16, by omega, hb12, g2, g3, g4, g5, hin⟩
  · rintro w7 ⟨a, c, h0, h1, h2, h3, h4, h5, h6⟩
    refine stC_blk h4 (by simp) fun w14 hb14' hk14 hs14 => ⟨hk14.mono fun z _ e => by omega, fun w8 hk8 => ?_⟩
    have hb8 := hb14'.keep hk8 (by omega)
    refine ⟨_, _, _, (hb8.cell 0).trans rfl, none, 0, 0, rfl, (h5.fresh hk14 fun x e => by have := k4.size; omega).fresh hk8 fun x e => by have := k4.size; omega, .inl ⟨by omega, rfl⟩⟩
  · rintro i w7 ⟨a, c, h0, h1, h2, h3, h5, h6⟩ w9 hk9
    have hb9 := h2.keep hk9 (by omega)
    exact ⟨_, _, _, (hb9.cell 0).trans rfl, a, k, c, rfl, h5.fresh hk9 fun x e => by have := k4.size; omega, .inr ⟨h0, h1, rfl, h3.keep hk9 (fun b hb e => by have := h6 b hb; omega), fun b hb => by have := h6 b hb; have := k4.size; omega⟩⟩

end Go.Proofs.YtkjmlbplmffekaaGreat
