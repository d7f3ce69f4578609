/-
  A pipe: what its methods do. Conditions: as each says.
-/
import Derived.Test.YtkjmlbplmffekaaGreatBas
import Derived.Test.YtkjmlbplmffekaaGreatLK
set_option linter.unusedVariables false
namespace Go.Proofs.YtkjmlbplmffekaaGreat
open Go.Lw

theorem Blk.at2 {w : World} {g : Nat} {cur : Array Value} (h : Blk w g cur) {i j : Nat} {v : Value} (hi : cur[i + j]? = some v) : w.cell? (((⟨g, 0, none⟩ : Addr).add i).add j) = some v := by
  rw [Lw.add_add]; exact h.at hi
theorem stC_at2 {w : World} {g i j : Nat} {cur : Array Value} {v : Value} {K : World → Prop} (h : Blk w g cur) (hi : i + j < cur.size)
    (hk : ∀ w', Blk w' g (cur.setIfInBounds (i + j) v) → Kept (· = g) w w' → w'.heap.size = w.heap.size → K w') : stC (((⟨g, 0, none⟩ : Addr).add i).add j) v w K := by
  rw [Lw.add_add]; exact stC_at h hi hk

/-- The cells of a pipe of these bytes and ends. -/
def PipeC (cur : Array Value) (bs : List Int) (e0 e1 : Nat) : Prop :=
  ∃ fr : Nat, cur.size = 4101 ∧ cur[4096]? = some (.int .i64 (fr : Int)) ∧ cur[4097]? = some (.int .i64 (bs.length : Int)) ∧ cur[4098]? = some (.bool true) ∧ cur[4099]? = some (.int .i64 (e0 : Int)) ∧ cur[4100]? = some (.int .i64 (e1 : Int)) ∧
    fr < 4096 ∧ bs.length ≤ 4096 ∧ e0 ≤ 1024 ∧ e1 ≤ 1024 ∧ ∀ (i : Nat) (x : Int), bs[i]? = some x → cur[(fr + i) % 4096]? = some (.int .u8 x)

def PipeO (w : World) (b : Nat) (bs : List Int) (e0 e1 : Nat) : Prop := ∃ cur, Blk w b cur ∧ PipeC cur bs e0 e1

theorem PipeO.keep {S : Nat → Prop} {w w' : World} {b : Nat} {bs : List Int} {e0 e1 : Nat} (h : PipeO w b bs e0 e1) (k : Kept S w w') (hn : ¬ S b) : PipeO w' b bs e0 e1 := by
  obtain ⟨cur, hb, hc⟩ := h; exact ⟨cur, hb.keep k hn, hc⟩
theorem PipeO.lt {w : World} {b : Nat} {bs : List Int} {e0 e1 : Nat} (h : PipeO w b bs e0 e1) : b < w.heap.size := by
  obtain ⟨cur, hb, hc⟩ := h; exact hb.lt
theorem PipeO.len {w : World} {b : Nat} {bs : List Int} {e0 e1 : Nat} (h : PipeO w b bs e0 e1) : bs.length ≤ 4096 := by
  obtain ⟨cur, hb, fr, _, _, _, _, _, _, _, h, _⟩ := h; exact h

theorem knone_to {w : World} {b : Nat} {bs : List Int} {e0 e1 : Nat} (h : PipeO w b bs e0 e1) {Q : Value → World → Prop} (hq : Q (.bool false) w) : CallR Tryz.prog 194 [pt b] w Q := by
  obtain ⟨cur, hb, fr, hsz, h1, h2, h3, h4, h5, h6, h7, h8, h9, h10⟩ := h
  refine C194 ?_
  unfold L194
  exact condF rfl (nnI ⟨true, hb.at h3, hq⟩)

theorem kside_to {w : World} {b : Bool} {Q : Value → World → Prop} (hq : Q (.int .i64 (if b then 1 else 0)) w) : CallR Tryz.prog 195 [.bool b] w Q := by
  refine C195 ?_
  unfold L195
  cases b <;> exact hq

theorem kroom_to {w : World} {b : Nat} {bs : List Int} {e0 e1 : Nat} (h : PipeO w b bs e0 e1) {Q : Value → World → Prop} (hq : Q (.int .i64 (4096 - (bs.length : Int))) w) : CallR Tryz.prog 298 [pt b] w Q := by
  obtain ⟨cur, hb, fr, hsz, h1, h2, h3, h4, h5, h6, h7, h8, h9, h10⟩ := h
  refine C298 ?_
  unfold L298
  exact nnI ⟨_, hb.at h2, by unfold inI; omega, hq⟩

def takesP (len : Nat) (n : Int) : Int := if n ≤ 512 ∧ 4096 - (len : Int) < n then 0 else min n (4096 - (len : Int))

theorem ktakes_to {w : World} {b : Nat} {bs : List Int} {e0 e1 : Nat} (h : PipeO w b bs e0 e1) (n : Int) {Q : Value → World → Prop} (hq : Q (.int .i64 (takesP bs.length n)) w) : CallR Tryz.prog 296 [pt b, .int .i64 n] w Q := by
  refine C296 ?_
  unfold L296
  refine condP (fun h1 => nnI (kroom_to h ⟨_, rfl, condP (fun h2 => ?_) (fun h2 => nnI (kroom_to h ⟨_, rfl, ?_⟩))⟩)) (fun h1 => nnI (kroom_to h ⟨_, rfl, ?_⟩))
  · have : takesP bs.length n = 0 := by unfold takesP; rw [if_pos ⟨h1, h2⟩]
    rw [this] at hq; exact hq
  · have : takesP bs.length n = min n (4096 - (bs.length : Int)) := by unfold takesP; rw [if_neg (by omega)]
    rw [this] at hq; rw [mn_eq]; exact hq
  · have : takesP bs.length n = min n (4096 - (bs.length : Int)) := by unfold takesP; rw [if_neg (by omega)]
    rw [this] at hq; rw [mn_eq]; exact hq

theorem tmod4096 {a : Nat} : Int.tmod ((a : Nat) : Int) 4096 = ((a % 4096 : Nat) : Int) := by
  rw [Int.tmod_eq_emod_of_nonneg (by omega)]; omega

theorem klook_ok {w : World} {b : Nat} {bs : List Int} {e0 e1 : Nat} (h : PipeO w b bs e0 e1) {k : Nat} (hk : k ≤ bs.length) :
    CallR Tryz.prog 246 [pt b, .int .i64 (k : Int)] w fun v w' => ∃ a c, v = .slice a k c ∧ OB w' a k c (bs.take k) ∧ Fresh w a ∧ Kept No w w' := by
  have hbl := h.len
  have hlt := h.lt
  refine C246 ?_
  unfold L246
  obtain ⟨w1, hrun, hs1, hk1, hsz1⟩ := run_mk (P := Tryz.prog) (t := 32) tyB (w := w) (k := .i64) (k' := .i64) (n := k) (m := k) (Nat.le_refl _) (by omega) (by omega)
  have hs1 : OB w1 (some ⟨w.heap.size, 0, none⟩) k k (List.replicate k 0) := by
    have e : (Builtin.zeroCells (Value.int .u8 0).cells k).toList = By (List.replicate k 0) := By_zeros k
    rw [e] at hs1; exact hs1
  refine ⟨_, _, _, w1, hrun, ?_⟩
  refine ⟨fun vs w' => ∃ i : Nat, vs = [.int .i64 (i : Int)] ∧ i ≤ k ∧ OB w' (some ⟨w.heap.size, 0, none⟩) k k (bs.take i ++ List.replicate (k - i) 0) ∧ Kept No w w', fun vs _ => match vs with | [.int _ i] => (k - i).toNat | _ => 0,
    ⟨0, rfl, Nat.zero_le _, by simpa using hs1, hk1⟩, ?_⟩
  intro _ n6 w2 hI
  obtain ⟨i, hvs, hi, ho, hk2⟩ := hI
  simp only [List.cons.injEq, Value.int.injEq, true_and, and_true] at hvs
  subst hvs
  refine condP (fun hlt' => ?_) (fun hge => ?_)
  · have hik : i < k := by omega
    intro w3
    have hk3 : Kept No w2 w3 := Kept.drew _ _
    have ho3 : OB w3 (some ⟨w.heap.size, 0, none⟩) k k (bs.take i ++ List.replicate (k - i) 0) := ho
    clear_value w3
    obtain ⟨cur, hb, fr, hsz, h1, h2, h3, h4, h5, h6, h7, h8, h9, h10⟩ := h.keep (hk2.no hk3) (fun e => e)
    have hmod : Int.tmod ((fr : Int) + (i : Int)) 4096 = (((fr + i) % 4096 : Nat) : Int) := by
      have : (fr : Int) + (i : Int) = ((fr + i : Nat) : Int) := by omega
      rw [this]; exact tmod4096
    have hib : i < bs.length := by omega
    have hm := Nat.mod_lt (fr + i) (show 0 < 4096 by decide)
    refine nnI ⟨_, hb.at h1, by unfold inI; omega, by decide, nnI ⟨by rw [hmod]; omega, bs[i], ?_, ⟨by omega, by omega⟩, nnI ?_⟩⟩
    · rw [hmod, Int.toNat_natCast]; exact hb.at (h10 i _ (by simp [hib]))
    refine stC_slo (j := i) ho3 rfl hik fun w4 ho4 hk4 hsz4 => ⟨by unfold inI; omega, ⟨i + 1, rfl, by omega, ?_, (hk2.no hk3).fresh hk4 (fun x hx => by rw [inA_some] at hx; omega)⟩, ?_⟩
    · rw [By_set] at ho4
      have e : (bs.take i ++ List.replicate (k - i) 0).set i bs[i] = bs.take (i + 1) ++ List.replicate (k - (i + 1)) 0 := by
        refine ext_getD (by simp; omega) fun j hj => ?_
        have htl : (bs.take i).length = i := by rw [List.length_take]; omega
        have htl1 : (bs.take (i + 1)).length = i + 1 := by rw [List.length_take]; omega
        simp only [List.getD_eq_getElem?_getD]
        by_cases hji : j = i
        · subst hji
          rw [List.getElem?_set_self (by simp; omega), List.getElem?_append_left (by omega), List.getElem?_take, if_pos (by omega), List.getElem?_eq_getElem hib]
        · rw [List.getElem?_set_ne (by omega)]
          by_cases hj2 : j < i
          · rw [List.getElem?_append_left (by omega), List.getElem?_append_left (by omega), List.getElem?_take, List.getElem?_take, if_pos hj2, if_pos (by omega)]
          · rw [List.getElem?_append_right (by omega), List.getElem?_append_right (by omega), List.getElem?_replicate, List.getElem?_replicate, htl, htl1]
            split <;> split <;> rfl
      rw [e] at ho4; exact ho4
    · show ((k : Int) - ((i : Int) + 1)).toNat < ((k : Int) - (i : Int)).toNat
      omega
  · have : i = k := by omega
    subst this
    rw [Nat.sub_self] at ho
    exact ⟨_, _, rfl, by simpa using ho, fun x hx => by rw [inA_some] at hx; omega, hk2⟩

theorem kdrop_ok {w : World} {b : Nat} {bs : List Int} {e0 e1 : Nat} (h : PipeO w b bs e0 e1) {k : Nat} (hk : k ≤ bs.length) :
    CallR Tryz.prog 295 [pt b, .int .i64 (k : Int)] w fun v w' => v = .tuple #[] ∧ PipeO w' b (bs.drop k) e0 e1 ∧ Kept (· = b) w w' := by
  obtain ⟨cur, hb, fr, hsz, h1, h2, h3, h4, h5, h6, h7, h8, h9, h10⟩ := h
  refine C295 ?_
  unfold L295
  have hmod : Int.tmod ((fr : Int) + (k : Int)) 4096 = (((fr + k) % 4096 : Nat) : Int) := by
    have : (fr : Int) + (k : Int) = ((fr + k : Nat) : Int) := by omega
    rw [this]; exact tmod4096
  have hm := Nat.mod_lt (fr + k) (show 0 < 4096 by decide)
  refine nnI ⟨_, hb.at h1, by unfold inI; omega, by decide, nnI (stC_at hb (by omega) fun w1 hb1 hk1 _ => nnI ⟨_, hb1.at (by rw [Array.getElem?_setIfInBounds_ne (by decide)]; exact h2), by unfold inI; omega, nnI (stC_at hb1 (by simp; omega) fun w2 hb2 hk2 _ => ⟨rfl, ⟨_, hb2, (fr + k) % 4096, ?_⟩, hk1.trans hk2 fun _ _ e => e⟩)⟩)⟩
  rw [hmod]
  refine ⟨by simp [hsz], ?_, ?_, ?_, ?_, ?_, hm, by simp; omega, h8, h9, fun i x hx => ?_⟩
  · rw [Array.getElem?_setIfInBounds_ne (by decide), Array.getElem?_setIfInBounds_self_of_lt (by omega)]
  · rw [Array.getElem?_setIfInBounds_self_of_lt (by simp; omega), List.length_drop]; congr 2; omega
  · rw [Array.getElem?_setIfInBounds_ne (by decide), Array.getElem?_setIfInBounds_ne (by decide)]; exact h3
  · rw [Array.getElem?_setIfInBounds_ne (by decide), Array.getElem?_setIfInBounds_ne (by decide)]; exact h4
  · rw [Array.getElem?_setIfInBounds_ne (by decide), Array.getElem?_setIfInBounds_ne (by decide)]; exact h5
  · have hm2 := Nat.mod_lt ((fr + k) % 4096 + i) (show 0 < 4096 by decide)
    rw [Array.getElem?_setIfInBounds_ne (by omega), Array.getElem?_setIfInBounds_ne (by omega)]
    rw [List.getElem?_drop] at hx
    have := h10 (k + i) x hx
    have e : ((fr + k) % 4096 + i) % 4096 = (fr + (k + i)) % 4096 := by omega
    rw [e]; exact this

theorem kput_ok {w : World} {b : Nat} {bs : List Int} {e0 e1 : Nat} (h : PipeO w b bs e0 e1) {a : Option Addr} {l c : Nat} {ds : List Int} (hd : RdB w a l c ds) (hab : ds ≠ [] → ¬ inA a b) (hl : bs.length + l ≤ 4096) :
    CallR Tryz.prog 297 [pt b, .slice a l c] w fun v w' => v = .tuple #[] ∧ PipeO w' b (bs ++ ds) e0 e1 ∧ Kept (· = b) w w' := by
  refine C297 ?_
  unfold L297
  have hlen := hd.len
  refine ⟨fun vs w' => ∃ i : Nat, vs = [.int .i64 (i : Int)] ∧ i ≤ l ∧ PipeO w' b (bs ++ ds.take i) e0 e1 ∧ Kept (· = b) w w', fun vs _ => l - ix vs, ⟨0, rfl, Nat.zero_le _, by simpa using h, Kept.refl _ _⟩, ?_⟩
  intro _ n5 w1 hI
  obtain ⟨i, hvs, hi, hp, hk⟩ := hI
  simp only [List.cons.injEq, Value.int.injEq, true_and, and_true] at hvs
  subst hvs
  refine condP (fun hlt => ?_) (fun hge => ?_)
  · have hid : i < ds.length := by omega
    obtain ⟨q, ha, hg⟩ := (hd.keep hk (fun x _ hx e => hab (by rintro rfl; simp at hid) (e ▸ hx))).get hid
    subst ha
    refine ⟨⟨by omega, hlt⟩, nnI ⟨_, by rw [Int.toNat_natCast]; exact hg, ?_⟩⟩
    intro w2
    have hk2 : Kept No w1 w2 := Kept.drew _ _
    have hp2 : PipeO w2 b (bs ++ ds.take i) e0 e1 := hp
    clear_value w2
    obtain ⟨cur, hb, fr, hsz, h1, h2, h3, h4, h5, h6, h7, h8, h9, h10⟩ := hp2
    have hL : (bs ++ ds.take i).length = bs.length + i := by rw [List.length_append, List.length_take]; omega
    rw [hL] at h2
    have hmod : Int.tmod ((fr : Int) + ((bs.length + i : Nat) : Int)) 4096 = (((fr + (bs.length + i)) % 4096 : Nat) : Int) := by
      have : (fr : Int) + ((bs.length + i : Nat) : Int) = ((fr + (bs.length + i) : Nat) : Int) := by omega
      rw [this]; exact tmod4096
    have hm := Nat.mod_lt (fr + (bs.length + i)) (show 0 < 4096 by decide)
    refine nnI ⟨_, hb.at h1, nnI ⟨_, hb.at h2, by unfold inI; omega, by decide, nnI ⟨by rw [hmod]; omega, ?_⟩⟩⟩
    rw [hmod, Int.toNat_natCast]
    refine stC_at hb (by omega) fun w3 hb3 hk3 _ => nnI ⟨_, hb3.at (by rw [Array.getElem?_setIfInBounds_ne (by omega)]; exact h2), by unfold inI; omega, nnI (stC_at hb3 (by simp; omega) fun w4 hb4 hk4 _ => ⟨by unfold inI; omega, ⟨i + 1, by simp, by omega, ⟨_, hb4, fr, ?_⟩, ((hk.no hk2).trans hk3 fun _ _ e => e).trans hk4 fun _ _ e => e⟩, by simp only [ix]; omega⟩)⟩
    have hT : bs ++ ds.take (i + 1) = (bs ++ ds.take i) ++ [ds[i]] := by
      rw [List.take_add_one, List.getElem?_eq_getElem hid, Option.toList_some, List.append_assoc]
    rw [hT]
    refine ⟨by simp [hsz], ?_, ?_, ?_, ?_, ?_, h6, by rw [List.length_append, hL]; simp; omega, h8, h9, fun j x hx => ?_⟩
    · rw [Array.getElem?_setIfInBounds_ne (by decide), Array.getElem?_setIfInBounds_ne (by omega)]; exact h1
    · rw [Array.getElem?_setIfInBounds_self_of_lt (by simp; omega), List.length_append, hL]; congr 2
    · rw [Array.getElem?_setIfInBounds_ne (by decide), Array.getElem?_setIfInBounds_ne (by omega)]; exact h3
    · rw [Array.getElem?_setIfInBounds_ne (by decide), Array.getElem?_setIfInBounds_ne (by omega)]; exact h4
    · rw [Array.getElem?_setIfInBounds_ne (by decide), Array.getElem?_setIfInBounds_ne (by omega)]; exact h5
    · have hjl : j < bs.length + i + 1 := by
        have := (List.getElem?_eq_some_iff.mp hx).1
        rw [List.length_append, hL] at this; simpa using this
      have hmj := Nat.mod_lt (fr + j) (show 0 < 4096 by decide)
      rw [Array.getElem?_setIfInBounds_ne (by omega)]
      by_cases hj : j = bs.length + i
      · subst hj
        rw [Array.getElem?_setIfInBounds_self_of_lt (by omega)]
        rw [List.getElem?_append_right (by omega), hL, Nat.sub_self] at hx
        simp at hx; rw [hx]
      · rw [Array.getElem?_setIfInBounds_ne (by omega)]
        rw [List.getElem?_append_left (by omega)] at hx
        exact h10 j x hx
  · have : i = l := by omega
    subst this
    rw [List.take_of_length_le (by omega)] at hp
    exact ⟨rfl, hp, hk⟩

end Go.Proofs.YtkjmlbplmffekaaGreat
