/-
  A pipe: what its methods do. Conditions: as each says.
  A pipe: what its public methods do, against a plain pipe. Conditions: as each says.
-/
import Derived.Test.YtpoaacnnhgebfaaGreatBas
import Derived.Test.YtpoaacnnhgebfaaGreatLFa
set_option linter.unusedVariables false
namespace Go.Proofs.YtpoaacnnhgebfaaGreat
open Go.Lw

theorem Blk.at2 {w : World} {g : Nat} {cur : Array Value} (h : Blk w g cur) {i j : Nat} {v : Value} (hi : cur[i + j]? = some v) : w.cell? (((⟨g, 0, none⟩ : Addr).add i).add j) = some v := by
  rw [Lw.add_add]; exact h.at hi
theorem stC_at2 {w : World} {g i j : Nat} {cur : Array Value} {v : Value} {K : World → Prop} (h : Blk w g cur) (hi : i + j < cur.size)
    (hk : ∀ w', Blk w' g (cur.setIfInBounds (i + j) v) → Kept (· = g) w w' → w'.heap.size = w.heap.size → K w') : stC (((⟨g, 0, none⟩ : Addr).add i).add j) v w K := by
  rw [Lw.add_add]; exact stC_at h hi hk

/-- The cells of a pipe of these bytes and ends. -/
def PipeC (cur : Array Value) (bs : List Int) (e0 e1 : Nat) : Prop :=
  ∃ fr : Nat, cur.size = 4101 ∧ cur[4096]? = some (.int .i64 (fr : Int)) ∧ cur[4097]? = some (.int .i64 (bs.length : Int)) ∧ cur[4098]? = some (.bool true) ∧ cur[4099]? = some (.int .i64 (e0 : Int)) ∧ cur[4100]? = some (.int .i64 (e1 : Int)) ∧
    fr < 4096 ∧ bs.length ≤ 4096 ∧ e0 ≤ 1024 ∧ e1 ≤ 1024 ∧ ∀ (i : Nat) (x : Int), bs[i]? = some x → cur[(fr + i) % 4096]? = some (.int .u8 x)

def PipeO (w : World) (b : Nat) (bs : List Int) (e0 e1 : Nat) : Prop := ∃ cur, Blk w b cur ∧ PipeC cur bs e0 e1

theorem PipeO.keep {S : Nat → Prop} {w w' : World} {b : Nat} {bs : List Int} {e0 e1 : Nat} (h : PipeO w b bs e0 e1) (k : Kept S w w') (hn : ¬ S b) : PipeO w' b bs e0 e1 := by
  obtain ⟨cur, hb, hc⟩ := h; exact ⟨cur, hb.keep k hn, hc⟩
theorem PipeO.lt {w : World} {b : Nat} {bs : List Int} {e0 e1 : Nat} (h : PipeO w b bs e0 e1) : b < w.heap.size := by
  obtain ⟨cur, hb, hc⟩ := h; exact hb.lt
theorem PipeO.len {w : World} {b : Nat} {bs : List Int} {e0 e1 : Nat} (h : PipeO w b bs e0 e1) : bs.length ≤ 4096 := by
  obtain ⟨cur, hb, fr, _, _, _, _, _, _, _, h, _⟩ := h; exact h

theorem knone_to {w : World} {b : Nat} {bs : List Int} {e0 e1 : Nat} (h : PipeO w b bs e0 e1) {Q : Value → World → Prop} (hq : Q (.bool false) w) : CallR Tryz.prog 193 [pt b] w Q := by
  obtain ⟨cur, hb, fr, hsz, h1, h2, h3, h4, h5, h6, h7, h8, h9, h10⟩ := h
  refine C193 ?_
  unfold L193
  exact condF rfl (nnI ⟨true, hb.at h3, hq⟩)

theorem kside_to {w : World} {b : Bool} {Q : Value → World → Prop} (hq : Q (.int .i64 (if b then 1 else 0)) w) : CallR Tryz.prog 194 [.bool b] w Q := by
  refine C194 ?_
  unfold L194
  cases b <;> exact hq

theorem kroom_to {w : World} {b : Nat} {bs : List Int} {e0 e1 : Nat} (h : PipeO w b bs e0 e1) {Q : Value → World → Prop} (hq : Q (.int .i64 (4096 - (bs.length : Int))) w) : CallR Tryz.prog 258 [pt b] w Q := by
  obtain ⟨cur, hb, fr, hsz, h1, h2, h3, h4, h5, h6, h7, h8, h9, h10⟩ := h
  refine C258 ?_
  unfold L258
  exact nnI ⟨_, hb.at h2, by unfold inI; omega, hq⟩

def takesP (len : Nat) (n : Int) : Int := if n ≤ 512 ∧ 4096 - (len : Int) < n then 0 else min n (4096 - (len : Int))

theorem ktakes_to {w : World} {b : Nat} {bs : List Int} {e0 e1 : Nat} (h : PipeO w b bs e0 e1) (n : Int) {Q : Value → World → Prop} (hq : Q (.int .i64 (takesP bs.length n)) w) : CallR Tryz.prog 256 [pt b, .int .i64 n] w Q := by
  refine C256 ?_
  unfold L256
  refine condP (fun h1 => nnI (kroom_to h ⟨_, rfl, condP (fun h2 => ?_) (fun h2 => nnI (kroom_to h ⟨_, rfl, ?_⟩))⟩)) (fun h1 => nnI (kroom_to h ⟨_, rfl, ?_⟩))
  · have : takesP bs.length n = 0 := by unfold takesP; rw [if_pos ⟨h1, h2⟩]
    rw [this] at hq; exact hq
  · have : takesP bs.length n = min n (4096 - (bs.length : Int)) := by unfold takesP; rw [if_neg (by omega)]
    rw [this] at hq; rw [mn_eq]; exact hq
  · have : takesP bs.length n = min n (4096 - (bs.length : Int)) := by unfold takesP; rw [if_neg (by omega)]
    rw [this] at hq; rw [mn_eq]; exact hq

theorem tmod4096 {a : Nat} : Int.tmod ((a : Nat) : Int) 4096 = ((a % 4096 : Nat) : Int) := by
  rw [Int.tmod_eq_emod_of_nonneg (by omega)]; omega

theorem klook_ok {w : World} {b : Nat} {bs : List Int} {e0 e1 : Nat} (h : PipeO w b bs e0 e1) {k : Nat} (hk : k ≤ bs.length) :
    CallR Tryz.prog 208 [pt b, .int .i64 (k : Int)] w fun v w' => ∃ a c, v = .slice a k c ∧ OB w' a k c (bs.take k) ∧ Fresh w a ∧ Kept No w w' := by
  have hbl := h.len
  have hlt := h.lt
  refine C208 ?_
  unfold L208
  obtain ⟨w1, hrun, hs1, hk1, hsz1⟩ := run_mk (P := Tryz.prog) (t := 40) tyB (w := w) (k := .i64) (k' := .i64) (n := k) (m := k) (Nat.le_refl _) (by omega) (by omega)
  have hs1 : OB w1 (some ⟨w.heap.size, 0, none⟩) k k (List.replicate k 0) := by
    have e : (Builtin.zeroCells (Value.int .u8 0).cells k).toList = By (List.replicate k 0) := By_zeros k
    rw [e] at hs1; exact hs1
  refine ⟨_, _, _, w1, hrun, ?_⟩
  refine ⟨fun vs w' => ∃ i : Nat, vs = [.int .i64 (i : Int)] ∧ i ≤ k ∧ OB w' (some ⟨w.heap.size, 0, none⟩) k k (bs.take i ++ List.replicate (k - i) 0) ∧ Kept No w w', fun vs _ => match vs with | [.int _ i] => (k - i).toNat | _ => 0,
    ⟨0, rfl, Nat.zero_le _, by simpa using hs1, hk1⟩, ?_⟩
  intro _ n6 w2 hI
  obtain ⟨i, hvs, hi, ho, hk2⟩ := hI
  simp only [List.cons.injEq, Value.int.injEq, true_and, and_true] at hvs
  subst hvs
  refine condP (fun hlt' => ?_) (fun hge => ?_)
  · have hik : i < k := by omega
    intro w3
    have hk3 : Kept No w2 w3 := Kept.drew _ _
    have ho3 : OB w3 (some ⟨w.heap.size, 0, none⟩) k k (bs.take i ++ List.replicate (k - i) 0) := ho
    clear_value w3
    obtain ⟨cur, hb, fr, hsz, h1, h2, h3, h4, h5, h6, h7, h8, h9, h10⟩ := h.keep (hk2.no hk3) (fun e => e)
    have hmod : Int.tmod ((fr : Int) + (i : Int)) 4096 = (((fr + i) % 4096 : Nat) : Int) := by
      have : (fr : Int) + (i : Int) = ((fr + i : Nat) : Int) := by omega
      rw [this]; exact tmod4096
    have hib : i < bs.length := by omega
    have hm := Nat.mod_lt (fr + i) (show 0 < 4096 by decide)
    refine nnI ⟨_, hb.at h1, by unfold inI; omega, by decide, nnI ⟨by rw [hmod]; omega, bs[i], ?_, ⟨by omega, by omega⟩, nnI ?_⟩⟩
    · rw [hmod, Int.toNat_natCast]; exact hb.at (h10 i _ (by simp [hib]))
    refine stC_slo (j := i) ho3 rfl hik fun w4 ho4 hk4 hsz4 => ⟨by unfold inI; omega, ⟨i + 1, rfl, by omega, ?_, (hk2.no hk3).fresh hk4 (fun x hx => by rw [inA_some] at hx; omega)⟩, ?_⟩
    · rw [By_set] at ho4
      have e : (bs.take i ++ List.replicate (k - i) 0).set i bs[i] = bs.take (i + 1) ++ List.replicate (k - (i + 1)) 0 := by
        refine ext_getD (by simp; omega) fun j hj => ?_
        have htl : (bs.take i).length = i := by rw [List.length_take]; omega
        have htl1 : (bs.take (i + 1)).length = i + 1 := by rw [List.length_take]; omega
        simp only [List.getD_eq_getElem?_getD]
        by_cases hji : j = i
        · subst hji
          rw [List.getElem?_set_self (by simp; omega), List.getElem?_append_left (by omega), List.getElem?_take, if_pos (by omega), List.getElem?_eq_getElem hib]
        · rw [List.getElem?_set_ne (by omega)]
          by_cases hj2 : j < i
          · rw [List.getElem?_append_left (by omega), List.getElem?_append_left (by omega), List.getElem?_take, List.getElem?_take, if_pos hj2, if_pos (by omega)]
          · rw [List.getElem?_append_right (by omega), List.getElem?_append_right (by omega), List.getElem?_replicate, List.getElem?_replicate, htl, htl1]
            split <;> split <;> rfl
      rw [e] at ho4; exact ho4
    · show ((k : Int) - ((i : Int) + 1)).toNat < ((k : Int) - (i : Int)).toNat
      omega
  · have : i = k := by omega
    subst this
    rw [Nat.sub_self] at ho
    exact ⟨_, _, rfl, by simpa using ho, fun x hx => by rw [inA_some] at hx; omega, hk2⟩

theorem kdrop_ok {w : World} {b : Nat} {bs : List Int} {e0 e1 : Nat} (h : PipeO w b bs e0 e1) {k : Nat} (hk : k ≤ bs.length) :
    CallR Tryz.prog 255 [pt b, .int .i64 (k : Int)] w fun v w' => v = .tuple #[] ∧ PipeO w' b (bs.drop k) e0 e1 ∧ Kept (· = b) w w' := by
  obtain ⟨cur, hb, fr, hsz, h1, h2, h3, h4, h5, h6, h7, h8, h9, h10⟩ := h
  refine C255 ?_
  unfold L255
  have hmod : Int.tmod ((fr : Int) + (k : Int)) 4096 = (((fr + k) % 4096 : Nat) : Int) := by
    have : (fr : Int) + (k : Int) = ((fr + k : Nat) : Int) := by omega
    rw [this]; exact tmod4096
  have hm := Nat.mod_lt (fr + k) (show 0 < 4096 by decide)
  refine nnI ⟨_, hb.at h1, by unfold inI; omega, by decide, nnI (stC_at hb (by omega) fun w1 hb1 hk1 _ => nnI ⟨_, hb1.at (by rw [Array.getElem?_setIfInBounds_ne (by decide)]; exact h2), by unfold inI; omega, nnI (stC_at hb1 (by simp; omega) fun w2 hb2 hk2 _ => ⟨rfl, ⟨_, hb2, (fr + k) % 4096, ?_⟩, hk1.trans hk2 fun _ _ e => e⟩)⟩)⟩
  rw [hmod]
  refine ⟨by simp [hsz], ?_, ?_, ?_, ?_, ?_, hm, by simp; omega, h8, h9, fun i x hx => ?_⟩
  · rw [Array.getElem?_setIfInBounds_ne (by decide), Array.getElem?_setIfInBounds_self_of_lt (by omega)]
  · rw [Array.getElem?_setIfInBounds_self_of_lt (by simp; omega), List.length_drop]; congr 2; omega
  · rw [Array.getElem?_setIfInBounds_ne (by decide), Array.getElem?_setIfInBounds_ne (by decide)]; exact h3
  · rw [Array.getElem?_setIfInBounds_ne (by decide), Array.getElem?_setIfInBounds_ne (by decide)]; exact h4
  · rw [Array.getElem?_setIfInBounds_ne (by decide), Array.getElem?_setIfInBounds_ne (by decide)]; exact h5
  · have hm2 := Nat.mod_lt ((fr + k) % 4096 + i) (show 0 < 4096 by decide)
    rw [Array.getElem?_setIfInBounds_ne (by omega), Array.getElem?_setIfInBounds_ne (by omega)]
    rw [List.getElem?_drop] at hx
    have := h10 (k + i) x hx
    have e : ((fr + k) % 4096 + i) % 4096 = (fr + (k + i)) % 4096 := by omega
    rw [e]; exact this

theorem kput_ok {w : World} {b : Nat} {bs : List Int} {e0 e1 : Nat} (h : PipeO w b bs e0 e1) {a : Option Addr} {l c : Nat} {ds : List Int} (hd : RdB w a l c ds) (hab : ds ≠ [] → ¬ inA a b) (hl : bs.length + l ≤ 4096) :
    CallR Tryz.prog 257 [pt b, .slice a l c] w fun v w' => v = .tuple #[] ∧ PipeO w' b (bs ++ ds) e0 e1 ∧ Kept (· = b) w w' := by
  refine C257 ?_
  unfold L257
  have hlen := hd.len
  refine ⟨fun vs w' => ∃ i : Nat, vs = [.int .i64 (i : Int)] ∧ i ≤ l ∧ PipeO w' b (bs ++ ds.take i) e0 e1 ∧ Kept (· = b) w w', fun vs _ => l - ix vs, ⟨0, rfl, Nat.zero_le _, by simpa using h, Kept.refl _ _⟩, ?_⟩
  intro _ n5 w1 hI
  obtain ⟨i, hvs, hi, hp, hk⟩ := hI
  simp only [List.cons.injEq, Value.int.injEq, true_and, and_true] at hvs
  subst hvs
  refine condP (fun hlt => ?_) (fun hge => ?_)
  · have hid : i < ds.length := by omega
    obtain ⟨q, ha, hg⟩ := (hd.keep hk (fun x _ hx e => hab (by rintro rfl; simp at hid) (e ▸ hx))).get hid
    subst ha
    refine ⟨⟨by omega, hlt⟩, nnI ⟨_, by rw [Int.toNat_natCast]; exact hg, ?_⟩⟩
    intro w2
    have hk2 : Kept No w1 w2 := Kept.drew _ _
    have hp2 : PipeO w2 b (bs ++ ds.take i) e0 e1 := hp
    clear_value w2
    obtain ⟨cur, hb, fr, hsz, h1, h2, h3, h4, h5, h6, h7, h8, h9, h10⟩ := hp2
    have hL : (bs ++ ds.take i).length = bs.length + i := by rw [List.length_append, List.length_take]; omega
    rw [hL] at h2
    have hmod : Int.tmod ((fr : Int) + ((bs.length + i : Nat) : Int)) 4096 = (((fr + (bs.length + i)) % 4096 : Nat) : Int) := by
      have : (fr : Int) + ((bs.length + i : Nat) : Int) = ((fr + (bs.length + i) : Nat) : Int) := by omega
      rw [this]; exact tmod4096
    have hm := Nat.mod_lt (fr + (bs.length + i)) (show 0 < 4096 by decide)
    refine nnI ⟨_, hb.at h1, nnI ⟨_, hb.at h2, by unfold inI; omega, by decide, nnI ⟨by rw [hmod]; omega, ?_⟩⟩⟩
    rw [hmod, Int.toNat_natCast]
    refine stC_at hb (by omega) fun w3 hb3 hk3 _ => nnI ⟨_, hb3.at (by rw [Array.getElem?_setIfInBounds_ne (by omega)]; exact h2), by unfold inI; omega, nnI (stC_at hb3 (by simp; omega) fun w4 hb4 hk4 _ => ⟨by unfold inI; omega, ⟨i + 1, by simp, by omega, ⟨_, hb4, fr, ?_⟩, ((hk.no hk2).trans hk3 fun _ _ e => e).trans hk4 fun _ _ e => e⟩, by simp only [ix]; omega⟩)⟩
    have hT : bs ++ ds.take (i + 1) = (bs ++ ds.take i) ++ [ds[i]] := by
      rw [List.take_add_one, List.getElem?_eq_getElem hid, Option.toList_some, List.append_assoc]
    rw [hT]
    refine ⟨by simp [hsz], ?_, ?_, ?_, ?_, ?_, h6, by rw [List.length_append, hL]; simp; omega, h8, h9, fun j x hx => ?_⟩
    · rw [Array.getElem?_setIfInBounds_ne (by decide), Array.getElem?_setIfInBounds_ne (by omega)]; exact h1
    · rw [Array.getElem?_setIfInBounds_self_of_lt (by simp; omega), List.length_append, hL]; congr 2
    · rw [Array.getElem?_setIfInBounds_ne (by decide), Array.getElem?_setIfInBounds_ne (by omega)]; exact h3
    · rw [Array.getElem?_setIfInBounds_ne (by decide), Array.getElem?_setIfInBounds_ne (by omega)]; exact h4
    · rw [Array.getElem?_setIfInBounds_ne (by decide), Array.getElem?_setIfInBounds_ne (by omega)]; exact h5
    · have hjl : j < bs.length + i + 1 := by
        have := (List.getElem?_eq_some_iff.mp hx).1
        rw [List.length_append, hL] at this; simpa using this
      have hmj := Nat.mod_lt (fr + j) (show 0 < 4096 by decide)
      rw [Array.getElem?_setIfInBounds_ne (by omega)]
      by_cases hj : j = bs.length + i
      · subst hj
        rw [Array.getElem?_setIfInBounds_self_of_lt (by omega)]
        rw [List.getElem?_append_right (by omega), hL, Nat.sub_self] at hx
        simp at hx; rw [hx]
      · rw [Array.getElem?_setIfInBounds_ne (by omega)]
        rw [List.getElem?_append_left (by omega)] at hx
        exact h10 j x hx
  · have : i = l := by omega
    subst this
    rw [List.take_of_length_le (by omega)] at hp
    exact ⟨rfl, hp, hk⟩

end Go.Proofs.YtpoaacnnhgebfaaGreat

namespace Go.Proofs.YtpoaacnnhgebfaaGreat
open Go.Lw

def joinP (wr : Bool) (e0 e1 : Nat) : Int × Nat × Nat :=
  if wr then (if e1 ≥ 1024 then (3, e0, e1) else (0, e0, e1 + 1)) else (if e0 ≥ 1024 then (3, e0, e1) else (0, e0 + 1, e1))
def leaveP (wr : Bool) (e0 e1 : Nat) : Int × Nat × Nat :=
  if wr then (if e1 = 0 then (51, e0, e1) else (0, e0, e1 - 1)) else (if e0 = 0 then (51, e0, e1) else (0, e0 - 1, e1))
def readP (n : Int) (bs : List Int) (e0 e1 : Nat) : List Int × Int × List Int :=
  if n < 1 ∨ n > 1048576 then ([], 4, bs) else if e0 = 0 then ([], 51, bs) else if bs = [] ∧ e1 > 0 then ([], 52, bs) else (bs.take n.toNat, 0, bs.drop n.toNat)
def wtk (n : Nat) (most : Int) (len : Nat) : Int := if n > 512 then min (takesP len n) most else takesP len n
def writeP (ds : List Int) (most : Int) (bs : List Int) (e0 e1 : Nat) : Int × Int × List Int :=
  if ds.length > 1048576 then (0, 5, bs) else if most < 1 ∨ most > 1048576 then (0, 4, bs) else if e1 = 0 then (0, 51, bs) else if e0 = 0 then (0, 53, bs) else if ds = [] then (0, 0, bs) else
    if takesP bs.length ds.length = 0 then (0, 52, bs) else (wtk ds.length most bs.length, 0, bs ++ ds.take (wtk ds.length most bs.length).toNat)
def canRP (bs : List Int) (e0 e1 : Nat) : Bool := decide (0 < e0 ∧ (0 < bs.length ∨ e1 = 0))
def canWP (n : Int) (bs : List Int) (e0 e1 : Nat) : Bool := decide (0 < e1 ∧ n ≥ 1 ∧ n ≤ 1048576 ∧ (e0 = 0 ∨ takesP bs.length n > 0))

theorem knew_ok (w : World) : CallR Tryz.prog 119 [] w fun v w' => v = pt w.heap.size ∧ PipeO w' w.heap.size [] 0 0 ∧ Kept No w w' := by
  refine C119 ?_
  unfold L119
  refine ⟨rfl, ⟨_, Blk.alloc w _ _, 0, ?_, ?_, ?_, ?_, ?_, ?_, by decide, by decide, by decide, by decide, fun i x hx => by simp at hx⟩, Kept.alloc _ _ _⟩
  all_goals kernel_rfl

theorem kends_to {w : World} {b : Nat} {bs : List Int} {e0 e1 : Nat} (h : PipeO w b bs e0 e1) {Q : Value → World → Prop} (hq : ∀ nd, Q (.tuple #[.int .i64 (e0 : Int), .int .i64 (e1 : Int)]) (w.drewN nd)) : CallR Tryz.prog 265 [pt b] w Q := by
  refine C265 ?_
  unfold L265
  refine knone_to h ⟨false, rfl, condF rfl ?_⟩
  obtain ⟨cur, hb, fr, hsz, h1, h2, h3, h4, h5, h6, h7, h8, h9, h10⟩ := h
  exact nnI ⟨by decide, _, Blk.at2 hb h4, nnI ⟨by decide, _, Blk.at2 hb h5, hq⟩⟩

theorem kcanr_to {w : World} {b : Nat} {bs : List Int} {e0 e1 : Nat} (h : PipeO w b bs e0 e1) {Q : Value → World → Prop} (hq : Q (.bool (canRP bs e0 e1)) w) : CallR Tryz.prog 204 [pt b] w Q := by
  refine C204 ?_
  unfold L204
  refine knone_to h ⟨false, rfl, condT rfl ?_⟩
  obtain ⟨cur, hb, fr, hsz, h1, h2, h3, h4, h5, h6, h7, h8, h9, h10⟩ := h
  refine nnI ⟨by decide, _, Blk.at2 hb h4, condP (fun g => nnI ⟨_, hb.at h2, condP (fun g2 => ?_) (fun g2 => nnI ⟨by decide, _, Blk.at2 hb h5, ?_⟩)⟩) (fun g => ?_)⟩
  · have e : canRP bs e0 e1 = true := by unfold canRP; simp only [decide_eq_true_eq]; omega
    rw [e] at hq; exact hq
  · have e : canRP bs e0 e1 = ((e1 : Int) == 0) := by
      unfold canRP; rw [Bool.eq_iff_iff]; simp only [decide_eq_true_eq, beq_iff_eq]; omega
    rw [e] at hq; exact hq
  · have e : canRP bs e0 e1 = false := by unfold canRP; simp only [decide_eq_false_iff_not]; omega
    rw [e] at hq; exact hq

theorem kcanw_to {w : World} {b : Nat} {bs : List Int} {e0 e1 : Nat} (h : PipeO w b bs e0 e1) (n : Int) {Q : Value → World → Prop} (hq : Q (.bool (canWP n bs e0 e1)) w) : CallR Tryz.prog 266 [pt b, .int .i64 n] w Q := by
  refine C266 ?_
  unfold L266
  refine knone_to h ⟨false, rfl, condT rfl ?_⟩
  have h' := h
  obtain ⟨cur, hb, fr, hsz, h1, h2, h3, h4, h5, h6, h7, h8, h9, h10⟩ := h'
  refine nnI ⟨by decide, _, Blk.at2 hb h5, condP (fun g => condP (fun g2 => condP (fun g3 => nnI ⟨by decide, _, Blk.at2 hb h4, condI (fun g4 => ?_) (fun g4 => ktakes_to h n ⟨_, rfl, ?_⟩)⟩) (fun g3 => ?_)) (fun g2 => ?_)) (fun g => ?_)⟩
  · simp only [beq_iff_eq] at g4
    have e : canWP n bs e0 e1 = true := by unfold canWP; simp only [decide_eq_true_eq]; omega
    rw [e] at hq; exact hq
  · simp only [beq_eq_false_iff_ne] at g4
    have e : canWP n bs e0 e1 = decide (takesP bs.length n > 0) := by
      unfold canWP; rw [Bool.eq_iff_iff]; simp only [decide_eq_true_eq]; omega
    rw [e] at hq; exact hq
  all_goals
    have e : canWP n bs e0 e1 = false := by unfold canWP; simp only [decide_eq_false_iff_not]; omega
    rw [e] at hq; exact hq

theorem kheld_ok {w : World} {b : Nat} {bs : List Int} {e0 e1 : Nat} (h : PipeO w b bs e0 e1) :
    CallR Tryz.prog 184 [pt b] w fun v w' => ∃ a c, v = .slice a bs.length c ∧ OB w' a bs.length c bs ∧ Fresh w a ∧ Kept No w w' := by
  refine C184 ?_
  unfold L184
  refine knone_to h ⟨false, rfl, condF rfl ?_⟩
  intro w2
  have hk2 : Kept No w w2 := Kept.drew _ _
  have hp : PipeO w2 b bs e0 e1 := h
  have hs : w2.heap.size = w.heap.size := rfl
  clear_value w2
  have h' := hp
  obtain ⟨cur, hb, fr, hsz, h1, h2, h3, h4, h5, h6, h7, h8, h9, h10⟩ := h'
  refine nnI (nnI ⟨_, hb.at h2, (klook_ok hp (Nat.le_refl _)).mono fun v w' ⟨a, c, hv, ho, hf, hk⟩ => ⟨a, _, c, hv, a, c, rfl, ?_, fun x hx => by have := hf x hx; omega, hk2.no hk⟩⟩)
  rw [List.take_length] at ho; exact ho

theorem kread_ok {w : World} {b : Nat} {bs : List Int} {e0 e1 : Nat} (h : PipeO w b bs e0 e1) (n : Int) :
    CallR Tryz.prog 253 [pt b, .int .i64 n] w fun v w' => ∃ a l c, v = .tuple #[.slice a l c, .int .i64 (readP n bs e0 e1).2.1] ∧ OB w' a l c (readP n bs e0 e1).1 ∧ Fresh w a ∧ PipeO w' b (readP n bs e0 e1).2.2 e0 e1 ∧ Kept (· = b) w w' := by
  refine C253 ?_
  unfold L253
  have hbad : ∀ {k : Int}, readP n bs e0 e1 = ([], k, bs) → ∃ a l c, Value.tuple #[.slice none 0 0, .int .i64 k] = .tuple #[.slice a l c, .int .i64 (readP n bs e0 e1).2.1] ∧ OB w a l c (readP n bs e0 e1).1 ∧ Fresh w a ∧ PipeO w b (readP n bs e0 e1).2.2 e0 e1 ∧ Kept (· = b) w w := by
    intro k e; rw [e]; exact ⟨none, 0, 0, rfl, OB.nil w, Fresh.none w, h, Kept.refl _ _⟩
  refine knone_to h ⟨false, rfl, condF rfl (condP (fun g => hbad ?_) fun g => condP (fun g2 => hbad ?_) fun g2 => ?_)⟩
  · unfold readP; rw [if_pos (by omega)]
  · unfold readP; rw [if_pos (by omega)]
  have h' := h
  obtain ⟨cur, hb, fr, hsz, h1, h2, h3, h4, h5, h6, h7, h8, h9, h10⟩ := h'
  refine nnI ⟨by decide, _, Blk.at2 hb h4, condI (fun g3 => hbad ?_) (fun g3 => kcanr_to h ⟨_, rfl, condI (fun g4 => hbad ?_) (fun g4 => ?_)⟩)⟩
  · simp only [beq_iff_eq] at g3
    unfold readP; rw [if_neg (by omega), if_pos (by omega)]
  · simp only [beq_eq_false_iff_ne] at g3
    have g4 := notT g4
    unfold canRP at g4; simp only [decide_eq_false_iff_not] at g4
    have hb0 : bs = [] := List.eq_nil_of_length_eq_zero (by omega)
    unfold readP; rw [if_neg (by omega), if_neg (by omega), if_pos ⟨hb0, by omega⟩]
  · simp only [beq_eq_false_iff_ne] at g3
    have g4 := notF g4
    unfold canRP at g4; simp only [decide_eq_true_eq] at g4
    have e : readP n bs e0 e1 = (bs.take n.toNat, 0, bs.drop n.toNat) := by
      unfold readP; rw [if_neg (by omega), if_neg (by omega), if_neg]
      rintro ⟨rfl, _⟩; simp at g4; omega
    rw [e]
    have hmn : mn n (bs.length : Int) = ((min n.toNat bs.length : Nat) : Int) := by rw [mn_eq]; omega
    refine nnI ⟨_, hb.at h2, nnI ?_⟩
    rw [hmn]
    refine (klook_ok h (Nat.min_le_right _ _)).mono fun v w3 ⟨a, c, hv, ho, hf, hk⟩ => ⟨a, _, c, hv, nnI ((kdrop_ok (h.keep hk (fun e => e)) (Nat.min_le_right _ _)).mono fun v w4 ⟨hv4, hp4, hk4⟩ => ⟨hv4, a, _, c, rfl, ?_, hf, ?_, (hk.mono fun _ _ e => e.elim).trans hk4 fun _ _ e => e⟩)⟩
    · have := ho.keep hk4 (fun x hx e => by have := hf x hx; have := h.lt; omega)
      rw [show bs.take (min n.toNat bs.length) = bs.take n.toNat by rw [List.take_eq_take_iff]; omega] at this
      exact this
    · have e2 : bs.drop (min n.toNat bs.length) = bs.drop n.toNat := by
        rcases Nat.le_total n.toNat bs.length with hle | hle
        · rw [Nat.min_eq_left hle]
        · rw [Nat.min_eq_right hle, List.drop_length, List.drop_of_length_le hle]
      rw [e2] at hp4; exact hp4

/-- Ends of a pipe set anew. -/
theorem PipeC.ends {cur : Array Value} {bs : List Int} {e0 e1 : Nat} (h : PipeC cur bs e0 e1) {n : Nat} (hn : n ≤ 1024) :
    PipeC (cur.setIfInBounds 4099 (.int .i64 (n : Int))) bs n e1 ∧ PipeC (cur.setIfInBounds 4100 (.int .i64 (n : Int))) bs e0 n := by
  obtain ⟨fr, hsz, h1, h2, h3, h4, h5, h6, h7, h8, h9, h10⟩ := h
  refine ⟨⟨fr, by simp [hsz], ?_, ?_, ?_, ?_, ?_, h6, h7, hn, h9, fun i x hx => ?_⟩, ⟨fr, by simp [hsz], ?_, ?_, ?_, ?_, ?_, h6, h7, h8, hn, fun i x hx => ?_⟩⟩
  · rw [Array.getElem?_setIfInBounds_ne (by decide)]; exact h1
  · rw [Array.getElem?_setIfInBounds_ne (by decide)]; exact h2
  · rw [Array.getElem?_setIfInBounds_ne (by decide)]; exact h3
  · rw [Array.getElem?_setIfInBounds_self_of_lt (by omega)]
  · rw [Array.getElem?_setIfInBounds_ne (by decide)]; exact h5
  · have := Nat.mod_lt (fr + i) (show 0 < 4096 by decide)
    rw [Array.getElem?_setIfInBounds_ne (by omega)]; exact h10 i x hx
  · rw [Array.getElem?_setIfInBounds_ne (by decide)]; exact h1
  · rw [Array.getElem?_setIfInBounds_ne (by decide)]; exact h2
  · rw [Array.getElem?_setIfInBounds_ne (by decide)]; exact h3
  · rw [Array.getElem?_setIfInBounds_ne (by decide)]; exact h4
  · rw [Array.getElem?_setIfInBounds_self_of_lt (by omega)]
  · have := Nat.mod_lt (fr + i) (show 0 < 4096 by decide)
    rw [Array.getElem?_setIfInBounds_ne (by omega)]; exact h10 i x hx

theorem kjoin_ok {w : World} {b : Nat} {bs : List Int} {e0 e1 : Nat} (h : PipeO w b bs e0 e1) (wr : Bool) :
    CallR Tryz.prog 120 [pt b, .bool wr] w fun v w' => v = .int .i64 (joinP wr e0 e1).1 ∧ PipeO w' b bs (joinP wr e0 e1).2.1 (joinP wr e0 e1).2.2 ∧ Kept (· = b) w w' := by
  refine C120 ?_
  unfold L120
  refine knone_to h ⟨false, rfl, condF rfl ?_⟩
  intro w2
  have hk2 : Kept (· = b) w w2 := Kept.drew _ _
  have hp : PipeO w2 b bs e0 e1 := h
  clear_value w2
  obtain ⟨cur, hb, hc⟩ := hp
  have hc' := hc
  obtain ⟨fr, hsz, h1, h2, h3, h4, h5, h6, h7, h8, h9, h10⟩ := hc'
  cases wr
  · refine nnI (kside_to ⟨_, rfl, by decide, (e0 : Int), Blk.at2 hb h4, condP (fun g => ?_) (fun g => ?_)⟩)
    · have e : joinP false e0 e1 = (3, e0, e1) := by unfold joinP; rw [if_neg (by decide), if_pos (by omega)]
      rw [e]; exact ⟨rfl, ⟨cur, hb, hc⟩, hk2⟩
    · have e : joinP false e0 e1 = (0, e0 + 1, e1) := by unfold joinP; rw [if_neg (by decide), if_neg (by omega)]
      rw [e]
      intro w4
      have hk4 : Kept (· = b) w w4 := hk2.trans (Kept.drew (· = b) _) fun _ _ e => e
      have hb4 : Blk w4 b cur := hb
      clear_value w4
      refine nnI (nnI (kside_to ⟨_, rfl, by decide, (e0 : Int), Blk.at2 hb4 h4, by unfold inI; omega, by decide, stC_at2 hb4 (by rw [hsz]; decide) fun w5 hb5 hk5 _ => ⟨rfl, ⟨_, hb5, (hc.ends (n := e0 + 1) (by omega)).1⟩, hk4.trans hk5 fun _ _ e => e⟩⟩))
  · refine nnI (kside_to ⟨_, rfl, by decide, (e1 : Int), Blk.at2 hb h5, condP (fun g => ?_) (fun g => ?_)⟩)
    · have e : joinP true e0 e1 = (3, e0, e1) := by unfold joinP; rw [if_pos rfl, if_pos (by omega)]
      rw [e]; exact ⟨rfl, ⟨cur, hb, hc⟩, hk2⟩
    · have e : joinP true e0 e1 = (0, e0, e1 + 1) := by unfold joinP; rw [if_pos rfl, if_neg (by omega)]
      rw [e]
      intro w4
      have hk4 : Kept (· = b) w w4 := hk2.trans (Kept.drew (· = b) _) fun _ _ e => e
      have hb4 : Blk w4 b cur := hb
      clear_value w4
      refine nnI (nnI (kside_to ⟨_, rfl, by decide, (e1 : Int), Blk.at2 hb4 h5, by unfold inI; omega, by decide, stC_at2 hb4 (by rw [hsz]; decide) fun w5 hb5 hk5 _ => ⟨rfl, ⟨_, hb5, (hc.ends (n := e1 + 1) (by omega)).2⟩, hk4.trans hk5 fun _ _ e => e⟩⟩))

theorem kleave_ok {w : World} {b : Nat} {bs : List Int} {e0 e1 : Nat} (h : PipeO w b bs e0 e1) (wr : Bool) :
    CallR Tryz.prog 264 [pt b, .bool wr] w fun v w' => v = .int .i64 (leaveP wr e0 e1).1 ∧ PipeO w' b bs (leaveP wr e0 e1).2.1 (leaveP wr e0 e1).2.2 ∧ Kept (· = b) w w' := by
  refine C264 ?_
  unfold L264
  refine knone_to h ⟨false, rfl, condF rfl ?_⟩
  intro w2
  have hk2 : Kept (· = b) w w2 := Kept.drew _ _
  have hp : PipeO w2 b bs e0 e1 := h
  clear_value w2
  obtain ⟨cur, hb, hc⟩ := hp
  have hc' := hc
  obtain ⟨fr, hsz, h1, h2, h3, h4, h5, h6, h7, h8, h9, h10⟩ := hc'
  cases wr
  · refine nnI (kside_to ⟨_, rfl, by decide, (e0 : Int), Blk.at2 hb h4, condI (fun g => ?_) (fun g => ?_)⟩)
    · simp only [beq_iff_eq] at g
      have e : leaveP false e0 e1 = (51, e0, e1) := by unfold leaveP; rw [if_neg (by decide), if_pos (by omega)]
      rw [e]; exact ⟨rfl, ⟨cur, hb, hc⟩, hk2⟩
    · simp only [beq_eq_false_iff_ne] at g
      have e : leaveP false e0 e1 = (0, e0 - 1, e1) := by unfold leaveP; rw [if_neg (by decide), if_neg (by omega)]
      rw [e]
      have e2 : ((e0 : Int) - 1) = ((e0 - 1 : Nat) : Int) := by omega
      intro w4
      have hk4 : Kept (· = b) w w4 := hk2.trans (Kept.drew (· = b) _) fun _ _ e => e
      have hb4 : Blk w4 b cur := hb
      clear_value w4
      refine nnI (nnI (kside_to ⟨_, rfl, by decide, (e0 : Int), Blk.at2 hb4 h4, by unfold inI; omega, by decide, stC_at2 hb4 (by rw [hsz]; decide) fun w5 hb5 hk5 _ => ⟨rfl, ⟨_, hb5, by rw [e2]; exact (hc.ends (n := e0 - 1) (by omega)).1⟩, hk4.trans hk5 fun _ _ e => e⟩⟩))
  · refine nnI (kside_to ⟨_, rfl, by decide, (e1 : Int), Blk.at2 hb h5, condI (fun g => ?_) (fun g => ?_)⟩)
    · simp only [beq_iff_eq] at g
      have e : leaveP true e0 e1 = (51, e0, e1) := by unfold leaveP; rw [if_pos rfl, if_pos (by omega)]
      rw [e]; exact ⟨rfl, ⟨cur, hb, hc⟩, hk2⟩
    · simp only [beq_eq_false_iff_ne] at g
      have e : leaveP true e0 e1 = (0, e0, e1 - 1) := by unfold leaveP; rw [if_pos rfl, if_neg (by omega)]
      rw [e]
      have e2 : ((e1 : Int) - 1) = ((e1 - 1 : Nat) : Int) := by omega
      intro w4
      have hk4 : Kept (· = b) w w4 := hk2.trans (Kept.drew (· = b) _) fun _ _ e => e
      have hb4 : Blk w4 b cur := hb
      clear_value w4
      refine nnI (nnI (kside_to ⟨_, rfl, by decide, (e1 : Int), Blk.at2 hb4 h5, by unfold inI; omega, by decide, stC_at2 hb4 (by rw [hsz]; decide) fun w5 hb5 hk5 _ => ⟨rfl, ⟨_, hb5, by rw [e2]; exact (hc.ends (n := e1 - 1) (by omega)).2⟩, hk4.trans hk5 fun _ _ e => e⟩⟩))

theorem kwrite_ok {w : World} {b : Nat} {bs : List Int} {e0 e1 : Nat} (h : PipeO w b bs e0 e1) {a : Option Addr} {l c : Nat} {ds : List Int} (hd : RdB w a l c ds) (hab : ds ≠ [] → ¬ inA a b) (hcl : l ≤ c) (most : Int) :
    CallR Tryz.prog 254 [pt b, .slice a l c, .int .i64 most] w fun v w' => v = .tuple #[.int .i64 (writeP ds most bs e0 e1).1, .int .i64 (writeP ds most bs e0 e1).2.1] ∧ PipeO w' b (writeP ds most bs e0 e1).2.2 e0 e1 ∧ Kept (· = b) w w' := by
  refine C254 ?_
  unfold L254
  have hlen := hd.len
  have hbl := h.len
  have hbad : ∀ {k : Int}, writeP ds most bs e0 e1 = (0, k, bs) → Value.tuple #[.int .i64 0, .int .i64 k] = .tuple #[.int .i64 (writeP ds most bs e0 e1).1, .int .i64 (writeP ds most bs e0 e1).2.1] ∧ PipeO w b (writeP ds most bs e0 e1).2.2 e0 e1 ∧ Kept (· = b) w w := by
    intro k e; rw [e]; exact ⟨rfl, h, Kept.refl _ _⟩
  refine knone_to h ⟨false, rfl, condF rfl (condP (fun g => hbad ?_) fun g => condP (fun g2 => hbad ?_) fun g2 => condP (fun g3 => hbad ?_) fun g3 => ?_)⟩
  · unfold writeP; rw [if_pos (by omega)]
  · unfold writeP; rw [if_neg (by omega), if_pos (by omega)]
  · unfold writeP; rw [if_neg (by omega), if_pos (by omega)]
  have h' := h
  obtain ⟨cur, hb, fr, hsz, h1, h2, h3, h4, h5, h6, h7, h8, h9, h10⟩ := h'
  refine nnI ⟨by decide, _, Blk.at2 hb h5, condI (fun g4 => hbad ?_) (fun g4 => nnI ⟨by decide, _, Blk.at2 hb h4, condI (fun g5 => hbad ?_) (fun g5 => condI (fun g6 => hbad ?_) (fun g6 => ktakes_to h _ ⟨_, rfl, condI (fun g7 => hbad ?_) (fun g7 => ?_)⟩))⟩)⟩
  · simp only [beq_iff_eq] at g4
    unfold writeP; rw [if_neg (by omega), if_neg (by omega), if_pos (by omega)]
  all_goals simp only [beq_eq_false_iff_ne] at g4
  · simp only [beq_iff_eq] at g5
    unfold writeP; rw [if_neg (by omega), if_neg (by omega), if_neg (by omega), if_pos (by omega)]
  all_goals simp only [beq_eq_false_iff_ne] at g5
  · simp only [beq_iff_eq] at g6
    have : ds = [] := List.eq_nil_of_length_eq_zero (by omega)
    unfold writeP; rw [if_neg (by omega), if_neg (by omega), if_neg (by omega), if_neg (by omega), if_pos this]
  all_goals simp only [beq_eq_false_iff_ne] at g6
  all_goals have hne : ds ≠ [] := by rintro rfl; simp at hlen; omega
  · simp only [beq_iff_eq] at g7
    unfold writeP; rw [if_neg (by omega), if_neg (by omega), if_neg (by omega), if_neg (by omega), if_neg hne, if_pos (by rw [hlen]; exact g7)]
  simp only [beq_eq_false_iff_ne] at g7
  have e : writeP ds most bs e0 e1 = (wtk l most bs.length, 0, bs ++ ds.take (wtk l most bs.length).toNat) := by
    unfold writeP; rw [if_neg (by omega), if_neg (by omega), if_neg (by omega), if_neg (by omega), if_neg hne, if_neg (by rw [hlen]; exact g7), hlen]
  rw [e]
  have ht0 : 0 ≤ takesP bs.length l ∧ takesP bs.length l ≤ l ∧ (bs.length : Int) + takesP bs.length l ≤ 4096 := by unfold takesP; split <;> omega
  have hfin : ∀ {k : Int}, k = wtk l most bs.length → 0 ≤ k → k ≤ l → (bs.length : Int) + k ≤ 4096 → (0 ≤ k ∧ k ≤ (c : Int)) ∧ CallR Tryz.prog 257 [pt b, .slice a k.toNat c] w.drew fun r13 w4 => r13 = .tuple #[] ∧ (Value.tuple #[.int .i64 k, .int .i64 0] = .tuple #[.int .i64 (wtk l most bs.length), .int .i64 0] ∧ PipeO w4 b (bs ++ ds.take (wtk l most bs.length).toNat) e0 e1 ∧ Kept (· = b) w w4) := by
    intro k hk hk0 hkl hkr
    subst hk
    refine ⟨⟨hk0, by omega⟩, ?_⟩
    have hp : PipeO w.drew b bs e0 e1 := h
    have hd' : RdB w.drew a (wtk l most bs.length).toNat c (ds.take (wtk l most bs.length).toNat) := RdB.to (w := w.drew) (a := a) (l := l) (c := c) (bs := ds) (RdS.drew hd) (wtk l most bs.length).toNat (by omega)
    refine (kput_ok hp hd' (fun _ => hab hne) (by omega)).mono fun v w' ⟨hv, hp', hk'⟩ => ⟨hv, rfl, hp', (Kept.drew (· = b) w).trans hk' fun _ _ e => e⟩
  refine condP (fun g8 => nnI (hfin ?_ ?_ ?_ ?_)) (fun g8 => nnI (hfin ?_ ?_ ?_ ?_))
  · unfold wtk; rw [if_pos (by omega), mn_eq]
  · rw [mn_eq]; omega
  · rw [mn_eq]; omega
  · rw [mn_eq]; omega
  · unfold wtk; rw [if_neg (by omega)]
  · omega
  · omega
  · omega

theorem writeP_is {ds : List Int} {most : Int} {bs : List Int} {e0 e1 : Nat} (hb : bs.length ≤ 4096) :
    0 ≤ (writeP ds most bs e0 e1).1 ∧ (writeP ds most bs e0 e1).1 ≤ ds.length ∧ (writeP ds most bs e0 e1).2.2 = bs ++ ds.take (writeP ds most bs e0 e1).1.toNat ∧ (bs.length : Int) + (writeP ds most bs e0 e1).1 ≤ 4096 := by
  have ht0 : 0 ≤ takesP bs.length ds.length ∧ takesP bs.length ds.length ≤ ds.length ∧ (bs.length : Int) + takesP bs.length ds.length ≤ 4096 := by unfold takesP; split <;> omega
  unfold writeP
  split
  · simp; omega
  split
  · simp; omega
  split
  · simp; omega
  split
  · simp; omega
  split
  · simp; omega
  split
  · simp; omega
  · refine ⟨?_, ?_, rfl, ?_⟩ <;> (show _ ≤ _; simp only [wtk]; split <;> omega)

end Go.Proofs.YtpoaacnnhgebfaaGreat
