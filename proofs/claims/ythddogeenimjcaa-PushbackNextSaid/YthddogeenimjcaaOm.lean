/-
  A mode's text: what the program's reader and the page's reader of it do. Conditions: as each says.
-/
import Derived.Test.YthddogeenimjcaaBas
import Derived.Test.YthddogeenimjcaaOmL
import Derived.Laws.StandIn
import Derived.Laws.Strings
set_option linter.unusedVariables false
namespace Go.Proofs.Ythddogeenimjcaa
open Go.Lw

theorem oneF {f : Fn} {a b : Array Value} {K : Prop} (h : K) : oneC (.func f a b) K := h

structure Md where
  r : Bool
  w : Bool
  a : Bool
  c : Bool
  t : Bool
  x : Bool
  b : Bool
  k : Bool
  deriving DecidableEq

def Md.no : Md := ⟨false, false, false, false, false, false, false, false⟩
def Md.cs (m : Md) : Array Value := #[.bool m.r, .bool m.w, .bool m.a, .bool m.c, .bool m.t, .bool m.x, .bool m.b, .bool m.k]

theorem set8 {cur : Array Value} (hs : cur.size = 8) (v0 v1 v2 v3 v4 v5 v6 v7 : Value) :
    (((((((cur.setIfInBounds 0 v0).setIfInBounds 1 v1).setIfInBounds 2 v2).setIfInBounds 3 v3).setIfInBounds 4 v4).setIfInBounds 5 v5).setIfInBounds 6 v6).setIfInBounds 7 v7 = #[v0, v1, v2, v3, v4, v5, v6, v7] := by
  obtain ⟨l⟩ := cur
  match l, hs with
  | [a0, a1, a2, a3, a4, a5, a6, a7], _ => simp

theorem st8 {w : World} {g : Nat} {cur : Array Value} (h : Blk w g cur) (hs : cur.size = 8) {v0 v1 v2 v3 v4 v5 v6 v7 : Value} {K : World → Prop}
    (hk : ∀ w', Blk w' g #[v0, v1, v2, v3, v4, v5, v6, v7] → Kept (· = g) w w' → w'.heap.size = w.heap.size → K w') :
    stC (Addr.mk g 0 none) v0 w fun w1 => stC (Addr.mk g 1 none) v1 w1 fun w2 => stC (Addr.mk g 2 none) v2 w2 fun w3 => stC (Addr.mk g 3 none) v3 w3 fun w4 =>
      stC (Addr.mk g 4 none) v4 w4 fun w5 => stC (Addr.mk g 5 none) v5 w5 fun w6 => stC (Addr.mk g 6 none) v6 w6 fun w7 => stC (Addr.mk g 7 none) v7 w7 K := by
  have z : ∀ {c : Array Value} (i : Nat) (v : Value), c.size = 8 → (c.setIfInBounds i v).size = 8 := fun i v hc => by rw [Array.size_setIfInBounds]; exact hc
  refine stC_blk h (by omega) fun w1 h1 k1 s1 => ?_
  have z1 := z 0 v0 hs
  refine stC_blk h1 (by omega) fun w2 h2 k2 s2 => ?_
  have z2 := z 1 v1 z1
  refine stC_blk h2 (by omega) fun w3 h3 k3 s3 => ?_
  have z3 := z 2 v2 z2
  refine stC_blk h3 (by omega) fun w4 h4 k4 s4 => ?_
  have z4 := z 3 v3 z3
  refine stC_blk h4 (by omega) fun w5 h5 k5 s5 => ?_
  have z5 := z 4 v4 z4
  refine stC_blk h5 (by omega) fun w6 h6 k6 s6 => ?_
  have z6 := z 5 v5 z5
  refine stC_blk h6 (by omega) fun w7 h7 k7 s7 => ?_
  have z7 := z 6 v6 z6
  refine stC_blk h7 (by omega) fun w8 h8 k8 s8 => ?_
  rw [set8 hs] at h8
  have k08 : Kept (· = g) w w8 := ((((((k1.trans k2 fun _ _ e => e).trans k3 fun _ _ e => e).trans k4 fun _ _ e => e).trans k5 fun _ _ e => e).trans k6 fun _ _ e => e).trans k7 fun _ _ e => e).trans k8 fun _ _ e => e
  exact hk w8 h8 k08 (by omega)

theorem ld8 {w : World} {g : Nat} {m : Md} (h : Blk w g m.cs) {K : Bool → Bool → Bool → Bool → Bool → Bool → Bool → Bool → Prop} (hk : K m.r m.w m.a m.c m.t m.x m.b m.k) :
    ∃ (b0 b1 b2 b3 b4 b5 b6 b7 : Bool), w.cell? (Addr.mk g 0 none) = some (.bool b0) ∧ w.cell? (Addr.mk g 1 none) = some (.bool b1) ∧ w.cell? (Addr.mk g 2 none) = some (.bool b2) ∧ w.cell? (Addr.mk g 3 none) = some (.bool b3) ∧
      w.cell? (Addr.mk g 4 none) = some (.bool b4) ∧ w.cell? (Addr.mk g 5 none) = some (.bool b5) ∧ w.cell? (Addr.mk g 6 none) = some (.bool b6) ∧ w.cell? (Addr.mk g 7 none) = some (.bool b7) ∧ K b0 b1 b2 b3 b4 b5 b6 b7 :=
  ⟨_, _, _, _, _, _, _, _, (h.cell 0).trans rfl, (h.cell 1).trans rfl, (h.cell 2).trans rfl, (h.cell 3).trans rfl, (h.cell 4).trans rfl, (h.cell 5).trans rfl, (h.cell 6).trans rfl, (h.cell 7).trans rfl, hk⟩

/-! ## What a text says -/

def firstM (c : Int) : Option Md :=
  if c = 114 then some { Md.no with r := true } else if c = 119 then some { Md.no with w := true, c := true, t := true } else if c = 97 then some { Md.no with w := true, a := true, c := true } else none

def setM (m : Md) (c f : Int) : Option Md :=
  if c = 43 then some { m with r := true, w := true } else if c = 98 then some { m with b := true } else if c = 120 ∧ f = 119 then some { m with x := true } else if c = 101 then some { m with k := true } else none

def dup (s : ByteArray) (i : Nat) : Prop := ∃ k : Nat, 1 ≤ k ∧ k < i ∧ byteAt s k = byteAt s i

instance (s : ByteArray) (i : Nat) : Decidable (dup s i) :=
  decidable_of_iff ((List.range i).any (fun k => decide (1 ≤ k) && decide (byteAt s k = byteAt s i)) = true) (by
    rw [List.any_eq_true]
    unfold dup
    constructor
    · rintro ⟨k, hk, h⟩
      simp only [Bool.and_eq_true, decide_eq_true_eq] at h
      exact ⟨k, h.1, List.mem_range.1 hk, h.2⟩
    · rintro ⟨k, h1, h2, h3⟩
      exact ⟨k, List.mem_range.2 h2, by simp [h1, h3]⟩)

def goM (s : ByteArray) : Nat → Nat → Md → Md × Int × Int
  | 0, _, m => (m, 0, (s.size : Int))
  | n + 1, i, m => if dup s i then (Md.no, 91, (i : Int)) else
    match setM m (byteAt s i) (byteAt s 0) with
    | some m' => goM s n (i + 1) m'
    | none => (Md.no, 91, (i : Int))

def parseM (s : ByteArray) : Md × Int × Int :=
  if s.size = 0 then (Md.no, 91, 0) else
  match firstM (byteAt s 0) with
  | some m => goM s (s.size - 1) 1 m
  | none => (Md.no, 91, 0)

def parsed (s : ByteArray) : Value := .tuple #[.agg (parseM s).1.cs, .int .i64 (parseM s).2.1, .int .i64 (parseM s).2.2]

theorem empty_iff {s : ByteArray} : (ByteArray.toList s == ByteArray.toList (ByteArray.mk #[])) = decide (s.size = 0) := by
  rw [ByteArray.toList_eq, ByteArray.toList_eq]
  show (s.data.toList == []) = _
  cases h : s.data.toList with
  | nil =>
    have : s.size = 0 := by show s.data.size = 0; rw [← Array.length_toList, h]; rfl
    simp [this]
  | cons x l =>
    have : s.size ≠ 0 := by show s.data.size ≠ 0; rw [← Array.length_toList, h]; simp
    simp [this]

theorem ofirst_ok {w : World} (c : Int) : CallR Try.prog 52 [.int .u8 c] w fun v w' => Kept No w w' ∧ v = (match firstM c with | some m => .tuple #[.agg m.cs, .bool true] | none => .tuple #[.agg Md.no.cs, .bool false]) := by
  refine C52 ?_
  unfold L52
  intro w1
  have hb : Blk w1 w.heap.size Md.no.cs := Blk.alloc _ _ _
  have hk : Kept No w w1 := Kept.alloc _ _ _
  clear_value w1
  have fin : ∀ w2, Kept (· = w.heap.size) w1 w2 → Kept No w w2 := fun w2 h => hk.fresh h (fun x e => by rw [e]; exact Nat.le_refl _)
  refine condI (fun h1 => ?_) (fun h1 => condI (fun h2 => ?_) (fun h2 => condI (fun h3 => ?_) (fun h3 => ?_)))
  · have e1 : c = 114 := by simpa using h1
    refine st8 hb rfl fun w2 hb2 hk2 _ => ld8 (m := { Md.no with r := true }) hb2 ⟨fin w2 hk2, ?_⟩
    subst e1; rfl
  · have e1 : c = 119 := by simpa using h2
    refine st8 hb rfl fun w2 hb2 hk2 _ => ld8 (m := { Md.no with w := true, c := true, t := true }) hb2 ⟨fin w2 hk2, ?_⟩
    subst e1; rfl
  · have e1 : c = 97 := by simpa using h3
    refine st8 hb rfl fun w2 hb2 hk2 _ => ld8 (m := { Md.no with w := true, a := true, c := true }) hb2 ⟨fin w2 hk2, ?_⟩
    subst e1; rfl
  · have e1 : ¬ c = 114 := by simpa using h1
    have e2 : ¬ c = 119 := by simpa using h2
    have e3 : ¬ c = 97 := by simpa using h3
    refine st8 hb rfl fun w2 hb2 hk2 _ => ld8 (m := Md.no) hb2 ⟨fin w2 hk2, ?_⟩
    have : firstM c = none := by unfold firstM; rw [if_neg e1, if_neg e2, if_neg e3]
    rw [this]; rfl

theorem oix_ok {w : World} (s : ByteArray) (c : Int) : CallR Try.prog 53 [.string s, .int .u8 c] w fun v w' => v = .int .i64 (firstIdx s c.toNat.toUInt8) ∧ w' = w := by
  refine C53 ?_
  unfold L53
  refine C56 ?_
  unfold L56
  refine ⟨_, w, ?_, _, rfl, rfl, rfl⟩
  rw [run_callFunc_indexByte (fn := Try.f57) Try.func57 (by kernel_rfl) (by kernel_rfl) (by kernel_rfl) (by kernel_rfl), run_indexByte_string]
  rfl

theorem byteAt_range (s : ByteArray) (i : Int) : 0 ≤ byteAt s i ∧ byteAt s i ≤ 255 := by
  unfold byteAt
  have := ((s.data.toList[i.toNat]?).getD 0).toNat_lt
  omega

theorem ix_dup (s : ByteArray) (i : Nat) (hi : i ≤ s.size) : decide (firstIdx (s.extract 1 i) (byteAt s i).toNat.toUInt8 < 0) = true ↔ ¬ dup s i := by
  have hsz : (s.extract 1 i).size = i - 1 := by simp [ByteArray.size_extract]; omega
  have hget : ∀ j, j < i - 1 → (s.extract 1 i)[j]! = (s.data.toList[j + 1]?).getD 0 := by
    intro j hj
    have h1 : j + 1 < s.data.size := by show j + 1 < s.size; omega
    have h2 : j < (s.extract 1 i).size := by omega
    rw [getElem!_pos _ j h2, ByteArray.getElem_extract]
    rw [Array.getElem?_toList, Array.getElem?_eq_getElem h1]
    show s.data[1 + j] = _
    simp [Nat.add_comm]
  have hb : (byteAt s i).toNat.toUInt8 = (s.data.toList[i]?).getD 0 := by
    unfold byteAt
    simp
  rw [hb]
  unfold firstIdx dup
  rw [hsz]
  constructor
  · intro h ⟨k, h1, h2, h3⟩
    split at h
    · simp at h; omega
    · rename_i hn
      rw [List.find?_eq_none] at hn
      have := hn (k - 1) (List.mem_range.2 (by omega))
      rw [hget (k - 1) (by omega)] at this
      apply this
      have hk : k - 1 + 1 = k := by omega
      rw [hk]
      unfold byteAt at h3
      simp only [Int.toNat_natCast] at h3
      have : (s.data.toList[k]?).getD 0 = (s.data.toList[i]?).getD 0 := UInt8.toNat_inj.1 (by omega)
      rw [this]; exact beq_self_eq_true _
  · intro h
    split
    · rename_i j hj
      exfalso
      have hm := List.mem_range.1 (List.mem_of_find?_eq_some hj)
      have hp := List.find?_some hj
      rw [hget j hm] at hp
      have hp' : (s.data.toList[j + 1]?).getD 0 = (s.data.toList[i]?).getD 0 := by simpa using hp
      apply h
      refine ⟨j + 1, by omega, by omega, ?_⟩
      unfold byteAt
      simp only [Int.toNat_natCast]
      rw [hp']
    · simp

def lc (j : Nat) : Int := match j with | 0 => 43 | 1 => 98 | 2 => 120 | _ => 101
def hasf (j : Nat) : Nat := match j with | 0 => 44 | 1 => 46 | 2 => 48 | _ => 50
def setf (j : Nat) : Nat := match j with | 0 => 45 | 1 => 47 | 2 => 49 | _ => 51
def setJ (j : Nat) (m : Md) : Md := match j with | 0 => { m with r := true, w := true } | 1 => { m with b := true } | 2 => { m with x := true } | _ => { m with k := true }
def hasJ (j : Nat) (m : Md) : Bool := match j with | 0 => m.r && m.w | 1 => m.b | 2 => m.x | _ => m.k

def lets : Array Value := #[.int .u8 43, .func (.func 44) #[] #[], .func (.func 45) #[] #[], .int .u8 98, .func (.func 46) #[] #[], .func (.func 47) #[] #[], .int .u8 120, .func (.func 48) #[] #[], .func (.func 49) #[] #[], .int .u8 101, .func (.func 50) #[] #[], .func (.func 51) #[] #[]]

theorem lets_at {j : Nat} (h : j < 4) : lets[j * 3]? = some (.int .u8 (lc j)) ∧ lets[j * 3 + 1]? = some (.func (.func (hasf j)) #[] #[]) ∧ lets[j * 3 + 2]? = some (.func (.func (setf j)) #[] #[]) := by
  match j, h with
  | 0, _ => exact ⟨rfl, rfl, rfl⟩
  | 1, _ => exact ⟨rfl, rfl, rfl⟩
  | 2, _ => exact ⟨rfl, rfl, rfl⟩
  | 3, _ => exact ⟨rfl, rfl, rfl⟩

theorem letters_to {w : World} {Q : Value → World → Prop} (h : ∀ w', Blk w' w.heap.size lets → Kept No w w' → Q (.slice (some ⟨w.heap.size, 0, none⟩) 4 4) w') : CallR Try.prog 40 [] w Q := by
  refine C40 ?_
  unfold L40
  exact h _ (Blk.alloc _ _ _) (Kept.alloc _ _ _)

theorem set_ok {w : World} {g : Nat} {m : Md} (hb : Blk w g m.cs) {j : Nat} (hj : j < 4) : CallR Try.prog (setf j) [.pointer (some ⟨g, 0, none⟩)] w fun v w' => v = .tuple #[] ∧ Blk w' g (setJ j m).cs ∧ Kept (· = g) w w' := by
  match j, hj with
  | 0, _ =>
    refine C45 ?_
    unfold L45
    exact nnI (stC_blk hb (by simp [Md.cs]) fun w1 hb1 hk1 _ => nnI (stC_at hb1 (by simp [Md.cs]) fun w2 hb2 hk2 _ => ⟨rfl, hb2, hk1.trans hk2 fun _ _ e => e⟩))
  | 1, _ =>
    refine C47 ?_
    unfold L47
    exact nnI (stC_at hb (by simp [Md.cs]) fun w1 hb1 hk1 _ => ⟨rfl, hb1, hk1⟩)
  | 2, _ =>
    refine C49 ?_
    unfold L49
    exact nnI (stC_at hb (by simp [Md.cs]) fun w1 hb1 hk1 _ => ⟨rfl, hb1, hk1⟩)
  | 3, _ =>
    refine C51 ?_
    unfold L51
    exact nnI (stC_at hb (by simp [Md.cs]) fun w1 hb1 hk1 _ => ⟨rfl, hb1, hk1⟩)

theorem has_ok {w : World} (m : Md) {j : Nat} (hj : j < 4) : CallR Try.prog (hasf j) [.agg m.cs] w fun v w' => v = .bool (hasJ j m) ∧ Kept No w w' := by
  match j, hj with
  | 0, _ =>
    refine C44 ?_
    unfold L44
    intro w1
    have hb : Blk w1 w.heap.size m.cs := Blk.alloc _ _ _
    refine ⟨_, (hb.cell 0).trans rfl, ?_⟩
    cases h : m.r with
    | true => exact ⟨_, (hb.cell 1).trans rfl, by simp [hasJ, h], Kept.alloc _ _ _⟩
    | false => exact ⟨by simp [hasJ, h], Kept.alloc _ _ _⟩
  | 1, _ =>
    refine C46 ?_
    unfold L46
    intro w1
    have hb : Blk w1 w.heap.size m.cs := Blk.alloc _ _ _
    exact ⟨_, (hb.cell 6).trans rfl, rfl, Kept.alloc _ _ _⟩
  | 2, _ =>
    refine C48 ?_
    unfold L48
    intro w1
    have hb : Blk w1 w.heap.size m.cs := Blk.alloc _ _ _
    exact ⟨_, (hb.cell 5).trans rfl, rfl, Kept.alloc _ _ _⟩
  | 3, _ =>
    refine C50 ?_
    unfold L50
    intro w1
    have hb : Blk w1 w.heap.size m.cs := Blk.alloc _ _ _
    exact ⟨_, (hb.cell 7).trans rfl, rfl, Kept.alloc _ _ _⟩

theorem setM_lc (m : Md) (f : Int) {j : Nat} (hj : j < 4) (hx : lc j ≠ 120 ∨ f = 119) : setM m (lc j) f = some (setJ j m) := by
  match j, hj with
  | 0, _ => rfl
  | 1, _ => rfl
  | 2, _ =>
    have : f = 119 := hx.elim (fun h => absurd rfl h) id
    subst this; rfl
  | 3, _ => rfl

theorem setM_none (m : Md) (c f : Int) (h : ∀ j, j < 4 → ¬ (lc j = c ∧ (lc j ≠ 120 ∨ f = 119))) : setM m c f = none := by
  have h0 := h 0 (by decide)
  have h1 := h 1 (by decide)
  have h2 := h 2 (by decide)
  have h3 := h 3 (by decide)
  simp only [lc] at h0 h1 h2 h3
  unfold setM
  rw [if_neg (by intro e; exact h0 ⟨e.symm, .inl (by decide)⟩), if_neg (by intro e; exact h1 ⟨e.symm, .inl (by decide)⟩), if_neg (by intro e; exact h2 ⟨e.1.symm, .inr e.2⟩), if_neg (by intro e; exact h3 ⟨e.symm, .inl (by decide)⟩)]

theorem goM_end {s : ByteArray} {i : Nat} {m : Md} (h : s.size - i = 0) : goM s (s.size - i) i m = (m, 0, (s.size : Int)) := by rw [h]; rfl
theorem goM_bad {s : ByteArray} {i : Nat} {m : Md} (hi : i < s.size) (h : dup s i ∨ setM m (byteAt s i) (byteAt s 0) = none) : goM s (s.size - i) i m = (Md.no, 91, (i : Int)) := by
  obtain ⟨n, hn⟩ : ∃ n, s.size - i = n + 1 := ⟨s.size - i - 1, by omega⟩
  rw [hn]
  unfold goM
  by_cases hd : dup s i
  · rw [if_pos hd]
  · rw [if_neg hd]
    rcases h with h | h
    · exact absurd h hd
    · rw [h]
theorem goM_ok {s : ByteArray} {i : Nat} {m m' : Md} (hi : i < s.size) (hd : ¬ dup s i) (h : setM m (byteAt s i) (byteAt s 0) = some m') : goM s (s.size - i) i m = goM s (s.size - (i + 1)) (i + 1) m' := by
  obtain ⟨n, hn⟩ : ∃ n, s.size - i = n + 1 := ⟨s.size - i - 1, by omega⟩
  have hn' : s.size - (i + 1) = n := by omega
  rw [hn, hn']
  conv => lhs; unfold goM
  rw [if_neg hd, h]

theorem body_set {j : Nat} (hj : j < 4) : bodyB Try.prog (setf j) = true := by
  have h0 : bodyB Try.prog 45 = true := by kernel_rfl
  have h1 : bodyB Try.prog 47 = true := by kernel_rfl
  have h2 : bodyB Try.prog 49 = true := by kernel_rfl
  have h3 : bodyB Try.prog 51 = true := by kernel_rfl
  match j, hj with
  | 0, _ => exact h0
  | 1, _ => exact h1
  | 2, _ => exact h2
  | 3, _ => exact h3

theorem body_has {j : Nat} (hj : j < 4) : bodyB Try.prog (hasf j) = true := by
  have h0 : bodyB Try.prog 44 = true := by kernel_rfl
  have h1 : bodyB Try.prog 46 = true := by kernel_rfl
  have h2 : bodyB Try.prog 48 = true := by kernel_rfl
  have h3 : bodyB Try.prog 50 = true := by kernel_rfl
  match j, hj with
  | 0, _ => exact h0
  | 1, _ => exact h1
  | 2, _ => exact h2
  | 3, _ => exact h3

set_option maxHeartbeats 1000000 in
theorem oparse_ok {w : World} (s : ByteArray) (hs : s.size ≤ 140737488351232) : CallR Try.prog 41 [.string s] w fun v w' => v = parsed s ∧ Kept No w w' := by
  refine C41 ?_
  unfold L41
  intro w1
  have hb1 : Blk w1 w.heap.size Md.no.cs := Blk.alloc _ _ _
  have hk1 : Kept No w w1 := Kept.alloc _ _ _
  clear_value w1
  rw [empty_iff]
  have hg : ∀ {w2 w3 : World}, Kept No w w2 → Kept (· = w.heap.size) w2 w3 → Kept No w w3 := fun h k => h.fresh k (fun x e => by rw [e]; exact Nat.le_refl _)
  refine condP (fun h0 => ?_) (fun h0 => ?_)
  · refine st8 hb1 rfl fun w2 hb2 hk2 _ => ld8 (m := Md.no) hb2 ⟨?_, hg hk1 hk2⟩
    unfold parsed parseM; rw [if_pos h0]; rfl
  refine ⟨⟨by omega, by omega⟩, (ofirst_ok (byteAt s 0)).mono fun v w2 ⟨hk2, hv⟩ => ?_⟩
  have hb2 := hb1.keep hk2 (fun e => e)
  have hk02 := hk1.no hk2
  cases hf : firstM (byteAt s 0) with
  | none =>
    rw [hf] at hv
    refine ⟨_, _, _, _, _, _, _, _, _, hv, ?_⟩
    intro w11
    have hb11 := hb2.keep (Kept.alloc No w2 (Obj.cells #[.bool false, .bool false, .bool false, .bool false, .bool false, .bool false, .bool false, .bool false] 48)) (fun e => e)
    have hn11 : Blk w11 w2.heap.size Md.no.cs := Blk.alloc _ _ _
    have hk11 : Kept No w2 w11 := Kept.alloc _ _ _
    have hb11 : Blk w11 w.heap.size Md.no.cs := hb11
    clear_value w11
    have hne : w.heap.size ≠ w2.heap.size := by have := hb2.lt; omega
    refine st8 hn11 rfl fun w12 hn12 hk12 _ => condT rfl (st8 (hb11.keep hk12 hne) rfl fun w13 hb13 hk13 _ => ld8 (m := Md.no) hb13 ⟨?_, ?_⟩)
    · unfold parsed parseM; rw [if_neg h0, hf]; rfl
    · exact hg ((hk02.no hk11).fresh hk12 (fun x e => by rw [e]; exact hk02.size)) hk13
  | some m0 =>
    rw [hf] at hv
    refine ⟨_, _, _, _, _, _, _, _, _, hv, ?_⟩
    intro w11
    have hb11 : Blk w11 w.heap.size Md.no.cs := hb2.keep (Kept.alloc No w2 (Obj.cells #[.bool false, .bool false, .bool false, .bool false, .bool false, .bool false, .bool false, .bool false] 48)) (fun e => e)
    have hn11 : Blk w11 w2.heap.size Md.no.cs := Blk.alloc _ _ _
    have hk11 : Kept No w2 w11 := Kept.alloc _ _ _
    clear_value w11
    have hne : w.heap.size ≠ w2.heap.size := by have := hb2.lt; omega
    have hmW : ∀ x, x = w2.heap.size → w.heap.size ≤ x := fun x e => by rw [e]; exact hk02.size
    refine st8 hn11 rfl fun w12 hn12 hk12 _ => condF rfl ?_
    have hpm : parseM s = goM s (s.size - 1) 1 m0 := by unfold parseM; rw [if_neg h0, hf]
    refine ⟨fun vs w' => ∃ (i : Nat) (m : Md), vs = [.int .i64 (i : Int)] ∧ 1 ≤ i ∧ i ≤ s.size ∧ Blk w' w.heap.size Md.no.cs ∧ Blk w' w2.heap.size m.cs ∧ parseM s = goM s (s.size - i) i m ∧ Kept No w w',
      fun vs _ => match vs with | [.int _ i] => (s.size - i).toNat | _ => 0, ⟨1, m0, rfl, Nat.le_refl _, by omega, hb11.keep hk12 hne, hn12, hpm, (hk02.no hk11).fresh hk12 hmW⟩, ?_⟩
    clear hn12 hk12 hn11 hk11 hb11
    intro _ n30 w28 hI
    obtain ⟨i, m, hvs, hi1, hi2, hg1, hg2, hgo, hk28⟩ := hI
    simp only [List.cons.injEq, Value.int.injEq, true_and, and_true] at hvs
    subst hvs
    refine condP (fun hlt => ?_) (fun hge => ?_)
    · have his : i < s.size := by omega
      refine letters_to fun w29 hl29 hk29 => ⟨_, _, _, rfl, ?_⟩
      have hszl : w28.heap.size ≠ w.heap.size := by have := hg1.lt; omega
      have hszl2 : w28.heap.size ≠ w2.heap.size := by have := hg2.lt; omega
      refine ⟨fun vs w' => ∃ j : Nat, vs = [.int .i64 (j : Int)] ∧ j ≤ 4 ∧ Blk w' w28.heap.size lets ∧ Blk w' w.heap.size Md.no.cs ∧ Blk w' w2.heap.size m.cs ∧ Kept No w w' ∧
          ∀ j', j' < j → ¬ (lc j' = byteAt s i ∧ ¬ dup s i ∧ (lc j' ≠ 120 ∨ byteAt s 0 = 119)),
        fun vs _ => match vs with | [.int _ j] => (4 - j).toNat | _ => 0, ⟨0, rfl, by omega, hl29, hg1.keep hk29 (fun e => e), hg2.keep hk29 (fun e => e), hk28.no hk29, fun j' h => by omega⟩, ?_⟩
      intro _ n35 w30 hJ
      obtain ⟨j, hvs, hj, hl30, hg30, hm30, hk30, hfail⟩ := hJ
      simp only [List.cons.injEq, Value.int.injEq, true_and, and_true] at hvs
      subst hvs
      refine condP (fun hjl => ?_) (fun hjg => ?_)
      · have hj4 : j < 4 := by omega
        obtain ⟨e0, e1, e2⟩ := lets_at hj4
        have hc0 : w30.cell? (Addr.add ⟨w28.heap.size, 0, none⟩ (Int.toNat (j : Int) * 3)) = some (.int .u8 (lc j)) := hl30.at e0
        have hc1 : w30.cell? (Addr.add (Addr.add ⟨w28.heap.size, 0, none⟩ (Int.toNat (j : Int) * 3)) 1) = some (.func (.func (hasf j)) #[] #[]) := by
          rw [Lw.add_add]; exact hl30.at e1
        have hc2 : w30.cell? (Addr.add (Addr.add ⟨w28.heap.size, 0, none⟩ (Int.toNat (j : Int) * 3)) 2) = some (.func (.func (setf j)) #[] #[]) := by
          rw [Lw.add_add]; exact hl30.at e2
        refine ⟨⟨by omega, by omega⟩, nnI ⟨_, _, _, hc0, hc1, hc2, ?_⟩⟩
        intro w31
        have hx31 : Blk w31 w30.heap.size #[.int .u8 0, .nilFunc, .nilFunc] := Blk.alloc _ _ _
        have hk31 : Kept No w30 w31 := Kept.alloc _ _ _
        clear_value w31
        refine stC_blk hx31 (by simp) fun w32 hx32 hk32 _ => oneF (stC_blk hx32 (by simp) fun w33 hx33 hk33 _ => oneF (stC_blk hx33 (by simp) fun w34 hx34 hk34 _ => ?_))
        have hk314 : Kept (· = w30.heap.size) w31 w34 := (hk32.trans hk33 fun _ _ e => e).trans hk34 fun _ _ e => e
        intro w35
        have hx35 : Blk w35 w30.heap.size #[.int .u8 (lc j), .func (.func (hasf j)) #[] #[], .func (.func (setf j)) #[] #[]] := hx34
        have hk345 : Kept No w34 w35 := Kept.drew _ _
        clear_value w35
        have hk305 : Kept No w30 w35 := (hk31.fresh hk314 (fun x e => by rw [e]; exact Nat.le_refl _)).no hk345
        have hl35 := hl30.keep hk305 (fun e => e)
        have hg35 := hg30.keep hk305 (fun e => e)
        have hm35 := hm30.keep hk305 (fun e => e)
        have hk35 := hk30.no hk305
        clear hx34 hk34 hx33 hk33 hx32 hk32 hx31 hk31 hk314 hk345
        have hi64 : inI ((j : Int) + 1) := by unfold inI; omega
        have hmu : ((4 : Int) - ((j : Int) + 1)).toNat < ((4 : Int) - (j : Int)).toNat := by omega
        have next : ¬ (lc j = byteAt s i ∧ ¬ dup s i ∧ (lc j ≠ 120 ∨ byteAt s 0 = 119)) → ∃ j' : Nat, [Value.int .i64 ((j : Int) + 1)] = [.int .i64 (j' : Int)] ∧ j' ≤ 4 ∧ Blk w35 w28.heap.size lets ∧ Blk w35 w.heap.size Md.no.cs ∧ Blk w35 w2.heap.size m.cs ∧ Kept No w w35 ∧
            ∀ j'', j'' < j' → ¬ (lc j'' = byteAt s i ∧ ¬ dup s i ∧ (lc j'' ≠ 120 ∨ byteAt s 0 = 119)) := fun hn =>
          ⟨j + 1, rfl, by omega, hl35, hg35, hm35, hk35, fun j'' h'' => by
            by_cases hjj : j'' = j
            · subst hjj; exact hn
            · exact hfail j'' (by omega)⟩
        -- the letter is set
        have call : lc j = byteAt s i → ¬ dup s i → (lc j ≠ 120 ∨ byteAt s 0 = 119) → CallR Try.prog (setf j) [.pointer (some ⟨w2.heap.size, 0, none⟩)] w35 fun r w37 => r = .tuple #[] ∧ inI ((i : Int) + 1) ∧
            (∃ (i' : Nat) (m : Md), [Value.int .i64 ((i : Int) + 1)] = [.int .i64 (i' : Int)] ∧ 1 ≤ i' ∧ i' ≤ s.size ∧ Blk w37 w.heap.size Md.no.cs ∧ Blk w37 w2.heap.size m.cs ∧ parseM s = goM s (s.size - i') i' m ∧ Kept No w w37) ∧
            ((s.size : Int) - ((i : Int) + 1)).toNat < ((s.size : Int) - (i : Int)).toNat := by
          intro h1 h2 h3
          refine (set_ok hm35 hj4).mono fun v w37 ⟨hv, hm37, hk37⟩ => ⟨hv, by unfold inI; omega, ⟨i + 1, setJ j m, rfl, by omega, by omega, hg35.keep hk37 hne, hm37, ?_, hk35.fresh hk37 hmW⟩, by omega⟩
          rw [hgo]
          exact goM_ok his h2 (by rw [← h1]; exact setM_lc m _ hj4 h3)
        have hbody : bodyB Try.prog (setf j) = true := body_set hj4
        refine ⟨_, (hx35.cell 0).trans rfl, ⟨by omega, by omega⟩, condI (fun heq => ?_) (fun hneq => ⟨hi64, next (fun h => by simp [h.1] at hneq), hmu⟩)⟩
        have heq' : lc j = byteAt s i := by simpa using heq
        refine ⟨⟨by omega, by omega⟩, ⟨by omega, by omega⟩, _, (hx35.cell 0).trans rfl, (oix_ok _ _).mono fun v w36 ⟨hv36, hw36⟩ => ⟨_, hv36, ?_⟩⟩
        rw [hw36, heq']
        have hdd : decide (firstIdx (s.extract (Int.toNat 1) (Int.toNat (i : Int))) (byteAt s i).toNat.toUInt8 < 0) = true ↔ ¬ dup s i := ix_dup s i (by omega)
        refine condI (fun hfree => ?_) (fun hnf => ⟨hi64, next (fun h => by rw [hdd.2 h.2.1] at hnf; cases hnf), hmu⟩)
        have hnd : ¬ dup s i := hdd.1 hfree
        refine ⟨_, (hx35.cell 0).trans rfl, condI (fun hx => ?_) (fun hx => ⟨⟨by omega, by omega⟩, condI (fun h119 => ?_) (fun h119 => ⟨hi64, next (fun h => ?_), hmu⟩)⟩)⟩
        · exact ⟨_, (hx35.cell 2).trans rfl, _, _, _, rfl, hbody, call heq' hnd (.inl (by simpa using hx))⟩
        · exact ⟨_, (hx35.cell 2).trans rfl, _, _, _, rfl, hbody, call heq' hnd (.inr (by simpa using h119))⟩
        · rcases h.2.2 with h | h
          · simp at hx; exact h hx
          · simp [h] at h119
      · have hj4 : j = 4 := by omega
        subst hj4
        refine st8 hg30 rfl fun w40 hg40 hk40 _ => ld8 (m := Md.no) hg40 ⟨?_, hg hk30 hk40⟩
        unfold parsed
        rw [hgo, goM_bad his]
        · rfl
        by_cases hd : dup s i
        · exact .inl hd
        · exact .inr (setM_none m _ _ fun j' hj' h => hfail j' hj' ⟨h.1, hd, h.2⟩)
    · have hii : s.size - i = 0 := by omega
      refine ld8 hg2 (st8 hg1 rfl fun w40 hg40 hk40 _ => ld8 (m := m) hg40 ⟨?_, hg hk28 hk40⟩)
      unfold parsed
      rw [hgo, goM_end hii]; rfl

end Go.Proofs.Ythddogeenimjcaa
