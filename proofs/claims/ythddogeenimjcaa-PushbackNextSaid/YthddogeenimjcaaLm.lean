/-
  Words and lemmas on memory for the proofs over Lw: which blocks may have changed, a block's cells, slices that are read, slices that are owned; what append, copy and make do to them. Conditions: none; they speak of whatever program.
-/
import Derived.Test.YthddogeenimjcaaLw
namespace Go.Lw

/-! ## Which blocks may have changed -/

/-- Of the blocks that were there only those of S may have changed. -/
structure Kept (S : Nat → Prop) (w w' : World) : Prop where
  os : w'.os = w.os
  tape : w'.tape = w.tape
  output : w'.output = w.output
  size : w.heap.size ≤ w'.heap.size
  block : ∀ k, k < w.heap.size → ¬ S k → w'.heap[k]? = w.heap[k]?

abbrev No : Nat → Prop := fun _ => False

theorem Kept.refl (S : Nat → Prop) (w : World) : Kept S w w := ⟨rfl, rfl, rfl, Nat.le_refl _, fun _ _ _ => rfl⟩

/-- Two steps: what the second one turns is of S or was not there at first. -/
theorem Kept.trans {S S' : Nat → Prop} {a b c : World} (h : Kept S a b) (k : Kept S' b c) (hs : ∀ x, x < a.heap.size → S' x → S x) : Kept S a c :=
  ⟨k.os.trans h.os, k.tape.trans h.tape, k.output.trans h.output, Nat.le_trans h.size k.size,
    fun i hi hn => (k.block i (Nat.lt_of_lt_of_le hi h.size) (fun e => hn (hs i hi e))).trans (h.block i hi hn)⟩

theorem Kept.mono {S S' : Nat → Prop} {a b : World} (h : Kept S a b) (hs : ∀ x, x < a.heap.size → S x → S' x) : Kept S' a b :=
  ⟨h.os, h.tape, h.output, h.size, fun i hi hn => h.block i hi (fun e => hn (hs i hi e))⟩

theorem Kept.alloc (S : Nat → Prop) (w : World) (o : Obj) : Kept S w (w.alloc o) := ⟨rfl, rfl, rfl, by simp, fun i hi _ => RowKit.Below.heap_alloc w o i hi⟩
theorem Kept.drew (S : Nat → Prop) (w : World) : Kept S w w.drew := ⟨rfl, rfl, rfl, Nat.le_refl _, fun _ _ _ => rfl⟩
theorem Kept.drewN (S : Nat → Prop) (w : World) (n : Nat) : Kept S w (w.drewN n) := ⟨rfl, rfl, rfl, Nat.le_refl _, fun _ _ _ => rfl⟩
theorem Kept.setCell (w : World) (a : Addr) (v : Value) : Kept (· = a.block) w (w.setCell a v) :=
  ⟨rfl, rfl, rfl, by simp, fun k _ hn => heap_setCell_other w a k v hn⟩
theorem Kept.setRow (w : World) (g : Nat) (cs : Array Value) : Kept (· = g) w (w.setRow g cs) :=
  ⟨rfl, rfl, rfl, by simp, fun k _ hn => setRow_other w g k cs hn⟩

theorem Kept.cell {S : Nat → Prop} {w w' : World} (h : Kept S w w') {a : Addr} {v : Value} (hc : w.cell? a = some v) (hn : ¬ S a.block) : w'.cell? a = some v := by
  rw [← hc]
  exact World.cell?_of_block (h.block _ (World.block_lt_of_cell? w a hc) hn)

/-- Below: nothing that was there has changed. -/
theorem Kept.below {w w' : World} (h : Kept No w w') : RowKit.Below w.heap.size w w' := ⟨h.os, h.tape, h.output, h.size, fun k hk => h.block k hk (fun e => e)⟩

theorem Kept.of_base {S : Nat → Prop} {a b : World} (h : Kept S a b) (B : Nat) (hB : B ≤ a.heap.size) (hs : ∀ x, x < B → ¬ S x) : RowKit.Below B a b :=
  ⟨h.os, h.tape, h.output, h.size, fun k hk => h.block k (Nat.lt_of_lt_of_le hk hB) (hs k hk)⟩

/-- Two steps: the second one turns only what the first one has made. -/
theorem Kept.fresh {S : Nat → Prop} {a b c : World} (h : Kept No a b) (k : Kept S b c) (hs : ∀ x, S x → a.heap.size ≤ x) : Kept No a c :=
  h.trans k fun x hx e => by have := hs x e; omega
theorem Kept.no {S : Nat → Prop} {a b c : World} (h : Kept S a b) (k : Kept No b c) : Kept S a c := h.trans k fun _ _ e => e.elim

/-! ## Blocks of cells -/

/-- Block g is this row of cells. -/
def Blk (w : World) (g : Nat) (cur : Array Value) : Prop := ∃ e, w.heap[g]? = some (.cells cur e (0, 0))

theorem Blk.lt {w : World} {g : Nat} {cur : Array Value} (h : Blk w g cur) : g < w.heap.size := by
  obtain ⟨e, h⟩ := h; exact (Array.getElem?_eq_some_iff.1 h).1
theorem Blk.keep {w w' : World} {g : Nat} {cur : Array Value} (h : Blk w g cur) {S : Nat → Prop} (k : Kept S w w') (hn : ¬ S g) : Blk w' g cur := by
  have hl := h.lt
  obtain ⟨e, h⟩ := h; exact ⟨e, (k.block g hl hn).trans h⟩
theorem Blk.cell {w : World} {g : Nat} {cur : Array Value} (h : Blk w g cur) (i : Nat) : w.cell? ⟨g, i, none⟩ = cur[i]? := by
  obtain ⟨e, h⟩ := h; exact cell_of_row w g i cur e _ h
theorem Blk.frozen {w : World} {g : Nat} {cur : Array Value} (h : Blk w g cur) (i : Nat) : w.frozen? ⟨g, i, none⟩ = false := by
  obtain ⟨e, h⟩ := h; exact frozen_of_row w g i cur e h
theorem Blk.alloc (w : World) (cs : Array Value) (e : TypeId) : Blk (w.alloc (.cells cs e)) w.heap.size cs := ⟨e, heap_alloc_new w _⟩
theorem Blk.drew {w : World} {g : Nat} {cur : Array Value} (h : Blk w g cur) : Blk w.drew g cur := h
theorem Blk.drewN {w : World} {g : Nat} {cur : Array Value} (h : Blk w g cur) (n : Nat) : Blk (w.drewN n) g cur := h
theorem Blk.setRow {w : World} {g : Nat} {cur : Array Value} (h : Blk w g cur) (cs : Array Value) : Blk (w.setRow g cs) g cs := by
  obtain ⟨e, h⟩ := h; exact ⟨e, setRow_heap w g cur cs e _ h⟩
theorem Blk.setCell {w : World} {g : Nat} {cur : Array Value} (h : Blk w g cur) (i : Nat) (v : Value) : Blk (w.setCell ⟨g, i, none⟩ v) g (cur.setIfInBounds i v) := by
  obtain ⟨e, h⟩ := h
  exact ⟨e, heap_setCell_same w g i cur e v h⟩
theorem Blk.uniq {w : World} {g : Nat} {a b : Array Value} (h : Blk w g a) (k : Blk w g b) : a = b := by
  obtain ⟨e, h⟩ := h; obtain ⟨e', k⟩ := k; rw [h] at k; cases k; rfl

/-- A store into a block. -/
theorem stC_blk {w : World} {g i : Nat} {cur : Array Value} {v : Value} {K : World → Prop} (h : Blk w g cur) (hi : i < cur.size)
    (hk : ∀ w', Blk w' g (cur.setIfInBounds i v) → Kept (· = g) w w' → w'.heap.size = w.heap.size → K w') : stC ⟨g, i, none⟩ v w K := by
  refine ⟨⟨cur[i], by rw [h.cell]; simp [hi]⟩, h.frozen i, ?_⟩
  exact hk _ (h.setCell i v) (Kept.setCell w ⟨g, i, none⟩ v) (by simp)

theorem Blk.at {w : World} {g : Nat} {cur : Array Value} (h : Blk w g cur) {i : Nat} {v : Value} (hi : cur[i]? = some v) : w.cell? ((⟨g, 0, none⟩ : Addr).add i) = some v := by
  rw [Addr.add_lit, h.cell, Nat.zero_add]; exact hi
theorem Blk.at0 {w : World} {g : Nat} {cur : Array Value} (h : Blk w g cur) {v : Value} (hi : cur[0]? = some v) : w.cell? ⟨g, 0, none⟩ = some v := by
  rw [h.cell]; exact hi

theorem stC_at {w : World} {g i : Nat} {cur : Array Value} {v : Value} {K : World → Prop} (h : Blk w g cur) (hi : i < cur.size)
    (hk : ∀ w', Blk w' g (cur.setIfInBounds i v) → Kept (· = g) w w' → w'.heap.size = w.heap.size → K w') : stC ((⟨g, 0, none⟩ : Addr).add i) v w K := by
  rw [Addr.add_lit, Nat.zero_add]; exact stC_blk h hi hk

/-- A new block. -/
theorem alloc_blk {w : World} {cs : Array Value} {e : TypeId} {K : World → Prop} (hk : ∀ w', Blk w' w.heap.size cs → Kept No w w' → w'.heap.size = w.heap.size + 1 → K w') : K (w.alloc (.cells cs e)) :=
  hk _ (Blk.alloc w cs e) (Kept.alloc _ w _) (by simp)

theorem condI {b : Bool} {A B : Prop} (ha : b = true → A) (hb : b = false → B) : cond b A B := by
  cases b with
  | true => exact ha rfl
  | false => exact hb rfl

theorem nnI {q : Addr} {K : Addr → Prop} (h : K q) : nn (some q) K := h

theorem condT {b : Bool} {A B : Prop} (h : b = true) (ha : A) : cond b A B := by subst h; exact ha
theorem condF {b : Bool} {A B : Prop} (h : b = false) (hb : B) : cond b A B := by subst h; exact hb

theorem condP {p : Prop} [Decidable p] {A B : Prop} (ha : p → A) (hb : ¬ p → B) : cond (decide p) A B := by
  by_cases h : p
  · simp only [h, decide_true, cond_true]; exact ha h
  · simp only [h, decide_false, cond_false]; exact hb h

/-! ## Slices -/

/-- A slice that reads as these cells (sz cells an element). -/
def RdS (sz : Nat) (w : World) (a : Option Addr) (l c : Nat) (xs : List Value) : Prop :=
  xs.length = l * sz ∧ l ≤ c ∧ (a = none → c = 0) ∧ ∀ ad, a = some ad → ∀ i v, xs[i]? = some v → w.cell? (ad.add i) = some v

/-- A slice that may be written: its cells lie in one block. -/
def SlO (sz : Nat) (w : World) (a : Option Addr) (l c : Nat) (xs : List Value) : Prop :=
  xs.length = l * sz ∧ ((a = none ∧ l = 0 ∧ c = 0) ∨
    ∃ g off cur, a = some ⟨g, off, none⟩ ∧ Blk w g cur ∧ l ≤ c ∧ off + c * sz ≤ cur.size ∧ (cur.toList.drop off).take (l * sz) = xs)

/-- The block of a slice. -/
def inA (a : Option Addr) (b : Nat) : Prop := ∃ ad, a = some ad ∧ ad.block = b

theorem inA_some (g off : Nat) (s : Option Nat) (b : Nat) : inA (some ⟨g, off, s⟩) b ↔ b = g := by
  unfold inA
  constructor
  · rintro ⟨ad, h, rfl⟩; cases h; rfl
  · rintro rfl; exact ⟨_, rfl, rfl⟩
theorem inA_none (b : Nat) : ¬ inA none b := by rintro ⟨ad, h, _⟩; cases h

theorem add_none (g off i : Nat) : (⟨g, off, none⟩ : Addr).add i = ⟨g, off + i, none⟩ := Addr.add_lit g off i

theorem SlO.rd {sz : Nat} {w : World} {a : Option Addr} {l c : Nat} {xs : List Value} (h : SlO sz w a l c xs) : RdS sz w a l c xs := by
  obtain ⟨hl, h⟩ := h
  rcases h with ⟨rfl, rfl, rfl⟩ | ⟨g, off, cur, rfl, hb, hlc, hsz, htk⟩
  · exact ⟨hl, Nat.le_refl _, fun _ => rfl, fun ad h => by cases h⟩
  · refine ⟨hl, hlc, (fun h => by cases h), fun ad had i v hi => ?_⟩
    cases had
    rw [add_none, hb.cell]
    rw [← htk, List.getElem?_take] at hi
    split at hi
    · rw [List.getElem?_drop] at hi; simpa using hi
    · cases hi

theorem SlO.lt {sz : Nat} {w : World} {a : Option Addr} {l c : Nat} {xs : List Value} (h : SlO sz w a l c xs) : ∀ b, inA a b → b < w.heap.size := by
  rintro b ⟨ad, rfl, rfl⟩
  rcases h.2 with ⟨h, _⟩ | ⟨g, off, cur, h, hb, _⟩
  · cases h
  · cases h; exact hb.lt

theorem SlO.keep {sz : Nat} {w w' : World} {a : Option Addr} {l c : Nat} {xs : List Value} (h : SlO sz w a l c xs) {S : Nat → Prop} (k : Kept S w w') (hn : ∀ b, inA a b → ¬ S b) : SlO sz w' a l c xs := by
  obtain ⟨hl, h⟩ := h
  refine ⟨hl, ?_⟩
  rcases h with h | ⟨g, off, cur, rfl, hb, h⟩
  · exact .inl h
  · exact .inr ⟨g, off, cur, rfl, hb.keep k (hn g ((inA_some g off none g).2 rfl)), h⟩

theorem RdS.keep {sz : Nat} {w w' : World} {a : Option Addr} {l c : Nat} {xs : List Value} (h : RdS sz w a l c xs) {S : Nat → Prop} (k : Kept S w w') (hn : ∀ b, b < w.heap.size → inA a b → ¬ S b) : RdS sz w' a l c xs := by
  obtain ⟨hl, hlc, hz, h⟩ := h
  refine ⟨hl, hlc, hz, fun ad had i v hi => ?_⟩
  have hc := h ad had i v hi
  have hbl := World.block_lt_of_cell? w _ hc
  have hbe : (ad.add i).block = ad.block := by unfold Addr.add; split <;> rfl
  refine k.cell hc (hn _ hbl ⟨ad, had, hbe.symm⟩)

/-- What is read lies in memory that is there. -/
theorem RdS.old {sz : Nat} {w : World} {a : Option Addr} {l c : Nat} {xs : List Value} (h : RdS sz w a l c xs) (hne : xs ≠ []) : ∀ b, inA a b → b < w.heap.size := by
  rintro b ⟨ad, rfl, rfl⟩
  obtain ⟨_, _, _, h⟩ := h
  cases xs with
  | nil => exact absurd rfl hne
  | cons v vs =>
    have hc := h ad rfl 0 v rfl
    have := World.block_lt_of_cell? w _ hc
    have hbe : (ad.add 0).block = ad.block := by unfold Addr.add; split <;> rfl
    omega

theorem SlO.nil (sz : Nat) (w : World) : SlO sz w none 0 0 [] := ⟨by simp, .inl ⟨rfl, rfl, rfl⟩⟩
theorem RdS.nil (sz : Nat) (w : World) : RdS sz w none 0 0 [] := (SlO.nil sz w).rd
theorem SlO.drew {sz : Nat} {w : World} {a : Option Addr} {l c : Nat} {xs : List Value} (h : SlO sz w a l c xs) : SlO sz w.drew a l c xs := h
theorem SlO.drewN {sz : Nat} {w : World} {a : Option Addr} {l c : Nat} {xs : List Value} (h : SlO sz w a l c xs) (n : Nat) : SlO sz (w.drewN n) a l c xs := h
theorem RdS.drew {sz : Nat} {w : World} {a : Option Addr} {l c : Nat} {xs : List Value} (h : RdS sz w a l c xs) : RdS sz w.drew a l c xs := h
theorem RdS.drewN {sz : Nat} {w : World} {a : Option Addr} {l c : Nat} {xs : List Value} (h : RdS sz w a l c xs) (n : Nat) : RdS sz (w.drewN n) a l c xs := h

theorem SlO.of_blk {sz : Nat} {w : World} {g n : Nat} {cur : Array Value} (h : Blk w g cur) (hs : cur.size = n * sz) : SlO sz w (some ⟨g, 0, none⟩) n n cur.toList :=
  ⟨by simp [hs], .inr ⟨g, 0, cur, rfl, h, Nat.le_refl _, by omega, by rw [← hs]; simp [List.take_of_length_le]⟩⟩

theorem RdS.isNone {sz : Nat} {w : World} {a : Option Addr} {l c : Nat} {xs : List Value} (h : RdS sz w a l c xs) (ha : a = none) : l = 0 ∧ c = 0 ∧ xs = [] := by
  have hc := h.2.2.1 ha
  have hl : l = 0 := by have := h.2.1; omega
  refine ⟨hl, hc, ?_⟩
  have := h.1; subst hl; simpa using this

theorem adv_map (a : Option Addr) (i c sz : Nat) (hne : c ≠ i) : adv a i c sz = a.map (·.add (i * sz)) := by unfold adv; rw [if_neg hne]
theorem adv_same (a : Option Addr) (c sz : Nat) : adv a c c sz = a := by unfold adv; rw [if_pos rfl]

theorem add_add (ad : Addr) (i j : Nat) : (ad.add i).add j = ad.add (i + j) := by
  unfold Addr.add
  by_cases hi : i = 0
  · subst hi; simp
  · by_cases hj : j = 0
    · subst hj; simp [hi]
    · simp [hi, hj]; omega

/-- x[i:] of what reads. -/
theorem RdS.from {sz : Nat} {w : World} {a : Option Addr} {l c : Nat} {xs : List Value} (h : RdS sz w a l c xs) (i : Nat) (hi : i ≤ l) : RdS sz w (adv a i c sz) (l - i) (c - i) (xs.drop (i * sz)) := by
  obtain ⟨hl, hlc, hz, h⟩ := h
  have hlen : (xs.drop (i * sz)).length = (l - i) * sz := by rw [List.length_drop, hl, Nat.sub_mul]
  refine ⟨hlen, by omega, fun hn => ?_, fun ad had j v hj => ?_⟩
  · unfold adv at hn
    split at hn
    · omega
    · cases a with
      | none => have := hz rfl; omega
      | some x => cases hn
  · by_cases hci : c = i
    · subst hci
      rw [adv_same] at had
      have : (xs.drop (c * sz)).length = 0 := by rw [hlen]; have : l - c = 0 := by omega
                                                 simp [this]
      have := (List.getElem?_eq_some_iff.1 hj).1
      omega
    · rw [adv_map _ _ _ _ hci] at had
      cases a with
      | none => cases had
      | some x =>
        cases had
        rw [add_add]
        refine h x rfl _ v ?_
        rw [List.getElem?_drop] at hj; exact hj

/-- x[:j] of what reads. -/
theorem RdS.to {sz : Nat} {w : World} {a : Option Addr} {l c : Nat} {xs : List Value} (h : RdS sz w a l c xs) (j : Nat) (hj : j ≤ l) : RdS sz w a j c (xs.take (j * sz)) := by
  obtain ⟨hl, hlc, hz, h⟩ := h
  refine ⟨?_, by omega, hz, fun ad had i v hi => h ad had i v ?_⟩
  · rw [List.length_take, hl]; exact Nat.min_eq_left (Nat.mul_le_mul_right _ hj)
  · rw [List.getElem?_take] at hi
    split at hi
    · exact hi
    · cases hi

/-- x[i:j] of what reads. -/
theorem RdS.cut {sz : Nat} {w : World} {a : Option Addr} {l c : Nat} {xs : List Value} (h : RdS sz w a l c xs) (i j : Nat) (hi : i ≤ j) (hj : j ≤ l) :
    RdS sz w (adv a i c sz) (j - i) (c - i) ((xs.take (j * sz)).drop (i * sz)) := (h.to j hj).from i hi

theorem SlO.from {sz : Nat} {w : World} {a : Option Addr} {l c : Nat} {xs : List Value} (h : SlO sz w a l c xs) (i : Nat) (hi : i ≤ l) : SlO sz w (adv a i c sz) (l - i) (c - i) (xs.drop (i * sz)) := by
  obtain ⟨hl, h⟩ := h
  refine ⟨by rw [List.length_drop, hl, Nat.sub_mul], ?_⟩
  rcases h with ⟨rfl, rfl, rfl⟩ | ⟨g, off, cur, rfl, hb, hlc, hsz, htk⟩
  · have : i = 0 := by omega
    subst this
    exact .inl ⟨by simp [adv], by omega, by omega⟩
  · have hm : i * sz ≤ c * sz := Nat.mul_le_mul_right _ (by omega)
    have hcs : (c - i) * sz = c * sz - i * sz := Nat.sub_mul c i sz
    have hls : (l - i) * sz = l * sz - i * sz := Nat.sub_mul l i sz
    by_cases hci : c = i
    · subst hci
      refine .inr ⟨g, off, cur, by rw [adv_same], hb, by omega, by rw [hcs]; omega, ?_⟩
      have : l = c := by omega
      subst this
      simp [← htk]
    · rw [adv_map _ _ _ _ hci]
      refine .inr ⟨g, off + i * sz, cur, by simp [add_none], hb, by omega, by rw [hcs]; omega, ?_⟩
      rw [← htk, hls, List.drop_take, List.drop_drop]

theorem SlO.to {sz : Nat} {w : World} {a : Option Addr} {l c : Nat} {xs : List Value} (h : SlO sz w a l c xs) (j : Nat) (hj : j ≤ l) : SlO sz w a j c (xs.take (j * sz)) := by
  obtain ⟨hl, h⟩ := h
  have hm : j * sz ≤ l * sz := Nat.mul_le_mul_right _ hj
  refine ⟨by rw [List.length_take, hl]; exact Nat.min_eq_left hm, ?_⟩
  rcases h with ⟨rfl, rfl, rfl⟩ | ⟨g, off, cur, rfl, hb, hlc, hsz, htk⟩
  · exact .inl ⟨rfl, by omega, rfl⟩
  · refine .inr ⟨g, off, cur, rfl, hb, by omega, hsz, ?_⟩
    rw [← htk, List.take_take, Nat.min_eq_left hm]

/-- x[:j:m]. -/
theorem SlO.to3 {sz : Nat} {w : World} {a : Option Addr} {l c : Nat} {xs : List Value} (h : SlO sz w a l c xs) (j m : Nat) (hj : j ≤ l) (hjm : j ≤ m) (hm : m ≤ c) : SlO sz w a j m (xs.take (j * sz)) := by
  obtain ⟨hl, h⟩ := h.to j hj
  refine ⟨hl, ?_⟩
  rcases h with ⟨rfl, rfl, rfl⟩ | ⟨g, off, cur, rfl, hb, hlc, hsz, htk⟩
  · exact .inl ⟨rfl, rfl, by omega⟩
  · exact .inr ⟨g, off, cur, rfl, hb, hjm, by have : m * sz ≤ c * sz := Nat.mul_le_mul_right _ hm
                                              omega, htk⟩

theorem inA_adv {a : Option Addr} {i c sz b : Nat} : inA (adv a i c sz) b ↔ inA a b := by
  unfold adv
  split
  · rfl
  · cases a with
    | none => constructor <;> (intro h; exact absurd h (inA_none b))
    | some x =>
      have : (x.add (i * sz)).block = x.block := by unfold Addr.add; split <;> rfl
      unfold inA
      constructor
      · rintro ⟨ad, h, hb⟩; simp at h; subst h; exact ⟨x, rfl, by rw [← hb, this]⟩
      · rintro ⟨ad, h, hb⟩; cases h; exact ⟨_, rfl, by rw [this, hb]⟩

/-! ## A slice type -/

def SlTy (P : Program) (t e : TypeId) (i : TypeInfo) (z : Value) (sz by_ : Nat) : Prop :=
  P.underlying t = some (.slice e) ∧ P.info? e = some i ∧ i.zero = some z ∧ i.size = sz ∧ i.bytes = by_ ∧ z.cells.size = sz ∧ 0 < sz

def slTyB (P : Program) (t sz by_ : Nat) : Bool :=
  match P.underlying t with
  | some (.slice e) =>
    match P.info? e with
    | some i => match i.zero with | some z => Nat.beq i.size sz && Nat.beq i.bytes by_ && Nat.beq z.cells.size sz && Nat.blt 0 sz | none => false
    | none => false
  | _ => false

theorem slTy_of {P : Program} {t sz by_ : Nat} (h : slTyB P t sz by_ = true) : ∃ e i z, SlTy P t e i z sz by_ := by
  unfold slTyB at h
  split at h
  · rename_i e hu
    split at h
    · rename_i i hi
      split at h
      · rename_i z hz
        simp only [Bool.and_eq_true] at h
        exact ⟨e, i, z, hu, hi, hz, Nat.eq_of_beq_eq_true h.1.1.1, Nat.eq_of_beq_eq_true h.1.1.2, Nat.eq_of_beq_eq_true h.1.2, bltL h.2⟩
      · cases h
    · cases h
  · cases h

def slZ (P : Program) (t : TypeId) : Option Value :=
  match P.underlying t with
  | some (.slice e) => match P.info? e with | some i => i.zero | none => none
  | _ => none

theorem slTyZ {P : Program} {t sz by_ : Nat} {z : Value} (h : slTyB P t sz by_ = true) (hz : slZ P t = some z) : ∃ e i, SlTy P t e i z sz by_ := by
  obtain ⟨e, i, z', hu, hi, hz', hr⟩ := slTy_of h
  unfold slZ at hz
  simp only [hu, hi, hz'] at hz
  cases hz
  exact ⟨e, i, hu, hi, hz', hr⟩

/-! ## append -/

/-- Where the slice lies that an append has made. -/
def AppAt (w : World) (a a' : Option Addr) (w' : World) : Prop :=
  (a' = a ∧ w'.heap.size = w.heap.size) ∨ (a' = some ⟨w.heap.size, 0, none⟩ ∧ w'.heap.size = w.heap.size + 1)

theorem AppAt.in {w w' : World} {a a' : Option Addr} (h : AppAt w a a' w') {b : Nat} (hb : inA a' b) : inA a b ∨ b = w.heap.size := by
  rcases h with ⟨rfl, _⟩ | ⟨rfl, _⟩
  · exact .inl hb
  · exact .inr ((inA_some _ _ _ _).1 hb)

theorem add_lit0 (g off n : Nat) : (⟨g, off, none⟩ : Addr).add n = ⟨g, off + n, none⟩ := Addr.add_lit g off n

theorem zc_size (z : Array Value) (n : Nat) : (Builtin.zeroCells z n).size = n * z.size := size_zeroCells z n

section
variable {P : Program}

/-- append, whatever is appended: its cells are 'ys'. -/
theorem run_app {t t2 ty e : TypeId} {i : TypeInfo} {z : Value} {sz by_ : Nat} (hT : SlTy P t e i z sz by_) {d2 : TypeDesc} (hu2 : P.underlying t2 = some d2) (hd2 : (∃ e2, d2 = .slice e2) ∨ d2 = .string)
    {w : World} {a : Option Addr} {l c : Nat} {xs : List Value} (hs : SlO sz w a l c xs) {x : Value} {m : Nat} {ys : List Value} (hm : ∀ w, (Builtin.lenOf x).run P w = .ok m w) (hy : ys.length = m * sz)
    (hf : (Builtin.firstCells sz m x).run P w = .ok ys.toArray w) (hfd : (Builtin.firstCells sz m x).run P w.drew = .ok ys.toArray w.drew) (h1 : ∀ u ∈ ys, u.oneCell' = true)
    (hb : (l + m) * by_ ≤ 140737488355328) (h63 : l + m ≤ 9223372036854775807) :
    ∃ a' c' w', (Builtin.append_ #[t, t2] ty #[.slice a l c, x]).run P w = .ok (.slice a' (l + m) c') w' ∧ SlO sz w' a' (l + m) c' (xs ++ ys) ∧ Kept (inA a) w w' ∧ AppAt w a a' w' ∧ (a' = none → a = none ∧ m = 0) := by
  obtain ⟨hu, hi, hz, hsz, hby, hzs, hpos⟩ := hT
  subst hsz hby
  have hlen : (xs ++ ys).length = (l + m) * i.size := by rw [List.length_append, hs.1, hy, Nat.add_mul]
  by_cases hroom : l + m ≤ c
  · -- there is room
    rcases hs.2 with ⟨rfl, rfl, rfl⟩ | ⟨g, off, cur, rfl, ⟨e', hg⟩, hlc, hcs, htk⟩
    · have hm0 : m = 0 := by omega
      subst hm0
      have hx : xs = [] := List.eq_nil_of_length_eq_zero (by simpa using hs.1)
      have hys : ys = [] := List.eq_nil_of_length_eq_zero (by simpa using hy)
      subst hx hys
      refine ⟨none, 0, w, ?_, SlO.nil _ _, Kept.refl _ _, .inl ⟨rfl, rfl⟩, fun _ => ⟨rfl, rfl⟩⟩
      rcases hd2 with ⟨e2, rfl⟩ | rfl <;> simp [Builtin.append_, run_underlying hu, run_underlying hu2, sizeOf, typeInfo, hi, hm, hf]
    · have hst := run_storeCells_at P g (off + l * i.size) e' ys 0 cur w hg (by rw [hy]; have : (l + m) * i.size ≤ c * i.size := Nat.mul_le_mul_right _ hroom
                                                                                rw [Nat.add_mul] at this; omega) h1
      refine ⟨some ⟨g, off, none⟩, c, w.setRow g (cur.toList.take (off + l * i.size + 0) ++ ys ++ cur.toList.drop (off + l * i.size + 0 + ys.length)).toArray, ?_, ⟨hlen, .inr ⟨g, off, _, rfl, Blk.setRow ⟨e', hg⟩ _, hroom, ?_, ?_⟩⟩, (Kept.setRow w g _).mono (fun b _ hb => (inA_some _ _ _ _).2 hb), .inl ⟨rfl, by simp⟩, fun h => by cases h⟩
      · simp only [Nat.add_zero] at hst
        rcases hd2 with ⟨e2, rfl⟩ | rfl <;> simp [Builtin.append_, run_underlying hu, run_underlying hu2, sizeOf, typeInfo, hi, hm, hroom, hf, add_lit0, hst]
      · have hlm : (l + m) * i.size ≤ c * i.size := Nat.mul_le_mul_right _ hroom
        rw [Nat.add_mul] at hlm
        simp only [Nat.add_zero, List.size_toArray, List.length_append, List.length_take, List.length_drop, Array.length_toList, hy]
        omega
      · have hlm : (l + m) * i.size ≤ c * i.size := Nat.mul_le_mul_right _ hroom
        rw [Nat.add_mul] at hlm
        simp only [Nat.add_zero]
        have hxs : xs = (cur.toList.drop off).take (l * i.size) := htk.symm
        have e1 : cur.toList.take (off + l * i.size) = cur.toList.take off ++ xs := by
          rw [hxs]; rw [List.take_add]
        rw [e1]
        have hoff : (cur.toList.take off).length = off := by rw [List.length_take, Array.length_toList]; omega
        rw [List.append_assoc, List.append_assoc, List.drop_append_of_le_length (by omega), List.drop_of_length_le (by omega), List.nil_append]
        rw [← List.append_assoc, ← hlen]
        exact List.take_left
  · -- it grows
    have hnr : ¬ l + m ≤ c := hroom
    have hold : ∀ w0 : World, w0.heap = w.heap → (Builtin.firstCells i.size l (.slice a l c)).run P w0 = .ok xs.toArray w0 := by
      intro w0 hw0
      have hrd : RdS i.size w0 a l c xs := by
        obtain ⟨r1, r2, r3, r4⟩ := hs.rd
        exact ⟨r1, r2, r3, fun ad had j v hj => by rw [← r4 ad had j v hj]; simp [World.cell?, hw0]⟩
      cases a with
      | none => have := hrd.isNone rfl; obtain ⟨rfl, rfl, rfl⟩ := this; exact run_firstCells_none w0 _ _ _ _
      | some ad => exact run_firstCells_some w0 _ _ ad _ _ xs hrd.1 (fun j v hj => hrd.2.2.2 ad rfl j v hj)
    have hfit := growslice_fits (bytes := i.bytes) (need := l + m) (old := c) (by omega) hb
    have hfit' : ¬ (281474976710656 < Builtin.nextslicecap (l + m) c * i.bytes) := by omega
    have hge := grownCap_ge w (l + m) c e
    have h63' : ¬ (9223372036854775807 < ((l : Int) + (m : Int))) := by omega
    have hg2 : (Builtin.zeroCells z.cells (grownCap w (l + m) c e - (l + m))).size = (grownCap w (l + m) c e - (l + m)) * i.size := by rw [zc_size, hzs]
    refine ⟨some ⟨w.heap.size, 0, none⟩, grownCap w (l + m) c e, w.drew.alloc (.cells (xs.toArray ++ ys.toArray ++ Builtin.zeroCells z.cells (grownCap w (l + m) c e - (l + m))) e), ?_, ⟨hlen, .inr ⟨w.heap.size, 0, _, rfl, Blk.alloc w.drew _ e, hge, ?_, ?_⟩⟩,
      (Kept.drew _ w).trans (Kept.alloc (inA a) _ _) (fun _ _ h => h), .inr ⟨rfl, by simp⟩, fun h => by cases h⟩
    · rcases hd2 with ⟨e2, rfl⟩ | rfl <;> simp [Builtin.append_, run_underlying hu, run_underlying hu2, sizeOf, typeInfo, zeroValue, hi, hz, hm, hnr, h63', hfit', Question.forced, hold w.drew rfl, hfd, newRow, grownCap] <;> (congr 2; rw [← Array.append_assoc]; simp)
    · simp only [Array.size_append, List.size_toArray, hg2, hs.1, hy, ← Nat.add_mul]
      apply Nat.le_of_eq
      rw [Nat.zero_add]; congr 1; omega
    · simp only [Array.toList_append, List.drop_zero]
      rw [List.append_assoc, ← List.append_assoc, ← hlen]
      exact List.take_left

/-- append of a slice. -/
theorem run_app_sl {t t2 ty : TypeId} {sz by_ : Nat} (hT : slTyB P t sz by_ = true) (hT2 : isSliceT P t2 = true) {w : World} {a : Option Addr} {l c : Nat} {xs : List Value} (hs : SlO sz w a l c xs)
    {a2 : Option Addr} {l2 c2 : Nat} {ys : List Value} (hr : RdS sz w a2 l2 c2 ys) (h1 : ∀ u ∈ ys, u.oneCell' = true) (hb : (l + l2) * by_ ≤ 140737488355328) (h63 : l + l2 ≤ 9223372036854775807) :
    ∃ a' c' w', (Builtin.append_ #[t, t2] ty #[.slice a l c, .slice a2 l2 c2]).run P w = .ok (.slice a' (l + l2) c') w' ∧ SlO sz w' a' (l + l2) c' (xs ++ ys) ∧ Kept (inA a) w w' ∧ AppAt w a a' w' ∧ (a' = none → a = none ∧ l2 = 0) := by
  obtain ⟨e, i, z, hT⟩ := slTy_of hT
  obtain ⟨d2, hu2, hni⟩ : ∃ d2, P.underlying t2 = some d2 ∧ ((∃ e2, d2 = .slice e2) ∨ d2 = .string) := by
    unfold isSliceT at hT2
    cases hu : P.underlying t2 with
    | none => simp [hu] at hT2
    | some d => cases d <;> simp [hu] at hT2; exact ⟨_, rfl, .inl ⟨_, rfl⟩⟩
  have hfc : ∀ w0 : World, w0.heap = w.heap → (Builtin.firstCells sz l2 (.slice a2 l2 c2)).run P w0 = .ok ys.toArray w0 := by
    intro w0 hw0
    cases a2 with
    | none => have := hr.isNone rfl; obtain ⟨rfl, rfl, rfl⟩ := this; exact run_firstCells_none w0 _ _ _ _
    | some ad => exact run_firstCells_some w0 _ _ ad _ _ ys hr.1 (fun j v hj => by have := hr.2.2.2 ad rfl j v hj; rw [← this]; simp [World.cell?, hw0])
  exact run_app hT hu2 hni hs (fun w => rfl) hr.1 (hfc w rfl) (hfc w.drew rfl) h1 hb h63

/-- append(s, make([]T, n)...): n zeros. -/
theorem run_app_zeros {t t2 ty : TypeId} {sz by_ : Nat} {z : Value} (hT : ∃ e i, SlTy P t e i z sz by_) (hT2 : isIntT P t2 = true) {w : World} {a : Option Addr} {l c : Nat} {xs : List Value} (hs : SlO sz w a l c xs)
    {k : IntKind} {m : Nat} (h1 : ∀ u ∈ z.cells, u.oneCell' = true) (hb : (l + m) * by_ ≤ 140737488355328) (h63 : l + m ≤ 9223372036854775807) :
    ∃ a' c' w', (Builtin.append_ #[t, t2] ty #[.slice a l c, .int k (m : Int)]).run P w = .ok (.slice a' (l + m) c') w' ∧ SlO sz w' a' (l + m) c' (xs ++ (Builtin.zeroCells z.cells m).toList) ∧ Kept (inA a) w w' ∧ AppAt w a a' w' ∧ (a' = none → a = none ∧ m = 0) := by
  obtain ⟨e, i, hu, hi, hz, hsz, hby, hzs, hpos⟩ := hT
  subst hsz hby
  obtain ⟨kn, hu2⟩ : ∃ kn, P.underlying t2 = some (.int kn) := by
    unfold isIntT at hT2
    cases hu : P.underlying t2 with
    | none => simp [hu] at hT2
    | some d => cases d <;> simp [hu] at hT2; exact ⟨_, rfl⟩
  have hzl : (Builtin.zeroCells z.cells m).toList.length = m * i.size := by rw [Array.length_toList, zc_size, hzs]
  have hlen : (xs ++ (Builtin.zeroCells z.cells m).toList).length = (l + m) * i.size := by rw [List.length_append, hs.1, hzl, Nat.add_mul]
  have hw : IntKind.i64.wrap (m : Int) = m := by rw [IntKind.wrap_i64]; omega
  have h48i : ¬ (281474976710656 < (m : Int) * (i.bytes : Int)) := by
    have : m * i.bytes ≤ (l + m) * i.bytes := Nat.mul_le_mul_right _ (by omega)
    rw [← Int.natCast_mul]; omega
  have hneg : ¬ ((m : Int) < 0) := by omega
  have hone : ∀ u ∈ (Builtin.zeroCells z.cells m).toList, u.oneCell' = true := by
    intro u hu'
    rw [Array.mem_toList_iff] at hu'
    unfold Builtin.zeroCells at hu'
    rw [Array.mem_map] at hu'
    obtain ⟨j, hj, rfl⟩ := hu'
    have hj' : j % z.cells.size < z.cells.size := Nat.mod_lt _ (by omega)
    rw [getElem!_pos z.cells _ hj']
    exact h1 _ (Array.getElem_mem hj')
  by_cases hm0 : m = 0
  · -- nothing is appended
    subst hm0
    have hz0 : (Builtin.zeroCells z.cells 0).toList = [] := List.eq_nil_of_length_eq_zero (by rw [hzl]; simp)
    rw [hz0, List.append_nil]
    have hlc : l + 0 ≤ c := hs.rd.2.1
    refine ⟨a, c, w, ?_, hs, Kept.refl _ _, .inl ⟨rfl, rfl⟩, fun h => ⟨h, rfl⟩⟩
    have hw0 : IntKind.i64.wrap 0 = 0 := by decide
    simp only [Nat.add_zero] at hlc
    cases a with
    | none => simp [Builtin.append_, run_underlying hu, run_underlying hu2, sizeOf, typeInfo, hi, asInt, asIntOf, hw0, hlc]
    | some ad => simp [Builtin.append_, run_underlying hu, run_underlying hu2, sizeOf, typeInfo, hi, asInt, asIntOf, hw0, hlc, storeCells]
  have hns : ¬ (m * i.size = 0) := Nat.mul_ne_zero hm0 (by omega)
  by_cases hroom : l + m ≤ c
  · rcases hs.2 with ⟨rfl, rfl, rfl⟩ | ⟨g, off, cur, rfl, ⟨e', hg⟩, hlc, hcs, htk⟩
    · omega
    · have hlm : (l + m) * i.size ≤ c * i.size := Nat.mul_le_mul_right _ hroom
      have hlm' := hlm
      rw [Nat.add_mul] at hlm'
      have hst := run_storeCells_at P g (off + l * i.size) e' (Builtin.zeroCells z.cells m).toList 0 cur w hg (by rw [hzl]; omega) hone
      refine ⟨some ⟨g, off, none⟩, c, w.setRow g (cur.toList.take (off + l * i.size + 0) ++ (Builtin.zeroCells z.cells m).toList ++ cur.toList.drop (off + l * i.size + 0 + (Builtin.zeroCells z.cells m).toList.length)).toArray, ?_,
        ⟨hlen, .inr ⟨g, off, _, rfl, Blk.setRow ⟨e', hg⟩ _, hroom, ?_, ?_⟩⟩, (Kept.setRow w g _).mono (fun b _ hb => (inA_some _ _ _ _).2 hb), .inl ⟨rfl, by simp⟩, fun h => by cases h⟩
      · simp only [Nat.add_zero] at hst
        simp [Builtin.append_, run_underlying hu, run_underlying hu2, sizeOf, typeInfo, zeroValue, hi, hz, asInt, asIntOf, hw, hneg, h48i, hns, hroom, add_lit0, hst]
      · simp only [Nat.add_zero, List.size_toArray, List.length_append, List.length_take, List.length_drop, Array.length_toList, hzl]
        have : (Builtin.zeroCells z.cells m).size = m * i.size := by rw [zc_size, hzs]
        omega
      · simp only [Nat.add_zero]
        have hxs : xs = (cur.toList.drop off).take (l * i.size) := htk.symm
        have e1 : cur.toList.take (off + l * i.size) = cur.toList.take off ++ xs := by rw [hxs, List.take_add]
        rw [e1]
        have hoff : (cur.toList.take off).length = off := by rw [List.length_take, Array.length_toList]; omega
        rw [List.append_assoc, List.append_assoc, List.drop_append_of_le_length (by omega), List.drop_of_length_le (by omega), List.nil_append]
        rw [← List.append_assoc, ← hlen]
        exact List.take_left
  · have hnr : ¬ l + m ≤ c := hroom
    have hold : ∀ w0 : World, w0.heap = w.heap → (Builtin.firstCells i.size l (.slice a l c)).run P w0 = .ok xs.toArray w0 := by
      intro w0 hw0
      have hrd : RdS i.size w0 a l c xs := by
        obtain ⟨r1, r2, r3, r4⟩ := hs.rd
        exact ⟨r1, r2, r3, fun ad had j v hj => by rw [← r4 ad had j v hj]; simp [World.cell?, hw0]⟩
      cases a with
      | none => have := hrd.isNone rfl; obtain ⟨rfl, rfl, rfl⟩ := this; exact run_firstCells_none w0 _ _ _ _
      | some ad => exact run_firstCells_some w0 _ _ ad _ _ xs hrd.1 (fun j v hj => hrd.2.2.2 ad rfl j v hj)
    have hfit := growslice_fits (bytes := i.bytes) (need := l + m) (old := c) (by omega) hb
    have hfit' : ¬ (281474976710656 < Builtin.nextslicecap (l + m) c * i.bytes) := by omega
    have hge := grownCap_ge w (l + m) c e
    have h63' : ¬ (9223372036854775807 < ((l : Int) + (m : Int))) := by omega
    have hg2 : (Builtin.zeroCells z.cells (grownCap w (l + m) c e - (l + m))).size = (grownCap w (l + m) c e - (l + m)) * i.size := by rw [zc_size, hzs]
    refine ⟨some ⟨w.heap.size, 0, none⟩, grownCap w (l + m) c e, w.drew.alloc (.cells (xs.toArray ++ Builtin.zeroCells z.cells m ++ Builtin.zeroCells z.cells (grownCap w (l + m) c e - (l + m))) e), ?_, ⟨hlen, .inr ⟨w.heap.size, 0, _, rfl, Blk.alloc w.drew _ e, hge, ?_, ?_⟩⟩,
      (Kept.drew _ w).trans (Kept.alloc (inA a) _ _) (fun _ _ h => h), .inr ⟨rfl, by simp⟩, fun h => by cases h⟩
    · simp [Builtin.append_, run_underlying hu, run_underlying hu2, sizeOf, typeInfo, zeroValue, hi, hz, asInt, asIntOf, hw, hneg, h48i, hns, hnr, h63', hfit', Question.forced, hold w.drew rfl, newRow, grownCap]
    · have : (Builtin.zeroCells z.cells m).size = m * i.size := by rw [zc_size, hzs]
      simp only [Array.size_append, List.size_toArray, hg2, hs.1, this, ← Nat.add_mul]
      apply Nat.le_of_eq
      rw [Nat.zero_add]; congr 1; omega
    · simp only [Array.toList_append, List.drop_zero]
      rw [List.append_assoc, ← List.append_assoc, ← hlen]
      exact List.take_left

/-! ## copy -/

/-- Some cells laid over others. -/
def over {α : Type} (xs ys : List α) (i : Nat) : List α := xs.take i ++ (ys ++ xs.drop (i + ys.length))

theorem over_length {α : Type} (xs ys : List α) (i : Nat) (h : i + ys.length ≤ xs.length) : (over xs ys i).length = xs.length := by simp [over]; omega

/-- copy into a slice that is owned. -/
theorem run_copy_own {t t2 ty : TypeId} {sz by_ : Nat} (hT : slTyB P t sz by_ = true) {w : World} {a : Option Addr} {l c : Nat} {xs : List Value} (hs : SlO sz w a l c xs)
    {a2 : Option Addr} {l2 c2 : Nat} {ys : List Value} (hr : RdS sz w a2 l2 c2 ys) (h1 : ∀ u ∈ ys, u.oneCell' = true) :
    ∃ w', (Builtin.copy_ #[t, t2] ty #[.slice a l c, .slice a2 l2 c2]).run P w = .ok (.int .i64 ((min l2 l : Nat) : Int)) w' ∧ SlO sz w' a l c (over xs (ys.take (min l2 l * sz)) 0) ∧ Kept (inA a) w w' ∧ w'.heap.size = w.heap.size ∧
      (∀ g off cur, a = some ⟨g, off, none⟩ → Blk w g cur → Blk w' g (over cur.toList (ys.take (min l2 l * sz)) off).toArray) := by
  obtain ⟨e, i, z, hu, hi, hz, hsz, hby, hzs, hpos⟩ := slTy_of hT
  subst hsz
  have hn1 : min l2 l * i.size ≤ l2 * i.size := Nat.mul_le_mul_right _ (Nat.min_le_left _ _)
  have hn2 : min l2 l * i.size ≤ l * i.size := Nat.mul_le_mul_right _ (Nat.min_le_right _ _)
  have hyl : (ys.take (min l2 l * i.size)).length = min l2 l * i.size := by rw [List.length_take, hr.1]; omega
  have hfc : (Builtin.firstCells i.size (min l2 l) (.slice a2 l2 c2)).run P w = .ok (ys.take (min l2 l * i.size)).toArray w := by
    cases a2 with
    | none =>
      obtain ⟨rfl, rfl, rfl⟩ := hr.isNone rfl
      simp [Builtin.firstCells]
    | some ad => exact run_firstCells_some w _ _ ad _ _ _ hyl (fun j v hj => hr.2.2.2 ad rfl j v (by rw [List.getElem?_take] at hj; split at hj <;> first | exact hj | cases hj))
  have hone : ∀ u ∈ ys.take (min l2 l * i.size), u.oneCell' = true := fun u hu' => h1 u (List.mem_of_mem_take hu')
  rcases hs.2 with ⟨rfl, rfl, rfl⟩ | ⟨g, off, cur, rfl, ⟨e', hg⟩, hlc, hcs, htk⟩
  · refine ⟨w, ?_, ?_, Kept.refl _ _, rfl, fun g off cur h => by cases h⟩
    · simp only [Nat.min_zero] at hfc
      simp [Builtin.copy_, run_underlying hu, sizeOf, typeInfo, hi, Builtin.lenOf, hfc, goInt]
    · have hx : xs = [] := List.eq_nil_of_length_eq_zero (by simpa using hs.1)
      subst hx
      simpa [over] using SlO.nil i.size w
  · have hle : l * i.size ≤ c * i.size := Nat.mul_le_mul_right _ hlc
    have hst := run_storeCells_at P g off e' (ys.take (min l2 l * i.size)) 0 cur w hg (by rw [hyl]; omega) hone
    simp only [Nat.add_zero] at hst
    have heq : (cur.toList.take off ++ ys.take (min l2 l * i.size) ++ cur.toList.drop (off + (ys.take (min l2 l * i.size)).length)) = over cur.toList (ys.take (min l2 l * i.size)) off := by simp [over]
    rw [heq] at hst
    refine ⟨w.setRow g (over cur.toList (ys.take (min l2 l * i.size)) off).toArray, ?_, ⟨?_, .inr ⟨g, off, _, rfl, Blk.setRow ⟨e', hg⟩ _, hlc, ?_, ?_⟩⟩, (Kept.setRow w g _).mono (fun b _ hb => (inA_some _ _ _ _).2 hb), by simp, ?_⟩
    · have hmin : Nat.min l2 l = min l2 l := rfl
      simp [Builtin.copy_, run_underlying hu, sizeOf, typeInfo, hi, Builtin.lenOf, hmin, hfc, hst, goInt]
    · rw [over_length _ _ _ (by rw [hyl, hs.1]; omega), hs.1]
    · simp only [List.size_toArray]
      rw [over_length _ _ _ (by rw [hyl, Array.length_toList]; omega), Array.length_toList]; exact hcs
    · -- what the slice reads
      have hxs : xs = (cur.toList.drop off).take (l * i.size) := htk.symm
      simp only [over, List.take_zero, List.nil_append, Nat.zero_add]
      have hoff : (cur.toList.take off).length = off := by rw [List.length_take, Array.length_toList]; omega
      rw [List.drop_append_of_le_length (by omega), List.drop_of_length_le (by omega), List.nil_append, hyl]
      rw [List.take_append, hyl, List.take_of_length_le (by rw [hyl]; exact hn2), hxs, List.drop_take, List.drop_drop]
    · intro g' off' cur' h hb'
      cases h
      have := Blk.uniq hb' ⟨e', hg⟩
      subst this
      exact Blk.setRow ⟨e', hg⟩ _

/-! ## make -/

theorem run_mk {t : TypeId} {sz by_ : Nat} {z : Value} (hT : ∃ e i, SlTy P t e i z sz by_) {w : World} {k k' : IntKind} {n m : Nat} (hnm : n ≤ m) (hb : m * by_ ≤ 281474976710656) (h63 : m ≤ 9223372036854775807) :
    ∃ w', (Instr.makeSlice t (.int k (n : Int)) (.int k' (m : Int))).run P w = .ok (.slice (some ⟨w.heap.size, 0, none⟩) n m) w' ∧ SlO sz w' (some ⟨w.heap.size, 0, none⟩) n m (Builtin.zeroCells z.cells n).toList ∧ Kept No w w' ∧ w'.heap.size = w.heap.size + 1 := by
  obtain ⟨e, i, hu, hi, hz, hsz, hby, hzs, hpos⟩ := hT
  subst hsz hby
  have h := run_make (P := P) w t e i z hu hi hz k k' (n : Int) (m : Int) (by omega) (by omega) (by rw [← Int.natCast_mul, Nat.mul_comm]; omega) (by omega)
  simp only [Int.toNat_natCast] at h
  refine ⟨_, h, ⟨by rw [Array.length_toList, zc_size, hzs], .inr ⟨w.heap.size, 0, _, rfl, Blk.alloc w _ e, hnm, by rw [size_madeCells]; omega, ?_⟩⟩, Kept.alloc _ w _, by simp⟩
  apply List.ext_getElem?
  intro j
  unfold madeCells Builtin.zeroCells
  simp only [List.drop_zero, Array.toList_map, Array.toList_range, List.getElem?_take, List.getElem?_map]
  have hle : n * i.size ≤ m * i.size := Nat.mul_le_mul_right _ hnm
  by_cases hj : j < n * i.size
  · simp [hj, hzs, show j < m * i.size by omega]
  · simp [hj, hzs]

end

/-! ## A store into an element of a slice -/

theorem stC_slo {w : World} {a : Option Addr} {l c : Nat} {xs : List Value} (hs : SlO 1 w a l c xs) {q : Addr} (hq : a = some q) {j : Nat} (hj : j < l) {v : Value} {K : World → Prop}
    (hk : ∀ w', SlO 1 w' a l c (xs.set j v) → Kept (inA a) w w' → w'.heap.size = w.heap.size → K w') : stC (q.add j) v w K := by
  rcases hs.2 with ⟨rfl, _, _⟩ | ⟨g, off, cur, rfl, hb, hlc, hcs, htk⟩
  · cases hq
  · cases hq
    rw [add_none]
    refine stC_blk hb (by omega) fun w' hb' hk' hsz => hk w' ⟨by rw [List.length_set, hs.1], .inr ⟨g, off, _, rfl, hb', hlc, by simpa using hcs, ?_⟩⟩ (hk'.mono fun b _ h => (inA_some _ _ _ _).2 h) hsz
    rw [← htk, Nat.mul_one]
    apply List.ext_getElem?
    intro k
    simp only [Array.toList_setIfInBounds, List.getElem?_take, List.getElem?_drop, List.getElem?_set, List.length_take, List.length_drop, Array.length_toList]
    have hm : min l (cur.size - off) = l := by omega
    by_cases hkl : k < l
    · by_cases hjk : j = k
      · subst hjk
        simp [hkl, hm, show off + j < cur.size by omega]
      · simp [hjk]
    · have : ¬ j = k := by omega
      simp [hkl, this]

/-! ## Bytes -/

def By (bs : List Int) : List Value := bs.map (Value.int .u8)
def In (ns : List Int) : List Value := ns.map (Value.int .i64)

theorem By_one (bs : List Int) : ∀ u ∈ By bs, u.oneCell' = true := by
  intro u hu; unfold By at hu; rw [List.mem_map] at hu; obtain ⟨n, _, rfl⟩ := hu; rfl
theorem In_one (bs : List Int) : ∀ u ∈ In bs, u.oneCell' = true := by
  intro u hu; unfold In at hu; rw [List.mem_map] at hu; obtain ⟨n, _, rfl⟩ := hu; rfl
@[simp] theorem By_length (bs : List Int) : (By bs).length = bs.length := by simp [By]
@[simp] theorem In_length (bs : List Int) : (In bs).length = bs.length := by simp [In]
theorem By_append (a b : List Int) : By (a ++ b) = By a ++ By b := by simp [By]
theorem By_take (a : List Int) (n : Nat) : By (a.take n) = (By a).take n := by simp [By, List.map_take]
theorem By_drop (a : List Int) (n : Nat) : By (a.drop n) = (By a).drop n := by simp [By, List.map_drop]
theorem In_append (a b : List Int) : In (a ++ b) = In a ++ In b := by simp [In]
theorem By_get (bs : List Int) (i : Nat) (h : i < bs.length) : (By bs)[i]? = some (.int .u8 bs[i]) := by simp [By, h]
theorem In_get (bs : List Int) (i : Nat) (h : i < bs.length) : (In bs)[i]? = some (.int .i64 bs[i]) := by simp [In, h]
theorem By_set (bs : List Int) (i : Nat) (n : Int) : (By bs).set i (.int .u8 n) = By (bs.set i n) := by simp [By, List.map_set]
theorem By_zeros (n : Nat) : (Builtin.zeroCells #[.int .u8 0] n).toList = By (List.replicate n 0) := by
  apply List.ext_getElem?
  intro j
  unfold Builtin.zeroCells By
  simp only [Array.toList_map, Array.toList_range, List.getElem?_map]
  by_cases hj : j < n
  · simp [hj, Nat.mod_one]
  · simp [hj]
theorem By_inj {a b : List Int} (h : By a = By b) : a = b := by
  unfold By at h
  exact List.map_inj_right (fun x y h => by cases h; rfl) |>.1 h

/-- Bytes that are read; bytes that are owned. -/
def RdB (w : World) (a : Option Addr) (l c : Nat) (bs : List Int) : Prop := RdS 1 w a l c (By bs)
def OB (w : World) (a : Option Addr) (l c : Nat) (bs : List Int) : Prop := SlO 1 w a l c (By bs)

theorem RdB.len {w : World} {a : Option Addr} {l c : Nat} {bs : List Int} (h : RdB w a l c bs) : bs.length = l := by have := h.1; simpa using this
theorem OB.len {w : World} {a : Option Addr} {l c : Nat} {bs : List Int} (h : OB w a l c bs) : bs.length = l := by have := h.1; simpa using this
theorem OB.rd {w : World} {a : Option Addr} {l c : Nat} {bs : List Int} (h : OB w a l c bs) : RdB w a l c bs := SlO.rd h
theorem RdB.keep {w w' : World} {a : Option Addr} {l c : Nat} {bs : List Int} (h : RdB w a l c bs) {S : Nat → Prop} (k : Kept S w w') (hn : ∀ b, b < w.heap.size → inA a b → ¬ S b) : RdB w' a l c bs := RdS.keep h k hn
theorem OB.keep {w w' : World} {a : Option Addr} {l c : Nat} {bs : List Int} (h : OB w a l c bs) {S : Nat → Prop} (k : Kept S w w') (hn : ∀ b, inA a b → ¬ S b) : OB w' a l c bs := SlO.keep h k hn
theorem RdB.get {w : World} {a : Option Addr} {l c : Nat} {bs : List Int} (h : RdB w a l c bs) {i : Nat} (hi : i < bs.length) : ∃ q, a = some q ∧ w.cell? (q.add i) = some (.int .u8 bs[i]) := by
  cases a with
  | none =>
    have := (RdS.isNone h rfl).2.2
    have hl : (By bs).length = 0 := by rw [this]; rfl
    simp at hl; subst hl; simp at hi
  | some q => exact ⟨q, rfl, h.2.2.2 q rfl i _ (By_get bs i hi)⟩
theorem RdB.nil (w : World) : RdB w none 0 0 [] := RdS.nil 1 w
theorem OB.nil (w : World) : OB w none 0 0 [] := SlO.nil 1 w
theorem RdB.from {w : World} {a : Option Addr} {l c : Nat} {bs : List Int} (h : RdB w a l c bs) (i : Nat) (hi : i ≤ l) : RdB w (adv a i c 1) (l - i) (c - i) (bs.drop i) := by
  have := RdS.from h i hi; unfold RdB; rw [By_drop]; simpa using this
theorem RdB.to {w : World} {a : Option Addr} {l c : Nat} {bs : List Int} (h : RdB w a l c bs) (j : Nat) (hj : j ≤ l) : RdB w a j c (bs.take j) := by
  have := RdS.to h j hj; unfold RdB; rw [By_take]; simpa using this
theorem OB.from {w : World} {a : Option Addr} {l c : Nat} {bs : List Int} (h : OB w a l c bs) (i : Nat) (hi : i ≤ l) : OB w (adv a i c 1) (l - i) (c - i) (bs.drop i) := by
  have := SlO.from h i hi; unfold OB; rw [By_drop]; simpa using this
theorem OB.to {w : World} {a : Option Addr} {l c : Nat} {bs : List Int} (h : OB w a l c bs) (j : Nat) (hj : j ≤ l) : OB w a j c (bs.take j) := by
  have := SlO.to h j hj; unfold OB; rw [By_take]; simpa using this

/-- New memory. -/
def Fresh (w : World) (a : Option Addr) : Prop := ∀ b, inA a b → w.heap.size ≤ b
theorem Fresh.none (w : World) : Fresh w none := fun b h => absurd h (inA_none b)
theorem AppAt.fresh {w w0 w' : World} {a a' : Option Addr} (h : AppAt w a a' w') (hf : Fresh w0 a) (hs : w0.heap.size ≤ w.heap.size) : Fresh w0 a' := fun b hb => by
  rcases h.in hb with h | rfl
  · exact hf b h
  · exact hs

theorem inI_of {n : Int} (h : -4611686018427387904 ≤ n ∧ n ≤ 4611686018427387904) : inI n := by unfold inI; omega

end Go.Lw
