/-
  What a row says of faults, of named files and of named terminals, in plain words; sizes that are cut to a range. Conditions: as each says.
-/
import Derived.Test.YtpoaacnnhgebfaaGreatKeC
import Derived.Test.YtpoaacnnhgebfaaGreatLr
set_option linter.unusedVariables false
namespace Go.Proofs.YtpoaacnnhgebfaaGreat
open Go.Lw

theorem Fv_get? : ∀ (ps : List (Int × Int)) (i : Nat) (v : Value), (Fv ps)[i]? = some v → ∃ (j : Nat) (hj : j < ps.length), (i = j * 2 ∧ v = .int .i64 ps[j].1) ∨ (i = j * 2 + 1 ∧ v = .int .i64 ps[j].2)
  | [], i, v, h => by simp [Fv] at h
  | p :: r, 0, v, h => by
    have h : some (Value.int .i64 p.1) = some v := h
    simp only [Option.some.injEq] at h
    exact ⟨0, by simp, .inl ⟨rfl, h.symm⟩⟩
  | p :: r, 1, v, h => by
    have h : some (Value.int .i64 p.2) = some v := h
    simp only [Option.some.injEq] at h
    exact ⟨0, by simp, .inr ⟨rfl, h.symm⟩⟩
  | p :: r, i + 2, v, h => by
    have h : (Fv r)[i]? = some v := h
    obtain ⟨j, hj, h⟩ := Fv_get? r i v h
    refine ⟨j + 1, by simpa using hj, ?_⟩
    rcases h with ⟨h1, h2⟩ | ⟨h1, h2⟩
    · exact .inl ⟨by omega, h2⟩
    · exact .inr ⟨by omega, h2⟩

/-- A row's faults. -/
theorem rdF_of_view {W : World} {a : Option Addr} {l c : Nat} (hlc : l ≤ c) (hz : a = none → c = 0)
    (h : ∀ q : Addr, a = some q → ∀ i : Nat, i < l → ∃ n1, (Lit.int .i64 n1).wf = true ∧ ∃ n2, (Lit.int .i64 n2).wf = true ∧ W.cell? (q.add (i * 2)) = some (.int .i64 n1) ∧ W.cell? ((q.add (i * 2)).add 1) = some (.int .i64 n2) ∧ True) :
    ∃ ps : List (Int × Int), RdS 2 W a l c (Fv ps) ∧ ps.length = l := by
  cases a with
  | none =>
    have := hz rfl
    obtain rfl : l = 0 := by omega
    subst this
    exact ⟨[], RdS.nil 2 _, rfl⟩
  | some q =>
    obtain ⟨f, hf⟩ := Deep.choose_lt (α := Int × Int) (n := l) (p := fun i x => W.cell? (q.add (i * 2)) = some (.int .i64 x.1) ∧ W.cell? ((q.add (i * 2)).add 1) = some (.int .i64 x.2)) (fun i hi => by
      obtain ⟨n1, _, n2, _, h1, h2, _⟩ := h q rfl i hi
      exact ⟨(n1, n2), h1, h2⟩)
    refine ⟨(List.range l).map f, ⟨by rw [Fv_len]; simp, hlc, (fun h => by cases h), fun ad had i v hi => ?_⟩, by simp⟩
    cases had
    obtain ⟨j, hj, h⟩ := Fv_get? _ i v hi
    have hj' : j < l := by simpa using hj
    rcases h with ⟨rfl, rfl⟩ | ⟨rfl, rfl⟩
    · have := (hf j hj').1; simpa using this
    · have := (hf j hj').2; rw [Lw.add_add] at this; simpa using this

/-- n cut to 0 .. m - 1. -/
theorem cutI (n m : Int) (h0 : 0 < m) (h1 : m ≤ 1048576) : inI (Int.tmod n m + m) ∧ 0 ≤ Int.tmod (Int.tmod n m + m) m ∧ Int.tmod (Int.tmod n m + m) m < m := by
  have h2 := Int.tmod_lt_of_pos n h0
  have h3 := Int.lt_tmod_of_pos n h0
  have h4 := Int.tmod_lt_of_pos (Int.tmod n m + m) h0
  have h5 := Int.tmod_nonneg m (by omega : 0 ≤ Int.tmod n m + m)
  exact ⟨⟨by omega, by omega⟩, h5, h4⟩


theorem Nv_get? : ∀ (es : List (ByteArray × Slc)) (i : Nat) (v : Value), (Nv es)[i]? = some v → ∃ (j : Nat) (hj : j < es.length), (i = j * 2 ∧ v = .string es[j].1) ∨ (i = j * 2 + 1 ∧ v = .slice es[j].2.1 es[j].2.2.1 es[j].2.2.2)
  | [], i, v, h => by simp [Nv] at h
  | p :: r, 0, v, h => by
    have h : some (Value.string p.1) = some v := h
    simp only [Option.some.injEq] at h
    exact ⟨0, by simp, .inl ⟨rfl, h.symm⟩⟩
  | p :: r, 1, v, h => by
    have h : some (Value.slice p.2.1 p.2.2.1 p.2.2.2) = some v := h
    simp only [Option.some.injEq] at h
    exact ⟨0, by simp, .inr ⟨rfl, h.symm⟩⟩
  | p :: r, i + 2, v, h => by
    have h : (Nv r)[i]? = some v := h
    obtain ⟨j, hj, h⟩ := Nv_get? r i v h
    refine ⟨j + 1, by simpa using hj, ?_⟩
    rcases h with ⟨h1, h2⟩ | ⟨h1, h2⟩
    · exact .inl ⟨by omega, h2⟩
    · exact .inr ⟨by omega, h2⟩

/-- Named things, told one by one. -/
theorem rdN_of {α : Type} [Inhabited α] {R : World → Slc → α → Prop} {B : α → Prop} {W : World} {a : Option Addr} {l c : Nat} (hlc : l ≤ c) (hz : a = none → c = 0)
    (h : ∀ q : Addr, a = some q → ∀ i : Nat, i < l → ∃ (s : ByteArray) (sl : Slc) (x : α), R W sl x ∧ B x ∧ W.cell? (q.add (i * 2)) = some (.string s) ∧ W.cell? ((q.add (i * 2)).add 1) = some (.slice sl.1 sl.2.1 sl.2.2)) :
    ∃ fs es, RdN R W a l c fs es ∧ fs.length = l ∧ ∀ f ∈ fs, B f.2 := by
  cases a with
  | none =>
    have := hz rfl
    obtain rfl : l = 0 := by omega
    subst this
    exact ⟨[], [], ⟨RdS.nil 2 _, rfl, fun i h => by simp at h⟩, rfl, by simp⟩
  | some q =>
    haveI : Inhabited ByteArray := ⟨ByteArray.mk #[]⟩
    obtain ⟨f, hf⟩ := Deep.choose_lt (α := ByteArray × Slc × α) (n := l) (p := fun i x => R W x.2.1 x.2.2 ∧ B x.2.2 ∧ W.cell? (q.add (i * 2)) = some (.string x.1) ∧ W.cell? ((q.add (i * 2)).add 1) = some (.slice x.2.1.1 x.2.1.2.1 x.2.1.2.2)) (fun i hi => by
      obtain ⟨s, sl, x, h1, h2, h3, h4⟩ := h q rfl i hi
      exact ⟨(s, sl, x), h1, h2, h3, h4⟩)
    refine ⟨(List.range l).map fun i => ((f i).1, (f i).2.2), (List.range l).map fun i => ((f i).1, (f i).2.1), ⟨⟨by rw [Nv_len]; simp, hlc, (fun h => by cases h), fun ad had i v hi => ?_⟩, by simp, fun i h1 h2 => ?_⟩, by simp, fun x hx => ?_⟩
    · cases had
      obtain ⟨j, hj, h⟩ := Nv_get? _ i v hi
      have hj' : j < l := by simpa using hj
      rcases h with ⟨rfl, rfl⟩ | ⟨rfl, rfl⟩
      · have := (hf j hj').2.2.1; simpa using this
      · have := (hf j hj').2.2.2; rw [Lw.add_add] at this; simpa using this
    · have hi : i < l := by simpa using h1
      simp only [List.getElem_map, List.getElem_range]
      exact ⟨trivial, (hf i hi).1⟩
    · obtain ⟨i, hi, rfl⟩ := List.mem_map.1 hx
      exact (hf i (List.mem_range.1 hi)).2.1

end Go.Proofs.YtpoaacnnhgebfaaGreat
