/-
  What a kernel is made of, checked: names, each once. Conditions: as each says.
-/
import Derived.Test.YtbiofmgebbdflaaKe
set_option linter.unusedVariables false
namespace Go.Proofs.Ytbiofmgebbdflaa
open Go.Lw

def seenM (seen : List ByteArray) : List (Value × Value) := seen.map fun s => (.string s, .bool true)

theorem seen_in {seen : List ByteArray} {s : ByteArray} (h : s ∈ seen) : ((.string s, .bool true) : Value × Value) ∈ seenM seen := List.mem_map.2 ⟨s, h, rfl⟩
theorem seen_out {seen : List ByteArray} {s : ByteArray} (h : s ∉ seen) : ∀ x ∈ seenM seen, x.1 ≠ .string s := by
  intro x hx e
  obtain ⟨t, ht, rfl⟩ := List.mem_map.1 hx
  simp only [Value.string.injEq] at e
  subst e
  exact h ht

instance instDecBytes : DecidableEq ByteArray := fun a b => decidable_of_iff (a.data = b.data) ⟨fun h => by cases a; cases b; simp only at h; rw [h], fun h => by rw [h]⟩

def decMem (s : ByteArray) : ∀ l : List ByteArray, Decidable (s ∈ l)
  | [] => isFalse (by simp)
  | t :: r => if h : s = t then isTrue (by simp [h]) else match decMem s r with
    | isTrue h2 => isTrue (.tail _ h2)
    | isFalse h2 => isFalse (by simp [h, h2])

instance instDecMem (s : ByteArray) (l : List ByteArray) : Decidable (s ∈ l) := decMem s l

def freshK (seen : List ByteArray) (s : ByteArray) : Int := if namedS s = false then 61 else if s ∈ seen then 6 else 0

theorem fresh_ok {w : World} {g r : Nat} {seen : List ByteArray} (hb : Blk w g #[.map (some r)]) (hm : MapO w r .string (seenM seen)) (hgr : g ≠ r) (s : ByteArray) :
    CallR Try.prog 100 [.string s, .pointer (some ⟨g, 0, none⟩)] w fun v w' => v = .int .i64 (freshK seen s) ∧ (freshK seen s = 0 → MapO w' r .string (seenM (seen ++ [s]))) ∧ Kept (· = r) w w' := by
  refine C100 ?_
  unfold L100
  refine CallR.mono (named_ok s) ?_
  rintro v w1 ⟨rfl, hk1⟩
  have hT : Try.prog.underlying 191 = some (.map 9 4) := by kernel_rfl
  have hS : Try.prog.underlying 9 = some .string := by kernel_rfl
  have hb1 := hb.keep hk1 (fun e => e)
  have hm1 := hm.keep hk1 (fun e => e)
  have k1 : Kept (· = r) w w1 := hk1.mono fun _ _ e => e.elim
  refine ⟨_, rfl, condI (fun h => ?_) (fun h => ?_)⟩
  · have h := notT h
    have e : freshK seen s = 61 := by unfold freshK; rw [if_pos h]
    rw [e]
    exact ⟨rfl, fun e => by omega, k1⟩
  · have h := notF h
    refine nnI ⟨some r, (hb1.cell 0).trans rfl, ?_⟩
    by_cases hin : s ∈ seen
    · have e : freshK seen s = 6 := by unfold freshK; rw [if_neg (by rw [h]; simp), if_pos hin]
      rw [e]
      refine ⟨true, w1, lookup_in hT hS hm1 (k := .string s) trivial (seen_in hin) false, condT rfl ⟨rfl, fun e => by omega, k1⟩⟩
    · have e : freshK seen s = 0 := by unfold freshK; rw [if_neg (by rw [h]; simp), if_neg hin]
      rw [e]
      refine ⟨false, w1, lookup_out hT hS hm1 (k := .string s) trivial (seen_out hin) (z := .bool false) (by kernel_rfl) false, condF rfl (nnI ⟨some r, (hb1.cell 0).trans rfl, ?_⟩)⟩
      obtain ⟨w2, hrun, hm2, hk2, _⟩ := update_new hT hS hm1 (k := .string s) trivial (seen_out hin) (.bool true)
      refine ⟨w2, hrun, rfl, fun _ => ?_, k1.trans hk2 fun _ _ e => e⟩
      have : seenM (seen ++ [s]) = seenM seen ++ [(.string s, .bool true)] := by simp [seenM]
      rw [this]
      exact hm2

end Go.Proofs.Ytbiofmgebbdflaa
