/-
  A map that is ranged over: which pairs are still to come. Conditions: none; it speaks of whatever program.
-/
import Derived.Test.YtpoaacnnhgebfaaGreatMp
import Derived.Maps.RangeRun
set_option linter.unusedVariables false
namespace Go.Lw
open Go.MapKept

abbrev kv (e : MapEntry) : Value × Value := (e.key, e.val)

/-- The map at b is ranged over by the iterator at r; these pairs are still to come. -/
def RngO (w : World) (b r : Nat) (d : TypeDesc) (m left : List (Value × Value)) : Prop :=
  ∃ es clock since seen c0, w.heap[b]? = some (.map es clock) ∧ Stamped es clock ∧ (∀ x ∈ es.toList, IsKey d x.key) ∧ es.toList.map kv = m ∧
    w.heap[r]? = some (.mapIter (some b) since seen c0) ∧ (∀ x ∈ es.toList, x.born < since) ∧ since ≤ c0 ∧ since ≤ clock ∧ (leftOf es seen).toList.map kv = left

theorem RngO.map {w : World} {b r : Nat} {d : TypeDesc} {m left : List (Value × Value)} (h : RngO w b r d m left) : MapO w b d m := by
  obtain ⟨es, clock, since, seen, c0, hb, hs, hk, hm, _⟩ := h
  exact ⟨es, clock, hb, hs, hk, hm⟩

theorem RngO.lt {w : World} {b r : Nat} {d : TypeDesc} {m left : List (Value × Value)} (h : RngO w b r d m left) : r < w.heap.size := by
  obtain ⟨es, clock, since, seen, c0, hb, hs, hk, hm, hr, _⟩ := h
  exact (Array.getElem?_eq_some_iff.1 hr).1

theorem RngO.keep {w w' : World} {b r : Nat} {d : TypeDesc} {m left : List (Value × Value)} (h : RngO w b r d m left) {S : Nat → Prop} (k : Kept S w w') (hb : ¬ S b) (hr : ¬ S r) : RngO w' b r d m left := by
  have hl := h.map.lt
  have hl2 := h.lt
  obtain ⟨es, clock, since, seen, c0, h1, hs, hk, hm, h2, h⟩ := h
  exact ⟨es, clock, since, seen, c0, (k.block _ hl hb).trans h1, hs, hk, hm, (k.block _ hl2 hr).trans h2, h⟩

section
variable {P : Program} {w : World} {mty kt et : TypeId} {d : TypeDesc} {b r : Nat} {m left : List (Value × Value)}

theorem range_map (hm : P.underlying mty = some (.map kt et)) (h : MapO w b d m) :
    ∃ w', (Instr.range mty (.map (some b))).run P w = .ok (.pointer (some ⟨w.heap.size, 0, none⟩)) w' ∧ RngO w' b w.heap.size d m m ∧ Kept No w w' ∧ w'.heap.size = w.heap.size + 1 := by
  have hlt := h.lt
  obtain ⟨es, clock, hb, hs, hks, rfl⟩ := h
  refine ⟨_, run_range_map w mty kt et b es clock hm hb, ⟨es, clock, clock, #[], clock, ((MapKept.heap_alloc w _).2 b hlt).trans hb, hs, hks, rfl, (MapKept.heap_alloc w _).1, hs.1, Nat.le_refl _, Nat.le_refl _, ?_⟩, Kept.alloc _ _ _, by simp⟩
  unfold leftOf
  congr 2
  simp

theorem left_push (es : Array MapEntry) (seen : Array Nat) (k : Nat) : (leftOf es (seen.push k)).toList = (leftOf es seen).toList.filter fun x => !(x.born == k) := by
  unfold leftOf
  rw [Array.toList_filter, Array.toList_filter, List.filter_filter]
  congr 1
  funext x
  rw [Array.contains_push, Bool.not_or, Bool.and_comm]

theorem filter_one {l : List MapEntry} (hn : (l.map (·.born)).Nodup) {e : MapEntry} (he : e ∈ l) : ∃ l1 l2, l = l1 ++ e :: l2 ∧ (l.filter fun x => !(x.born == e.born)) = l1 ++ l2 := by
  obtain ⟨l1, l2, rfl⟩ := List.append_of_mem he
  refine ⟨l1, l2, rfl, ?_⟩
  rw [List.map_append, List.map_cons, List.nodup_append] at hn
  obtain ⟨h1, h2, h3⟩ := hn
  have h2 := List.nodup_cons.1 h2
  have e1 : (l1.filter fun x => !(x.born == e.born)) = l1 := List.filter_eq_self.2 fun x hx => by
    have := h3 x.born (List.mem_map.2 ⟨x, hx, rfl⟩) e.born (by simp)
    simpa using this
  have e2 : (l2.filter fun x => !(x.born == e.born)) = l2 := List.filter_eq_self.2 fun x hx => by
    have : x.born ≠ e.born := fun e' => h2.1 (List.mem_map.2 ⟨x, hx, e'⟩)
    simpa using this
  rw [List.filter_append, e1, List.filter_cons_of_neg (by simp), e2]

/-- What comes next: nothing is left; or one of what is left. -/
theorem next_map (h : RngO w b r d m left) (ty : TypeId) :
    (left = [] ∧ (Instr.next (.pointer (some ⟨r, 0, none⟩)) false ty).run P w = .ok (.tuple #[.bool false]) w) ∨
    ∃ p l1 l2 w', left = l1 ++ p :: l2 ∧ p ∈ m ∧ (Instr.next (.pointer (some ⟨r, 0, none⟩)) false ty).run P w = .ok (.tuple #[.bool true, p.1, p.2]) w' ∧ RngO w' b r d m (l1 ++ l2) ∧ Kept (· = r) w w' ∧ w'.heap.size = w.heap.size ∧
      (Instr.entry (.pointer (some ⟨r, 0, none⟩))).run P w' = .ok (.tuple #[p.1, p.2]) w' := by
  obtain ⟨es, clock, since, seen, c0, hb, hs, hk, rfl, hr, hold, hsc, hsk, rfl⟩ := h
  have hne : b ≠ r := fun e => by rw [e, hr] at hb; cases hb
  rcases run_next_at (P := P) w ty r b since c0 seen es clock hr hb hold hsc with ⟨h0, hrun⟩ | ⟨e, he, w1, hal, hrun⟩
  · refine .inl ⟨?_, hrun⟩
    have : leftOf es seen = #[] := Array.eq_empty_of_size_eq_zero h0
    rw [this]; rfl
  · have hr1 : w1.heap[r]? = some (.mapIter (some b) since seen c0) := by rcases hal with rfl | rfl <;> exact hr
    have hb1 : w1.heap[b]? = some (.map es clock) := by rcases hal with rfl | rfl <;> exact hb
    have hset := heap_set (o' := .mapIter (some b) since (seen.push e.born) clock) hr1
    have hmem : e ∈ es.toList := by unfold leftOf at he; rw [Array.toList_filter] at he; exact (List.mem_filter.1 he).1
    have hnd : ((leftOf es seen).toList.map (·.born)).Nodup := by
      have : (leftOf es seen).toList.Sublist es.toList := by unfold leftOf; rw [Array.toList_filter]; exact List.filter_sublist
      exact (this.map _).nodup hs.2.1
    obtain ⟨l1, l2, e1, e2⟩ := filter_one hnd he
    have hk1 : Kept No w w1 := by
      rcases hal with rfl | rfl
      · exact Kept.refl _ _
      · exact Kept.drew _ _
    have hbset := (hset.2 b hne).trans hb1
    refine .inr ⟨kv e, l1.map kv, l2.map kv, _, by rw [e1]; simp, List.mem_map.2 ⟨e, hmem, rfl⟩, hrun, ⟨es, clock, since, seen.push e.born, clock, hbset, hs, hk, rfl, hset.1, hold, hsk, hsk, ?_⟩, ?_, ?_, ?_⟩
    · rw [left_push, e2, List.map_append]
    · exact ⟨hk1.os, hk1.tape, hk1.output, by simp [ChangeMaps.setBlock]; exact hk1.size, fun k hkl hkn => (hset.2 k hkn).trans (hk1.block k hkl fun e => e)⟩
    · have : w1.heap.size = w.heap.size := by rcases hal with rfl | rfl <;> rfl
      simp [ChangeMaps.setBlock, this]
    · exact run_entry_at _ r b since seen es clock e hset.1 hbset hmem hs.2.1

end
end Go.Lw
