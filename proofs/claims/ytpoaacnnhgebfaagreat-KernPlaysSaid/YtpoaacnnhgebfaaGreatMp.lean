/-
  Maps by their pairs: what is looked up, laid, deleted and counted. Conditions: none; it speaks of whatever program.
-/
import Derived.Test.YtpoaacnnhgebfaaGreatLm
import Derived.MapKept
namespace Go.Lw
open Go.MapKept

/-- A map of these pairs. -/
def MapO (w : World) (r : Nat) (d : TypeDesc) (m : List (Value × Value)) : Prop :=
  ∃ es clock, w.heap[r]? = some (.map es clock) ∧ Stamped es clock ∧ (∀ x ∈ es.toList, IsKey d x.key) ∧ es.toList.map (fun e => (e.key, e.val)) = m

theorem MapO.lt {w : World} {r : Nat} {d : TypeDesc} {m : List (Value × Value)} (h : MapO w r d m) : r < w.heap.size := by
  obtain ⟨es, clock, hb, _⟩ := h
  exact (Array.getElem?_eq_some_iff.1 hb).1

theorem MapO.keep {w w' : World} {r : Nat} {d : TypeDesc} {m : List (Value × Value)} (h : MapO w r d m) {S : Nat → Prop} (k : Kept S w w') (hn : ¬ S r) : MapO w' r d m := by
  obtain ⟨es, clock, hb, h⟩ := h
  exact ⟨es, clock, (k.block _ (Array.getElem?_eq_some_iff.1 hb).1 hn).trans hb, h⟩

theorem MapO.new (w : World) (d : TypeDesc) : MapO (w.alloc (.map #[] 0)) w.heap.size d [] :=
  ⟨#[], 0, heap_alloc_new w _, stamped_empty 0, by simp, rfl⟩

theorem MapO.uniq {w : World} {r : Nat} {d : TypeDesc} {m : List (Value × Value)} (h : MapO w r d m) : (m.map (·.1)).Nodup := by
  obtain ⟨es, clock, hb, hs, hks, rfl⟩ := h
  rw [List.map_map]
  exact hs.2.2

section
variable {P : Program} {w : World} {mty kt et : TypeId} {d : TypeDesc} {r : Nat} {m : List (Value × Value)} {k : Value}

theorem Kept.setMap {es : Array MapEntry} {clock : Nat} (hb : w.heap[r]? = some (.map es clock)) (o : Obj) : Kept (· = r) w { w with heap := w.heap.setIfInBounds r o } :=
  ⟨rfl, rfl, rfl, by simp, fun i _ hn => (heap_set hb).2 i hn⟩

theorem lookup_in (hm : P.underlying mty = some (.map kt et)) (hd : P.underlying kt = some d) (h : MapO w r d m) (hk : IsKey d k) {v : Value} (hin : (k, v) ∈ m) (c : Bool) :
    (Instr.lookup mty (.map (some r)) k c).run P w = .ok (if c then .tuple #[v, .bool true] else v) w := by
  obtain ⟨es, clock, hb, hs, hks, rfl⟩ := h
  obtain ⟨x, hx, hxe⟩ := List.mem_map.1 hin
  simp only [Prod.mk.injEq] at hxe
  rcases findNow_spec hk es.toList 0 hks with ⟨h1, h2⟩ | ⟨j, e, h1, h2, h3⟩
  · exact absurd hxe.1 (h2 x hx)
  · have he : e = x := by
      obtain ⟨i, hi, hxi⟩ := List.mem_iff_getElem.1 hx
      have hj := (List.getElem?_eq_some_iff.1 h2)
      obtain ⟨hj, hje⟩ := hj
      have hnd := hs.2.2
      have hij : i = j := by
        have h4 : (es.toList.map (·.key))[i]'(by simpa using hi) = (es.toList.map (·.key))[j]'(by simpa using hj) := by
          rw [List.getElem_map, List.getElem_map, hxi, hje, h3, hxe.1]
        exact (List.getElem_inj hnd).1 h4
      subst hij
      rw [← hje, ← hxi]
    subst he
    have hv : e.val = v := hxe.2
    cases c <;> simp [Instr.lookup, run_underlying hm, MapKept.run_getObj_map hb, run_checkKey hd hk, run_findKey hd h1, Result.andThen, hv]

theorem lookup_out (hm : P.underlying mty = some (.map kt et)) (hd : P.underlying kt = some d) (h : MapO w r d m) (hk : IsKey d k) (hout : ∀ x ∈ m, x.1 ≠ k) {z : Value} (hz : (zeroValue et).run P w = .ok z w) (c : Bool) :
    (Instr.lookup mty (.map (some r)) k c).run P w = .ok (if c then .tuple #[z, .bool false] else z) w := by
  obtain ⟨es, clock, hb, hs, hks, rfl⟩ := h
  rcases findNow_spec hk es.toList 0 hks with ⟨h1, h2⟩ | ⟨j, e, h1, h2, h3⟩
  · cases c <;> simp [Instr.lookup, run_underlying hm, MapKept.run_getObj_map hb, run_checkKey hd hk, run_findKey hd h1, Result.andThen, hz]
  · have : e ∈ es.toList := List.mem_iff_getElem?.2 ⟨j, h2⟩
    exact absurd h3 (hout (e.key, e.val) (List.mem_map.2 ⟨e, this, rfl⟩))

theorem update_new (hm : P.underlying mty = some (.map kt et)) (hd : P.underlying kt = some d) (h : MapO w r d m) (hk : IsKey d k) (hout : ∀ x ∈ m, x.1 ≠ k) (v : Value) :
    ∃ w', (Instr.mapUpdate mty (.map (some r)) k v).run P w = .ok () w' ∧ MapO w' r d (m ++ [(k, v)]) ∧ Kept (· = r) w w' ∧ w'.heap.size = w.heap.size := by
  obtain ⟨es, clock, hb, hs, hks, rfl⟩ := h
  rcases findNow_spec hk es.toList 0 hks with ⟨h1, h2⟩ | ⟨j, e, h1, h2, h3⟩
  · refine ⟨{ w with heap := w.heap.setIfInBounds r (.map (es.push { key := k, val := v, born := clock }) (clock + 1)) }, ?_, ⟨_, _, (heap_set hb).1, stamped_push hs h2, ?_, by simp⟩, Kept.setMap hb _, by simp⟩
    · simp [Instr.mapUpdate, run_underlying hm, MapKept.run_getObj_map hb, run_checkKey hd hk, run_findKey hd h1, run_setObj_map _ hb, Result.andThen]
    · intro x hx
      simp only [Array.toList_push, List.mem_append, List.mem_singleton] at hx
      rcases hx with hx | rfl
      · exact hks x hx
      · exact hk
  · have : e ∈ es.toList := List.mem_iff_getElem?.2 ⟨j, h2⟩
    exact absurd h3 (hout (e.key, e.val) (List.mem_map.2 ⟨e, this, rfl⟩))

theorem len_map (hm : P.underlying mty = some (.map kt et)) (h : MapO w r d m) (t : TypeId) : (Builtin.len_ #[mty] t #[.map (some r)]).run P w = .ok (.int .i64 (m.length : Int)) w := by
  obtain ⟨es, clock, hb, hs, hks, rfl⟩ := h
  simp [Builtin.len_, run_underlying hm, MapKept.run_getObj_map hb, Result.andThen, goInt]

theorem delete_in (hm : P.underlying mty = some (.map kt et)) (hd : P.underlying kt = some d) (h : MapO w r d m) (hk : IsKey d k) {v : Value} {m1 m2 : List (Value × Value)} (he : m = m1 ++ (k, v) :: m2) (ty : TypeId) :
    ∃ w', (Builtin.delete_ #[mty, kt] ty #[.map (some r), k]).run P w = .ok (.tuple #[]) w' ∧ MapO w' r d (m1 ++ m2) ∧ Kept (· = r) w w' ∧ w'.heap.size = w.heap.size := by
  have hnd := h.uniq
  obtain ⟨es, clock, hb, hs, hks, hes⟩ := h
  rcases findNow_spec hk es.toList 0 hks with ⟨h1, h2⟩ | ⟨j, e, h1, h2, h3⟩
  · have : (k, v) ∈ es.toList.map (fun e => (e.key, e.val)) := by rw [hes, he]; simp
    obtain ⟨x, hx, hxe⟩ := List.mem_map.1 this
    simp only [Prod.mk.injEq] at hxe
    exact absurd hxe.1 (h2 x hx)
  · have hj : j = m1.length := by
      have e1 : (m.map (·.1))[j]? = some k := by
        rw [← hes, List.map_map, List.getElem?_map, h2]
        simp [h3]
      have e2 : (m.map (·.1))[m1.length]? = some k := by rw [he]; simp
      obtain ⟨h5, h6⟩ := List.getElem?_eq_some_iff.1 e1
      obtain ⟨h7, h8⟩ := List.getElem?_eq_some_iff.1 e2
      exact (List.getElem_inj hnd).1 (h6.trans h8.symm)
    subst hj
    refine ⟨{ w with heap := w.heap.setIfInBounds r (.map (es.eraseIdxIfInBounds m1.length) clock) }, ?_, ⟨_, _, (heap_set hb).1, stamped_erase hs _, ?_, ?_⟩, Kept.setMap hb _, by simp⟩
    · simp [Builtin.delete_, run_underlying hm, MapKept.run_getObj_map hb, run_checkKey hd hk, run_findKey hd h1, run_setObj_map _ hb, Result.andThen]
    · intro x hx
      have : x ∈ es.toList := by
        have e3 : (es.eraseIdxIfInBounds m1.length).toList = es.toList.eraseIdx m1.length := by simp
        rw [e3] at hx
        exact List.mem_of_mem_eraseIdx hx
      exact hks x this
    · have e3 : (es.eraseIdxIfInBounds m1.length).toList = es.toList.eraseIdx m1.length := by simp
      rw [e3, List.eraseIdx_eq_take_drop_succ, List.map_append, List.map_take, List.map_drop, hes, he]
      simp

end

end Go.Lw
