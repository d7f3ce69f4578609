/-
  Whether any mode may be, its text and its flags, are as the page says: the walk. Conditions: none.
-/
import Derived.Test.YtapnpbfbebdjjaaModeE
import Derived.Test.YtapnpbfbebdjjaaOOpenmodePrints
set_option linter.unusedVariables false
namespace Go.Proofs.Ytapnpbfbebdjjaa
open Go.Lw

theorem walk_openmodePrints {W : World} {args : List Value} (h : V11 W args) : CallR Try.prog 11 args W fun v w' => v = .bool true ∧ Kept No W w' := by
  obtain ⟨b0, b1, b2, b3, b4, b5, b6, b7, rfl⟩ := h
  have hal := modes_alike b0 b1 b2 b3 b4 b5 b6 b7
  generalize hm : (⟨b0, b1, b2, b3, b4, b5, b6, b7⟩ : Md) = m at hal
  have hargs : (.agg #[.bool b0, .bool b1, .bool b2, .bool b3, .bool b4, .bool b5, .bool b6, .bool b7] : Value) = .agg m.cs := by rw [← hm]; rfl
  simp only [Bool.and_eq_true, decide_eq_true_eq] at hal
  obtain ⟨⟨⟨h1, h2⟩, h3⟩, h4⟩ := hal
  refine C11 ?_
  unfold L11
  intro w1
  have hb1 : Blk w1 W.heap.size m.cs := by rw [← hm]; exact Blk.alloc _ _ _
  have hk1 : Kept No W w1 := Kept.alloc _ _ _
  clear_value w1
  refine ld8 hb1 ((oprint_ok m).mono fun v w2 ⟨hv2, hk2⟩ => ⟨_, _, hv2, ?_⟩)
  have hb2 := hb1.keep hk2 (fun e => e)
  have hk02 := hk1.no hk2
  refine ld8 hb2 ((rprint_ok9 m).mono fun v w3 ⟨hv3, hk3⟩ => ?_)
  have hb3 := hb2.keep hk3 (fun e => e)
  have hk03 := hk02.no hk3
  have e3 : ∃ s n, (if chkR m ≠ 0 then (.tuple #[.string (ByteArray.mk #[]), .int .i64 91] : Value) else .tuple #[.string (r4 m), .int .i64 0]) = .tuple #[.string s, .int .i64 n] ∧ (printM m).1.data.toList = s.data.toList ∧ (printM m).2 = n := by
    by_cases hc : chkR m ≠ 0
    · rw [if_pos hc] at h2 ⊢
      exact ⟨_, _, rfl, by simpa using h2, by rw [h1]; rcases h3 with h | h; exact absurd h hc; exact h⟩
    · rw [if_neg hc] at h2 ⊢
      exact ⟨_, _, rfl, by simpa using h2, by rw [h1]; simpa using hc⟩
  obtain ⟨s3, n3, e3, hs3, hn3⟩ := e3
  rw [e3] at hv3
  refine ⟨_, _, hv3, ld8 hb3 ((oflags_ok m).mono fun v w4 ⟨hv4, hk4⟩ => ?_)⟩
  have hb4 := hb3.keep hk4 (fun e => e)
  have e4 : ∃ x y, (if (printM m).2 ≠ 0 then (.tuple #[.int .i64 0, .int .i64 (printM m).2] : Value) else .tuple #[.int .i64 (flI m 6), .int .i64 0]) = .tuple #[.int .i64 x, .int .i64 y] ∧
      (if chkR m ≠ 0 then (.tuple #[.int .i64 0, .int .i64 91] : Value) else .tuple #[.int .i64 (flR m), .int .i64 0]) = .tuple #[.int .i64 x, .int .i64 y] := by
    by_cases hc : chkR m ≠ 0
    · have h91 : chkR m = 91 := by rcases h3 with h | h; exact absurd h hc; exact h
      rw [h1, if_pos hc, if_pos hc, h91]; exact ⟨_, _, rfl, rfl⟩
    · rw [h1, if_neg hc, if_neg hc, h4]; exact ⟨_, _, rfl, rfl⟩
  obtain ⟨x4, y4, e4, e5⟩ := e4
  rw [e4] at hv4
  refine ⟨_, _, hv4, ld8 hb4 ((rflags_ok m).mono fun v w5 ⟨hv5, hk5⟩ => ?_)⟩
  have hb5 := hb4.keep hk5 (fun e => e)
  rw [e5] at hv5
  refine ⟨_, _, hv5, fun wS => Blk wS W.heap.size m.cs, hb5, ?_⟩
  intro w6
  have hb6 : Blk w6 W.heap.size m.cs := hb5
  have hk56 : Kept No w5 w6 := Kept.drew _ _
  clear_value w6
  refine ⟨m.r, m.w, m.a, m.c, m.t, m.x, m.b, m.k, fun wS h => ⟨(h.cell 0).trans rfl, (h.cell 1).trans rfl, (h.cell 2).trans rfl, (h.cell 3).trans rfl, (h.cell 4).trans rfl, (h.cell 5).trans rfl, (h.cell 6).trans rfl, (h.cell 7).trans rfl, trivial⟩,
    m.r, m.w, m.a, m.c, m.t, m.x, m.b, m.k, fun wS h => ⟨(h.cell 0).trans rfl, (h.cell 1).trans rfl, (h.cell 2).trans rfl, (h.cell 3).trans rfl, (h.cell 4).trans rfl, (h.cell 5).trans rfl, (h.cell 6).trans rfl, (h.cell 7).trans rfl, trivial⟩, ?_⟩
  refine (ocheck_ok m).mono fun v w7 ⟨hv7, hk7⟩ => ⟨_, hv7, hb6.keep hk7 (fun e => e), onum_to ⟨_, rfl, hb6.keep hk7 (fun e => e), ?_⟩⟩
  refine (rcheck_ok9 m).mono fun v w9 ⟨hv9, hk9⟩ => ⟨_, hv9, condT (by rw [h1]; simp) (condT (by rw [ByteArray.toList_eq, ByteArray.toList_eq, hs3]; simp) (onum_to ⟨_, rfl, condT (by rw [hn3]; simp) (condT (by simp) (onum_to ⟨_, rfl, condT (by simp) ?_⟩))⟩))⟩
  have hk09 : Kept No W w9 := ((((hk03.no hk4).no hk5).no hk56).no hk7).no hk9
  exact oalive_ok.mono fun v w10 ⟨hv10, hk10⟩ => ⟨_, hv10, rfl, hk09.no hk10⟩

end Go.Proofs.Ytapnpbfbebdjjaa
