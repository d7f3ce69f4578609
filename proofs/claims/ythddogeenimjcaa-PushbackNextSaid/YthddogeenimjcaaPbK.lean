/-
  May a stream's state be? The program's answer and the page's. Conditions: as each says.
-/
import Derived.Test.YthddogeenimjcaaPb
set_option linter.unusedVariables false
namespace Go.Proofs.Ythddogeenimjcaa
open Go.Lw

theorem leaf51 {p : Pu} (h : ¬ ckP p) : Value.int .i64 51 = Value.int .i64 (if ckP p then 0 else 51) := by rw [if_neg h]
theorem leaf0 {p : Pu} (h : ckP p) : Value.int .i64 0 = Value.int .i64 (if ckP p then 0 else 51) := by rw [if_pos h]

set_option maxHeartbeats 8000000 in
theorem check_ok {w : World} (p : Pu) (s : Sl3) (h : Rd3 w s p) (hbd : Bd p) : CallR Try.prog 33 [.agg (cs p s)] w fun v w' => v = .int .i64 (if ckP p then 0 else 51) ∧ Kept No w w' := by
  refine C33 ?_
  unfold L33
  intro w1
  have hb : Blk w1 w.heap.size (cs p s) := Blk.alloc _ _ _
  have hk : Kept No w w1 := Kept.alloc _ _ _
  clear_value w1
  obtain ⟨l1, l2, l3⟩ := h
  have l1 := l1.len
  have l2 := l2.len
  have l3 := l3.len
  obtain ⟨b1, b2, b3⟩ := hbd
  have hv : ckP p ↔ ckV p.r p.w p.c p.m p.z p.d s.ol s.il s.kl := by unfold ckP; rw [l1, l2, l3]
  rw [l1] at b1
  rw [l2] at b2
  rw [l3] at b3
  clear l1 l2 l3
  obtain ⟨r, ww, m, z, o, i, k, d, e, b, c⟩ := p
  obtain ⟨oa, ol, oc, ia, il, ic, ka, kl, kc⟩ := s
  simp only [cs] at hb
  dsimp only at *
  refine ⟨_, _, _, (hb.cell 5).trans rfl, _, _, _, (hb.cell 6).trans rfl, ⟨by omega, by omega⟩, _, (hb.cell 2).trans rfl, _, (hb.cell 3).trans rfl, CallR.mono (buf_ok _ _) ?_⟩
  rintro v w2 ⟨rfl, rfl⟩
  refine ⟨_, rfl, ?_⟩
  have hb0 : ((if m < 1 ∨ 3 < m then (1 : Int) else if z < 1 ∨ 65536 < z then 4 else 0) = 0 ∧ (1 ≤ m ∧ m ≤ 3 ∧ 1 ≤ z ∧ z ≤ 65536)) ∨ ((if m < 1 ∨ 3 < m then (1 : Int) else if z < 1 ∨ 65536 < z then 4 else 0) ≠ 0 ∧ ¬ (1 ≤ m ∧ m ≤ 3 ∧ 1 ≤ z ∧ z ≤ 65536)) := by
    split
    · right; constructor <;> omega
    · split
      · right; constructor <;> omega
      · left; constructor <;> omega
  revert hb0
  generalize (if m < 1 ∨ 3 < m then (1 : Int) else if z < 1 ∨ 65536 < z then 4 else 0) = q
  intro hb0
  repeat' first
    | refine condP (fun _ => ?_) (fun _ => ?_)
    | refine condE (fun _ => ?_) (fun _ => ?_)
    | refine condN (fun _ => ?_) (fun _ => ?_)
    | refine condNE (fun _ => ?_) (fun _ => ?_)
    | refine condTr ?_
    | refine condFa ?_
    | (refine condI (fun hq => ?_) (fun hq => ?_) <;> subst hq)
    | (refine condI (fun hq => ?_) (fun hq => ?_) <;> simp only [Bool.not_eq_true', Bool.not_eq_false'] at hq <;> subst hq)
    | refine ⟨_, (Blk.cell hb _).trans rfl, ?_⟩
    | refine ⟨_, _, _, (Blk.cell hb _).trans rfl, ?_⟩
    | refine ⟨⟨by omega, by omega⟩, ?_⟩
    | (refine ⟨leaf51 ?_, hk⟩; rw [hv]; intro hck; simp only [ckV, reduceCtorEq, implies_true, imp_false, and_true, true_and, true_implies, false_implies] at hck; omega)
    | (refine ⟨leaf0 ?_, hk⟩; rw [hv]; simp only [ckV, reduceCtorEq, implies_true, and_true, true_and, true_implies, false_implies]; omega)

set_option maxHeartbeats 8000000 in
theorem check2_ok {w : World} (p : Pu) (s : Sl3) (h : Rd3 w s p) (hbd : Bd p) : CallR Try.prog 36 [.agg (cs p s)] w fun v w' => v = .int .i64 (if ckP p then 0 else 51) ∧ Kept No w w' := by
  refine C36 ?_
  unfold L36
  intro w1
  have hb : Blk w1 w.heap.size (cs p s) := Blk.alloc _ _ _
  have hk : Kept No w w1 := Kept.alloc _ _ _
  clear_value w1
  obtain ⟨l1, l2, l3⟩ := h
  have l1 := l1.len
  have l2 := l2.len
  have l3 := l3.len
  obtain ⟨b1, b2, b3⟩ := hbd
  have hv : ckP p ↔ ckV p.r p.w p.c p.m p.z p.d s.ol s.il s.kl := by unfold ckP; rw [l1, l2, l3]
  rw [l1] at b1
  rw [l2] at b2
  rw [l3] at b3
  clear l1 l2 l3
  obtain ⟨r, ww, m, z, o, i, k, d, e, b, c⟩ := p
  obtain ⟨oa, ol, oc, ia, il, ic, ka, kl, kc⟩ := s
  simp only [cs] at hb
  dsimp only at *
  repeat' first
    | refine condP (fun _ => ?_) (fun _ => ?_)
    | refine condE (fun _ => ?_) (fun _ => ?_)
    | refine condN (fun _ => ?_) (fun _ => ?_)
    | refine condNE (fun _ => ?_) (fun _ => ?_)
    | refine condTr ?_
    | refine condFa ?_
    | (refine condI (fun hq => ?_) (fun hq => ?_) <;> subst hq)
    | (refine condI (fun hq => ?_) (fun hq => ?_) <;> simp only [Bool.not_eq_true', Bool.not_eq_false'] at hq <;> subst hq)
    | refine ⟨_, (Blk.cell hb _).trans rfl, ?_⟩
    | refine ⟨_, _, _, (Blk.cell hb _).trans rfl, ?_⟩
    | refine ⟨⟨by omega, by omega⟩, ?_⟩
    | (refine ⟨leaf51 ?_, hk⟩; rw [hv]; intro hck; simp only [ckV, reduceCtorEq, implies_true, imp_false, true_and, true_implies] at hck; omega)
    | (refine ⟨leaf0 ?_, hk⟩; rw [hv]; simp only [ckV, reduceCtorEq, implies_true, and_true, true_and, true_implies, false_implies]; omega)

end Go.Proofs.Ythddogeenimjcaa
