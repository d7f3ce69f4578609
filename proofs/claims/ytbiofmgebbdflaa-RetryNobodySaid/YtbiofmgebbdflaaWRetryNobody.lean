/-
  A Raw that is nil, sizes out of their range: the walk. Conditions: none.
-/
import Derived.Test.YtbiofmgebbdflaaRtA
import Derived.Test.YtbiofmgebbdflaaPt
import Derived.Test.YtbiofmgebbdflaaLOd
import Derived.Test.YtbiofmgebbdflaaLRn
import Derived.Test.YtbiofmgebbdflaaORetryNobody
set_option linter.unusedVariables false
namespace Go.Proofs.Ytbiofmgebbdflaa
open Go.Lw

theorem nil_nil {w : World} {t : Nat} : Sem.run Try.prog (Sem.bind (eqGuard .eql 159 (.tmp t) (.const .nilIface) .nilIface .nilIface) (fun _ => binOp .eql 159 .nilIface .nilIface)) w = .ok (.bool true) w := by kernel_rfl

theorem someNil_ok {w : World} (n : Int) : CallR Try.prog 31 [.nilIface, .int .i64 n] w fun v w' => v = .tuple #[.slice none 0 0, .int .i64 2] ∧ w' = w := by
  refine C31 ?_
  unfold L31
  exact ⟨_, _, nil_nil, condTr2 ⟨rfl, rfl⟩⟩

theorem putNil_ok {w : World} (a : Option Addr) (l c : Nat) : CallR Try.prog 57 [.nilIface, .slice a l c] w fun v w' => v = .tuple #[.int .i64 0, .int .i64 2] ∧ w' = w := by
  refine C57 ?_
  unfold L57
  exact ⟨_, _, nil_nil, condTr2 ⟨rfl, rfl⟩⟩

theorem allNil_ok {w : World} (n : Int) : CallR Try.prog 58 [.nilIface, .int .i64 n] w fun v w' => (∃ a l c, v = .tuple #[.slice a l c, .int .i64 2]) ∧ Kept No w w' := by
  refine C58 ?_
  unfold L58
  refine CallR.mono (someNil_ok n) ?_
  rintro v w1 ⟨rfl, rfl⟩
  refine ⟨_, _, _, _, rfl, ?_⟩
  intro w2
  have hk2 : Kept No w1 w2 := Kept.alloc _ _ _
  have hs0 : SlO 1 w2 (some ⟨w1.heap.size, 0, none⟩) 0 0 (By []) := SlO.of_blk (Blk.alloc w1 #[] _) (by simp)
  clear_value w2
  obtain ⟨a6, c6, w3, hrun, hs3, hk3, hat, _⟩ := run_app_sl (P := Try.prog) (t := 36) (t2 := 36) (ty := 36) (by kernel_rfl : slTyB Try.prog 36 1 1 = true) (by kernel_rfl) hs0 (RdB.nil w2 : RdS 1 w2 none 0 0 (By [])) (By_one _) (by omega) (by omega)
  refine ⟨_, _, _, w3, hrun, fun vs w' => ∃ a l c, vs = [.slice none 0 0, .int .i64 2, .slice a l c] ∧ w' = w3, fun _ _ => 0, ⟨_, _, _, rfl, rfl⟩, ?_⟩
  rintro _ a9 l9 c9 n10 a11 l11 c11 w4 ⟨a, l, c, hvs, rfl⟩
  simp only [List.cons.injEq, Value.int.injEq, Value.slice.injEq, true_and, and_true] at hvs
  obtain ⟨⟨rfl, rfl, rfl⟩, rfl, rfl, rfl, rfl⟩ := hvs
  exact condFa2 ⟨⟨_, _, _, rfl⟩, hk2.fresh hk3 fun x e => by rw [inA_some] at e; omega⟩

def ov (o : Nat) : Value := .iface 91 (pd o)
theorem ov_nil {w : World} {o : Nat} {x y : Operand} : Sem.run Try.prog (Sem.bind (eqGuard .eql 159 x y (ov o) .nilIface) (fun _ => binOp .eql 159 (ov o) .nilIface)) w = .ok (.bool false) w := by
  unfold ov
  kernel_rfl
theorem ov_read {w : World} {o : Nat} (args : Array Value) : Sem.run Try.prog (callMethod (ov o) "Read" args) w = .ok (.enter 182 (#[pd o] ++ args)) w := by
  unfold ov
  exact call_of (by intro recv w; kernel_rfl) (by kernel_rfl) _ _ _

theorem someOdd0 {w : World} {o : Nat} (hb : Blk w o #[.slice none 0 0, .slice none 0 0, .int .i64 0]) (n : Int) :
    CallR Try.prog 31 [ov o, .int .i64 n] w fun v w' => v = .tuple #[.slice none 0 0, .int .i64 (if n < 1 ∨ n > 1048576 then 4 else 0)] ∧ Kept No w w' := by
  refine C31 ?_
  unfold L31
  refine ⟨_, _, ov_nil, condFa2 (condP (fun e => ⟨by rw [if_pos (.inl e)], Kept.refl _ _⟩) (fun e1 => condP (fun e => ⟨by rw [if_pos (.inr e)], Kept.refl _ _⟩) (fun e2 => ?_)))⟩
  rw [if_neg (by omega)]
  intro w2
  have hk2 : Kept No w w2 := Kept.alloc _ _ _
  clear_value w2
  have hb2 := hb.keep hk2 fun e => e
  refine ⟨fun _ w' => w' = w2, fun _ _ => 0, rfl, ?_⟩
  rintro _ w3 rfl
  refine ⟨_, _, _, ov_read #[.int .i64 n], C182 ?_⟩
  unfold L182
  refine nnI ⟨_, _, _, hb2.at0 rfl, condTr2 (nnI ⟨_, hb2.at (i := 2) rfl, fun nd => ?_⟩)⟩
  have hk4 : Kept No w3 (w3.drewN nd) := Kept.drewN _ _ _
  exact ⟨_, _, _, _, rfl, pass_to ⟨_, rfl, condF (by decide) (condFa2 (condF (by simp; omega) ⟨rfl, hk2.no hk4⟩))⟩⟩

theorem putOdd0 {w : World} {o : Nat} : CallR Try.prog 57 [ov o, .slice none 0 0] w fun v w' => v = .tuple #[.int .i64 0, .int .i64 0] ∧ Kept No w w' := by
  refine C57 ?_
  unfold L57
  refine ⟨_, _, ov_nil, condFa2 (condF (by decide) ?_)⟩
  intro w2
  have hk2 : Kept No w w2 := Kept.alloc _ _ _
  clear_value w2
  refine ⟨fun vs w' => vs = [.slice none 0 0] ∧ w' = w2, fun _ _ => 0, ⟨rfl, rfl⟩, ?_⟩
  rintro _ a6 l6 c6 w3 ⟨hvs, rfl⟩
  simp only [List.cons.injEq, Value.slice.injEq, and_true] at hvs
  obtain ⟨rfl, rfl, rfl⟩ := hvs
  exact condF (by decide) ⟨rfl, hk2⟩

theorem walk_retryNobody {W : World} {args : List Value} (h : V12 W args) : CallR Try.prog 12 args W fun v w' => v = .bool true ∧ Kept No W w' := by
  obtain ⟨n, _, a2, l2, c2, xs, hxs, _, hl2, rfl⟩ := h
  refine C12 ?_
  unfold L12
  refine CallR.mono alive8_ok ?_
  rintro v w1 ⟨rfl, hk1⟩
  refine ⟨_, rfl, condFa2 (CallR.mono (someNil_ok n) ?_)⟩
  rintro v w2 ⟨rfl, rfl⟩
  refine ⟨_, _, _, _, rfl, CallR.mono (allNil_ok n) ?_⟩
  rintro v w3 ⟨⟨a, l, c, rfl⟩, hk3⟩
  refine ⟨_, _, _, _, rfl, CallR.mono (putNil_ok a2 l2 c2) ?_⟩
  rintro v w4 ⟨rfl, rfl⟩
  refine ⟨_, _, rfl, rnum_to ⟨_, rfl, condFa2 (rnum_to ⟨_, rfl, condFa2 (rnum_to ⟨_, rfl, condFa2 ?_⟩)⟩)⟩⟩
  intro w8
  have hb8 : Blk w8 w4.heap.size #[.slice none 0 0, .slice none 0 0, .int .i64 0] := Blk.alloc _ _ _
  have hk8 : Kept No w4 w8 := Kept.alloc _ _ _
  clear_value w8
  refine CallR.mono (someOdd0 hb8 n) ?_
  rintro v w9 ⟨rfl, hk9⟩
  refine ⟨_, _, _, _, rfl, CallR.mono putOdd0 ?_⟩
  rintro v w10 ⟨rfl, hk10⟩
  have k10 := (((hk1.no hk3).no hk8).no hk9).no hk10
  refine ⟨_, _, rfl, rnum_to ⟨_, rfl, condP (fun e => ?_) (fun e => ?_)⟩⟩
  · rw [if_pos (.inl e)]
    exact condTr2 (condTr2 (rnum_to ⟨_, rfl, rfl, k10⟩))
  · by_cases e2 : n > 1048576
    · rw [if_pos (.inr e2), decide_eq_true e2]
      exact condTr2 (condTr2 (rnum_to ⟨_, rfl, rfl, k10⟩))
    · rw [if_neg (by omega), decide_eq_false e2]
      exact condTr2 (condTr2 (rnum_to ⟨_, rfl, rfl, k10⟩))

end Go.Proofs.Ytbiofmgebbdflaa
