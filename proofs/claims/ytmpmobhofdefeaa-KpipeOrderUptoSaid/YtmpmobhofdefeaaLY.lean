/-
  What some functions of the program ask of the world, printed by a program out of the loaded program; each text is held against the code by evaluation. Conditions: none.
-/
import Derived.Test.YtmpmobhofdefeaaProg
import Derived.Test.YtmpmobhofdefeaaLm
import Derived.Test.YtmpmobhofdefeaaLK
set_option linter.unusedVariables false
set_option maxRecDepth 100000
namespace Go.Proofs.Ytmpmobhofdefeaa
open Go.Lw
/-- (*millrace/millraceref05.Pipe).Join -/
def A33 : Ann := ⟨[], [], [], [], []⟩
def L33 (p1 : Option Addr) (b2 : Bool) (Q : Value → World → Prop) (w : World) : Prop :=
  cond b2
  (nn p1 (fun (q3 : Addr) =>
  ∃ (n4 : Int), w.cell? (Addr.add q3 2) = some ((.int .i64 n4 : Value)) ∧
  cond (decide (n4 ≥ 1024))
  (Q (.int .i64 3) w)
  (cond (!b2)
  (nn p1 (fun (q5 : Addr) =>
  ∃ (n6 : Int), w.cell? (Addr.add q5 1) = some ((.int .i64 n6 : Value)) ∧
  cond (decide (n6 ≥ 1024))
  (Q (.int .i64 3) w)
  (cond b2
  (nn p1 (fun (q7 : Addr) =>
  ∃ (n8 : Int), w.cell? (Addr.add q7 2) = some ((.int .i64 n8 : Value)) ∧
  inI (n8 + 1) ∧
  nn p1 (fun (q9 : Addr) =>
  stC (Addr.add q9 2) (.int .i64 (n8 + 1)) w (fun (w1 : World) =>
  Q (.int .i64 0) w1))))
  (nn p1 (fun (q10 : Addr) =>
  ∃ (n11 : Int), w.cell? (Addr.add q10 1) = some ((.int .i64 n11 : Value)) ∧
  inI (n11 + 1) ∧
  nn p1 (fun (q12 : Addr) =>
  stC (Addr.add q12 1) (.int .i64 (n11 + 1)) w (fun (w2 : World) =>
  Q (.int .i64 0) w2)))))))
  (cond b2
  (nn p1 (fun (q13 : Addr) =>
  ∃ (n14 : Int), w.cell? (Addr.add q13 2) = some ((.int .i64 n14 : Value)) ∧
  inI (n14 + 1) ∧
  nn p1 (fun (q15 : Addr) =>
  stC (Addr.add q15 2) (.int .i64 (n14 + 1)) w (fun (w3 : World) =>
  Q (.int .i64 0) w3))))
  (nn p1 (fun (q16 : Addr) =>
  ∃ (n17 : Int), w.cell? (Addr.add q16 1) = some ((.int .i64 n17 : Value)) ∧
  inI (n17 + 1) ∧
  nn p1 (fun (q18 : Addr) =>
  stC (Addr.add q18 1) (.int .i64 (n17 + 1)) w (fun (w4 : World) =>
  Q (.int .i64 0) w4))))))))
  (cond (!b2)
  (nn p1 (fun (q19 : Addr) =>
  ∃ (n20 : Int), w.cell? (Addr.add q19 1) = some ((.int .i64 n20 : Value)) ∧
  cond (decide (n20 ≥ 1024))
  (Q (.int .i64 3) w)
  (cond b2
  (nn p1 (fun (q21 : Addr) =>
  ∃ (n22 : Int), w.cell? (Addr.add q21 2) = some ((.int .i64 n22 : Value)) ∧
  inI (n22 + 1) ∧
  nn p1 (fun (q23 : Addr) =>
  stC (Addr.add q23 2) (.int .i64 (n22 + 1)) w (fun (w5 : World) =>
  Q (.int .i64 0) w5))))
  (nn p1 (fun (q24 : Addr) =>
  ∃ (n25 : Int), w.cell? (Addr.add q24 1) = some ((.int .i64 n25 : Value)) ∧
  inI (n25 + 1) ∧
  nn p1 (fun (q26 : Addr) =>
  stC (Addr.add q26 1) (.int .i64 (n25 + 1)) w (fun (w6 : World) =>
  Q (.int .i64 0) w6)))))))
  (cond b2
  (nn p1 (fun (q27 : Addr) =>
  ∃ (n28 : Int), w.cell? (Addr.add q27 2) = some ((.int .i64 n28 : Value)) ∧
  inI (n28 + 1) ∧
  nn p1 (fun (q29 : Addr) =>
  stC (Addr.add q29 2) (.int .i64 (n28 + 1)) w (fun (w7 : World) =>
  Q (.int .i64 0) w7))))
  (nn p1 (fun (q30 : Addr) =>
  ∃ (n31 : Int), w.cell? (Addr.add q30 1) = some ((.int .i64 n31 : Value)) ∧
  inI (n31 + 1) ∧
  nn p1 (fun (q32 : Addr) =>
  stC (Addr.add q32 1) (.int .i64 (n31 + 1)) w (fun (w8 : World) =>
  Q (.int .i64 0) w8))))))
theorem C33 {p1 : Option Addr} {b2 : Bool} {Q : Value → World → Prop} {w : World} (h : L33 p1 b2 Q w) : CallR Try.prog 33 [.pointer p1, .bool b2] w Q :=
  fun_calls (A := A33) mixed Try.func33 (c := (Try.f33.body).getD .skip) rfl (by kernel_rfl) (Eq.mp (by kernel_rfl) h)

/-- (*millrace/millraceref05.Pipe).Leave -/
def A34 : Ann := ⟨[], [], [], [], []⟩
def L34 (p1 : Option Addr) (b2 : Bool) (Q : Value → World → Prop) (w : World) : Prop :=
  cond b2
  (nn p1 (fun (q3 : Addr) =>
  ∃ (n4 : Int), w.cell? (Addr.add q3 2) = some ((.int .i64 n4 : Value)) ∧
  cond (n4 == 0)
  (Q (.int .i64 51) w)
  (cond (!b2)
  (nn p1 (fun (q5 : Addr) =>
  ∃ (n6 : Int), w.cell? (Addr.add q5 1) = some ((.int .i64 n6 : Value)) ∧
  cond (n6 == 0)
  (Q (.int .i64 51) w)
  (cond b2
  (nn p1 (fun (q7 : Addr) =>
  ∃ (n8 : Int), w.cell? (Addr.add q7 2) = some ((.int .i64 n8 : Value)) ∧
  inI (n8 - 1) ∧
  nn p1 (fun (q9 : Addr) =>
  stC (Addr.add q9 2) (.int .i64 (n8 - 1)) w (fun (w1 : World) =>
  Q (.int .i64 0) w1))))
  (nn p1 (fun (q10 : Addr) =>
  ∃ (n11 : Int), w.cell? (Addr.add q10 1) = some ((.int .i64 n11 : Value)) ∧
  inI (n11 - 1) ∧
  nn p1 (fun (q12 : Addr) =>
  stC (Addr.add q12 1) (.int .i64 (n11 - 1)) w (fun (w2 : World) =>
  Q (.int .i64 0) w2)))))))
  (cond b2
  (nn p1 (fun (q13 : Addr) =>
  ∃ (n14 : Int), w.cell? (Addr.add q13 2) = some ((.int .i64 n14 : Value)) ∧
  inI (n14 - 1) ∧
  nn p1 (fun (q15 : Addr) =>
  stC (Addr.add q15 2) (.int .i64 (n14 - 1)) w (fun (w3 : World) =>
  Q (.int .i64 0) w3))))
  (nn p1 (fun (q16 : Addr) =>
  ∃ (n17 : Int), w.cell? (Addr.add q16 1) = some ((.int .i64 n17 : Value)) ∧
  inI (n17 - 1) ∧
  nn p1 (fun (q18 : Addr) =>
  stC (Addr.add q18 1) (.int .i64 (n17 - 1)) w (fun (w4 : World) =>
  Q (.int .i64 0) w4))))))))
  (cond (!b2)
  (nn p1 (fun (q19 : Addr) =>
  ∃ (n20 : Int), w.cell? (Addr.add q19 1) = some ((.int .i64 n20 : Value)) ∧
  cond (n20 == 0)
  (Q (.int .i64 51) w)
  (cond b2
  (nn p1 (fun (q21 : Addr) =>
  ∃ (n22 : Int), w.cell? (Addr.add q21 2) = some ((.int .i64 n22 : Value)) ∧
  inI (n22 - 1) ∧
  nn p1 (fun (q23 : Addr) =>
  stC (Addr.add q23 2) (.int .i64 (n22 - 1)) w (fun (w5 : World) =>
  Q (.int .i64 0) w5))))
  (nn p1 (fun (q24 : Addr) =>
  ∃ (n25 : Int), w.cell? (Addr.add q24 1) = some ((.int .i64 n25 : Value)) ∧
  inI (n25 - 1) ∧
  nn p1 (fun (q26 : Addr) =>
  stC (Addr.add q26 1) (.int .i64 (n25 - 1)) w (fun (w6 : World) =>
  Q (.int .i64 0) w6)))))))
  (cond b2
  (nn p1 (fun (q27 : Addr) =>
  ∃ (n28 : Int), w.cell? (Addr.add q27 2) = some ((.int .i64 n28 : Value)) ∧
  inI (n28 - 1) ∧
  nn p1 (fun (q29 : Addr) =>
  stC (Addr.add q29 2) (.int .i64 (n28 - 1)) w (fun (w7 : World) =>
  Q (.int .i64 0) w7))))
  (nn p1 (fun (q30 : Addr) =>
  ∃ (n31 : Int), w.cell? (Addr.add q30 1) = some ((.int .i64 n31 : Value)) ∧
  inI (n31 - 1) ∧
  nn p1 (fun (q32 : Addr) =>
  stC (Addr.add q32 1) (.int .i64 (n31 - 1)) w (fun (w8 : World) =>
  Q (.int .i64 0) w8))))))
theorem C34 {p1 : Option Addr} {b2 : Bool} {Q : Value → World → Prop} {w : World} (h : L34 p1 b2 Q w) : CallR Try.prog 34 [.pointer p1, .bool b2] w Q :=
  fun_calls (A := A34) mixed Try.func34 (c := (Try.f34.body).getD .skip) rfl (by kernel_rfl) (Eq.mp (by kernel_rfl) h)

/-- (*millrace/millraceref05.Pipe).Read -/
def A29 : Ann := ⟨[], [], [], [], []⟩
def L29 (p1 : Option Addr) (n2 : Int) (Q : Value → World → Prop) (w : World) : Prop :=
  cond (decide (n2 < 1))
  (Q (.tuple #[.slice none 0 0, .int .i64 4]) w)
  (cond (decide (n2 > 1048576))
  (Q (.tuple #[.slice none 0 0, .int .i64 4]) w)
  (nn p1 (fun (q3 : Addr) =>
  ∃ (n4 : Int), w.cell? (Addr.add q3 1) = some ((.int .i64 n4 : Value)) ∧
  cond (n4 == 0)
  (Q (.tuple #[.slice none 0 0, .int .i64 51]) w)
  (nn p1 (fun (q5 : Addr) =>
  ∃ (a6 : Option Addr) (l6 : Nat) (c6 : Nat), w.cell? q5 = some ((.slice a6 l6 c6 : Value)) ∧
  cond ((((l6 : Nat) : Int)) == 0)
  (nn p1 (fun (q7 : Addr) =>
  ∃ (n8 : Int), w.cell? (Addr.add q7 2) = some ((.int .i64 n8 : Value)) ∧
  cond (decide (n8 > 0))
  (Q (.tuple #[.slice none 0 0, .int .i64 52]) w)
  (nn p1 (fun (q9 : Addr) =>
  ∃ (a10 : Option Addr) (l10 : Nat) (c10 : Nat), w.cell? q9 = some ((.slice a10 l10 c10 : Value)) ∧
  nn p1 (fun (q11 : Addr) =>
  ∃ (a12 : Option Addr) (l12 : Nat) (c12 : Nat), w.cell? q11 = some ((.slice a12 l12 c12 : Value)) ∧
  (0 ≤ (mn n2 (((l10 : Nat) : Int)) : Int) ∧ (mn n2 (((l10 : Nat) : Int)) : Int) ≤ ((c12 : Nat) : Int)) ∧
  nn p1 (fun (q13 : Addr) =>
  ∃ (a14 : Option Addr) (l14 : Nat) (c14 : Nat), w.cell? q13 = some ((.slice a14 l14 c14 : Value)) ∧
  (0 ≤ (mn n2 (((l10 : Nat) : Int)) : Int) ∧ (mn n2 (((l10 : Nat) : Int)) : Int) ≤ ((l14 : Nat) : Int)) ∧
  nn p1 (fun (q15 : Addr) =>
  stC q15 (.slice (adv a14 (Int.toNat (mn n2 (((l10 : Nat) : Int)))) c14 1) (l14 - Int.toNat (mn n2 (((l10 : Nat) : Int)))) (c14 - Int.toNat (mn n2 (((l10 : Nat) : Int))))) w (fun (w1 : World) =>
  Q (.tuple #[.slice a12 (Int.toNat (mn n2 (((l10 : Nat) : Int)))) c12, .int .i64 0]) w1))))))))
  (nn p1 (fun (q16 : Addr) =>
  ∃ (a17 : Option Addr) (l17 : Nat) (c17 : Nat), w.cell? q16 = some ((.slice a17 l17 c17 : Value)) ∧
  nn p1 (fun (q18 : Addr) =>
  ∃ (a19 : Option Addr) (l19 : Nat) (c19 : Nat), w.cell? q18 = some ((.slice a19 l19 c19 : Value)) ∧
  (0 ≤ (mn n2 (((l17 : Nat) : Int)) : Int) ∧ (mn n2 (((l17 : Nat) : Int)) : Int) ≤ ((c19 : Nat) : Int)) ∧
  nn p1 (fun (q20 : Addr) =>
  ∃ (a21 : Option Addr) (l21 : Nat) (c21 : Nat), w.cell? q20 = some ((.slice a21 l21 c21 : Value)) ∧
  (0 ≤ (mn n2 (((l17 : Nat) : Int)) : Int) ∧ (mn n2 (((l17 : Nat) : Int)) : Int) ≤ ((l21 : Nat) : Int)) ∧
  nn p1 (fun (q22 : Addr) =>
  stC q22 (.slice (adv a21 (Int.toNat (mn n2 (((l17 : Nat) : Int)))) c21 1) (l21 - Int.toNat (mn n2 (((l17 : Nat) : Int)))) (c21 - Int.toNat (mn n2 (((l17 : Nat) : Int))))) w (fun (w2 : World) =>
  Q (.tuple #[.slice a19 (Int.toNat (mn n2 (((l17 : Nat) : Int)))) c19, .int .i64 0]) w2)))))))))))
theorem C29 {p1 : Option Addr} {n2 : Int} {Q : Value → World → Prop} {w : World} (h : L29 p1 n2 Q w) : CallR Try.prog 29 [.pointer p1, .int .i64 n2] w Q :=
  fun_calls (A := A29) mixed Try.func29 (c := (Try.f29.body).getD .skip) rfl (by kernel_rfl) (Eq.mp (by kernel_rfl) h)

/-- (*millrace/millraceref05.Pipe).Write -/
def A31 : Ann := ⟨[], [(18, [(9, .one (.int .i64))])], [], [(19, [0, 1, 2, 3, 4, 5, 7, 8, 9, 6, 10, 11, 12, 13])], []⟩
def L31 (p1 : Option Addr) (a2 : Option Addr) (l2 : Nat) (c2 : Nat) (n3 : Int) (Q : Value → World → Prop) (w : World) : Prop :=
  nn p1 (fun (q4 : Addr) =>
  ∃ (a5 : Option Addr) (l5 : Nat) (c5 : Nat), w.cell? q4 = some ((.slice a5 l5 c5 : Value)) ∧
  inI ((4096 : Int) - (((l5 : Nat) : Int))) ∧
  ∃ (J6 : List Value → World → Prop),
  (cond (decide ((((l2 : Nat) : Int)) > 1048576))
  (Q (.tuple #[.int .i64 0, .int .i64 5]) w)
  (cond (decide (n3 < 1))
  (Q (.tuple #[.int .i64 0, .int .i64 4]) w)
  (cond (decide (n3 > 1048576))
  (Q (.tuple #[.int .i64 0, .int .i64 4]) w)
  (nn p1 (fun (q7 : Addr) =>
  ∃ (n8 : Int), w.cell? (Addr.add q7 2) = some ((.int .i64 n8 : Value)) ∧
  cond (n8 == 0)
  (Q (.tuple #[.int .i64 0, .int .i64 51]) w)
  (nn p1 (fun (q9 : Addr) =>
  ∃ (n10 : Int), w.cell? (Addr.add q9 1) = some ((.int .i64 n10 : Value)) ∧
  cond (n10 == 0)
  (Q (.tuple #[.int .i64 0, .int .i64 53]) w)
  (cond ((((l2 : Nat) : Int)) == 0)
  (Q (.tuple #[.int .i64 0, .int .i64 0]) w)
  (cond (decide ((((l2 : Nat) : Int)) ≤ 512))
  (cond (decide (((4096 : Int) - (((l5 : Nat) : Int))) < (((l2 : Nat) : Int))))
  (Q (.tuple #[.int .i64 0, .int .i64 52]) w)
  (cond (((4096 : Int) - (((l5 : Nat) : Int))) == 0)
  (Q (.tuple #[.int .i64 0, .int .i64 52]) w)
  (cond (decide ((((l2 : Nat) : Int)) ≤ 512))
  (J6 [.int .i64 (((l2 : Nat) : Int))] w)
  (J6 [.int .i64 (mn (mn (((l2 : Nat) : Int)) ((4096 : Int) - (((l5 : Nat) : Int)))) n3)] w))))
  (cond (((4096 : Int) - (((l5 : Nat) : Int))) == 0)
  (Q (.tuple #[.int .i64 0, .int .i64 52]) w)
  (cond (decide ((((l2 : Nat) : Int)) ≤ 512))
  (J6 [.int .i64 (((l2 : Nat) : Int))] w)
  (J6 [.int .i64 (mn (mn (((l2 : Nat) : Int)) ((4096 : Int) - (((l5 : Nat) : Int)))) n3)] w)))))))))))) ∧
  (∀ (_ : Env) (n11 : Int) (w1 : World), J6 [.int .i64 n11] w1 →
  let w2 := World.drew w1;
  nn p1 (fun (q12 : Addr) =>
  ∃ (a13 : Option Addr) (l13 : Nat) (c13 : Nat), w2.cell? q12 = some ((.slice a13 l13 c13 : Value)) ∧
  (0 ≤ (n11 : Int) ∧ (n11 : Int) ≤ ((c2 : Nat) : Int)) ∧
  ∃ (a14 : Option Addr) (l14 : Nat) (c14 : Nat) (w3 : World), Sem.run Try.prog (Builtin.append_ #[26, 26] 26 #[.slice none 0 0, .slice a13 l13 c13]) w2 = .ok ((.slice a14 l14 c14 : Value)) w3 ∧
  ∃ (a15 : Option Addr) (l15 : Nat) (c15 : Nat) (w4 : World), Sem.run Try.prog (Builtin.append_ #[26, 26] 26 #[.slice a14 l14 c14, .slice a2 (Int.toNat n11) c2]) w3 = .ok ((.slice a15 l15 c15 : Value)) w4 ∧
  nn p1 (fun (q16 : Addr) =>
  stC q16 (.slice a15 l15 c15) w4 (fun (w5 : World) =>
  Q (.tuple #[.int .i64 n11, .int .i64 0]) w5)))))
theorem C31 {p1 : Option Addr} {a2 : Option Addr} {l2 : Nat} {c2 : Nat} {n3 : Int} {Q : Value → World → Prop} {w : World} (h : L31 p1 a2 l2 c2 n3 Q w) : CallR Try.prog 31 [.pointer p1, .slice a2 l2 c2, .int .i64 n3] w Q :=
  fun_calls (A := A31) mixed Try.func31 (c := (Try.f31.body).getD .skip) rfl (by kernel_rfl) (Eq.mp (by kernel_rfl) h)

/-- (*millrace/millraceref05.Pipe).CanRead -/
def A35 : Ann := ⟨[], [], [], [], []⟩
def L35 (p1 : Option Addr) (Q : Value → World → Prop) (w : World) : Prop :=
  nn p1 (fun (q2 : Addr) =>
  ∃ (n3 : Int), w.cell? (Addr.add q2 1) = some ((.int .i64 n3 : Value)) ∧
  cond (decide (n3 > 0))
  (nn p1 (fun (q4 : Addr) =>
  ∃ (a5 : Option Addr) (l5 : Nat) (c5 : Nat), w.cell? q4 = some ((.slice a5 l5 c5 : Value)) ∧
  cond (decide ((((l5 : Nat) : Int)) > 0))
  (Q (.bool true) w)
  (nn p1 (fun (q6 : Addr) =>
  ∃ (n7 : Int), w.cell? (Addr.add q6 2) = some ((.int .i64 n7 : Value)) ∧
  Q (.bool (n7 == 0)) w))))
  (Q (.bool false) w))
theorem C35 {p1 : Option Addr} {Q : Value → World → Prop} {w : World} (h : L35 p1 Q w) : CallR Try.prog 35 [.pointer p1] w Q :=
  fun_calls (A := A35) mixed Try.func35 (c := (Try.f35.body).getD .skip) rfl (by kernel_rfl) (Eq.mp (by kernel_rfl) h)

/-- (*millrace/millraceref05.Pipe).CanWrite -/
def A36 : Ann := ⟨[], [], [], [], []⟩
def L36 (p1 : Option Addr) (n2 : Int) (Q : Value → World → Prop) (w : World) : Prop :=
  nn p1 (fun (q3 : Addr) =>
  ∃ (a4 : Option Addr) (l4 : Nat) (c4 : Nat), w.cell? q3 = some ((.slice a4 l4 c4 : Value)) ∧
  inI ((4096 : Int) - (((l4 : Nat) : Int))) ∧
  nn p1 (fun (q5 : Addr) =>
  ∃ (n6 : Int), w.cell? (Addr.add q5 2) = some ((.int .i64 n6 : Value)) ∧
  cond (decide (n6 > 0))
  (cond (decide (n2 ≥ 1))
  (cond (decide (n2 ≤ 1048576))
  (nn p1 (fun (q7 : Addr) =>
  ∃ (n8 : Int), w.cell? (Addr.add q7 1) = some ((.int .i64 n8 : Value)) ∧
  cond (n8 == 0)
  (Q (.bool true) w)
  (cond (decide (n2 ≤ 512))
  (cond (decide (((4096 : Int) - (((l4 : Nat) : Int))) ≥ n2))
  (Q (.bool true) w)
  (cond (decide (n2 > 512))
  (Q (.bool (decide (((4096 : Int) - (((l4 : Nat) : Int))) > 0))) w)
  (Q (.bool false) w)))
  (cond (decide (n2 > 512))
  (Q (.bool (decide (((4096 : Int) - (((l4 : Nat) : Int))) > 0))) w)
  (Q (.bool false) w)))))
  (Q (.bool false) w))
  (Q (.bool false) w))
  (Q (.bool false) w)))
theorem C36 {p1 : Option Addr} {n2 : Int} {Q : Value → World → Prop} {w : World} (h : L36 p1 n2 Q w) : CallR Try.prog 36 [.pointer p1, .int .i64 n2] w Q :=
  fun_calls (A := A36) mixed Try.func36 (c := (Try.f36.body).getD .skip) rfl (by kernel_rfl) (Eq.mp (by kernel_rfl) h)

/-- millrace/millracelaw05.num -/
def A22 : Ann := ⟨[], [], [], [], []⟩
def L22 (n1 : Int) (Q : Value → World → Prop) (w : World) : Prop :=
  Q (.int .i64 n1) w
theorem C22 {n1 : Int} {Q : Value → World → Prop} {w : World} (h : L22 n1 Q w) : CallR Try.prog 22 [.int .i64 n1] w Q :=
  fun_calls (A := A22) mixed Try.func22 (c := (Try.f22.body).getD .skip) rfl (by kernel_rfl) (Eq.mp (by kernel_rfl) h)

/-- millrace/millracelaw05.both -/
def A17 : Ann := ⟨[], [], [], [], []⟩
def L17 (Q : Value → World → Prop) (w : World) : Prop :=
  CallR Try.prog 28 [] w (fun (r2 : Value) (w1 : World) =>
  ∃ (p1 : Option Addr), r2 = .pointer p1 ∧
  cond (Option.isNone p1)
  (Q (.pointer none) w1)
  (CallR Try.prog 23 [.pointer p1, .bool false] w1 (fun (r4 : Value) (w2 : World) =>
  ∃ (n3 : Int), r4 = .int .i64 n3 ∧
  CallR Try.prog 22 [.int .i64 n3] w2 (fun (r6 : Value) (w3 : World) =>
  ∃ (n5 : Int), r6 = .int .i64 n5 ∧
  CallR Try.prog 23 [.pointer p1, .bool true] w3 (fun (r8 : Value) (w4 : World) =>
  ∃ (n7 : Int), r8 = .int .i64 n7 ∧
  CallR Try.prog 22 [.int .i64 n7] w4 (fun (r10 : Value) (w5 : World) =>
  ∃ (n9 : Int), r10 = .int .i64 n9 ∧
  inI (n5 + n9) ∧
  cond ((n5 + n9) != 0)
  (Q (.pointer none) w5)
  (Q (.pointer p1) w5)))))))
theorem C17 {Q : Value → World → Prop} {w : World} (h : L17 Q w) : CallR Try.prog 17 [] w Q :=
  fun_calls (A := A17) mixed Try.func17 (c := (Try.f17.body).getD .skip) rfl (by kernel_rfl) (Eq.mp (by kernel_rfl) h)

/-- millrace/millracelaw05.alive -/
def A16 : Ann := ⟨[], [], [], [], []⟩
def L16 (Q : Value → World → Prop) (w : World) : Prop :=
  CallR Try.prog 17 [] w (fun (r2 : Value) (w1 : World) =>
  ∃ (p1 : Option Addr), r2 = .pointer p1 ∧
  cond (Option.isNone p1)
  (Q (.bool false) w1)
  (CallR Try.prog 18 [.pointer p1, .int .i64 1] w1 (fun (r5 : Value) (w2 : World) =>
  ∃ (a3 : Option Addr) (l3 : Nat) (c3 : Nat) (n4 : Int), r5 = .tuple #[.slice a3 l3 c3, .int .i64 n4] ∧
  ∃ (a6 : Option Addr) (l6 : Nat) (c6 : Nat) (w3 : World), Sem.run Try.prog (Instr.makeSlice 26 (.int .i64 4000) (.int .i64 4000)) w2 = .ok ((.slice a6 l6 c6 : Value)) w3 ∧
  CallR Try.prog 19 [.pointer p1, .slice a6 l6 c6, .int .i64 5000] w3 (fun (r9 : Value) (w4 : World) =>
  ∃ (n7 : Int) (n8 : Int), r9 = .tuple #[.int .i64 n7, .int .i64 n8] ∧
  ∃ (a10 : Option Addr) (l10 : Nat) (c10 : Nat) (w5 : World), Sem.run Try.prog (Instr.makeSlice 26 (.int .i64 100) (.int .i64 100)) w4 = .ok ((.slice a10 l10 c10 : Value)) w5 ∧
  CallR Try.prog 19 [.pointer p1, .slice a10 l10 c10, .int .i64 100] w5 (fun (r13 : Value) (w6 : World) =>
  ∃ (n11 : Int) (n12 : Int), r13 = .tuple #[.int .i64 n11, .int .i64 n12] ∧
  ∃ (a14 : Option Addr) (l14 : Nat) (c14 : Nat) (w7 : World), Sem.run Try.prog (Instr.makeSlice 26 (.int .i64 600) (.int .i64 600)) w6 = .ok ((.slice a14 l14 c14 : Value)) w7 ∧
  CallR Try.prog 19 [.pointer p1, .slice a14 l14 c14, .int .i64 600] w7 (fun (r17 : Value) (w8 : World) =>
  ∃ (n15 : Int) (n16 : Int), r17 = .tuple #[.int .i64 n15, .int .i64 n16] ∧
  CallR Try.prog 22 [.int .i64 n4] w8 (fun (r19 : Value) (w9 : World) =>
  ∃ (n18 : Int), r19 = .int .i64 n18 ∧
  cond (n18 == 52)
  (CallR Try.prog 22 [.int .i64 n8] w9 (fun (r21 : Value) (w10 : World) =>
  ∃ (n20 : Int), r21 = .int .i64 n20 ∧
  CallR Try.prog 22 [.int .i64 n16] w10 (fun (r23 : Value) (w11 : World) =>
  ∃ (n22 : Int), r23 = .int .i64 n22 ∧
  inI (n20 + n22) ∧
  cond ((n20 + n22) == 0)
  (cond (n7 == 4000)
  (CallR Try.prog 22 [.int .i64 n12] w11 (fun (r25 : Value) (w12 : World) =>
  ∃ (n24 : Int), r25 = .int .i64 n24 ∧
  cond (n24 == 52)
  (Q (.bool (n15 == 96)) w12)
  (Q (.bool false) w12)))
  (Q (.bool false) w11))
  (Q (.bool false) w11))))
  (Q (.bool false) w9))))))))
theorem C16 {Q : Value → World → Prop} {w : World} (h : L16 Q w) : CallR Try.prog 16 [] w Q :=
  fun_calls (A := A16) mixed Try.func16 (c := (Try.f16.body).getD .skip) rfl (by kernel_rfl) (Eq.mp (by kernel_rfl) h)

/-- millrace/millracelaw05.nothing -/
def A37 : Ann := ⟨[], [], [], [], []⟩
def L37 (p1 : Option Addr) (Q : Value → World → Prop) (w : World) : Prop :=
  CallR Try.prog 18 [.pointer p1, .int .i64 1] w (fun (r4 : Value) (w1 : World) =>
  ∃ (a2 : Option Addr) (l2 : Nat) (c2 : Nat) (n3 : Int), r4 = .tuple #[.slice a2 l2 c2, .int .i64 n3] ∧
  CallR Try.prog 19 [.pointer p1, .slice none 0 0, .int .i64 1] w1 (fun (r7 : Value) (w2 : World) =>
  ∃ (n5 : Int) (n6 : Int), r7 = .tuple #[.int .i64 n5, .int .i64 n6] ∧
  CallR Try.prog 25 [.pointer p1] w2 (fun (r10 : Value) (w3 : World) =>
  ∃ (n8 : Int) (n9 : Int), r10 = .tuple #[.int .i64 n8, .int .i64 n9] ∧
  CallR Try.prog 22 [.int .i64 n3] w3 (fun (r12 : Value) (w4 : World) =>
  ∃ (n11 : Int), r12 = .int .i64 n11 ∧
  cond (n11 == 2)
  (CallR Try.prog 22 [.int .i64 n6] w4 (fun (r14 : Value) (w5 : World) =>
  ∃ (n13 : Int), r14 = .int .i64 n13 ∧
  cond (n13 == 2)
  (CallR Try.prog 23 [.pointer p1, .bool true] w5 (fun (r16 : Value) (w6 : World) =>
  ∃ (n15 : Int), r16 = .int .i64 n15 ∧
  CallR Try.prog 22 [.int .i64 n15] w6 (fun (r18 : Value) (w7 : World) =>
  ∃ (n17 : Int), r18 = .int .i64 n17 ∧
  cond (n17 == 2)
  (CallR Try.prog 24 [.pointer p1, .bool true] w7 (fun (r20 : Value) (w8 : World) =>
  ∃ (n19 : Int), r20 = .int .i64 n19 ∧
  CallR Try.prog 22 [.int .i64 n19] w8 (fun (r22 : Value) (w9 : World) =>
  ∃ (n21 : Int), r22 = .int .i64 n21 ∧
  cond (n21 == 2)
  (CallR Try.prog 20 [.pointer p1] w9 (fun (r24 : Value) (w10 : World) =>
  ∃ (a23 : Option Addr) (l23 : Nat) (c23 : Nat), r24 = .slice a23 l23 c23 ∧
  cond ((((l23 : Nat) : Int)) == 0)
  (inI (n8 + n9) ∧
  cond ((n8 + n9) == 0)
  (CallR Try.prog 26 [.pointer p1] w10 (fun (r26 : Value) (w11 : World) =>
  ∃ (b25 : Bool), r26 = .bool b25 ∧
  cond (!b25)
  (CallR Try.prog 27 [.pointer p1, .int .i64 1] w11 (fun (r28 : Value) (w12 : World) =>
  ∃ (b27 : Bool), r28 = .bool b27 ∧
  Q (.bool (!b27)) w12))
  (Q (.bool false) w11)))
  (Q (.bool false) w10))
  (Q (.bool false) w10)))
  (Q (.bool false) w9))))
  (Q (.bool false) w7))))
  (Q (.bool false) w5)))
  (Q (.bool false) w4)))))
theorem C37 {p1 : Option Addr} {Q : Value → World → Prop} {w : World} (h : L37 p1 Q w) : CallR Try.prog 37 [.pointer p1] w Q :=
  fun_calls (A := A37) mixed Try.func37 (c := (Try.f37.body).getD .skip) rfl (by kernel_rfl) (Eq.mp (by kernel_rfl) h)

/-- millrace/millracelaw05.KpipePlays -/
def A6 : Ann := ⟨[(6, [(5, .one (.int .i64))])], [(28, [])], [], [], [(23, [0, 1, 2, 5, 6, 7, 3, 4], 8, [9]), (26, [0, 1, 2, 5, 6, 7, 3, 4], 8, [9]), (29, [0, 2, 3, 4, 5, 1, 6, 7, 8, 9, 10, 11, 12, 13, 14, 15, 16, 17, 18, 19, 20, 21, 22, 23, 24, 25, 27, 26, 28, 29, 30, 31, 32, 33, 34, 36, 37, 38, 35], 39, [40, 41])]⟩
def L6 (a1 : Option Addr) (l1 : Nat) (c1 : Nat) (Q : Value → World → Prop) (w : World) : Prop :=
  CallR Try.prog 28 [] w (fun (r3 : Value) (w1 : World) =>
  ∃ (p2 : Option Addr), r3 = .pointer p2 ∧
  let w2 := World.alloc w1 (Obj.cells #[.slice none 0 0, .int .i64 0, .int .i64 0] 46);
  cond (Option.isNone p2)
  (Q (.bool false) w2)
  (∃ (I4 : List Value → World → Prop) (mu5 : List Value → World → Nat),
  I4 [.int .i64 0] w2 ∧
  ∀ (_ : Env) (n6 : Int) (w3 : World), I4 [.int .i64 n6] w3 →
  cond (decide (n6 < (((l1 : Nat) : Int))))
  ((0 ≤ (n6 : Int) ∧ (n6 : Int) < ((l1 : Nat) : Int)) ∧
  nn a1 (fun (q7 : Addr) =>
  ∃ (n8 : Int) (n9 : Int) (b10 : Bool) (a11 : Option Addr) (l11 : Nat) (c11 : Nat), w3.cell? (Addr.add q7 (Int.toNat n6 * 4)) = some ((.int .i64 n8 : Value)) ∧ w3.cell? (Addr.add (Addr.add q7 (Int.toNat n6 * 4)) 1) = some ((.int .i64 n9 : Value)) ∧ w3.cell? (Addr.add (Addr.add q7 (Int.toNat n6 * 4)) 2) = some ((.bool b10 : Value)) ∧ w3.cell? (Addr.add (Addr.add q7 (Int.toNat n6 * 4)) 3) = some ((.slice a11 l11 c11 : Value)) ∧ 
  let w4 := World.alloc w3 (Obj.cells #[.int .i64 0, .int .i64 0, .bool false, .slice none 0 0] 28);
  stC (Addr.mk w3.heap.size 0 none) (.int .i64 n8) w4 (fun (w5 : World) =>
  stC (Addr.mk w3.heap.size 1 none) (.int .i64 n9) w5 (fun (w6 : World) =>
  stC (Addr.mk w3.heap.size 2 none) (.bool b10) w6 (fun (w7 : World) =>
  stC (Addr.mk w3.heap.size 3 none) (.slice a11 l11 c11) w7 (fun (w8 : World) =>
  ∃ (J12 : List Value → World → Prop),
  (∃ (n13 : Int), w8.cell? (Addr.mk w3.heap.size 0 none) = some ((.int .i64 n13 : Value)) ∧
  cond (n13 == 0)
  (∃ (n14 : Int), w8.cell? (Addr.mk w3.heap.size 1 none) = some ((.int .i64 n14 : Value)) ∧
  CallR Try.prog 18 [.pointer p2, .int .i64 n14] w8 (fun (r17 : Value) (w9 : World) =>
  ∃ (a15 : Option Addr) (l15 : Nat) (c15 : Nat) (n16 : Int), r17 = .tuple #[.slice a15 l15 c15, .int .i64 n16] ∧
  ∃ (n18 : Int), w9.cell? (Addr.mk w3.heap.size 1 none) = some ((.int .i64 n18 : Value)) ∧
  CallR Try.prog 29 [.pointer (some (Addr.mk w1.heap.size 0 none)), .int .i64 n18] w9 (fun (r21 : Value) (w10 : World) =>
  ∃ (a19 : Option Addr) (l19 : Nat) (c19 : Nat) (n20 : Int), r21 = .tuple #[.slice a19 l19 c19, .int .i64 n20] ∧
  CallR Try.prog 21 [.slice a15 l15 c15, .slice a19 l19 c19] w10 (fun (r23 : Value) (w11 : World) =>
  ∃ (b22 : Bool), r23 = .bool b22 ∧
  cond (!b22)
  (Q (.bool false) w11)
  (CallR Try.prog 22 [.int .i64 n16] w11 (fun (r25 : Value) (w12 : World) =>
  ∃ (n24 : Int), r25 = .int .i64 n24 ∧
  cond (n24 != n20)
  (Q (.bool false) w12)
  (J12 [] w12)))))))
  (cond (n13 == 1)
  (∃ (a26 : Option Addr) (l26 : Nat) (c26 : Nat), w8.cell? (Addr.mk w3.heap.size 3 none) = some ((.slice a26 l26 c26 : Value)) ∧
  CallR Try.prog 30 [.slice a26 l26 c26] w8 (fun (r28 : Value) (w13 : World) =>
  ∃ (a27 : Option Addr) (l27 : Nat) (c27 : Nat), r28 = .slice a27 l27 c27 ∧
  ∃ (n29 : Int), w13.cell? (Addr.mk w3.heap.size 1 none) = some ((.int .i64 n29 : Value)) ∧
  CallR Try.prog 19 [.pointer p2, .slice a27 l27 c27, .int .i64 n29] w13 (fun (r32 : Value) (w14 : World) =>
  ∃ (n30 : Int) (n31 : Int), r32 = .tuple #[.int .i64 n30, .int .i64 n31] ∧
  ∃ (a33 : Option Addr) (l33 : Nat) (c33 : Nat), w14.cell? (Addr.mk w3.heap.size 3 none) = some ((.slice a33 l33 c33 : Value)) ∧
  ∃ (n34 : Int), w14.cell? (Addr.mk w3.heap.size 1 none) = some ((.int .i64 n34 : Value)) ∧
  CallR Try.prog 31 [.pointer (some (Addr.mk w1.heap.size 0 none)), .slice a33 l33 c33, .int .i64 n34] w14 (fun (r37 : Value) (w15 : World) =>
  ∃ (n35 : Int) (n36 : Int), r37 = .tuple #[.int .i64 n35, .int .i64 n36] ∧
  cond (n30 != n35)
  (Q (.bool false) w15)
  (CallR Try.prog 22 [.int .i64 n31] w15 (fun (r39 : Value) (w16 : World) =>
  ∃ (n38 : Int), r39 = .int .i64 n38 ∧
  cond (n38 != n36)
  (Q (.bool false) w16)
  (∃ (a40 : Option Addr) (l40 : Nat) (c40 : Nat), w16.cell? (Addr.mk w3.heap.size 3 none) = some ((.slice a40 l40 c40 : Value)) ∧
  CallR Try.prog 21 [.slice a27 l27 c27, .slice a40 l40 c40] w16 (fun (r42 : Value) (w17 : World) =>
  ∃ (b41 : Bool), r42 = .bool b41 ∧
  cond (!b41)
  (Q (.bool false) w17)
  (CallR Try.prog 32 [.slice a27 l27 c27] w17 (fun (r43 : Value) (w18 : World) =>
  r43 = .tuple #[] ∧
  J12 [] w18))))))))))
  (cond (n13 == 2)
  (∃ (S44 : World → Prop), S44 (World.drew w8) ∧
  let w19 := World.drew w8;
  ∃ (b45 : Bool), (∀ wS : World, S44 wS → wS.cell? (Addr.mk w3.heap.size 2 none) = some ((.bool b45 : Value))) ∧
  ∃ (b46 : Bool), (∀ wS : World, S44 wS → wS.cell? (Addr.mk w3.heap.size 2 none) = some ((.bool b46 : Value))) ∧
  CallR Try.prog 23 [.pointer p2, .bool b45] w19 (fun (r48 : Value) (w20 : World) =>
  ∃ (n47 : Int), r48 = .int .i64 n47 ∧
  S44 w20 ∧
  CallR Try.prog 22 [.int .i64 n47] w20 (fun (r50 : Value) (w21 : World) =>
  ∃ (n49 : Int), r50 = .int .i64 n49 ∧
  S44 w21 ∧
  CallR Try.prog 33 [.pointer (some (Addr.mk w1.heap.size 0 none)), .bool b46] w21 (fun (r52 : Value) (w22 : World) =>
  ∃ (n51 : Int), r52 = .int .i64 n51 ∧
  cond (n49 != n51)
  (Q (.bool false) w22)
  (J12 [] w22)))))
  (cond (n13 == 3)
  (∃ (S53 : World → Prop), S53 (World.drew w8) ∧
  let w23 := World.drew w8;
  ∃ (b54 : Bool), (∀ wS : World, S53 wS → wS.cell? (Addr.mk w3.heap.size 2 none) = some ((.bool b54 : Value))) ∧
  ∃ (b55 : Bool), (∀ wS : World, S53 wS → wS.cell? (Addr.mk w3.heap.size 2 none) = some ((.bool b55 : Value))) ∧
  CallR Try.prog 24 [.pointer p2, .bool b54] w23 (fun (r57 : Value) (w24 : World) =>
  ∃ (n56 : Int), r57 = .int .i64 n56 ∧
  S53 w24 ∧
  CallR Try.prog 22 [.int .i64 n56] w24 (fun (r59 : Value) (w25 : World) =>
  ∃ (n58 : Int), r59 = .int .i64 n58 ∧
  S53 w25 ∧
  CallR Try.prog 34 [.pointer (some (Addr.mk w1.heap.size 0 none)), .bool b55] w25 (fun (r61 : Value) (w26 : World) =>
  ∃ (n60 : Int), r61 = .int .i64 n60 ∧
  cond (n58 != n60)
  (Q (.bool false) w26)
  (J12 [] w26)))))
  (J12 [] w8))))) ∧
  (∀ (_ : Env) (w27 : World), J12 [] w27 →
  CallR Try.prog 25 [.pointer p2] w27 (fun (r64 : Value) (w28 : World) =>
  ∃ (n62 : Int) (n63 : Int), r64 = .tuple #[.int .i64 n62, .int .i64 n63] ∧
  ∃ (S65 : World → Prop), S65 (World.drew w28) ∧
  let w29 := World.drew w28;
  ∃ (a66 : Option Addr) (l66 : Nat) (c66 : Nat), (∀ wS : World, S65 wS → wS.cell? (Addr.mk w1.heap.size 0 none) = some ((.slice a66 l66 c66 : Value))) ∧
  CallR Try.prog 20 [.pointer p2] w29 (fun (r68 : Value) (w30 : World) =>
  ∃ (a67 : Option Addr) (l67 : Nat) (c67 : Nat), r68 = .slice a67 l67 c67 ∧
  S65 w30 ∧
  CallR Try.prog 21 [.slice a67 l67 c67, .slice a66 l66 c66] w30 (fun (r70 : Value) (w31 : World) =>
  ∃ (b69 : Bool), r70 = .bool b69 ∧
  S65 w31 ∧
  cond (!b69)
  (Q (.bool false) w31)
  (∃ (n71 : Int), (∀ wS : World, S65 wS → wS.cell? (Addr.mk w1.heap.size 1 none) = some ((.int .i64 n71 : Value))) ∧
  cond (n62 != n71)
  (Q (.bool false) w31)
  (∃ (n72 : Int), (∀ wS : World, S65 wS → wS.cell? (Addr.mk w1.heap.size 2 none) = some ((.int .i64 n72 : Value))) ∧
  cond (n63 != n72)
  (Q (.bool false) w31)
  (CallR Try.prog 26 [.pointer p2] w31 (fun (r74 : Value) (w32 : World) =>
  ∃ (b73 : Bool), r74 = .bool b73 ∧
  S65 w32 ∧
  CallR Try.prog 35 [.pointer (some (Addr.mk w1.heap.size 0 none))] w32 (fun (r76 : Value) (w33 : World) =>
  ∃ (b75 : Bool), r76 = .bool b75 ∧
  S65 w33 ∧
  cond (!(b73 == b75))
  (Q (.bool false) w33)
  (∃ (n77 : Int), (∀ wS : World, S65 wS → wS.cell? (Addr.mk w3.heap.size 1 none) = some ((.int .i64 n77 : Value))) ∧
  ∃ (n78 : Int), (∀ wS : World, S65 wS → wS.cell? (Addr.mk w3.heap.size 1 none) = some ((.int .i64 n78 : Value))) ∧
  CallR Try.prog 27 [.pointer p2, .int .i64 n77] w33 (fun (r80 : Value) (w34 : World) =>
  ∃ (b79 : Bool), r80 = .bool b79 ∧
  S65 w34 ∧
  CallR Try.prog 36 [.pointer (some (Addr.mk w1.heap.size 0 none)), .int .i64 n78] w34 (fun (r82 : Value) (w35 : World) =>
  ∃ (b81 : Bool), r82 = .bool b81 ∧
  cond (!(b79 == b81))
  (Q (.bool false) w35)
  (inI (n6 + 1) ∧
  I4 [.int .i64 (n6 + 1)] w35 ∧ mu5 [.int .i64 (n6 + 1)] w35 < mu5 [.int .i64 n6] w3)))))))))))))))))))
  (CallR Try.prog 16 [] w3 (fun (r84 : Value) (w36 : World) =>
  ∃ (b83 : Bool), r84 = .bool b83 ∧
  Q (.bool b83) w36))))
theorem C6 {a1 : Option Addr} {l1 : Nat} {c1 : Nat} {Q : Value → World → Prop} {w : World} (h : L6 a1 l1 c1 Q w) : CallR Try.prog 6 [.slice a1 l1 c1] w Q :=
  fun_calls (A := A6) mixed Try.func6 (c := (Try.f6.body).getD .skip) rfl (by kernel_rfl) (Eq.mp (by kernel_rfl) h)

/-- millrace/millracelaw05.KpipeOrder -/
def A3 : Ann := ⟨[(8, [(4, .one (.slice)), (5, .one (.slice)), (6, .one (.int .i64))])], [], [], [(13, [0, 1, 2, 3, 4, 5, 6, 7, 8, 9, 10, 11, 12, 13, 14, 15, 16])], []⟩
def L3 (a1 : Option Addr) (l1 : Nat) (c1 : Nat) (Q : Value → World → Prop) (w : World) : Prop :=
  CallR Try.prog 16 [] w (fun (r3 : Value) (w1 : World) =>
  ∃ (b2 : Bool), r3 = .bool b2 ∧
  cond (!b2)
  (Q (.bool false) w1)
  (CallR Try.prog 17 [] w1 (fun (r5 : Value) (w2 : World) =>
  ∃ (p4 : Option Addr), r5 = .pointer p4 ∧
  cond (Option.isNone p4)
  (Q (.bool false) w2)
  (∃ (I6 : List Value → World → Prop) (mu7 : List Value → World → Nat),
  I6 [.slice none 0 0, .slice none 0 0, .int .i64 0] w2 ∧
  ∀ (_ : Env) (a8 : Option Addr) (l8 : Nat) (c8 : Nat) (a9 : Option Addr) (l9 : Nat) (c9 : Nat) (n10 : Int) (w3 : World), I6 [.slice a8 l8 c8, .slice a9 l9 c9, .int .i64 n10] w3 →
  cond (decide (n10 < (((l1 : Nat) : Int))))
  ((0 ≤ (n10 : Int) ∧ (n10 : Int) < ((l1 : Nat) : Int)) ∧
  nn a1 (fun (q11 : Addr) =>
  ∃ (n12 : Int), w3.cell? (Addr.add q11 (Int.toNat n10 * 4)) = some ((.int .i64 n12 : Value)) ∧
  cond (n12 == 0)
  ((0 ≤ (n10 : Int) ∧ (n10 : Int) < ((l1 : Nat) : Int)) ∧
  nn a1 (fun (q13 : Addr) =>
  ∃ (n14 : Int), w3.cell? (Addr.add (Addr.add q13 (Int.toNat n10 * 4)) 1) = some ((.int .i64 n14 : Value)) ∧
  CallR Try.prog 18 [.pointer p4, .int .i64 n14] w3 (fun (r17 : Value) (w4 : World) =>
  ∃ (a15 : Option Addr) (l15 : Nat) (c15 : Nat) (n16 : Int), r17 = .tuple #[.slice a15 l15 c15, .int .i64 n16] ∧
  ∃ (a18 : Option Addr) (l18 : Nat) (c18 : Nat) (w5 : World), Sem.run Try.prog (Builtin.append_ #[26, 26] 26 #[.slice a9 l9 c9, .slice a15 l15 c15]) w4 = .ok ((.slice a18 l18 c18 : Value)) w5 ∧
  CallR Try.prog 20 [.pointer p4] w5 (fun (r20 : Value) (w6 : World) =>
  ∃ (a19 : Option Addr) (l19 : Nat) (c19 : Nat), r20 = .slice a19 l19 c19 ∧
  cond (decide ((((l19 : Nat) : Int)) > 4096))
  (Q (.bool false) w6)
  (inI (n10 + 1) ∧
  I6 [.slice a8 l8 c8, .slice a18 l18 c18, .int .i64 (n10 + 1)] w6 ∧ mu7 [.slice a8 l8 c8, .slice a18 l18 c18, .int .i64 (n10 + 1)] w6 < mu7 [.slice a8 l8 c8, .slice a9 l9 c9, .int .i64 n10] w3)))))
  (let w7 := World.drew w3;
  (0 ≤ (n10 : Int) ∧ (n10 : Int) < ((l1 : Nat) : Int)) ∧
  nn a1 (fun (q21 : Addr) =>
  ∃ (a22 : Option Addr) (l22 : Nat) (c22 : Nat), w7.cell? (Addr.add (Addr.add q21 (Int.toNat n10 * 4)) 3) = some ((.slice a22 l22 c22 : Value)) ∧
  (0 ≤ (n10 : Int) ∧ (n10 : Int) < ((l1 : Nat) : Int)) ∧
  nn a1 (fun (q23 : Addr) =>
  ∃ (n24 : Int), w7.cell? (Addr.add (Addr.add q23 (Int.toNat n10 * 4)) 1) = some ((.int .i64 n24 : Value)) ∧
  CallR Try.prog 19 [.pointer p4, .slice a22 l22 c22, .int .i64 n24] w7 (fun (r27 : Value) (w8 : World) =>
  ∃ (n25 : Int) (n26 : Int), r27 = .tuple #[.int .i64 n25, .int .i64 n26] ∧
  cond (decide (n25 < 0))
  (Q (.bool false) w8)
  ((0 ≤ (n10 : Int) ∧ (n10 : Int) < ((l1 : Nat) : Int)) ∧
  nn a1 (fun (q28 : Addr) =>
  ∃ (a29 : Option Addr) (l29 : Nat) (c29 : Nat), w8.cell? (Addr.add (Addr.add q28 (Int.toNat n10 * 4)) 3) = some ((.slice a29 l29 c29 : Value)) ∧
  cond (decide (n25 > (((l29 : Nat) : Int))))
  (Q (.bool false) w8)
  ((0 ≤ (n10 : Int) ∧ (n10 : Int) < ((l1 : Nat) : Int)) ∧
  nn a1 (fun (q30 : Addr) =>
  ∃ (a31 : Option Addr) (l31 : Nat) (c31 : Nat), w8.cell? (Addr.add (Addr.add q30 (Int.toNat n10 * 4)) 3) = some ((.slice a31 l31 c31 : Value)) ∧
  (0 ≤ (n25 : Int) ∧ (n25 : Int) ≤ ((c31 : Nat) : Int)) ∧
  ∃ (a32 : Option Addr) (l32 : Nat) (c32 : Nat) (w9 : World), Sem.run Try.prog (Builtin.append_ #[26, 26] 26 #[.slice a8 l8 c8, .slice a31 (Int.toNat n25) c31]) w8 = .ok ((.slice a32 l32 c32 : Value)) w9 ∧
  CallR Try.prog 20 [.pointer p4] w9 (fun (r34 : Value) (w10 : World) =>
  ∃ (a33 : Option Addr) (l33 : Nat) (c33 : Nat), r34 = .slice a33 l33 c33 ∧
  cond (decide ((((l33 : Nat) : Int)) > 4096))
  (Q (.bool false) w10)
  (inI (n10 + 1) ∧
  I6 [.slice a32 l32 c32, .slice a9 l9 c9, .int .i64 (n10 + 1)] w10 ∧ mu7 [.slice a32 l32 c32, .slice a9 l9 c9, .int .i64 (n10 + 1)] w10 < mu7 [.slice a8 l8 c8, .slice a9 l9 c9, .int .i64 n10] w3))))))))))))
  (CallR Try.prog 20 [.pointer p4] w3 (fun (r36 : Value) (w11 : World) =>
  ∃ (a35 : Option Addr) (l35 : Nat) (c35 : Nat), r36 = .slice a35 l35 c35 ∧
  ∃ (a37 : Option Addr) (l37 : Nat) (c37 : Nat) (w12 : World), Sem.run Try.prog (Builtin.append_ #[26, 26] 26 #[.slice a9 l9 c9, .slice a35 l35 c35]) w11 = .ok ((.slice a37 l37 c37 : Value)) w12 ∧
  CallR Try.prog 21 [.slice a37 l37 c37, .slice a8 l8 c8] w12 (fun (r39 : Value) (w13 : World) =>
  ∃ (b38 : Bool), r39 = .bool b38 ∧
  Q (.bool b38) w13)))))))
theorem C3 {a1 : Option Addr} {l1 : Nat} {c1 : Nat} {Q : Value → World → Prop} {w : World} (h : L3 a1 l1 c1 Q w) : CallR Try.prog 3 [.slice a1 l1 c1] w Q :=
  fun_calls (A := A3) mixed Try.func3 (c := (Try.f3.body).getD .skip) rfl (by kernel_rfl) (Eq.mp (by kernel_rfl) h)

/-- millrace/millracelaw05.KpipeWhole -/
def A4 : Ann := ⟨[], [(11, [])], [], [], []⟩
def L4 (n1 : Int) (a2 : Option Addr) (l2 : Nat) (c2 : Nat) (n3 : Int) (Q : Value → World → Prop) (w : World) : Prop :=
  CallR Try.prog 16 [] w (fun (r5 : Value) (w1 : World) =>
  ∃ (b4 : Bool), r5 = .bool b4 ∧
  cond (!b4)
  (Q (.bool false) w1)
  (CallR Try.prog 17 [] w1 (fun (r7 : Value) (w2 : World) =>
  ∃ (p6 : Option Addr), r7 = .pointer p6 ∧
  cond (Option.isNone p6)
  (Q (.bool false) w2)
  ((4097 : Int) ≠ 0 ∧
  inI ((Int.tmod n1 (4097 : Int)) + 4097) ∧
  (4097 : Int) ≠ 0 ∧
  ∃ (J8 : List Value → World → Prop),
  (cond (decide ((Int.tmod ((Int.tmod n1 (4097 : Int)) + 4097) (4097 : Int)) > 0))
  (∃ (a9 : Option Addr) (l9 : Nat) (c9 : Nat) (w3 : World), Sem.run Try.prog (Instr.makeSlice 26 (.int .i64 (Int.tmod ((Int.tmod n1 (4097 : Int)) + 4097) (4097 : Int))) (.int .i64 (Int.tmod ((Int.tmod n1 (4097 : Int)) + 4097) (4097 : Int)))) w2 = .ok ((.slice a9 l9 c9 : Value)) w3 ∧
  CallR Try.prog 19 [.pointer p6, .slice a9 l9 c9, .int .i64 1048576] w3 (fun (r12 : Value) (w4 : World) =>
  ∃ (n10 : Int) (n11 : Int), r12 = .tuple #[.int .i64 n10, .int .i64 n11] ∧
  CallR Try.prog 22 [.int .i64 n11] w4 (fun (r14 : Value) (w5 : World) =>
  ∃ (n13 : Int), r14 = .int .i64 n13 ∧
  cond (n13 != 0)
  (Q (.bool false) w5)
  (cond (n10 != (Int.tmod ((Int.tmod n1 (4097 : Int)) + 4097) (4097 : Int)))
  (Q (.bool false) w5)
  (J8 [] w5)))))
  (J8 [] w2)) ∧
  (∀ (_ : Env) (w6 : World), J8 [] w6 →
  cond (decide ((((l2 : Nat) : Int)) > 512))
  (Q (.bool true) w6)
  (cond (decide (n3 < 1))
  (Q (.bool true) w6)
  (cond (decide (n3 > 1048576))
  (Q (.bool true) w6)
  (CallR Try.prog 19 [.pointer p6, .slice a2 l2 c2, .int .i64 n3] w6 (fun (r17 : Value) (w7 : World) =>
  ∃ (n15 : Int) (n16 : Int), r17 = .tuple #[.int .i64 n15, .int .i64 n16] ∧
  CallR Try.prog 22 [.int .i64 n16] w7 (fun (r19 : Value) (w8 : World) =>
  ∃ (n18 : Int), r19 = .int .i64 n18 ∧
  cond (n18 == 52)
  (cond (n15 == 0)
  (inI ((Int.tmod ((Int.tmod n1 (4097 : Int)) + 4097) (4097 : Int)) + (((l2 : Nat) : Int))) ∧
  cond (decide (((Int.tmod ((Int.tmod n1 (4097 : Int)) + 4097) (4097 : Int)) + (((l2 : Nat) : Int))) > 4096))
  (CallR Try.prog 20 [.pointer p6] w8 (fun (r21 : Value) (w9 : World) =>
  ∃ (a20 : Option Addr) (l20 : Nat) (c20 : Nat), r21 = .slice a20 l20 c20 ∧
  Q (.bool ((((l20 : Nat) : Int)) == (Int.tmod ((Int.tmod n1 (4097 : Int)) + 4097) (4097 : Int)))) w9))
  (Q (.bool false) w8))
  (Q (.bool false) w8))
  (CallR Try.prog 22 [.int .i64 n16] w8 (fun (r23 : Value) (w10 : World) =>
  ∃ (n22 : Int), r23 = .int .i64 n22 ∧
  cond (n22 == 0)
  (cond (n15 == (((l2 : Nat) : Int)))
  (CallR Try.prog 20 [.pointer p6] w10 (fun (r25 : Value) (w11 : World) =>
  ∃ (a24 : Option Addr) (l24 : Nat) (c24 : Nat), r25 = .slice a24 l24 c24 ∧
  inI ((Int.tmod ((Int.tmod n1 (4097 : Int)) + 4097) (4097 : Int)) + n15) ∧
  Q (.bool ((((l24 : Nat) : Int)) == ((Int.tmod ((Int.tmod n1 (4097 : Int)) + 4097) (4097 : Int)) + n15))) w11))
  (Q (.bool false) w10))
  (Q (.bool false) w10)))))))))))))
theorem C4 {n1 : Int} {a2 : Option Addr} {l2 : Nat} {c2 : Nat} {n3 : Int} {Q : Value → World → Prop} {w : World} (h : L4 n1 a2 l2 c2 n3 Q w) : CallR Try.prog 4 [.int .i64 n1, .slice a2 l2 c2, .int .i64 n3] w Q :=
  fun_calls (A := A4) mixed Try.func4 (c := (Try.f4.body).getD .skip) rfl (by kernel_rfl) (Eq.mp (by kernel_rfl) h)

/-- millrace/millracelaw05.KpipeSays -/
def A5 : Ann := ⟨[(7, [(6, .one (.int .i64))])], [(29, [])], [], [(13, [0, 1, 2, 3, 4, 5, 6, 7, 8, 9, 10, 11])], []⟩
def L5 (a1 : Option Addr) (l1 : Nat) (c1 : Nat) (n2 : Int) (Q : Value → World → Prop) (w : World) : Prop :=
  CallR Try.prog 16 [] w (fun (r4 : Value) (w1 : World) =>
  ∃ (b3 : Bool), r4 = .bool b3 ∧
  cond (!b3)
  (Q (.bool false) w1)
  (CallR Try.prog 17 [] w1 (fun (r6 : Value) (w2 : World) =>
  ∃ (p5 : Option Addr), r6 = .pointer p5 ∧
  cond (Option.isNone p5)
  (Q (.bool false) w2)
  (∃ (I7 : List Value → World → Prop) (mu8 : List Value → World → Nat),
  I7 [.int .i64 0] w2 ∧
  ∀ (_ : Env) (n9 : Int) (w3 : World), I7 [.int .i64 n9] w3 →
  cond (decide (n9 < (((l1 : Nat) : Int))))
  ((0 ≤ (n9 : Int) ∧ (n9 : Int) < ((l1 : Nat) : Int)) ∧
  nn a1 (fun (q10 : Addr) =>
  ∃ (n11 : Int), w3.cell? (Addr.add q10 (Int.toNat n9 * 4)) = some ((.int .i64 n11 : Value)) ∧
  cond (n11 == 0)
  ((0 ≤ (n9 : Int) ∧ (n9 : Int) < ((l1 : Nat) : Int)) ∧
  nn a1 (fun (q12 : Addr) =>
  ∃ (n13 : Int), w3.cell? (Addr.add (Addr.add q12 (Int.toNat n9 * 4)) 1) = some ((.int .i64 n13 : Value)) ∧
  CallR Try.prog 18 [.pointer p5, .int .i64 n13] w3 (fun (r16 : Value) (w4 : World) =>
  ∃ (a14 : Option Addr) (l14 : Nat) (c14 : Nat) (n15 : Int), r16 = .tuple #[.slice a14 l14 c14, .int .i64 n15] ∧
  inI (n9 + 1) ∧
  I7 [.int .i64 (n9 + 1)] w4 ∧ mu8 [.int .i64 (n9 + 1)] w4 < mu8 [.int .i64 n9] w3)))
  (cond (n11 == 1)
  (let w5 := World.drew w3;
  (0 ≤ (n9 : Int) ∧ (n9 : Int) < ((l1 : Nat) : Int)) ∧
  nn a1 (fun (q17 : Addr) =>
  ∃ (a18 : Option Addr) (l18 : Nat) (c18 : Nat), w5.cell? (Addr.add (Addr.add q17 (Int.toNat n9 * 4)) 3) = some ((.slice a18 l18 c18 : Value)) ∧
  (0 ≤ (n9 : Int) ∧ (n9 : Int) < ((l1 : Nat) : Int)) ∧
  nn a1 (fun (q19 : Addr) =>
  ∃ (n20 : Int), w5.cell? (Addr.add (Addr.add q19 (Int.toNat n9 * 4)) 1) = some ((.int .i64 n20 : Value)) ∧
  CallR Try.prog 19 [.pointer p5, .slice a18 l18 c18, .int .i64 n20] w5 (fun (r23 : Value) (w6 : World) =>
  ∃ (n21 : Int) (n22 : Int), r23 = .tuple #[.int .i64 n21, .int .i64 n22] ∧
  inI (n9 + 1) ∧
  I7 [.int .i64 (n9 + 1)] w6 ∧ mu8 [.int .i64 (n9 + 1)] w6 < mu8 [.int .i64 n9] w3))))
  (cond (n11 == 2)
  ((0 ≤ (n9 : Int) ∧ (n9 : Int) < ((l1 : Nat) : Int)) ∧
  nn a1 (fun (q24 : Addr) =>
  ∃ (b25 : Bool), w3.cell? (Addr.add (Addr.add q24 (Int.toNat n9 * 4)) 2) = some ((.bool b25 : Value)) ∧
  CallR Try.prog 23 [.pointer p5, .bool b25] w3 (fun (r27 : Value) (w7 : World) =>
  ∃ (n26 : Int), r27 = .int .i64 n26 ∧
  inI (n9 + 1) ∧
  I7 [.int .i64 (n9 + 1)] w7 ∧ mu8 [.int .i64 (n9 + 1)] w7 < mu8 [.int .i64 n9] w3)))
  (cond (n11 == 3)
  ((0 ≤ (n9 : Int) ∧ (n9 : Int) < ((l1 : Nat) : Int)) ∧
  nn a1 (fun (q28 : Addr) =>
  ∃ (b29 : Bool), w3.cell? (Addr.add (Addr.add q28 (Int.toNat n9 * 4)) 2) = some ((.bool b29 : Value)) ∧
  CallR Try.prog 24 [.pointer p5, .bool b29] w3 (fun (r31 : Value) (w8 : World) =>
  ∃ (n30 : Int), r31 = .int .i64 n30 ∧
  inI (n9 + 1) ∧
  I7 [.int .i64 (n9 + 1)] w8 ∧ mu8 [.int .i64 (n9 + 1)] w8 < mu8 [.int .i64 n9] w3)))
  (inI (n9 + 1) ∧
  I7 [.int .i64 (n9 + 1)] w3 ∧ mu8 [.int .i64 (n9 + 1)] w3 < mu8 [.int .i64 n9] w3))))))
  (CallR Try.prog 25 [.pointer p5] w3 (fun (r34 : Value) (w9 : World) =>
  ∃ (n32 : Int) (n33 : Int), r34 = .tuple #[.int .i64 n32, .int .i64 n33] ∧
  (5000 : Int) ≠ 0 ∧
  inI ((Int.tmod n2 (5000 : Int)) + 5000) ∧
  (5000 : Int) ≠ 0 ∧
  inI ((1 : Int) + (Int.tmod ((Int.tmod n2 (5000 : Int)) + 5000) (5000 : Int))) ∧
  CallR Try.prog 26 [.pointer p5] w9 (fun (r36 : Value) (w10 : World) =>
  ∃ (b35 : Bool), r36 = .bool b35 ∧
  CallR Try.prog 27 [.pointer p5, .int .i64 ((1 : Int) + (Int.tmod ((Int.tmod n2 (5000 : Int)) + 5000) (5000 : Int)))] w10 (fun (r38 : Value) (w11 : World) =>
  ∃ (b37 : Bool), r38 = .bool b37 ∧
  cond (n32 == 0)
  (cond b35
  (Q (.bool false) w11)
  (cond (n33 == 0)
  (cond b37
  (Q (.bool false) w11)
  (∃ (J39 : List Value → World → Prop),
  (cond (decide (n33 > 0))
  (∃ (a40 : Option Addr) (l40 : Nat) (c40 : Nat) (w12 : World), Sem.run Try.prog (Instr.makeSlice 26 (.int .i64 ((1 : Int) + (Int.tmod ((Int.tmod n2 (5000 : Int)) + 5000) (5000 : Int)))) (.int .i64 ((1 : Int) + (Int.tmod ((Int.tmod n2 (5000 : Int)) + 5000) (5000 : Int))))) w11 = .ok ((.slice a40 l40 c40 : Value)) w12 ∧
  CallR Try.prog 19 [.pointer p5, .slice a40 l40 c40, .int .i64 ((1 : Int) + (Int.tmod ((Int.tmod n2 (5000 : Int)) + 5000) (5000 : Int)))] w12 (fun (r43 : Value) (w13 : World) =>
  ∃ (n41 : Int) (n42 : Int), r43 = .tuple #[.int .i64 n41, .int .i64 n42] ∧
  CallR Try.prog 22 [.int .i64 n42] w13 (fun (r45 : Value) (w14 : World) =>
  ∃ (n44 : Int), r45 = .int .i64 n44 ∧
  cond (b37 == (n44 == 52))
  (Q (.bool false) w14)
  (CallR Try.prog 22 [.int .i64 n42] w14 (fun (r47 : Value) (w15 : World) =>
  ∃ (n46 : Int), r47 = .int .i64 n46 ∧
  cond (n46 == 0)
  (Q (.bool true) w15)
  (J39 [] w15))))))
  (J39 [] w11)) ∧
  (∀ (_ : Env) (w16 : World), J39 [] w16 →
  cond (decide (n32 > 0))
  (CallR Try.prog 18 [.pointer p5, .int .i64 1] w16 (fun (r50 : Value) (w17 : World) =>
  ∃ (a48 : Option Addr) (l48 : Nat) (c48 : Nat) (n49 : Int), r50 = .tuple #[.slice a48 l48 c48, .int .i64 n49] ∧
  CallR Try.prog 22 [.int .i64 n49] w17 (fun (r52 : Value) (w18 : World) =>
  ∃ (n51 : Int), r52 = .int .i64 n51 ∧
  Q (.bool (!(b35 == (n51 == 52)))) w18)))
  (Q (.bool true) w16))))
  (∃ (J53 : List Value → World → Prop),
  (cond (decide (n33 > 0))
  (∃ (a54 : Option Addr) (l54 : Nat) (c54 : Nat) (w19 : World), Sem.run Try.prog (Instr.makeSlice 26 (.int .i64 ((1 : Int) + (Int.tmod ((Int.tmod n2 (5000 : Int)) + 5000) (5000 : Int)))) (.int .i64 ((1 : Int) + (Int.tmod ((Int.tmod n2 (5000 : Int)) + 5000) (5000 : Int))))) w11 = .ok ((.slice a54 l54 c54 : Value)) w19 ∧
  CallR Try.prog 19 [.pointer p5, .slice a54 l54 c54, .int .i64 ((1 : Int) + (Int.tmod ((Int.tmod n2 (5000 : Int)) + 5000) (5000 : Int)))] w19 (fun (r57 : Value) (w20 : World) =>
  ∃ (n55 : Int) (n56 : Int), r57 = .tuple #[.int .i64 n55, .int .i64 n56] ∧
  CallR Try.prog 22 [.int .i64 n56] w20 (fun (r59 : Value) (w21 : World) =>
  ∃ (n58 : Int), r59 = .int .i64 n58 ∧
  cond (b37 == (n58 == 52))
  (Q (.bool false) w21)
  (CallR Try.prog 22 [.int .i64 n56] w21 (fun (r61 : Value) (w22 : World) =>
  ∃ (n60 : Int), r61 = .int .i64 n60 ∧
  cond (n60 == 0)
  (Q (.bool true) w22)
  (J53 [] w22))))))
  (J53 [] w11)) ∧
  (∀ (_ : Env) (w23 : World), J53 [] w23 →
  cond (decide (n32 > 0))
  (CallR Try.prog 18 [.pointer p5, .int .i64 1] w23 (fun (r64 : Value) (w24 : World) =>
  ∃ (a62 : Option Addr) (l62 : Nat) (c62 : Nat) (n63 : Int), r64 = .tuple #[.slice a62 l62 c62, .int .i64 n63] ∧
  CallR Try.prog 22 [.int .i64 n63] w24 (fun (r66 : Value) (w25 : World) =>
  ∃ (n65 : Int), r66 = .int .i64 n65 ∧
  Q (.bool (!(b35 == (n65 == 52)))) w25)))
  (Q (.bool true) w23)))))
  (cond (n33 == 0)
  (cond b37
  (Q (.bool false) w11)
  (∃ (J67 : List Value → World → Prop),
  (cond (decide (n33 > 0))
  (∃ (a68 : Option Addr) (l68 : Nat) (c68 : Nat) (w26 : World), Sem.run Try.prog (Instr.makeSlice 26 (.int .i64 ((1 : Int) + (Int.tmod ((Int.tmod n2 (5000 : Int)) + 5000) (5000 : Int)))) (.int .i64 ((1 : Int) + (Int.tmod ((Int.tmod n2 (5000 : Int)) + 5000) (5000 : Int))))) w11 = .ok ((.slice a68 l68 c68 : Value)) w26 ∧
  CallR Try.prog 19 [.pointer p5, .slice a68 l68 c68, .int .i64 ((1 : Int) + (Int.tmod ((Int.tmod n2 (5000 : Int)) + 5000) (5000 : Int)))] w26 (fun (r71 : Value) (w27 : World) =>
  ∃ (n69 : Int) (n70 : Int), r71 = .tuple #[.int .i64 n69, .int .i64 n70] ∧
  CallR Try.prog 22 [.int .i64 n70] w27 (fun (r73 : Value) (w28 : World) =>
  ∃ (n72 : Int), r73 = .int .i64 n72 ∧
  cond (b37 == (n72 == 52))
  (Q (.bool false) w28)
  (CallR Try.prog 22 [.int .i64 n70] w28 (fun (r75 : Value) (w29 : World) =>
  ∃ (n74 : Int), r75 = .int .i64 n74 ∧
  cond (n74 == 0)
  (Q (.bool true) w29)
  (J67 [] w29))))))
  (J67 [] w11)) ∧
  (∀ (_ : Env) (w30 : World), J67 [] w30 →
  cond (decide (n32 > 0))
  (CallR Try.prog 18 [.pointer p5, .int .i64 1] w30 (fun (r78 : Value) (w31 : World) =>
  ∃ (a76 : Option Addr) (l76 : Nat) (c76 : Nat) (n77 : Int), r78 = .tuple #[.slice a76 l76 c76, .int .i64 n77] ∧
  CallR Try.prog 22 [.int .i64 n77] w31 (fun (r80 : Value) (w32 : World) =>
  ∃ (n79 : Int), r80 = .int .i64 n79 ∧
  Q (.bool (!(b35 == (n79 == 52)))) w32)))
  (Q (.bool true) w30))))
  (∃ (J81 : List Value → World → Prop),
  (cond (decide (n33 > 0))
  (∃ (a82 : Option Addr) (l82 : Nat) (c82 : Nat) (w33 : World), Sem.run Try.prog (Instr.makeSlice 26 (.int .i64 ((1 : Int) + (Int.tmod ((Int.tmod n2 (5000 : Int)) + 5000) (5000 : Int)))) (.int .i64 ((1 : Int) + (Int.tmod ((Int.tmod n2 (5000 : Int)) + 5000) (5000 : Int))))) w11 = .ok ((.slice a82 l82 c82 : Value)) w33 ∧
  CallR Try.prog 19 [.pointer p5, .slice a82 l82 c82, .int .i64 ((1 : Int) + (Int.tmod ((Int.tmod n2 (5000 : Int)) + 5000) (5000 : Int)))] w33 (fun (r85 : Value) (w34 : World) =>
  ∃ (n83 : Int) (n84 : Int), r85 = .tuple #[.int .i64 n83, .int .i64 n84] ∧
  CallR Try.prog 22 [.int .i64 n84] w34 (fun (r87 : Value) (w35 : World) =>
  ∃ (n86 : Int), r87 = .int .i64 n86 ∧
  cond (b37 == (n86 == 52))
  (Q (.bool false) w35)
  (CallR Try.prog 22 [.int .i64 n84] w35 (fun (r89 : Value) (w36 : World) =>
  ∃ (n88 : Int), r89 = .int .i64 n88 ∧
  cond (n88 == 0)
  (Q (.bool true) w36)
  (J81 [] w36))))))
  (J81 [] w11)) ∧
  (∀ (_ : Env) (w37 : World), J81 [] w37 →
  cond (decide (n32 > 0))
  (CallR Try.prog 18 [.pointer p5, .int .i64 1] w37 (fun (r92 : Value) (w38 : World) =>
  ∃ (a90 : Option Addr) (l90 : Nat) (c90 : Nat) (n91 : Int), r92 = .tuple #[.slice a90 l90 c90, .int .i64 n91] ∧
  CallR Try.prog 22 [.int .i64 n91] w38 (fun (r94 : Value) (w39 : World) =>
  ∃ (n93 : Int), r94 = .int .i64 n93 ∧
  Q (.bool (!(b35 == (n93 == 52)))) w39)))
  (Q (.bool true) w37))))))))))))
theorem C5 {a1 : Option Addr} {l1 : Nat} {c1 : Nat} {n2 : Int} {Q : Value → World → Prop} {w : World} (h : L5 a1 l1 c1 n2 Q w) : CallR Try.prog 5 [.slice a1 l1 c1, .int .i64 n2] w Q :=
  fun_calls (A := A5) mixed Try.func5 (c := (Try.f5.body).getD .skip) rfl (by kernel_rfl) (Eq.mp (by kernel_rfl) h)

/-- millrace/millracelaw05.KpipeOwn -/
def A7 : Ann := ⟨[], [], [], [], []⟩
def L7 (a1 : Option Addr) (l1 : Nat) (c1 : Nat) (Q : Value → World → Prop) (w : World) : Prop :=
  CallR Try.prog 16 [] w (fun (r3 : Value) (w1 : World) =>
  ∃ (b2 : Bool), r3 = .bool b2 ∧
  cond (!b2)
  (Q (.bool false) w1)
  (CallR Try.prog 37 [.pointer none] w1 (fun (r5 : Value) (w2 : World) =>
  ∃ (b4 : Bool), r5 = .bool b4 ∧
  cond (!b4)
  (Q (.bool false) w2)
  (let w3 := World.alloc w2 (Obj.cells ((Program.built Try.prog 59 []).getD #[]) 59);
  CallR Try.prog 37 [.pointer (some (Addr.mk w2.heap.size 0 none))] w3 (fun (r7 : Value) (w4 : World) =>
  ∃ (b6 : Bool), r7 = .bool b6 ∧
  cond (!b6)
  (Q (.bool false) w4)
  (CallR Try.prog 17 [] w4 (fun (r9 : Value) (w5 : World) =>
  ∃ (p8 : Option Addr), r9 = .pointer p8 ∧
  cond (Option.isNone p8)
  (Q (.bool false) w5)
  (CallR Try.prog 19 [.pointer p8, .slice a1 l1 c1, .int .i64 1048576] w5 (fun (r12 : Value) (w6 : World) =>
  ∃ (n10 : Int) (n11 : Int), r12 = .tuple #[.int .i64 n10, .int .i64 n11] ∧
  CallR Try.prog 20 [.pointer p8] w6 (fun (r14 : Value) (w7 : World) =>
  ∃ (a13 : Option Addr) (l13 : Nat) (c13 : Nat), r14 = .slice a13 l13 c13 ∧
  CallR Try.prog 30 [.slice a13 l13 c13] w7 (fun (r16 : Value) (w8 : World) =>
  ∃ (a15 : Option Addr) (l15 : Nat) (c15 : Nat), r16 = .slice a15 l15 c15 ∧
  CallR Try.prog 32 [.slice a13 l13 c13] w8 (fun (r17 : Value) (w9 : World) =>
  r17 = .tuple #[] ∧
  CallR Try.prog 18 [.pointer p8, .int .i64 0] w9 (fun (r20 : Value) (w10 : World) =>
  ∃ (a18 : Option Addr) (l18 : Nat) (c18 : Nat) (n19 : Int), r20 = .tuple #[.slice a18 l18 c18, .int .i64 n19] ∧
  let w11 := World.alloc w10 (Obj.cells #[.int .u8 1] 5);
  CallR Try.prog 19 [.pointer p8, .slice (some (Addr.mk w10.heap.size 0 none)) 1 1, .int .i64 0] w11 (fun (r23 : Value) (w12 : World) =>
  ∃ (n21 : Int) (n22 : Int), r23 = .tuple #[.int .i64 n21, .int .i64 n22] ∧
  CallR Try.prog 22 [.int .i64 n19] w12 (fun (r25 : Value) (w13 : World) =>
  ∃ (n24 : Int), r25 = .int .i64 n24 ∧
  cond (n24 == 4)
  (CallR Try.prog 22 [.int .i64 n22] w13 (fun (r27 : Value) (w14 : World) =>
  ∃ (n26 : Int), r27 = .int .i64 n26 ∧
  cond (n26 == 4)
  (CallR Try.prog 20 [.pointer p8] w14 (fun (r29 : Value) (w15 : World) =>
  ∃ (a28 : Option Addr) (l28 : Nat) (c28 : Nat), r29 = .slice a28 l28 c28 ∧
  CallR Try.prog 21 [.slice a28 l28 c28, .slice a15 l15 c15] w15 (fun (r31 : Value) (w16 : World) =>
  ∃ (b30 : Bool), r31 = .bool b30 ∧
  cond b30
  (Q (.bool ((((l15 : Nat) : Int)) == n10)) w16)
  (Q (.bool false) w16))))
  (Q (.bool false) w14)))
  (Q (.bool false) w13))))))))))))))))
theorem C7 {a1 : Option Addr} {l1 : Nat} {c1 : Nat} {Q : Value → World → Prop} {w : World} (h : L7 a1 l1 c1 Q w) : CallR Try.prog 7 [.slice a1 l1 c1] w Q :=
  fun_calls (A := A7) mixed Try.func7 (c := (Try.f7.body).getD .skip) rfl (by kernel_rfl) (Eq.mp (by kernel_rfl) h)

end Go.Proofs.Ytmpmobhofdefeaa
