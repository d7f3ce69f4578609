/-
  What some functions of the program ask of the world, printed by a program out of the loaded program; each text is held against the code by evaluation. Conditions: none.
-/
import Derived.Test.YthddogeenimjcaaProg
import Derived.Test.YthddogeenimjcaaLm
import Derived.Test.YthddogeenimjcaaLX
set_option linter.unusedVariables false
set_option maxRecDepth 100000
namespace Go.Proofs.Ythddogeenimjcaa
open Go.Lw
/-- millrace/openmode.first -/
def A52 : Ann := ⟨[], [], [], [], [], []⟩
def L52 (n1 : Int) (Q : Value → World → Prop) (w : World) : Prop :=
  let w1 := World.alloc w (Obj.cells #[.bool false, .bool false, .bool false, .bool false, .bool false, .bool false, .bool false, .bool false] 48);
  cond (n1 == 114)
  (stC (Addr.mk w.heap.size 0 none) (.bool true) w1 (fun (w2 : World) =>
  stC (Addr.mk w.heap.size 1 none) (.bool false) w2 (fun (w3 : World) =>
  stC (Addr.mk w.heap.size 2 none) (.bool false) w3 (fun (w4 : World) =>
  stC (Addr.mk w.heap.size 3 none) (.bool false) w4 (fun (w5 : World) =>
  stC (Addr.mk w.heap.size 4 none) (.bool false) w5 (fun (w6 : World) =>
  stC (Addr.mk w.heap.size 5 none) (.bool false) w6 (fun (w7 : World) =>
  stC (Addr.mk w.heap.size 6 none) (.bool false) w7 (fun (w8 : World) =>
  stC (Addr.mk w.heap.size 7 none) (.bool false) w8 (fun (w9 : World) =>
  ∃ (b2 : Bool) (b3 : Bool) (b4 : Bool) (b5 : Bool) (b6 : Bool) (b7 : Bool) (b8 : Bool) (b9 : Bool), w9.cell? (Addr.mk w.heap.size 0 none) = some ((.bool b2 : Value)) ∧ w9.cell? (Addr.mk w.heap.size 1 none) = some ((.bool b3 : Value)) ∧ w9.cell? (Addr.mk w.heap.size 2 none) = some ((.bool b4 : Value)) ∧ w9.cell? (Addr.mk w.heap.size 3 none) = some ((.bool b5 : Value)) ∧ w9.cell? (Addr.mk w.heap.size 4 none) = some ((.bool b6 : Value)) ∧ w9.cell? (Addr.mk w.heap.size 5 none) = some ((.bool b7 : Value)) ∧ w9.cell? (Addr.mk w.heap.size 6 none) = some ((.bool b8 : Value)) ∧ w9.cell? (Addr.mk w.heap.size 7 none) = some ((.bool b9 : Value)) ∧ 
  Q (.tuple #[.agg #[.bool b2, .bool b3, .bool b4, .bool b5, .bool b6, .bool b7, .bool b8, .bool b9], .bool true]) w9)))))))))
  (cond (n1 == 119)
  (stC (Addr.mk w.heap.size 0 none) (.bool false) w1 (fun (w10 : World) =>
  stC (Addr.mk w.heap.size 1 none) (.bool true) w10 (fun (w11 : World) =>
  stC (Addr.mk w.heap.size 2 none) (.bool false) w11 (fun (w12 : World) =>
  stC (Addr.mk w.heap.size 3 none) (.bool true) w12 (fun (w13 : World) =>
  stC (Addr.mk w.heap.size 4 none) (.bool true) w13 (fun (w14 : World) =>
  stC (Addr.mk w.heap.size 5 none) (.bool false) w14 (fun (w15 : World) =>
  stC (Addr.mk w.heap.size 6 none) (.bool false) w15 (fun (w16 : World) =>
  stC (Addr.mk w.heap.size 7 none) (.bool false) w16 (fun (w17 : World) =>
  ∃ (b10 : Bool) (b11 : Bool) (b12 : Bool) (b13 : Bool) (b14 : Bool) (b15 : Bool) (b16 : Bool) (b17 : Bool), w17.cell? (Addr.mk w.heap.size 0 none) = some ((.bool b10 : Value)) ∧ w17.cell? (Addr.mk w.heap.size 1 none) = some ((.bool b11 : Value)) ∧ w17.cell? (Addr.mk w.heap.size 2 none) = some ((.bool b12 : Value)) ∧ w17.cell? (Addr.mk w.heap.size 3 none) = some ((.bool b13 : Value)) ∧ w17.cell? (Addr.mk w.heap.size 4 none) = some ((.bool b14 : Value)) ∧ w17.cell? (Addr.mk w.heap.size 5 none) = some ((.bool b15 : Value)) ∧ w17.cell? (Addr.mk w.heap.size 6 none) = some ((.bool b16 : Value)) ∧ w17.cell? (Addr.mk w.heap.size 7 none) = some ((.bool b17 : Value)) ∧ 
  Q (.tuple #[.agg #[.bool b10, .bool b11, .bool b12, .bool b13, .bool b14, .bool b15, .bool b16, .bool b17], .bool true]) w17)))))))))
  (cond (n1 == 97)
  (stC (Addr.mk w.heap.size 0 none) (.bool false) w1 (fun (w18 : World) =>
  stC (Addr.mk w.heap.size 1 none) (.bool true) w18 (fun (w19 : World) =>
  stC (Addr.mk w.heap.size 2 none) (.bool true) w19 (fun (w20 : World) =>
  stC (Addr.mk w.heap.size 3 none) (.bool true) w20 (fun (w21 : World) =>
  stC (Addr.mk w.heap.size 4 none) (.bool false) w21 (fun (w22 : World) =>
  stC (Addr.mk w.heap.size 5 none) (.bool false) w22 (fun (w23 : World) =>
  stC (Addr.mk w.heap.size 6 none) (.bool false) w23 (fun (w24 : World) =>
  stC (Addr.mk w.heap.size 7 none) (.bool false) w24 (fun (w25 : World) =>
  ∃ (b18 : Bool) (b19 : Bool) (b20 : Bool) (b21 : Bool) (b22 : Bool) (b23 : Bool) (b24 : Bool) (b25 : Bool), w25.cell? (Addr.mk w.heap.size 0 none) = some ((.bool b18 : Value)) ∧ w25.cell? (Addr.mk w.heap.size 1 none) = some ((.bool b19 : Value)) ∧ w25.cell? (Addr.mk w.heap.size 2 none) = some ((.bool b20 : Value)) ∧ w25.cell? (Addr.mk w.heap.size 3 none) = some ((.bool b21 : Value)) ∧ w25.cell? (Addr.mk w.heap.size 4 none) = some ((.bool b22 : Value)) ∧ w25.cell? (Addr.mk w.heap.size 5 none) = some ((.bool b23 : Value)) ∧ w25.cell? (Addr.mk w.heap.size 6 none) = some ((.bool b24 : Value)) ∧ w25.cell? (Addr.mk w.heap.size 7 none) = some ((.bool b25 : Value)) ∧ 
  Q (.tuple #[.agg #[.bool b18, .bool b19, .bool b20, .bool b21, .bool b22, .bool b23, .bool b24, .bool b25], .bool true]) w25)))))))))
  (stC (Addr.mk w.heap.size 0 none) (.bool false) w1 (fun (w26 : World) =>
  stC (Addr.mk w.heap.size 1 none) (.bool false) w26 (fun (w27 : World) =>
  stC (Addr.mk w.heap.size 2 none) (.bool false) w27 (fun (w28 : World) =>
  stC (Addr.mk w.heap.size 3 none) (.bool false) w28 (fun (w29 : World) =>
  stC (Addr.mk w.heap.size 4 none) (.bool false) w29 (fun (w30 : World) =>
  stC (Addr.mk w.heap.size 5 none) (.bool false) w30 (fun (w31 : World) =>
  stC (Addr.mk w.heap.size 6 none) (.bool false) w31 (fun (w32 : World) =>
  stC (Addr.mk w.heap.size 7 none) (.bool false) w32 (fun (w33 : World) =>
  ∃ (b26 : Bool) (b27 : Bool) (b28 : Bool) (b29 : Bool) (b30 : Bool) (b31 : Bool) (b32 : Bool) (b33 : Bool), w33.cell? (Addr.mk w.heap.size 0 none) = some ((.bool b26 : Value)) ∧ w33.cell? (Addr.mk w.heap.size 1 none) = some ((.bool b27 : Value)) ∧ w33.cell? (Addr.mk w.heap.size 2 none) = some ((.bool b28 : Value)) ∧ w33.cell? (Addr.mk w.heap.size 3 none) = some ((.bool b29 : Value)) ∧ w33.cell? (Addr.mk w.heap.size 4 none) = some ((.bool b30 : Value)) ∧ w33.cell? (Addr.mk w.heap.size 5 none) = some ((.bool b31 : Value)) ∧ w33.cell? (Addr.mk w.heap.size 6 none) = some ((.bool b32 : Value)) ∧ w33.cell? (Addr.mk w.heap.size 7 none) = some ((.bool b33 : Value)) ∧ 
  Q (.tuple #[.agg #[.bool b26, .bool b27, .bool b28, .bool b29, .bool b30, .bool b31, .bool b32, .bool b33], .bool false]) w33)))))))))))
theorem C52 {n1 : Int} {Q : Value → World → Prop} {w : World} (h : L52 n1 Q w) : CallR Try.prog 52 [.int .u8 n1] w Q :=
  fun_calls (A := A52) mixed Try.func52 (c := (Try.f52.body).getD .skip) rfl (by kernel_rfl) (Eq.mp (by kernel_rfl) h)

/-- millrace/openmode.letters -/
def A40 : Ann := ⟨[], [], [], [], [], []⟩
def L40 (Q : Value → World → Prop) (w : World) : Prop :=
  let w1 := World.alloc w (Obj.cells #[.int .u8 43, .func (.func 44) #[] #[], .func (.func 45) #[] #[], .int .u8 98, .func (.func 46) #[] #[], .func (.func 47) #[] #[], .int .u8 120, .func (.func 48) #[] #[], .func (.func 49) #[] #[], .int .u8 101, .func (.func 50) #[] #[], .func (.func 51) #[] #[]] 83);
  Q (.slice (some (Addr.mk w.heap.size 0 none)) 4 4) w1
theorem C40 {Q : Value → World → Prop} {w : World} (h : L40 Q w) : CallR Try.prog 40 [] w Q :=
  fun_calls (A := A40) mixed Try.func40 (c := (Try.f40.body).getD .skip) rfl (by kernel_rfl) (Eq.mp (by kernel_rfl) h)

/-- millrace/openmode.letters$1 -/
def A44 : Ann := ⟨[], [], [], [], [], []⟩
def L44 (b1 : Bool) (b2 : Bool) (b3 : Bool) (b4 : Bool) (b5 : Bool) (b6 : Bool) (b7 : Bool) (b8 : Bool) (Q : Value → World → Prop) (w : World) : Prop :=
  let w1 := World.alloc w (Obj.cells #[.bool b1, .bool b2, .bool b3, .bool b4, .bool b5, .bool b6, .bool b7, .bool b8] 48);
  ∃ (b9 : Bool), w1.cell? (Addr.mk w.heap.size 0 none) = some ((.bool b9 : Value)) ∧
  cond b9
  (∃ (b10 : Bool), w1.cell? (Addr.mk w.heap.size 1 none) = some ((.bool b10 : Value)) ∧
  Q (.bool b10) w1)
  (Q (.bool false) w1)
theorem C44 {b1 : Bool} {b2 : Bool} {b3 : Bool} {b4 : Bool} {b5 : Bool} {b6 : Bool} {b7 : Bool} {b8 : Bool} {Q : Value → World → Prop} {w : World} (h : L44 b1 b2 b3 b4 b5 b6 b7 b8 Q w) : CallR Try.prog 44 [.agg #[.bool b1, .bool b2, .bool b3, .bool b4, .bool b5, .bool b6, .bool b7, .bool b8]] w Q :=
  fun_calls (A := A44) mixed Try.func44 (c := (Try.f44.body).getD .skip) rfl (by kernel_rfl) (Eq.mp (by kernel_rfl) h)

/-- millrace/openmode.letters$2 -/
def A45 : Ann := ⟨[], [], [], [], [], []⟩
def L45 (p1 : Option Addr) (Q : Value → World → Prop) (w : World) : Prop :=
  nn p1 (fun (q2 : Addr) =>
  stC q2 (.bool true) w (fun (w1 : World) =>
  nn p1 (fun (q3 : Addr) =>
  stC (Addr.add q3 1) (.bool true) w1 (fun (w2 : World) =>
  Q (.tuple #[]) w2))))
theorem C45 {p1 : Option Addr} {Q : Value → World → Prop} {w : World} (h : L45 p1 Q w) : CallR Try.prog 45 [.pointer p1] w Q :=
  fun_calls (A := A45) mixed Try.func45 (c := (Try.f45.body).getD .skip) rfl (by kernel_rfl) (Eq.mp (by kernel_rfl) h)

/-- millrace/openmode.letters$3 -/
def A46 : Ann := ⟨[], [], [], [], [], []⟩
def L46 (b1 : Bool) (b2 : Bool) (b3 : Bool) (b4 : Bool) (b5 : Bool) (b6 : Bool) (b7 : Bool) (b8 : Bool) (Q : Value → World → Prop) (w : World) : Prop :=
  let w1 := World.alloc w (Obj.cells #[.bool b1, .bool b2, .bool b3, .bool b4, .bool b5, .bool b6, .bool b7, .bool b8] 48);
  ∃ (b9 : Bool), w1.cell? (Addr.mk w.heap.size 6 none) = some ((.bool b9 : Value)) ∧
  Q (.bool b9) w1
theorem C46 {b1 : Bool} {b2 : Bool} {b3 : Bool} {b4 : Bool} {b5 : Bool} {b6 : Bool} {b7 : Bool} {b8 : Bool} {Q : Value → World → Prop} {w : World} (h : L46 b1 b2 b3 b4 b5 b6 b7 b8 Q w) : CallR Try.prog 46 [.agg #[.bool b1, .bool b2, .bool b3, .bool b4, .bool b5, .bool b6, .bool b7, .bool b8]] w Q :=
  fun_calls (A := A46) mixed Try.func46 (c := (Try.f46.body).getD .skip) rfl (by kernel_rfl) (Eq.mp (by kernel_rfl) h)

/-- millrace/openmode.letters$4 -/
def A47 : Ann := ⟨[], [], [], [], [], []⟩
def L47 (p1 : Option Addr) (Q : Value → World → Prop) (w : World) : Prop :=
  nn p1 (fun (q2 : Addr) =>
  stC (Addr.add q2 6) (.bool true) w (fun (w1 : World) =>
  Q (.tuple #[]) w1))
theorem C47 {p1 : Option Addr} {Q : Value → World → Prop} {w : World} (h : L47 p1 Q w) : CallR Try.prog 47 [.pointer p1] w Q :=
  fun_calls (A := A47) mixed Try.func47 (c := (Try.f47.body).getD .skip) rfl (by kernel_rfl) (Eq.mp (by kernel_rfl) h)

/-- millrace/openmode.letters$5 -/
def A48 : Ann := ⟨[], [], [], [], [], []⟩
def L48 (b1 : Bool) (b2 : Bool) (b3 : Bool) (b4 : Bool) (b5 : Bool) (b6 : Bool) (b7 : Bool) (b8 : Bool) (Q : Value → World → Prop) (w : World) : Prop :=
  let w1 := World.alloc w (Obj.cells #[.bool b1, .bool b2, .bool b3, .bool b4, .bool b5, .bool b6, .bool b7, .bool b8] 48);
  ∃ (b9 : Bool), w1.cell? (Addr.mk w.heap.size 5 none) = some ((.bool b9 : Value)) ∧
  Q (.bool b9) w1
theorem C48 {b1 : Bool} {b2 : Bool} {b3 : Bool} {b4 : Bool} {b5 : Bool} {b6 : Bool} {b7 : Bool} {b8 : Bool} {Q : Value → World → Prop} {w : World} (h : L48 b1 b2 b3 b4 b5 b6 b7 b8 Q w) : CallR Try.prog 48 [.agg #[.bool b1, .bool b2, .bool b3, .bool b4, .bool b5, .bool b6, .bool b7, .bool b8]] w Q :=
  fun_calls (A := A48) mixed Try.func48 (c := (Try.f48.body).getD .skip) rfl (by kernel_rfl) (Eq.mp (by kernel_rfl) h)

/-- millrace/openmode.letters$6 -/
def A49 : Ann := ⟨[], [], [], [], [], []⟩
def L49 (p1 : Option Addr) (Q : Value → World → Prop) (w : World) : Prop :=
  nn p1 (fun (q2 : Addr) =>
  stC (Addr.add q2 5) (.bool true) w (fun (w1 : World) =>
  Q (.tuple #[]) w1))
theorem C49 {p1 : Option Addr} {Q : Value → World → Prop} {w : World} (h : L49 p1 Q w) : CallR Try.prog 49 [.pointer p1] w Q :=
  fun_calls (A := A49) mixed Try.func49 (c := (Try.f49.body).getD .skip) rfl (by kernel_rfl) (Eq.mp (by kernel_rfl) h)

/-- millrace/openmode.letters$7 -/
def A50 : Ann := ⟨[], [], [], [], [], []⟩
def L50 (b1 : Bool) (b2 : Bool) (b3 : Bool) (b4 : Bool) (b5 : Bool) (b6 : Bool) (b7 : Bool) (b8 : Bool) (Q : Value → World → Prop) (w : World) : Prop :=
  let w1 := World.alloc w (Obj.cells #[.bool b1, .bool b2, .bool b3, .bool b4, .bool b5, .bool b6, .bool b7, .bool b8] 48);
  ∃ (b9 : Bool), w1.cell? (Addr.mk w.heap.size 7 none) = some ((.bool b9 : Value)) ∧
  Q (.bool b9) w1
theorem C50 {b1 : Bool} {b2 : Bool} {b3 : Bool} {b4 : Bool} {b5 : Bool} {b6 : Bool} {b7 : Bool} {b8 : Bool} {Q : Value → World → Prop} {w : World} (h : L50 b1 b2 b3 b4 b5 b6 b7 b8 Q w) : CallR Try.prog 50 [.agg #[.bool b1, .bool b2, .bool b3, .bool b4, .bool b5, .bool b6, .bool b7, .bool b8]] w Q :=
  fun_calls (A := A50) mixed Try.func50 (c := (Try.f50.body).getD .skip) rfl (by kernel_rfl) (Eq.mp (by kernel_rfl) h)

/-- millrace/openmode.letters$8 -/
def A51 : Ann := ⟨[], [], [], [], [], []⟩
def L51 (p1 : Option Addr) (Q : Value → World → Prop) (w : World) : Prop :=
  nn p1 (fun (q2 : Addr) =>
  stC (Addr.add q2 7) (.bool true) w (fun (w1 : World) =>
  Q (.tuple #[]) w1))
theorem C51 {p1 : Option Addr} {Q : Value → World → Prop} {w : World} (h : L51 p1 Q w) : CallR Try.prog 51 [.pointer p1] w Q :=
  fun_calls (A := A51) mixed Try.func51 (c := (Try.f51.body).getD .skip) rfl (by kernel_rfl) (Eq.mp (by kernel_rfl) h)

/-- internal/stringslite.IndexByte -/
def A56 : Ann := ⟨[], [], [], [], [], []⟩
def L56 (s1 : ByteArray) (n2 : Int) (Q : Value → World → Prop) (w : World) : Prop :=
  ∃ (n3 : Int) (w1 : World), Sem.run Try.prog (callFunc 57 #[.string s1, .int .u8 n2]) w = .ok (.value (.int .i64 n3)) w1 ∧
  Q (.int .i64 n3) w1
theorem C56 {s1 : ByteArray} {n2 : Int} {Q : Value → World → Prop} {w : World} (h : L56 s1 n2 Q w) : CallR Try.prog 56 [.string s1, .int .u8 n2] w Q :=
  fun_calls (A := A56) mixed Try.func56 (c := (Try.f56.body).getD .skip) rfl (by kernel_rfl) (Eq.mp (by kernel_rfl) h)

/-- strings.IndexByte -/
def A53 : Ann := ⟨[], [], [], [], [], []⟩
def L53 (s1 : ByteArray) (n2 : Int) (Q : Value → World → Prop) (w : World) : Prop :=
  CallR Try.prog 56 [.string s1, .int .u8 n2] w (fun (r4 : Value) (w1 : World) =>
  ∃ (n3 : Int), r4 = .int .i64 n3 ∧
  Q (.int .i64 n3) w1)
theorem C53 {s1 : ByteArray} {n2 : Int} {Q : Value → World → Prop} {w : World} (h : L53 s1 n2 Q w) : CallR Try.prog 53 [.string s1, .int .u8 n2] w Q :=
  fun_calls (A := A53) mixed Try.func53 (c := (Try.f53.body).getD .skip) rfl (by kernel_rfl) (Eq.mp (by kernel_rfl) h)

/-- millrace/openmode.Parse -/
def A41 : Ann := ⟨[(7, [(7, .one (.int .i64))]), (10, [(30, .one (.int .i64))])], [], [], [(12, [0, 1, 2, 3, 4, 5, 6, 7, 8, 9, 10, 11, 12, 13, 14, 15, 16, 17, 18, 19, 20, 21, 22, 23, 24])], [], []⟩
def L41 (s1 : ByteArray) (Q : Value → World → Prop) (w : World) : Prop :=
  let w1 := World.alloc w (Obj.cells #[.bool false, .bool false, .bool false, .bool false, .bool false, .bool false, .bool false, .bool false] 48);
  cond (ByteArray.toList s1 == ByteArray.toList (ByteArray.mk #[]))
  (stC (Addr.mk w.heap.size 0 none) (.bool false) w1 (fun (w2 : World) =>
  stC (Addr.mk w.heap.size 1 none) (.bool false) w2 (fun (w3 : World) =>
  stC (Addr.mk w.heap.size 2 none) (.bool false) w3 (fun (w4 : World) =>
  stC (Addr.mk w.heap.size 3 none) (.bool false) w4 (fun (w5 : World) =>
  stC (Addr.mk w.heap.size 4 none) (.bool false) w5 (fun (w6 : World) =>
  stC (Addr.mk w.heap.size 5 none) (.bool false) w6 (fun (w7 : World) =>
  stC (Addr.mk w.heap.size 6 none) (.bool false) w7 (fun (w8 : World) =>
  stC (Addr.mk w.heap.size 7 none) (.bool false) w8 (fun (w9 : World) =>
  ∃ (b2 : Bool) (b3 : Bool) (b4 : Bool) (b5 : Bool) (b6 : Bool) (b7 : Bool) (b8 : Bool) (b9 : Bool), w9.cell? (Addr.mk w.heap.size 0 none) = some ((.bool b2 : Value)) ∧ w9.cell? (Addr.mk w.heap.size 1 none) = some ((.bool b3 : Value)) ∧ w9.cell? (Addr.mk w.heap.size 2 none) = some ((.bool b4 : Value)) ∧ w9.cell? (Addr.mk w.heap.size 3 none) = some ((.bool b5 : Value)) ∧ w9.cell? (Addr.mk w.heap.size 4 none) = some ((.bool b6 : Value)) ∧ w9.cell? (Addr.mk w.heap.size 5 none) = some ((.bool b7 : Value)) ∧ w9.cell? (Addr.mk w.heap.size 6 none) = some ((.bool b8 : Value)) ∧ w9.cell? (Addr.mk w.heap.size 7 none) = some ((.bool b9 : Value)) ∧ 
  Q (.tuple #[.agg #[.bool b2, .bool b3, .bool b4, .bool b5, .bool b6, .bool b7, .bool b8, .bool b9], .int .i64 91, .int .i64 0]) w9)))))))))
  ((0 ≤ (0 : Int) ∧ (0 : Int) < ((ByteArray.size s1 : Nat) : Int)) ∧
  CallR Try.prog 52 [.int .u8 (byteAt s1 0)] w1 (fun (r19 : Value) (w10 : World) =>
  ∃ (b10 : Bool) (b11 : Bool) (b12 : Bool) (b13 : Bool) (b14 : Bool) (b15 : Bool) (b16 : Bool) (b17 : Bool) (b18 : Bool), r19 = .tuple #[.agg #[.bool b10, .bool b11, .bool b12, .bool b13, .bool b14, .bool b15, .bool b16, .bool b17], .bool b18] ∧
  let w11 := World.alloc w10 (Obj.cells #[.bool false, .bool false, .bool false, .bool false, .bool false, .bool false, .bool false, .bool false] 48);
  stC (Addr.mk w10.heap.size 0 none) (.bool b10) w11 (fun (w12 : World) =>
  stC (Addr.mk w10.heap.size 1 none) (.bool b11) w12 (fun (w13 : World) =>
  stC (Addr.mk w10.heap.size 2 none) (.bool b12) w13 (fun (w14 : World) =>
  stC (Addr.mk w10.heap.size 3 none) (.bool b13) w14 (fun (w15 : World) =>
  stC (Addr.mk w10.heap.size 4 none) (.bool b14) w15 (fun (w16 : World) =>
  stC (Addr.mk w10.heap.size 5 none) (.bool b15) w16 (fun (w17 : World) =>
  stC (Addr.mk w10.heap.size 6 none) (.bool b16) w17 (fun (w18 : World) =>
  stC (Addr.mk w10.heap.size 7 none) (.bool b17) w18 (fun (w19 : World) =>
  cond (!b18)
  (stC (Addr.mk w.heap.size 0 none) (.bool false) w19 (fun (w20 : World) =>
  stC (Addr.mk w.heap.size 1 none) (.bool false) w20 (fun (w21 : World) =>
  stC (Addr.mk w.heap.size 2 none) (.bool false) w21 (fun (w22 : World) =>
  stC (Addr.mk w.heap.size 3 none) (.bool false) w22 (fun (w23 : World) =>
  stC (Addr.mk w.heap.size 4 none) (.bool false) w23 (fun (w24 : World) =>
  stC (Addr.mk w.heap.size 5 none) (.bool false) w24 (fun (w25 : World) =>
  stC (Addr.mk w.heap.size 6 none) (.bool false) w25 (fun (w26 : World) =>
  stC (Addr.mk w.heap.size 7 none) (.bool false) w26 (fun (w27 : World) =>
  ∃ (b20 : Bool) (b21 : Bool) (b22 : Bool) (b23 : Bool) (b24 : Bool) (b25 : Bool) (b26 : Bool) (b27 : Bool), w27.cell? (Addr.mk w.heap.size 0 none) = some ((.bool b20 : Value)) ∧ w27.cell? (Addr.mk w.heap.size 1 none) = some ((.bool b21 : Value)) ∧ w27.cell? (Addr.mk w.heap.size 2 none) = some ((.bool b22 : Value)) ∧ w27.cell? (Addr.mk w.heap.size 3 none) = some ((.bool b23 : Value)) ∧ w27.cell? (Addr.mk w.heap.size 4 none) = some ((.bool b24 : Value)) ∧ w27.cell? (Addr.mk w.heap.size 5 none) = some ((.bool b25 : Value)) ∧ w27.cell? (Addr.mk w.heap.size 6 none) = some ((.bool b26 : Value)) ∧ w27.cell? (Addr.mk w.heap.size 7 none) = some ((.bool b27 : Value)) ∧ 
  Q (.tuple #[.agg #[.bool b20, .bool b21, .bool b22, .bool b23, .bool b24, .bool b25, .bool b26, .bool b27], .int .i64 91, .int .i64 0]) w27)))))))))
  (∃ (I28 : List Value → World → Prop) (mu29 : List Value → World → Nat),
  I28 [.int .i64 1] w19 ∧
  ∀ (_ : Env) (n30 : Int) (w28 : World), I28 [.int .i64 n30] w28 →
  cond (decide (n30 < (((ByteArray.size s1 : Nat) : Int))))
  (CallR Try.prog 40 [] w28 (fun (r32 : Value) (w29 : World) =>
  ∃ (a31 : Option Addr) (l31 : Nat) (c31 : Nat), r32 = .slice a31 l31 c31 ∧
  ∃ (I33 : List Value → World → Prop) (mu34 : List Value → World → Nat),
  I33 [.int .i64 0] w29 ∧
  ∀ (_ : Env) (n35 : Int) (w30 : World), I33 [.int .i64 n35] w30 →
  cond (decide (n35 < (((l31 : Nat) : Int))))
  ((0 ≤ (n35 : Int) ∧ (n35 : Int) < ((l31 : Nat) : Int)) ∧
  nn a31 (fun (q36 : Addr) =>
  ∃ (n37 : Int) (v38 : Value) (v39 : Value), w30.cell? (Addr.add q36 (Int.toNat n35 * 3)) = some ((.int .u8 n37 : Value)) ∧ w30.cell? (Addr.add (Addr.add q36 (Int.toNat n35 * 3)) 1) = some v38 ∧ w30.cell? (Addr.add (Addr.add q36 (Int.toNat n35 * 3)) 2) = some v39 ∧ 
  let w31 := World.alloc w30 (Obj.cells #[.int .u8 0, .nilFunc, .nilFunc] 83);
  stC (Addr.mk w30.heap.size 0 none) (.int .u8 n37) w31 (fun (w32 : World) =>
  oneC v38 (stC (Addr.mk w30.heap.size 1 none) v38 w32 (fun (w33 : World) =>
  oneC v39 (stC (Addr.mk w30.heap.size 2 none) v39 w33 (fun (w34 : World) =>
  let w35 := World.drew w34;
  ∃ (n40 : Int), w35.cell? (Addr.mk w30.heap.size 0 none) = some ((.int .u8 n40 : Value)) ∧
  (0 ≤ (n30 : Int) ∧ (n30 : Int) < ((ByteArray.size s1 : Nat) : Int)) ∧
  cond (n40 == (byteAt s1 n30))
  ((0 ≤ (n30 : Int) ∧ (n30 : Int) ≤ ((ByteArray.size s1 : Nat) : Int)) ∧
  (0 ≤ (1 : Int) ∧ (1 : Int) ≤ ((Int.toNat n30 : Nat) : Int)) ∧
  ∃ (n41 : Int), w35.cell? (Addr.mk w30.heap.size 0 none) = some ((.int .u8 n41 : Value)) ∧
  CallR Try.prog 53 [.string (ByteArray.extract s1 (Int.toNat 1) (Int.toNat n30)), .int .u8 n41] w35 (fun (r43 : Value) (w36 : World) =>
  ∃ (n42 : Int), r43 = .int .i64 n42 ∧
  cond (decide (n42 < 0))
  (∃ (n44 : Int), w36.cell? (Addr.mk w30.heap.size 0 none) = some ((.int .u8 n44 : Value)) ∧
  cond (n44 != 120)
  (∃ (v45 : Value), w36.cell? (Addr.mk w30.heap.size 2 none) = some v45 ∧
  ∃ (k46 : FuncId) (xs47 : Array Value) (xs48 : Array Value), (v45 : Value) = .func (.func k46) xs47 xs48 ∧ bodyB Try.prog k46 = true ∧
  CallR Try.prog k46 (Array.toList xs47 ++ ([.pointer (some (Addr.mk w10.heap.size 0 none))] ++ Array.toList xs48)) w36 (fun (r49 : Value) (w37 : World) =>
  r49 = .tuple #[] ∧
  inI (n30 + 1) ∧
  I28 [.int .i64 (n30 + 1)] w37 ∧ mu29 [.int .i64 (n30 + 1)] w37 < mu29 [.int .i64 n30] w28))
  ((0 ≤ (0 : Int) ∧ (0 : Int) < ((ByteArray.size s1 : Nat) : Int)) ∧
  cond ((byteAt s1 0) == 119)
  (∃ (v50 : Value), w36.cell? (Addr.mk w30.heap.size 2 none) = some v50 ∧
  ∃ (k51 : FuncId) (xs52 : Array Value) (xs53 : Array Value), (v50 : Value) = .func (.func k51) xs52 xs53 ∧ bodyB Try.prog k51 = true ∧
  CallR Try.prog k51 (Array.toList xs52 ++ ([.pointer (some (Addr.mk w10.heap.size 0 none))] ++ Array.toList xs53)) w36 (fun (r54 : Value) (w38 : World) =>
  r54 = .tuple #[] ∧
  inI (n30 + 1) ∧
  I28 [.int .i64 (n30 + 1)] w38 ∧ mu29 [.int .i64 (n30 + 1)] w38 < mu29 [.int .i64 n30] w28))
  (inI (n35 + 1) ∧
  I33 [.int .i64 (n35 + 1)] w36 ∧ mu34 [.int .i64 (n35 + 1)] w36 < mu34 [.int .i64 n35] w30)))
  (inI (n35 + 1) ∧
  I33 [.int .i64 (n35 + 1)] w36 ∧ mu34 [.int .i64 (n35 + 1)] w36 < mu34 [.int .i64 n35] w30)))
  (inI (n35 + 1) ∧
  I33 [.int .i64 (n35 + 1)] w35 ∧ mu34 [.int .i64 (n35 + 1)] w35 < mu34 [.int .i64 n35] w30))))))))
  (stC (Addr.mk w.heap.size 0 none) (.bool false) w30 (fun (w39 : World) =>
  stC (Addr.mk w.heap.size 1 none) (.bool false) w39 (fun (w40 : World) =>
  stC (Addr.mk w.heap.size 2 none) (.bool false) w40 (fun (w41 : World) =>
  stC (Addr.mk w.heap.size 3 none) (.bool false) w41 (fun (w42 : World) =>
  stC (Addr.mk w.heap.size 4 none) (.bool false) w42 (fun (w43 : World) =>
  stC (Addr.mk w.heap.size 5 none) (.bool false) w43 (fun (w44 : World) =>
  stC (Addr.mk w.heap.size 6 none) (.bool false) w44 (fun (w45 : World) =>
  stC (Addr.mk w.heap.size 7 none) (.bool false) w45 (fun (w46 : World) =>
  ∃ (b55 : Bool) (b56 : Bool) (b57 : Bool) (b58 : Bool) (b59 : Bool) (b60 : Bool) (b61 : Bool) (b62 : Bool), w46.cell? (Addr.mk w.heap.size 0 none) = some ((.bool b55 : Value)) ∧ w46.cell? (Addr.mk w.heap.size 1 none) = some ((.bool b56 : Value)) ∧ w46.cell? (Addr.mk w.heap.size 2 none) = some ((.bool b57 : Value)) ∧ w46.cell? (Addr.mk w.heap.size 3 none) = some ((.bool b58 : Value)) ∧ w46.cell? (Addr.mk w.heap.size 4 none) = some ((.bool b59 : Value)) ∧ w46.cell? (Addr.mk w.heap.size 5 none) = some ((.bool b60 : Value)) ∧ w46.cell? (Addr.mk w.heap.size 6 none) = some ((.bool b61 : Value)) ∧ w46.cell? (Addr.mk w.heap.size 7 none) = some ((.bool b62 : Value)) ∧ 
  Q (.tuple #[.agg #[.bool b55, .bool b56, .bool b57, .bool b58, .bool b59, .bool b60, .bool b61, .bool b62], .int .i64 91, .int .i64 n30]) w46)))))))))))
  (∃ (b63 : Bool) (b64 : Bool) (b65 : Bool) (b66 : Bool) (b67 : Bool) (b68 : Bool) (b69 : Bool) (b70 : Bool), w28.cell? (Addr.mk w10.heap.size 0 none) = some ((.bool b63 : Value)) ∧ w28.cell? (Addr.mk w10.heap.size 1 none) = some ((.bool b64 : Value)) ∧ w28.cell? (Addr.mk w10.heap.size 2 none) = some ((.bool b65 : Value)) ∧ w28.cell? (Addr.mk w10.heap.size 3 none) = some ((.bool b66 : Value)) ∧ w28.cell? (Addr.mk w10.heap.size 4 none) = some ((.bool b67 : Value)) ∧ w28.cell? (Addr.mk w10.heap.size 5 none) = some ((.bool b68 : Value)) ∧ w28.cell? (Addr.mk w10.heap.size 6 none) = some ((.bool b69 : Value)) ∧ w28.cell? (Addr.mk w10.heap.size 7 none) = some ((.bool b70 : Value)) ∧ 
  stC (Addr.mk w.heap.size 0 none) (.bool b63) w28 (fun (w47 : World) =>
  stC (Addr.mk w.heap.size 1 none) (.bool b64) w47 (fun (w48 : World) =>
  stC (Addr.mk w.heap.size 2 none) (.bool b65) w48 (fun (w49 : World) =>
  stC (Addr.mk w.heap.size 3 none) (.bool b66) w49 (fun (w50 : World) =>
  stC (Addr.mk w.heap.size 4 none) (.bool b67) w50 (fun (w51 : World) =>
  stC (Addr.mk w.heap.size 5 none) (.bool b68) w51 (fun (w52 : World) =>
  stC (Addr.mk w.heap.size 6 none) (.bool b69) w52 (fun (w53 : World) =>
  stC (Addr.mk w.heap.size 7 none) (.bool b70) w53 (fun (w54 : World) =>
  ∃ (b71 : Bool) (b72 : Bool) (b73 : Bool) (b74 : Bool) (b75 : Bool) (b76 : Bool) (b77 : Bool) (b78 : Bool), w54.cell? (Addr.mk w.heap.size 0 none) = some ((.bool b71 : Value)) ∧ w54.cell? (Addr.mk w.heap.size 1 none) = some ((.bool b72 : Value)) ∧ w54.cell? (Addr.mk w.heap.size 2 none) = some ((.bool b73 : Value)) ∧ w54.cell? (Addr.mk w.heap.size 3 none) = some ((.bool b74 : Value)) ∧ w54.cell? (Addr.mk w.heap.size 4 none) = some ((.bool b75 : Value)) ∧ w54.cell? (Addr.mk w.heap.size 5 none) = some ((.bool b76 : Value)) ∧ w54.cell? (Addr.mk w.heap.size 6 none) = some ((.bool b77 : Value)) ∧ w54.cell? (Addr.mk w.heap.size 7 none) = some ((.bool b78 : Value)) ∧ 
  Q (.tuple #[.agg #[.bool b71, .bool b72, .bool b73, .bool b74, .bool b75, .bool b76, .bool b77, .bool b78], .int .i64 0, .int .i64 (((ByteArray.size s1 : Nat) : Int))]) w54))))))))))))))))))))
theorem C41 {s1 : ByteArray} {Q : Value → World → Prop} {w : World} (h : L41 s1 Q w) : CallR Try.prog 41 [.string s1] w Q :=
  fun_calls (A := A41) mixed Try.func41 (c := (Try.f41.body).getD .skip) rfl (by kernel_rfl) (Eq.mp (by kernel_rfl) h)

/-- millrace/openmode.Print -/
def A37 : Ann := ⟨[(2, []), (6, [(6, .one (.str)), (20, .one (.int .i64))])], [], [], [], [], []⟩
def L37 (b1 : Bool) (b2 : Bool) (b3 : Bool) (b4 : Bool) (b5 : Bool) (b6 : Bool) (b7 : Bool) (b8 : Bool) (Q : Value → World → Prop) (w : World) : Prop :=
  let w1 := World.alloc w (Obj.cells #[.bool b1, .bool b2, .bool b3, .bool b4, .bool b5, .bool b6, .bool b7, .bool b8] 48);
  ∃ (w2 : World), Sem.run Try.prog (Instr.range 9 (.string (ByteArray.mk #[114, 119, 97]))) w1 = .ok (.pointer (some (Addr.mk w1.heap.size 0 none))) w2 ∧
  ∃ (I9 : List Value → World → Prop) (mu10 : List Value → World → Nat),
  I9 [] w2 ∧
  ∀ (_ : Env) (w3 : World), I9 [] w3 →
  (∃ (w4 : World), Sem.run Try.prog (Instr.next (.pointer (some (Addr.mk w1.heap.size 0 none))) true 0) w3 = .ok (.tuple #[.bool false]) w4 ∧
  Q (.tuple #[.string (ByteArray.mk #[]), .int .i64 91]) w4) ∨
  (∃ (v11 : Value) (v12 : Value) (w5 : World), Sem.run Try.prog (Instr.next (.pointer (some (Addr.mk w1.heap.size 0 none))) true 0) w3 = .ok (.tuple #[.bool true, v11, v12]) w5 ∧
  ∃ (n13 : Int), v12 = (.int .i32 n13 : Value) ∧
  CallR Try.prog 40 [] w5 (fun (r15 : Value) (w6 : World) =>
  ∃ (a14 : Option Addr) (l14 : Nat) (c14 : Nat), r15 = .slice a14 l14 c14 ∧
  ∃ (I16 : List Value → World → Prop) (mu17 : List Value → World → Nat),
  I16 [.string (Utf8.encode n13), .int .i64 0] w6 ∧
  ∀ (_ : Env) (s18 : ByteArray) (n19 : Int) (w7 : World), I16 [.string s18, .int .i64 n19] w7 →
  cond (decide (n19 < (((l14 : Nat) : Int))))
  ((0 ≤ (n19 : Int) ∧ (n19 : Int) < ((l14 : Nat) : Int)) ∧
  nn a14 (fun (q20 : Addr) =>
  ∃ (n21 : Int) (v22 : Value) (v23 : Value), w7.cell? (Addr.add q20 (Int.toNat n19 * 3)) = some ((.int .u8 n21 : Value)) ∧ w7.cell? (Addr.add (Addr.add q20 (Int.toNat n19 * 3)) 1) = some v22 ∧ w7.cell? (Addr.add (Addr.add q20 (Int.toNat n19 * 3)) 2) = some v23 ∧ 
  let w8 := World.alloc w7 (Obj.cells #[.int .u8 0, .nilFunc, .nilFunc] 83);
  stC (Addr.mk w7.heap.size 0 none) (.int .u8 n21) w8 (fun (w9 : World) =>
  oneC v22 (stC (Addr.mk w7.heap.size 1 none) v22 w9 (fun (w10 : World) =>
  oneC v23 (stC (Addr.mk w7.heap.size 2 none) v23 w10 (fun (w11 : World) =>
  ∃ (v24 : Value), w11.cell? (Addr.mk w7.heap.size 1 none) = some v24 ∧
  ∃ (b25 : Bool) (b26 : Bool) (b27 : Bool) (b28 : Bool) (b29 : Bool) (b30 : Bool) (b31 : Bool) (b32 : Bool), w11.cell? (Addr.mk w.heap.size 0 none) = some ((.bool b25 : Value)) ∧ w11.cell? (Addr.mk w.heap.size 1 none) = some ((.bool b26 : Value)) ∧ w11.cell? (Addr.mk w.heap.size 2 none) = some ((.bool b27 : Value)) ∧ w11.cell? (Addr.mk w.heap.size 3 none) = some ((.bool b28 : Value)) ∧ w11.cell? (Addr.mk w.heap.size 4 none) = some ((.bool b29 : Value)) ∧ w11.cell? (Addr.mk w.heap.size 5 none) = some ((.bool b30 : Value)) ∧ w11.cell? (Addr.mk w.heap.size 6 none) = some ((.bool b31 : Value)) ∧ w11.cell? (Addr.mk w.heap.size 7 none) = some ((.bool b32 : Value)) ∧ 
  ∃ (k33 : FuncId) (xs34 : Array Value) (xs35 : Array Value), (v24 : Value) = .func (.func k33) xs34 xs35 ∧ bodyB Try.prog k33 = true ∧
  CallR Try.prog k33 (Array.toList xs34 ++ ([.agg #[.bool b25, .bool b26, .bool b27, .bool b28, .bool b29, .bool b30, .bool b31, .bool b32]] ++ Array.toList xs35)) w11 (fun (r37 : Value) (w12 : World) =>
  ∃ (b36 : Bool), r37 = .bool b36 ∧
  cond b36
  (∃ (n38 : Int), w12.cell? (Addr.mk w7.heap.size 0 none) = some ((.int .u8 n38 : Value)) ∧
  ByteArray.size s18 + ByteArray.size (Utf8.encode (IntKind.wrap .i32 n38)) ≤ 9223372036854775807 ∧
  inI (n19 + 1) ∧
  I16 [.string (s18 ++ (Utf8.encode (IntKind.wrap .i32 n38))), .int .i64 (n19 + 1)] w12 ∧ mu17 [.string (s18 ++ (Utf8.encode (IntKind.wrap .i32 n38))), .int .i64 (n19 + 1)] w12 < mu17 [.string s18, .int .i64 n19] w7)
  (inI (n19 + 1) ∧
  I16 [.string s18, .int .i64 (n19 + 1)] w12 ∧ mu17 [.string s18, .int .i64 (n19 + 1)] w12 < mu17 [.string s18, .int .i64 n19] w7)))))))))
  (CallR Try.prog 41 [.string s18] w7 (fun (r49 : Value) (w13 : World) =>
  ∃ (b39 : Bool) (b40 : Bool) (b41 : Bool) (b42 : Bool) (b43 : Bool) (b44 : Bool) (b45 : Bool) (b46 : Bool) (n47 : Int) (n48 : Int), r49 = .tuple #[.agg #[.bool b39, .bool b40, .bool b41, .bool b42, .bool b43, .bool b44, .bool b45, .bool b46], .int .i64 n47, .int .i64 n48] ∧
  let w14 := World.alloc w13 (Obj.cells #[.bool false, .bool false, .bool false, .bool false, .bool false, .bool false, .bool false, .bool false] 48);
  stC (Addr.mk w13.heap.size 0 none) (.bool b39) w14 (fun (w15 : World) =>
  stC (Addr.mk w13.heap.size 1 none) (.bool b40) w15 (fun (w16 : World) =>
  stC (Addr.mk w13.heap.size 2 none) (.bool b41) w16 (fun (w17 : World) =>
  stC (Addr.mk w13.heap.size 3 none) (.bool b42) w17 (fun (w18 : World) =>
  stC (Addr.mk w13.heap.size 4 none) (.bool b43) w18 (fun (w19 : World) =>
  stC (Addr.mk w13.heap.size 5 none) (.bool b44) w19 (fun (w20 : World) =>
  stC (Addr.mk w13.heap.size 6 none) (.bool b45) w20 (fun (w21 : World) =>
  stC (Addr.mk w13.heap.size 7 none) (.bool b46) w21 (fun (w22 : World) =>
  cond (n47 == 0)
  (∃ (b50 : Bool) (b51 : Bool) (b52 : Bool) (b53 : Bool) (b54 : Bool) (b55 : Bool) (b56 : Bool) (b57 : Bool), w22.cell? (Addr.mk w13.heap.size 0 none) = some ((.bool b50 : Value)) ∧ w22.cell? (Addr.mk w13.heap.size 1 none) = some ((.bool b51 : Value)) ∧ w22.cell? (Addr.mk w13.heap.size 2 none) = some ((.bool b52 : Value)) ∧ w22.cell? (Addr.mk w13.heap.size 3 none) = some ((.bool b53 : Value)) ∧ w22.cell? (Addr.mk w13.heap.size 4 none) = some ((.bool b54 : Value)) ∧ w22.cell? (Addr.mk w13.heap.size 5 none) = some ((.bool b55 : Value)) ∧ w22.cell? (Addr.mk w13.heap.size 6 none) = some ((.bool b56 : Value)) ∧ w22.cell? (Addr.mk w13.heap.size 7 none) = some ((.bool b57 : Value)) ∧ 
  ∃ (b58 : Bool) (b59 : Bool) (b60 : Bool) (b61 : Bool) (b62 : Bool) (b63 : Bool) (b64 : Bool) (b65 : Bool), w22.cell? (Addr.mk w.heap.size 0 none) = some ((.bool b58 : Value)) ∧ w22.cell? (Addr.mk w.heap.size 1 none) = some ((.bool b59 : Value)) ∧ w22.cell? (Addr.mk w.heap.size 2 none) = some ((.bool b60 : Value)) ∧ w22.cell? (Addr.mk w.heap.size 3 none) = some ((.bool b61 : Value)) ∧ w22.cell? (Addr.mk w.heap.size 4 none) = some ((.bool b62 : Value)) ∧ w22.cell? (Addr.mk w.heap.size 5 none) = some ((.bool b63 : Value)) ∧ w22.cell? (Addr.mk w.heap.size 6 none) = some ((.bool b64 : Value)) ∧ w22.cell? (Addr.mk w.heap.size 7 none) = some ((.bool b65 : Value)) ∧ 
  ∃ (b66 : Bool) (w23 : World), Sem.run Try.prog (Sem.bind (eqGuard .eql 48 (.tmp 44) (.tmp 45) (.agg #[.bool b50, .bool b51, .bool b52, .bool b53, .bool b54, .bool b55, .bool b56, .bool b57]) (.agg #[.bool b58, .bool b59, .bool b60, .bool b61, .bool b62, .bool b63, .bool b64, .bool b65])) (fun _ => binOp .eql 48 (.agg #[.bool b50, .bool b51, .bool b52, .bool b53, .bool b54, .bool b55, .bool b56, .bool b57]) (.agg #[.bool b58, .bool b59, .bool b60, .bool b61, .bool b62, .bool b63, .bool b64, .bool b65]))) w22 = .ok ((.bool b66 : Value)) w23 ∧
  cond b66
  (Q (.tuple #[.string s18, .int .i64 0]) w23)
  (I9 [] w23 ∧ mu10 [] w23 < mu10 [] w3))
  (I9 [] w22 ∧ mu10 [] w22 < mu10 [] w3)))))))))))))
theorem C37 {b1 : Bool} {b2 : Bool} {b3 : Bool} {b4 : Bool} {b5 : Bool} {b6 : Bool} {b7 : Bool} {b8 : Bool} {Q : Value → World → Prop} {w : World} (h : L37 b1 b2 b3 b4 b5 b6 b7 b8 Q w) : CallR Try.prog 37 [.agg #[.bool b1, .bool b2, .bool b3, .bool b4, .bool b5, .bool b6, .bool b7, .bool b8]] w Q :=
  fun_calls (A := A37) mixed Try.func37 (c := (Try.f37.body).getD .skip) rfl (by kernel_rfl) (Eq.mp (by kernel_rfl) h)

/-- millrace/openmode.Check -/
def A28 : Ann := ⟨[], [], [], [], [], []⟩
def L28 (b1 : Bool) (b2 : Bool) (b3 : Bool) (b4 : Bool) (b5 : Bool) (b6 : Bool) (b7 : Bool) (b8 : Bool) (Q : Value → World → Prop) (w : World) : Prop :=
  let w1 := World.alloc w (Obj.cells #[.bool b1, .bool b2, .bool b3, .bool b4, .bool b5, .bool b6, .bool b7, .bool b8] 48);
  ∃ (b9 : Bool) (b10 : Bool) (b11 : Bool) (b12 : Bool) (b13 : Bool) (b14 : Bool) (b15 : Bool) (b16 : Bool), w1.cell? (Addr.mk w.heap.size 0 none) = some ((.bool b9 : Value)) ∧ w1.cell? (Addr.mk w.heap.size 1 none) = some ((.bool b10 : Value)) ∧ w1.cell? (Addr.mk w.heap.size 2 none) = some ((.bool b11 : Value)) ∧ w1.cell? (Addr.mk w.heap.size 3 none) = some ((.bool b12 : Value)) ∧ w1.cell? (Addr.mk w.heap.size 4 none) = some ((.bool b13 : Value)) ∧ w1.cell? (Addr.mk w.heap.size 5 none) = some ((.bool b14 : Value)) ∧ w1.cell? (Addr.mk w.heap.size 6 none) = some ((.bool b15 : Value)) ∧ w1.cell? (Addr.mk w.heap.size 7 none) = some ((.bool b16 : Value)) ∧ 
  CallR Try.prog 37 [.agg #[.bool b9, .bool b10, .bool b11, .bool b12, .bool b13, .bool b14, .bool b15, .bool b16]] w1 (fun (r19 : Value) (w2 : World) =>
  ∃ (s17 : ByteArray) (n18 : Int), r19 = .tuple #[.string s17, .int .i64 n18] ∧
  Q (.int .i64 n18) w2)
theorem C28 {b1 : Bool} {b2 : Bool} {b3 : Bool} {b4 : Bool} {b5 : Bool} {b6 : Bool} {b7 : Bool} {b8 : Bool} {Q : Value → World → Prop} {w : World} (h : L28 b1 b2 b3 b4 b5 b6 b7 b8 Q w) : CallR Try.prog 28 [.agg #[.bool b1, .bool b2, .bool b3, .bool b4, .bool b5, .bool b6, .bool b7, .bool b8]] w Q :=
  fun_calls (A := A28) mixed Try.func28 (c := (Try.f28.body).getD .skip) rfl (by kernel_rfl) (Eq.mp (by kernel_rfl) h)

end Go.Proofs.Ythddogeenimjcaa
