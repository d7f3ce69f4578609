/-
  What some functions of the program ask of the world, printed by a program out of the loaded program; each text is held against the code by evaluation. Conditions: none.
-/
import Derived.Test.YtapnpbfbebdjjaaProg
import Derived.Test.YtapnpbfbebdjjaaLm
import Derived.Test.YtapnpbfbebdjjaaLA
set_option linter.unusedVariables false
set_option maxRecDepth 100000
namespace Go.Proofs.Ytapnpbfbebdjjaa
open Go.Lw
/-- millrace/openmode.first -/
def A57 : Ann := ⟨[], [], [], [], []⟩
def L57 (n1 : Int) (Q : Value → World → Prop) (w : World) : Prop :=
  let w1 := World.alloc w (Obj.cells #[.bool false, .bool false, .bool false, .bool false, .bool false, .bool false, .bool false, .bool false] 40);
  cond (n1 == 114)
  (stC (Addr.mk w.heap.size 0 none) (.bool true) w1 (fun (w2 : World) =>
  stC (Addr.mk w.heap.size 1 none) (.bool false) w2 (fun (w3 : World) =>
  stC (Addr.mk w.heap.size 2 none) (.bool false) w3 (fun (w4 : World) =>
  stC (Addr.mk w.heap.size 3 none) (.bool false) w4 (fun (w5 : World) =>
  stC (Addr.mk w.heap.size 4 none) (.bool false) w5 (fun (w6 : World) =>
  stC (Addr.mk w.heap.size 5 none) (.bool false) w6 (fun (w7 : World) =>
  stC (Addr.mk w.heap.size 6 none) (.bool false) w7 (fun (w8 : World) =>
  stC (Addr.mk w.heap.size 7 none) (.bool false) w8 (fun (w9 : World) =>
  ∃ (b2 : Bool) (b3 : Bool) (b4 : Bool) (b5 : Bool) (b6 : Bool) (b7 : Bool) (b8 : Bool) (b9 : Bool), w9.cell? (Addr.mk w.heap.size 0 none) = some ((.bool b2 : Value)) ∧ w9.cell? (Addr.mk w.heap.size 1 none) = some ((.bool b3 : Value)) ∧ w9.cell? (Addr.mk w.heap.size 2 none) = some ((.bool b4 : Value)) ∧ w9.cell? (Addr.mk w.heap.size 3 none) = some ((.bool b5 : Value)) ∧ w9.cell? (Addr.mk w.heap.size 4 none) = some ((.bool b6 : Value)) ∧ w9.cell? (Addr.mk w.heap.size 5 none) = some ((.bool b7 : Value)) ∧ w9.cell? (Addr.mk w.heap.size 6 none) = some ((.bool b8 : Value)) ∧ w9.cell? (Addr.mk w.heap.size 7 none) = some ((.bool b9 : Value)) ∧ 
  Q (.tuple #[.agg #[.bool b2, .bool b3, .bool b4, .bool b5, .bool b6, .bool b7, .bool b8, .bool b9], .bool true]) w9)))))))))
  (cond (n1 == 119)
  (stC (Addr.mk w.heap.size 0 none) (.bool false) w1 (fun (w10 : World) =>
  stC (Addr.mk w.heap.size 1 none) (.bool true) w10 (fun (w11 : World) =>
  stC (Addr.mk w.heap.size 2 none) (.bool false) w11 (fun (w12 : World) =>
  stC (Addr.mk w.heap.size 3 none) (.bool true) w12 (fun (w13 : World) =>
  stC (Addr.mk w.heap.size 4 none) (.bool true) w13 (fun (w14 : World) =>
  stC (Addr.mk w.heap.size 5 none) (.bool false) w14 (fun (w15 : World) =>
  stC (Addr.mk w.heap.size 6 none) (.bool false) w15 (fun (w16 : World) =>
  stC (Addr.mk w.heap.size 7 none) (.bool false) w16 (fun (w17 : World) =>
  ∃ (b10 : Bool) (b11 : Bool) (b12 : Bool) (b13 : Bool) (b14 : Bool) (b15 : Bool) (b16 : Bool) (b17 : Bool), w17.cell? (Addr.mk w.heap.size 0 none) = some ((.bool b10 : Value)) ∧ w17.cell? (Addr.mk w.heap.size 1 none) = some ((.bool b11 : Value)) ∧ w17.cell? (Addr.mk w.heap.size 2 none) = some ((.bool b12 : Value)) ∧ w17.cell? (Addr.mk w.heap.size 3 none) = some ((.bool b13 : Value)) ∧ w17.cell? (Addr.mk w.heap.size 4 none) = some ((.bool b14 : Value)) ∧ w17.cell? (Addr.mk w.heap.size 5 none) = some ((.bool b15 : Value)) ∧ w17.cell? (Addr.mk w.heap.size 6 none) = some ((.bool b16 : Value)) ∧ w17.cell? (Addr.mk w.heap.size 7 none) = some ((.bool b17 : Value)) ∧ 
  Q (.tuple #[.agg #[.bool b10, .bool b11, .bool b12, .bool b13, .bool b14, .bool b15, .bool b16, .bool b17], .bool true]) w17)))))))))
  (cond (n1 == 97)
  (stC (Addr.mk w.heap.size 0 none) (.bool false) w1 (fun (w18 : World) =>
  stC (Addr.mk w.heap.size 1 none) (.bool true) w18 (fun (w19 : World) =>
  stC (Addr.mk w.heap.size 2 none) (.bool true) w19 (fun (w20 : World) =>
  stC (Addr.mk w.heap.size 3 none) (.bool true) w20 (fun (w21 : World) =>
  stC (Addr.mk w.heap.size 4 none) (.bool false) w21 (fun (w22 : World) =>
  stC (Addr.mk w.heap.size 5 none) (.bool false) w22 (fun (w23 : World) =>
  stC (Addr.mk w.heap.size 6 none) (.bool false) w23 (fun (w24 : World) =>
  stC (Addr.mk w.heap.size 7 none) (.bool false) w24 (fun (w25 : World) =>
  ∃ (b18 : Bool) (b19 : Bool) (b20 : Bool) (b21 : Bool) (b22 : Bool) (b23 : Bool) (b24 : Bool) (b25 : Bool), w25.cell? (Addr.mk w.heap.size 0 none) = some ((.bool b18 : Value)) ∧ w25.cell? (Addr.mk w.heap.size 1 none) = some ((.bool b19 : Value)) ∧ w25.cell? (Addr.mk w.heap.size 2 none) = some ((.bool b20 : Value)) ∧ w25.cell? (Addr.mk w.heap.size 3 none) = some ((.bool b21 : Value)) ∧ w25.cell? (Addr.mk w.heap.size 4 none) = some ((.bool b22 : Value)) ∧ w25.cell? (Addr.mk w.heap.size 5 none) = some ((.bool b23 : Value)) ∧ w25.cell? (Addr.mk w.heap.size 6 none) = some ((.bool b24 : Value)) ∧ w25.cell? (Addr.mk w.heap.size 7 none) = some ((.bool b25 : Value)) ∧ 
  Q (.tuple #[.agg #[.bool b18, .bool b19, .bool b20, .bool b21, .bool b22, .bool b23, .bool b24, .bool b25], .bool true]) w25)))))))))
  (stC (Addr.mk w.heap.size 0 none) (.bool false) w1 (fun (w26 : World) =>
  stC (Addr.mk w.heap.size 1 none) (.bool false) w26 (fun (w27 : World) =>
  stC (Addr.mk w.heap.size 2 none) (.bool false) w27 (fun (w28 : World) =>
  stC (Addr.mk w.heap.size 3 none) (.bool false) w28 (fun (w29 : World) =>
  stC (Addr.mk w.heap.size 4 none) (.bool false) w29 (fun (w30 : World) =>
  stC (Addr.mk w.heap.size 5 none) (.bool false) w30 (fun (w31 : World) =>
  stC (Addr.mk w.heap.size 6 none) (.bool false) w31 (fun (w32 : World) =>
  stC (Addr.mk w.heap.size 7 none) (.bool false) w32 (fun (w33 : World) =>
  ∃ (b26 : Bool) (b27 : Bool) (b28 : Bool) (b29 : Bool) (b30 : Bool) (b31 : Bool) (b32 : Bool) (b33 : Bool), w33.cell? (Addr.mk w.heap.size 0 none) = some ((.bool b26 : Value)) ∧ w33.cell? (Addr.mk w.heap.size 1 none) = some ((.bool b27 : Value)) ∧ w33.cell? (Addr.mk w.heap.size 2 none) = some ((.bool b28 : Value)) ∧ w33.cell? (Addr.mk w.heap.size 3 none) = some ((.bool b29 : Value)) ∧ w33.cell? (Addr.mk w.heap.size 4 none) = some ((.bool b30 : Value)) ∧ w33.cell? (Addr.mk w.heap.size 5 none) = some ((.bool b31 : Value)) ∧ w33.cell? (Addr.mk w.heap.size 6 none) = some ((.bool b32 : Value)) ∧ w33.cell? (Addr.mk w.heap.size 7 none) = some ((.bool b33 : Value)) ∧ 
  Q (.tuple #[.agg #[.bool b26, .bool b27, .bool b28, .bool b29, .bool b30, .bool b31, .bool b32, .bool b33], .bool false]) w33)))))))))))
theorem C57 {n1 : Int} {Q : Value → World → Prop} {w : World} (h : L57 n1 Q w) : CallR Try.prog 57 [.int .u8 n1] w Q :=
  fun_calls (A := A57) mixed Try.func57 (c := (Try.f57.body).getD .skip) rfl (by kernel_rfl) (Eq.mp (by kernel_rfl) h)

/-- millrace/openmode.letters -/
def A58 : Ann := ⟨[], [], [], [], []⟩
def L58 (Q : Value → World → Prop) (w : World) : Prop :=
  let w1 := World.alloc w (Obj.cells #[.int .u8 43, .func (.func 65) #[] #[], .func (.func 66) #[] #[], .int .u8 98, .func (.func 67) #[] #[], .func (.func 68) #[] #[], .int .u8 120, .func (.func 69) #[] #[], .func (.func 70) #[] #[], .int .u8 101, .func (.func 71) #[] #[], .func (.func 72) #[] #[]] 110);
  Q (.slice (some (Addr.mk w.heap.size 0 none)) 4 4) w1
theorem C58 {Q : Value → World → Prop} {w : World} (h : L58 Q w) : CallR Try.prog 58 [] w Q :=
  fun_calls (A := A58) mixed Try.func58 (c := (Try.f58.body).getD .skip) rfl (by kernel_rfl) (Eq.mp (by kernel_rfl) h)

/-- millrace/openmode.letters$1 -/
def A65 : Ann := ⟨[], [], [], [], []⟩
def L65 (b1 : Bool) (b2 : Bool) (b3 : Bool) (b4 : Bool) (b5 : Bool) (b6 : Bool) (b7 : Bool) (b8 : Bool) (Q : Value → World → Prop) (w : World) : Prop :=
  let w1 := World.alloc w (Obj.cells #[.bool b1, .bool b2, .bool b3, .bool b4, .bool b5, .bool b6, .bool b7, .bool b8] 40);
  ∃ (b9 : Bool), w1.cell? (Addr.mk w.heap.size 0 none) = some ((.bool b9 : Value)) ∧
  cond b9
  (∃ (b10 : Bool), w1.cell? (Addr.mk w.heap.size 1 none) = some ((.bool b10 : Value)) ∧
  Q (.bool b10) w1)
  (Q (.bool false) w1)
theorem C65 {b1 : Bool} {b2 : Bool} {b3 : Bool} {b4 : Bool} {b5 : Bool} {b6 : Bool} {b7 : Bool} {b8 : Bool} {Q : Value → World → Prop} {w : World} (h : L65 b1 b2 b3 b4 b5 b6 b7 b8 Q w) : CallR Try.prog 65 [.agg #[.bool b1, .bool b2, .bool b3, .bool b4, .bool b5, .bool b6, .bool b7, .bool b8]] w Q :=
  fun_calls (A := A65) mixed Try.func65 (c := (Try.f65.body).getD .skip) rfl (by kernel_rfl) (Eq.mp (by kernel_rfl) h)

/-- millrace/openmode.letters$2 -/
def A66 : Ann := ⟨[], [], [], [], []⟩
def L66 (p1 : Option Addr) (Q : Value → World → Prop) (w : World) : Prop :=
  nn p1 (fun (q2 : Addr) =>
  stC q2 (.bool true) w (fun (w1 : World) =>
  nn p1 (fun (q3 : Addr) =>
  stC (Addr.add q3 1) (.bool true) w1 (fun (w2 : World) =>
  Q (.tuple #[]) w2))))
theorem C66 {p1 : Option Addr} {Q : Value → World → Prop} {w : World} (h : L66 p1 Q w) : CallR Try.prog 66 [.pointer p1] w Q :=
  fun_calls (A := A66) mixed Try.func66 (c := (Try.f66.body).getD .skip) rfl (by kernel_rfl) (Eq.mp (by kernel_rfl) h)

/-- millrace/openmode.letters$3 -/
def A67 : Ann := ⟨[], [], [], [], []⟩
def L67 (b1 : Bool) (b2 : Bool) (b3 : Bool) (b4 : Bool) (b5 : Bool) (b6 : Bool) (b7 : Bool) (b8 : Bool) (Q : Value → World → Prop) (w : World) : Prop :=
  let w1 := World.alloc w (Obj.cells #[.bool b1, .bool b2, .bool b3, .bool b4, .bool b5, .bool b6, .bool b7, .bool b8] 40);
  ∃ (b9 : Bool), w1.cell? (Addr.mk w.heap.size 6 none) = some ((.bool b9 : Value)) ∧
  Q (.bool b9) w1
theorem C67 {b1 : Bool} {b2 : Bool} {b3 : Bool} {b4 : Bool} {b5 : Bool} {b6 : Bool} {b7 : Bool} {b8 : Bool} {Q : Value → World → Prop} {w : World} (h : L67 b1 b2 b3 b4 b5 b6 b7 b8 Q w) : CallR Try.prog 67 [.agg #[.bool b1, .bool b2, .bool b3, .bool b4, .bool b5, .bool b6, .bool b7, .bool b8]] w Q :=
  fun_calls (A := A67) mixed Try.func67 (c := (Try.f67.body).getD .skip) rfl (by kernel_rfl) (Eq.mp (by kernel_rfl) h)

/-- millrace/openmode.letters$4 -/
def A68 : Ann := ⟨[], [], [], [], []⟩
def L68 (p1 : Option Addr) (Q : Value → World → Prop) (w : World) : Prop :=
  nn p1 (fun (q2 : Addr) =>
  stC (Addr.add q2 6) (.bool true) w (fun (w1 : World) =>
  Q (.tuple #[]) w1))
theorem C68 {p1 : Option Addr} {Q : Value → World → Prop} {w : World} (h : L68 p1 Q w) : CallR Try.prog 68 [.pointer p1] w Q :=
  fun_calls (A := A68) mixed Try.func68 (c := (Try.f68.body).getD .skip) rfl (by kernel_rfl) (Eq.mp (by kernel_rfl) h)

/-- millrace/openmode.letters$5 -/
def A69 : Ann := ⟨[], [], [], [], []⟩
def L69 (b1 : Bool) (b2 : Bool) (b3 : Bool) (b4 : Bool) (b5 : Bool) (b6 : Bool) (b7 : Bool) (b8 : Bool) (Q : Value → World → Prop) (w : World) : Prop :=
  let w1 := World.alloc w (Obj.cells #[.bool b1, .bool b2, .bool b3, .bool b4, .bool b5, .bool b6, .bool b7, .bool b8] 40);
  ∃ (b9 : Bool), w1.cell? (Addr.mk w.heap.size 5 none) = some ((.bool b9 : Value)) ∧
  Q (.bool b9) w1
theorem C69 {b1 : Bool} {b2 : Bool} {b3 : Bool} {b4 : Bool} {b5 : Bool} {b6 : Bool} {b7 : Bool} {b8 : Bool} {Q : Value → World → Prop} {w : World} (h : L69 b1 b2 b3 b4 b5 b6 b7 b8 Q w) : CallR Try.prog 69 [.agg #[.bool b1, .bool b2, .bool b3, .bool b4, .bool b5, .bool b6, .bool b7, .bool b8]] w Q :=
  fun_calls (A := A69) mixed Try.func69 (c := (Try.f69.body).getD .skip) rfl (by kernel_rfl) (Eq.mp (by kernel_rfl) h)

/-- millrace/openmode.letters$6 -/
def A70 : Ann := ⟨[], [], [], [], []⟩
def L70 (p1 : Option Addr) (Q : Value → World → Prop) (w : World) : Prop :=
  nn p1 (fun (q2 : Addr) =>
  stC (Addr.add q2 5) (.bool true) w (fun (w1 : World) =>
  Q (.tuple #[]) w1))
theorem C70 {p1 : Option Addr} {Q : Value → World → Prop} {w : World} (h : L70 p1 Q w) : CallR Try.prog 70 [.pointer p1] w Q :=
  fun_calls (A := A70) mixed Try.func70 (c := (Try.f70.body).getD .skip) rfl (by kernel_rfl) (Eq.mp (by kernel_rfl) h)

/-- millrace/openmode.letters$7 -/
def A71 : Ann := ⟨[], [], [], [], []⟩
def L71 (b1 : Bool) (b2 : Bool) (b3 : Bool) (b4 : Bool) (b5 : Bool) (b6 : Bool) (b7 : Bool) (b8 : Bool) (Q : Value → World → Prop) (w : World) : Prop :=
  let w1 := World.alloc w (Obj.cells #[.bool b1, .bool b2, .bool b3, .bool b4, .bool b5, .bool b6, .bool b7, .bool b8] 40);
  ∃ (b9 : Bool), w1.cell? (Addr.mk w.heap.size 7 none) = some ((.bool b9 : Value)) ∧
  Q (.bool b9) w1
theorem C71 {b1 : Bool} {b2 : Bool} {b3 : Bool} {b4 : Bool} {b5 : Bool} {b6 : Bool} {b7 : Bool} {b8 : Bool} {Q : Value → World → Prop} {w : World} (h : L71 b1 b2 b3 b4 b5 b6 b7 b8 Q w) : CallR Try.prog 71 [.agg #[.bool b1, .bool b2, .bool b3, .bool b4, .bool b5, .bool b6, .bool b7, .bool b8]] w Q :=
  fun_calls (A := A71) mixed Try.func71 (c := (Try.f71.body).getD .skip) rfl (by kernel_rfl) (Eq.mp (by kernel_rfl) h)

/-- millrace/openmode.letters$8 -/
def A72 : Ann := ⟨[], [], [], [], []⟩
def L72 (p1 : Option Addr) (Q : Value → World → Prop) (w : World) : Prop :=
  nn p1 (fun (q2 : Addr) =>
  stC (Addr.add q2 7) (.bool true) w (fun (w1 : World) =>
  Q (.tuple #[]) w1))
theorem C72 {p1 : Option Addr} {Q : Value → World → Prop} {w : World} (h : L72 p1 Q w) : CallR Try.prog 72 [.pointer p1] w Q :=
  fun_calls (A := A72) mixed Try.func72 (c := (Try.f72.body).getD .skip) rfl (by kernel_rfl) (Eq.mp (by kernel_rfl) h)

/-- internal/stringslite.IndexByte -/
def A73 : Ann := ⟨[], [], [], [], []⟩
def L73 (s1 : ByteArray) (n2 : Int) (Q : Value → World → Prop) (w : World) : Prop :=
  ∃ (n3 : Int) (w1 : World), Sem.run Try.prog (callFunc 74 #[.string s1, .int .u8 n2]) w = .ok (.value (.int .i64 n3)) w1 ∧
  Q (.int .i64 n3) w1
theorem C73 {s1 : ByteArray} {n2 : Int} {Q : Value → World → Prop} {w : World} (h : L73 s1 n2 Q w) : CallR Try.prog 73 [.string s1, .int .u8 n2] w Q :=
  fun_calls (A := A73) mixed Try.func73 (c := (Try.f73.body).getD .skip) rfl (by kernel_rfl) (Eq.mp (by kernel_rfl) h)

/-- strings.IndexByte -/
def A59 : Ann := ⟨[], [], [], [], []⟩
def L59 (s1 : ByteArray) (n2 : Int) (Q : Value → World → Prop) (w : World) : Prop :=
  CallR Try.prog 73 [.string s1, .int .u8 n2] w (fun (r4 : Value) (w1 : World) =>
  ∃ (n3 : Int), r4 = .int .i64 n3 ∧
  Q (.int .i64 n3) w1)
theorem C59 {s1 : ByteArray} {n2 : Int} {Q : Value → World → Prop} {w : World} (h : L59 s1 n2 Q w) : CallR Try.prog 59 [.string s1, .int .u8 n2] w Q :=
  fun_calls (A := A59) mixed Try.func59 (c := (Try.f59.body).getD .skip) rfl (by kernel_rfl) (Eq.mp (by kernel_rfl) h)

/-- millrace/openmode.Parse -/
def A21 : Ann := ⟨[(7, [(7, .one (.int .i64))]), (10, [(30, .one (.int .i64))])], [], [], [(12, [0, 1, 2, 3, 4, 5, 6, 7, 8, 9, 10, 11, 12, 13, 14, 15, 16, 17, 18, 19, 20, 21, 22, 23, 24])], []⟩
def L21 (s1 : ByteArray) (Q : Value → World → Prop) (w : World) : Prop :=
  let w1 := World.alloc w (Obj.cells #[.bool false, .bool false, .bool false, .bool false, .bool false, .bool false, .bool false, .bool false] 40);
  cond (ByteArray.toList s1 == ByteArray.toList (ByteArray.mk #[]))
  (stC (Addr.mk w.heap.size 0 none) (.bool false) w1 (fun (w2 : World) =>
  stC (Addr.mk w.heap.size 1 none) (.bool false) w2 (fun (w3 : World) =>
  stC (Addr.mk w.heap.size 2 none) (.bool false) w3 (fun (w4 : World) =>
  stC (Addr.mk w.heap.size 3 none) (.bool false) w4 (fun (w5 : World) =>
  stC (Addr.mk w.heap.size 4 none) (.bool false) w5 (fun (w6 : World) =>
  stC (Addr.mk w.heap.size 5 none) (.bool false) w6 (fun (w7 : World) =>
  stC (Addr.mk w.heap.size 6 none) (.bool false) w7 (fun (w8 : World) =>
  stC (Addr.mk w.heap.size 7 none) (.bool false) w8 (fun (w9 : World) =>
  ∃ (b2 : Bool) (b3 : Bool) (b4 : Bool) (b5 : Bool) (b6 : Bool) (b7 : Bool) (b8 : Bool) (b9 : Bool), w9.cell? (Addr.mk w.heap.size 0 none) = some ((.bool b2 : Value)) ∧ w9.cell? (Addr.mk w.heap.size 1 none) = some ((.bool b3 : Value)) ∧ w9.cell? (Addr.mk w.heap.size 2 none) = some ((.bool b4 : Value)) ∧ w9.cell? (Addr.mk w.heap.size 3 none) = some ((.bool b5 : Value)) ∧ w9.cell? (Addr.mk w.heap.size 4 none) = some ((.bool b6 : Value)) ∧ w9.cell? (Addr.mk w.heap.size 5 none) = some ((.bool b7 : Value)) ∧ w9.cell? (Addr.mk w.heap.size 6 none) = some ((.bool b8 : Value)) ∧ w9.cell? (Addr.mk w.heap.size 7 none) = some ((.bool b9 : Value)) ∧ 
  Q (.tuple #[.agg #[.bool b2, .bool b3, .bool b4, .bool b5, .bool b6, .bool b7, .bool b8, .bool b9], .int .i64 91, .int .i64 0]) w9)))))))))
  ((0 ≤ (0 : Int) ∧ (0 : Int) < ((ByteArray.size s1 : Nat) : Int)) ∧
  CallR Try.prog 57 [.int .u8 (byteAt s1 0)] w1 (fun (r19 : Value) (w10 : World) =>
  ∃ (b10 : Bool) (b11 : Bool) (b12 : Bool) (b13 : Bool) (b14 : Bool) (b15 : Bool) (b16 : Bool) (b17 : Bool) (b18 : Bool), r19 = .tuple #[.agg #[.bool b10, .bool b11, .bool b12, .bool b13, .bool b14, .bool b15, .bool b16, .bool b17], .bool b18] ∧
  let w11 := World.alloc w10 (Obj.cells #[.bool false, .bool false, .bool false, .bool false, .bool false, .bool false, .bool false, .bool false] 40);
  stC (Addr.mk w10.heap.size 0 none) (.bool b10) w11 (fun (w12 : World) =>
  stC (Addr.mk w10.heap.size 1 none) (.bool b11) w12 (fun (w13 : World) =>
  stC (Addr.mk w10.heap.size 2 none) (.bool b12) w13 (fun (w14 : World) =>
  stC (Addr.mk w10.heap.size 3 none) (.bool b13) w14 (fun (w15 : World) =>
  stC (Addr.mk w10.heap.size 4 none) (.bool b14) w15 (fun (w16 : World) =>
  stC (Addr.mk w10.heap.size 5 none) (.bool b15) w16 (fun (w17 : World) =>
  stC (Addr.mk w10.heap.size 6 none) (.bool b16) w17 (fun (w18 : World) =>
  stC (Addr.mk w10.heap.size 7 none) (.bool b17) w18 (fun (w19 : World) =>
  cond (!b18)
  (stC (Addr.mk w.heap.size 0 none) (.bool false) w19 (fun (w20 : World) =>
  stC (Addr.mk w.heap.size 1 none) (.bool false) w20 (fun (w21 : World) =>
  stC (Addr.mk w.heap.size 2 none) (.bool false) w21 (fun (w22 : World) =>
  stC (Addr.mk w.heap.size 3 none) (.bool false) w22 (fun (w23 : World) =>
  stC (Addr.mk w.heap.size 4 none) (.bool false) w23 (fun (w24 : World) =>
  stC (Addr.mk w.heap.size 5 none) (.bool false) w24 (fun (w25 : World) =>
  stC (Addr.mk w.heap.size 6 none) (.bool false) w25 (fun (w26 : World) =>
  stC (Addr.mk w.heap.size 7 none) (.bool false) w26 (fun (w27 : World) =>
  ∃ (b20 : Bool) (b21 : Bool) (b22 : Bool) (b23 : Bool) (b24 : Bool) (b25 : Bool) (b26 : Bool) (b27 : Bool), w27.cell? (Addr.mk w.heap.size 0 none) = some ((.bool b20 : Value)) ∧ w27.cell? (Addr.mk w.heap.size 1 none) = some ((.bool b21 : Value)) ∧ w27.cell? (Addr.mk w.heap.size 2 none) = some ((.bool b22 : Value)) ∧ w27.cell? (Addr.mk w.heap.size 3 none) = some ((.bool b23 : Value)) ∧ w27.cell? (Addr.mk w.heap.size 4 none) = some ((.bool b24 : Value)) ∧ w27.cell? (Addr.mk w.heap.size 5 none) = some ((.bool b25 : Value)) ∧ w27.cell? (Addr.mk w.heap.size 6 none) = some ((.bool b26 : Value)) ∧ w27.cell? (Addr.mk w.heap.size 7 none) = some ((.bool b27 : Value)) ∧ 
  Q (.tuple #[.agg #[.bool b20, .bool b21, .bool b22, .bool b23, .bool b24, .bool b25, .bool b26, .bool b27], .int .i64 91, .int .i64 0]) w27)))))))))
  (∃ (I28 : List Value → World → Prop) (mu29 : List Value → World → Nat),
  I28 [.int .i64 1] w19 ∧
  ∀ (_ : Env) (n30 : Int) (w28 : World), I28 [.int .i64 n30] w28 →
  cond (decide (n30 < (((ByteArray.size s1 : Nat) : Int))))
  (CallR Try.prog 58 [] w28 (fun (r32 : Value) (w29 : World) =>
  ∃ (a31 : Option Addr) (l31 : Nat) (c31 : Nat), r32 = .slice a31 l31 c31 ∧
  ∃ (I33 : List Value → World → Prop) (mu34 : List Value → World → Nat),
  I33 [.int .i64 0] w29 ∧
  ∀ (_ : Env) (n35 : Int) (w30 : World), I33 [.int .i64 n35] w30 →
  cond (decide (n35 < (((l31 : Nat) : Int))))
  ((0 ≤ (n35 : Int) ∧ (n35 : Int) < ((l31 : Nat) : Int)) ∧
  nn a31 (fun (q36 : Addr) =>
  ∃ (n37 : Int) (v38 : Value) (v39 : Value), w30.cell? (Addr.add q36 (Int.toNat n35 * 3)) = some ((.int .u8 n37 : Value)) ∧ w30.cell? (Addr.add (Addr.add q36 (Int.toNat n35 * 3)) 1) = some v38 ∧ w30.cell? (Addr.add (Addr.add q36 (Int.toNat n35 * 3)) 2) = some v39 ∧ 
  let w31 := World.alloc w30 (Obj.cells #[.int .u8 0, .nilFunc, .nilFunc] 110);
  stC (Addr.mk w30.heap.size 0 none) (.int .u8 n37) w31 (fun (w32 : World) =>
  oneC v38 (stC (Addr.mk w30.heap.size 1 none) v38 w32 (fun (w33 : World) =>
  oneC v39 (stC (Addr.mk w30.heap.size 2 none) v39 w33 (fun (w34 : World) =>
  let w35 := World.drew w34;
  ∃ (n40 : Int), w35.cell? (Addr.mk w30.heap.size 0 none) = some ((.int .u8 n40 : Value)) ∧
  (0 ≤ (n30 : Int) ∧ (n30 : Int) < ((ByteArray.size s1 : Nat) : Int)) ∧
  cond (n40 == (byteAt s1 n30))
  ((0 ≤ (n30 : Int) ∧ (n30 : Int) ≤ ((ByteArray.size s1 : Nat) : Int)) ∧
  (0 ≤ (1 : Int) ∧ (1 : Int) ≤ ((Int.toNat n30 : Nat) : Int)) ∧
  ∃ (n41 : Int), w35.cell? (Addr.mk w30.heap.size 0 none) = some ((.int .u8 n41 : Value)) ∧
  CallR Try.prog 59 [.string (ByteArray.extract s1 (Int.toNat 1) (Int.toNat n30)), .int .u8 n41] w35 (fun (r43 : Value) (w36 : World) =>
  ∃ (n42 : Int), r43 = .int .i64 n42 ∧
  cond (decide (n42 < 0))
  (∃ (n44 : Int), w36.cell? (Addr.mk w30.heap.size 0 none) = some ((.int .u8 n44 : Value)) ∧
  cond (n44 != 120)
  (∃ (v45 : Value), w36.cell? (Addr.mk w30.heap.size 2 none) = some v45 ∧
  ∃ (k46 : FuncId) (xs47 : Array Value) (xs48 : Array Value), v45 = .func (.func k46) xs47 xs48 ∧ bodyB Try.prog k46 = true ∧
  CallR Try.prog k46 (Array.toList xs47 ++ ([.pointer (some (Addr.mk w10.heap.size 0 none))] ++ Array.toList xs48)) w36 (fun (r49 : Value) (w37 : World) =>
  r49 = .tuple #[] ∧
  inI (n30 + 1) ∧
  I28 [.int .i64 (n30 + 1)] w37 ∧ mu29 [.int .i64 (n30 + 1)] w37 < mu29 [.int .i64 n30] w28))
  ((0 ≤ (0 : Int) ∧ (0 : Int) < ((ByteArray.size s1 : Nat) : Int)) ∧
  cond ((byteAt s1 0) == 119)
  (∃ (v50 : Value), w36.cell? (Addr.mk w30.heap.size 2 none) = some v50 ∧
  ∃ (k51 : FuncId) (xs52 : Array Value) (xs53 : Array Value), v50 = .func (.func k51) xs52 xs53 ∧ bodyB Try.prog k51 = true ∧
  CallR Try.prog k51 (Array.toList xs52 ++ ([.pointer (some (Addr.mk w10.heap.size 0 none))] ++ Array.toList xs53)) w36 (fun (r54 : Value) (w38 : World) =>
  r54 = .tuple #[] ∧
  inI (n30 + 1) ∧
  I28 [.int .i64 (n30 + 1)] w38 ∧ mu29 [.int .i64 (n30 + 1)] w38 < mu29 [.int .i64 n30] w28))
  (inI (n35 + 1) ∧
  I33 [.int .i64 (n35 + 1)] w36 ∧ mu34 [.int .i64 (n35 + 1)] w36 < mu34 [.int .i64 n35] w30)))
  (inI (n35 + 1) ∧
  I33 [.int .i64 (n35 + 1)] w36 ∧ mu34 [.int .i64 (n35 + 1)] w36 < mu34 [.int .i64 n35] w30)))
  (inI (n35 + 1) ∧
  I33 [.int .i64 (n35 + 1)] w35 ∧ mu34 [.int .i64 (n35 + 1)] w35 < mu34 [.int .i64 n35] w30))))))))
  (stC (Addr.mk w.heap.size 0 none) (.bool false) w30 (fun (w39 : World) =>
  stC (Addr.mk w.heap.size 1 none) (.bool false) w39 (fun (w40 : World) =>
  stC (Addr.mk w.heap.size 2 none) (.bool false) w40 (fun (w41 : World) =>
  stC (Addr.mk w.heap.size 3 none) (.bool false) w41 (fun (w42 : World) =>
  stC (Addr.mk w.heap.size 4 none) (.bool false) w42 (fun (w43 : World) =>
  stC (Addr.mk w.heap.size 5 none) (.bool false) w43 (fun (w44 : World) =>
  stC (Addr.mk w.heap.size 6 none) (.bool false) w44 (fun (w45 : World) =>
  stC (Addr.mk w.heap.size 7 none) (.bool false) w45 (fun (w46 : World) =>
  ∃ (b55 : Bool) (b56 : Bool) (b57 : Bool) (b58 : Bool) (b59 : Bool) (b60 : Bool) (b61 : Bool) (b62 : Bool), w46.cell? (Addr.mk w.heap.size 0 none) = some ((.bool b55 : Value)) ∧ w46.cell? (Addr.mk w.heap.size 1 none) = some ((.bool b56 : Value)) ∧ w46.cell? (Addr.mk w.heap.size 2 none) = some ((.bool b57 : Value)) ∧ w46.cell? (Addr.mk w.heap.size 3 none) = some ((.bool b58 : Value)) ∧ w46.cell? (Addr.mk w.heap.size 4 none) = some ((.bool b59 : Value)) ∧ w46.cell? (Addr.mk w.heap.size 5 none) = some ((.bool b60 : Value)) ∧ w46.cell? (Addr.mk w.heap.size 6 none) = some ((.bool b61 : Value)) ∧ w46.cell? (Addr.mk w.heap.size 7 none) = some ((.bool b62 : Value)) ∧ 
  Q (.tuple #[.agg #[.bool b55, .bool b56, .bool b57, .bool b58, .bool b59, .bool b60, .bool b61, .bool b62], .int .i64 91, .int .i64 n30]) w46)))))))))))
  (∃ (b63 : Bool) (b64 : Bool) (b65 : Bool) (b66 : Bool) (b67 : Bool) (b68 : Bool) (b69 : Bool) (b70 : Bool), w28.cell? (Addr.mk w10.heap.size 0 none) = some ((.bool b63 : Value)) ∧ w28.cell? (Addr.mk w10.heap.size 1 none) = some ((.bool b64 : Value)) ∧ w28.cell? (Addr.mk w10.heap.size 2 none) = some ((.bool b65 : Value)) ∧ w28.cell? (Addr.mk w10.heap.size 3 none) = some ((.bool b66 : Value)) ∧ w28.cell? (Addr.mk w10.heap.size 4 none) = some ((.bool b67 : Value)) ∧ w28.cell? (Addr.mk w10.heap.size 5 none) = some ((.bool b68 : Value)) ∧ w28.cell? (Addr.mk w10.heap.size 6 none) = some ((.bool b69 : Value)) ∧ w28.cell? (Addr.mk w10.heap.size 7 none) = some ((.bool b70 : Value)) ∧ 
  stC (Addr.mk w.heap.size 0 none) (.bool b63) w28 (fun (w47 : World) =>
  stC (Addr.mk w.heap.size 1 none) (.bool b64) w47 (fun (w48 : World) =>
  stC (Addr.mk w.heap.size 2 none) (.bool b65) w48 (fun (w49 : World) =>
  stC (Addr.mk w.heap.size 3 none) (.bool b66) w49 (fun (w50 : World) =>
  stC (Addr.mk w.heap.size 4 none) (.bool b67) w50 (fun (w51 : World) =>
  stC (Addr.mk w.heap.size 5 none) (.bool b68) w51 (fun (w52 : World) =>
  stC (Addr.mk w.heap.size 6 none) (.bool b69) w52 (fun (w53 : World) =>
  stC (Addr.mk w.heap.size 7 none) (.bool b70) w53 (fun (w54 : World) =>
  ∃ (b71 : Bool) (b72 : Bool) (b73 : Bool) (b74 : Bool) (b75 : Bool) (b76 : Bool) (b77 : Bool) (b78 : Bool), w54.cell? (Addr.mk w.heap.size 0 none) = some ((.bool b71 : Value)) ∧ w54.cell? (Addr.mk w.heap.size 1 none) = some ((.bool b72 : Value)) ∧ w54.cell? (Addr.mk w.heap.size 2 none) = some ((.bool b73 : Value)) ∧ w54.cell? (Addr.mk w.heap.size 3 none) = some ((.bool b74 : Value)) ∧ w54.cell? (Addr.mk w.heap.size 4 none) = some ((.bool b75 : Value)) ∧ w54.cell? (Addr.mk w.heap.size 5 none) = some ((.bool b76 : Value)) ∧ w54.cell? (Addr.mk w.heap.size 6 none) = some ((.bool b77 : Value)) ∧ w54.cell? (Addr.mk w.heap.size 7 none) = some ((.bool b78 : Value)) ∧ 
  Q (.tuple #[.agg #[.bool b71, .bool b72, .bool b73, .bool b74, .bool b75, .bool b76, .bool b77, .bool b78], .int .i64 0, .int .i64 (((ByteArray.size s1 : Nat) : Int))]) w54))))))))))))))))))))
theorem C21 {s1 : ByteArray} {Q : Value → World → Prop} {w : World} (h : L21 s1 Q w) : CallR Try.prog 21 [.string s1] w Q :=
  fun_calls (A := A21) mixed Try.func21 (c := (Try.f21.body).getD .skip) rfl (by kernel_rfl) (Eq.mp (by kernel_rfl) h)

/-- millrace/millraceref09.Parse -/
def A22 : Ann := ⟨[(13, [(6, .one (.int .i64))]), (17, [(7, .one (.bool)), (8, .one (.int .i64))])], [(12, [])], [], [], []⟩
def L22 (s1 : ByteArray) (Q : Value → World → Prop) (w : World) : Prop :=
  let w1 := World.alloc w (Obj.cells #[.bool false, .bool false, .bool false, .bool false, .bool false, .bool false, .bool false, .bool false] 40);
  cond (ByteArray.toList s1 == ByteArray.toList (ByteArray.mk #[]))
  (stC (Addr.mk w.heap.size 0 none) (.bool false) w1 (fun (w2 : World) =>
  stC (Addr.mk w.heap.size 1 none) (.bool false) w2 (fun (w3 : World) =>
  stC (Addr.mk w.heap.size 2 none) (.bool false) w3 (fun (w4 : World) =>
  stC (Addr.mk w.heap.size 3 none) (.bool false) w4 (fun (w5 : World) =>
  stC (Addr.mk w.heap.size 4 none) (.bool false) w5 (fun (w6 : World) =>
  stC (Addr.mk w.heap.size 5 none) (.bool false) w6 (fun (w7 : World) =>
  stC (Addr.mk w.heap.size 6 none) (.bool false) w7 (fun (w8 : World) =>
  stC (Addr.mk w.heap.size 7 none) (.bool false) w8 (fun (w9 : World) =>
  ∃ (b2 : Bool) (b3 : Bool) (b4 : Bool) (b5 : Bool) (b6 : Bool) (b7 : Bool) (b8 : Bool) (b9 : Bool), w9.cell? (Addr.mk w.heap.size 0 none) = some ((.bool b2 : Value)) ∧ w9.cell? (Addr.mk w.heap.size 1 none) = some ((.bool b3 : Value)) ∧ w9.cell? (Addr.mk w.heap.size 2 none) = some ((.bool b4 : Value)) ∧ w9.cell? (Addr.mk w.heap.size 3 none) = some ((.bool b5 : Value)) ∧ w9.cell? (Addr.mk w.heap.size 4 none) = some ((.bool b6 : Value)) ∧ w9.cell? (Addr.mk w.heap.size 5 none) = some ((.bool b7 : Value)) ∧ w9.cell? (Addr.mk w.heap.size 6 none) = some ((.bool b8 : Value)) ∧ w9.cell? (Addr.mk w.heap.size 7 none) = some ((.bool b9 : Value)) ∧ 
  Q (.tuple #[.agg #[.bool b2, .bool b3, .bool b4, .bool b5, .bool b6, .bool b7, .bool b8, .bool b9], .int .i64 91, .int .i64 0]) w9)))))))))
  (let w10 := World.alloc w1 (Obj.cells #[.bool false, .bool false, .bool false, .bool false, .bool false, .bool false, .bool false, .bool false] 40);
  ∃ (J10 : List Value → World → Prop),
  ((0 ≤ (0 : Int) ∧ (0 : Int) < ((ByteArray.size s1 : Nat) : Int)) ∧
  cond ((byteAt s1 0) == 114)
  (stC (Addr.mk w1.heap.size 0 none) (.bool true) w10 (fun (w11 : World) =>
  J10 [] w11))
  (cond ((byteAt s1 0) == 119)
  (stC (Addr.mk w1.heap.size 1 none) (.bool true) w10 (fun (w12 : World) =>
  stC (Addr.mk w1.heap.size 3 none) (.bool true) w12 (fun (w13 : World) =>
  stC (Addr.mk w1.heap.size 4 none) (.bool true) w13 (fun (w14 : World) =>
  J10 [] w14))))
  (cond ((byteAt s1 0) == 97)
  (stC (Addr.mk w1.heap.size 1 none) (.bool true) w10 (fun (w15 : World) =>
  stC (Addr.mk w1.heap.size 3 none) (.bool true) w15 (fun (w16 : World) =>
  stC (Addr.mk w1.heap.size 2 none) (.bool true) w16 (fun (w17 : World) =>
  J10 [] w17))))
  (stC (Addr.mk w.heap.size 0 none) (.bool false) w10 (fun (w18 : World) =>
  stC (Addr.mk w.heap.size 1 none) (.bool false) w18 (fun (w19 : World) =>
  stC (Addr.mk w.heap.size 2 none) (.bool false) w19 (fun (w20 : World) =>
  stC (Addr.mk w.heap.size 3 none) (.bool false) w20 (fun (w21 : World) =>
  stC (Addr.mk w.heap.size 4 none) (.bool false) w21 (fun (w22 : World) =>
  stC (Addr.mk w.heap.size 5 none) (.bool false) w22 (fun (w23 : World) =>
  stC (Addr.mk w.heap.size 6 none) (.bool false) w23 (fun (w24 : World) =>
  stC (Addr.mk w.heap.size 7 none) (.bool false) w24 (fun (w25 : World) =>
  ∃ (b11 : Bool) (b12 : Bool) (b13 : Bool) (b14 : Bool) (b15 : Bool) (b16 : Bool) (b17 : Bool) (b18 : Bool), w25.cell? (Addr.mk w.heap.size 0 none) = some ((.bool b11 : Value)) ∧ w25.cell? (Addr.mk w.heap.size 1 none) = some ((.bool b12 : Value)) ∧ w25.cell? (Addr.mk w.heap.size 2 none) = some ((.bool b13 : Value)) ∧ w25.cell? (Addr.mk w.heap.size 3 none) = some ((.bool b14 : Value)) ∧ w25.cell? (Addr.mk w.heap.size 4 none) = some ((.bool b15 : Value)) ∧ w25.cell? (Addr.mk w.heap.size 5 none) = some ((.bool b16 : Value)) ∧ w25.cell? (Addr.mk w.heap.size 6 none) = some ((.bool b17 : Value)) ∧ w25.cell? (Addr.mk w.heap.size 7 none) = some ((.bool b18 : Value)) ∧ 
  Q (.tuple #[.agg #[.bool b11, .bool b12, .bool b13, .bool b14, .bool b15, .bool b16, .bool b17, .bool b18], .int .i64 91, .int .i64 0]) w25)))))))))))) ∧
  (∀ (_ : Env) (w26 : World), J10 [] w26 →
  ∃ (I19 : List Value → World → Prop) (mu20 : List Value → World → Nat),
  I19 [.int .i64 1] w26 ∧
  ∀ (_ : Env) (n21 : Int) (w27 : World), I19 [.int .i64 n21] w27 →
  cond (decide (n21 < (((ByteArray.size s1 : Nat) : Int))))
  (∃ (I22 : List Value → World → Prop) (mu23 : List Value → World → Nat),
  I22 [.bool false, .int .i64 1] w27 ∧
  ∀ (_ : Env) (b24 : Bool) (n25 : Int) (w28 : World), I22 [.bool b24, .int .i64 n25] w28 →
  cond (decide (n25 < n21))
  (cond b24
  (∀ nd26 : Nat, let w29 := World.drewN w28 nd26;
  inI (n25 + 1) ∧
  I22 [.bool true, .int .i64 (n25 + 1)] w29 ∧ mu23 [.bool true, .int .i64 (n25 + 1)] w29 < mu23 [.bool b24, .int .i64 n25] w28)
  ((0 ≤ (n25 : Int) ∧ (n25 : Int) < ((ByteArray.size s1 : Nat) : Int)) ∧
  (0 ≤ (n21 : Int) ∧ (n21 : Int) < ((ByteArray.size s1 : Nat) : Int)) ∧
  ∀ nd26 : Nat, let w29 := World.drewN w28 nd26;
  inI (n25 + 1) ∧
  I22 [.bool ((byteAt s1 n25) == (byteAt s1 n21)), .int .i64 (n25 + 1)] w29 ∧ mu23 [.bool ((byteAt s1 n25) == (byteAt s1 n21)), .int .i64 (n25 + 1)] w29 < mu23 [.bool b24, .int .i64 n25] w28))
  (cond b24
  (stC (Addr.mk w.heap.size 0 none) (.bool false) w28 (fun (w30 : World) =>
  stC (Addr.mk w.heap.size 1 none) (.bool false) w30 (fun (w31 : World) =>
  stC (Addr.mk w.heap.size 2 none) (.bool false) w31 (fun (w32 : World) =>
  stC (Addr.mk w.heap.size 3 none) (.bool false) w32 (fun (w33 : World) =>
  stC (Addr.mk w.heap.size 4 none) (.bool false) w33 (fun (w34 : World) =>
  stC (Addr.mk w.heap.size 5 none) (.bool false) w34 (fun (w35 : World) =>
  stC (Addr.mk w.heap.size 6 none) (.bool false) w35 (fun (w36 : World) =>
  stC (Addr.mk w.heap.size 7 none) (.bool false) w36 (fun (w37 : World) =>
  ∃ (b27 : Bool) (b28 : Bool) (b29 : Bool) (b30 : Bool) (b31 : Bool) (b32 : Bool) (b33 : Bool) (b34 : Bool), w37.cell? (Addr.mk w.heap.size 0 none) = some ((.bool b27 : Value)) ∧ w37.cell? (Addr.mk w.heap.size 1 none) = some ((.bool b28 : Value)) ∧ w37.cell? (Addr.mk w.heap.size 2 none) = some ((.bool b29 : Value)) ∧ w37.cell? (Addr.mk w.heap.size 3 none) = some ((.bool b30 : Value)) ∧ w37.cell? (Addr.mk w.heap.size 4 none) = some ((.bool b31 : Value)) ∧ w37.cell? (Addr.mk w.heap.size 5 none) = some ((.bool b32 : Value)) ∧ w37.cell? (Addr.mk w.heap.size 6 none) = some ((.bool b33 : Value)) ∧ w37.cell? (Addr.mk w.heap.size 7 none) = some ((.bool b34 : Value)) ∧ 
  Q (.tuple #[.agg #[.bool b27, .bool b28, .bool b29, .bool b30, .bool b31, .bool b32, .bool b33, .bool b34], .int .i64 91, .int .i64 n21]) w37)))))))))
  ((0 ≤ (n21 : Int) ∧ (n21 : Int) < ((ByteArray.size s1 : Nat) : Int)) ∧
  cond ((byteAt s1 n21) == 43)
  (stC (Addr.mk w1.heap.size 0 none) (.bool true) w28 (fun (w38 : World) =>
  stC (Addr.mk w1.heap.size 1 none) (.bool true) w38 (fun (w39 : World) =>
  inI (n21 + 1) ∧
  I19 [.int .i64 (n21 + 1)] w39 ∧ mu20 [.int .i64 (n21 + 1)] w39 < mu20 [.int .i64 n21] w27)))
  ((0 ≤ (n21 : Int) ∧ (n21 : Int) < ((ByteArray.size s1 : Nat) : Int)) ∧
  cond ((byteAt s1 n21) == 98)
  (stC (Addr.mk w1.heap.size 6 none) (.bool true) w28 (fun (w40 : World) =>
  inI (n21 + 1) ∧
  I19 [.int .i64 (n21 + 1)] w40 ∧ mu20 [.int .i64 (n21 + 1)] w40 < mu20 [.int .i64 n21] w27))
  ((0 ≤ (n21 : Int) ∧ (n21 : Int) < ((ByteArray.size s1 : Nat) : Int)) ∧
  cond ((byteAt s1 n21) == 101)
  (stC (Addr.mk w1.heap.size 7 none) (.bool true) w28 (fun (w41 : World) =>
  inI (n21 + 1) ∧
  I19 [.int .i64 (n21 + 1)] w41 ∧ mu20 [.int .i64 (n21 + 1)] w41 < mu20 [.int .i64 n21] w27))
  ((0 ≤ (n21 : Int) ∧ (n21 : Int) < ((ByteArray.size s1 : Nat) : Int)) ∧
  cond ((byteAt s1 n21) == 120)
  ((0 ≤ (0 : Int) ∧ (0 : Int) < ((ByteArray.size s1 : Nat) : Int)) ∧
  cond ((byteAt s1 0) == 119)
  (stC (Addr.mk w1.heap.size 5 none) (.bool true) w28 (fun (w42 : World) =>
  inI (n21 + 1) ∧
  I19 [.int .i64 (n21 + 1)] w42 ∧ mu20 [.int .i64 (n21 + 1)] w42 < mu20 [.int .i64 n21] w27))
  (stC (Addr.mk w.heap.size 0 none) (.bool false) w28 (fun (w43 : World) =>
  stC (Addr.mk w.heap.size 1 none) (.bool false) w43 (fun (w44 : World) =>
  stC (Addr.mk w.heap.size 2 none) (.bool false) w44 (fun (w45 : World) =>
  stC (Addr.mk w.heap.size 3 none) (.bool false) w45 (fun (w46 : World) =>
  stC (Addr.mk w.heap.size 4 none) (.bool false) w46 (fun (w47 : World) =>
  stC (Addr.mk w.heap.size 5 none) (.bool false) w47 (fun (w48 : World) =>
  stC (Addr.mk w.heap.size 6 none) (.bool false) w48 (fun (w49 : World) =>
  stC (Addr.mk w.heap.size 7 none) (.bool false) w49 (fun (w50 : World) =>
  ∃ (b35 : Bool) (b36 : Bool) (b37 : Bool) (b38 : Bool) (b39 : Bool) (b40 : Bool) (b41 : Bool) (b42 : Bool), w50.cell? (Addr.mk w.heap.size 0 none) = some ((.bool b35 : Value)) ∧ w50.cell? (Addr.mk w.heap.size 1 none) = some ((.bool b36 : Value)) ∧ w50.cell? (Addr.mk w.heap.size 2 none) = some ((.bool b37 : Value)) ∧ w50.cell? (Addr.mk w.heap.size 3 none) = some ((.bool b38 : Value)) ∧ w50.cell? (Addr.mk w.heap.size 4 none) = some ((.bool b39 : Value)) ∧ w50.cell? (Addr.mk w.heap.size 5 none) = some ((.bool b40 : Value)) ∧ w50.cell? (Addr.mk w.heap.size 6 none) = some ((.bool b41 : Value)) ∧ w50.cell? (Addr.mk w.heap.size 7 none) = some ((.bool b42 : Value)) ∧ 
  Q (.tuple #[.agg #[.bool b35, .bool b36, .bool b37, .bool b38, .bool b39, .bool b40, .bool b41, .bool b42], .int .i64 91, .int .i64 n21]) w50))))))))))
  (stC (Addr.mk w.heap.size 0 none) (.bool false) w28 (fun (w51 : World) =>
  stC (Addr.mk w.heap.size 1 none) (.bool false) w51 (fun (w52 : World) =>
  stC (Addr.mk w.heap.size 2 none) (.bool false) w52 (fun (w53 : World) =>
  stC (Addr.mk w.heap.size 3 none) (.bool false) w53 (fun (w54 : World) =>
  stC (Addr.mk w.heap.size 4 none) (.bool false) w54 (fun (w55 : World) =>
  stC (Addr.mk w.heap.size 5 none) (.bool false) w55 (fun (w56 : World) =>
  stC (Addr.mk w.heap.size 6 none) (.bool false) w56 (fun (w57 : World) =>
  stC (Addr.mk w.heap.size 7 none) (.bool false) w57 (fun (w58 : World) =>
  ∃ (b43 : Bool) (b44 : Bool) (b45 : Bool) (b46 : Bool) (b47 : Bool) (b48 : Bool) (b49 : Bool) (b50 : Bool), w58.cell? (Addr.mk w.heap.size 0 none) = some ((.bool b43 : Value)) ∧ w58.cell? (Addr.mk w.heap.size 1 none) = some ((.bool b44 : Value)) ∧ w58.cell? (Addr.mk w.heap.size 2 none) = some ((.bool b45 : Value)) ∧ w58.cell? (Addr.mk w.heap.size 3 none) = some ((.bool b46 : Value)) ∧ w58.cell? (Addr.mk w.heap.size 4 none) = some ((.bool b47 : Value)) ∧ w58.cell? (Addr.mk w.heap.size 5 none) = some ((.bool b48 : Value)) ∧ w58.cell? (Addr.mk w.heap.size 6 none) = some ((.bool b49 : Value)) ∧ w58.cell? (Addr.mk w.heap.size 7 none) = some ((.bool b50 : Value)) ∧ 
  Q (.tuple #[.agg #[.bool b43, .bool b44, .bool b45, .bool b46, .bool b47, .bool b48, .bool b49, .bool b50], .int .i64 91, .int .i64 n21]) w58)))))))))))))))
  (∃ (b51 : Bool) (b52 : Bool) (b53 : Bool) (b54 : Bool) (b55 : Bool) (b56 : Bool) (b57 : Bool) (b58 : Bool), w27.cell? (Addr.mk w1.heap.size 0 none) = some ((.bool b51 : Value)) ∧ w27.cell? (Addr.mk w1.heap.size 1 none) = some ((.bool b52 : Value)) ∧ w27.cell? (Addr.mk w1.heap.size 2 none) = some ((.bool b53 : Value)) ∧ w27.cell? (Addr.mk w1.heap.size 3 none) = some ((.bool b54 : Value)) ∧ w27.cell? (Addr.mk w1.heap.size 4 none) = some ((.bool b55 : Value)) ∧ w27.cell? (Addr.mk w1.heap.size 5 none) = some ((.bool b56 : Value)) ∧ w27.cell? (Addr.mk w1.heap.size 6 none) = some ((.bool b57 : Value)) ∧ w27.cell? (Addr.mk w1.heap.size 7 none) = some ((.bool b58 : Value)) ∧ 
  stC (Addr.mk w.heap.size 0 none) (.bool b51) w27 (fun (w59 : World) =>
  stC (Addr.mk w.heap.size 1 none) (.bool b52) w59 (fun (w60 : World) =>
  stC (Addr.mk w.heap.size 2 none) (.bool b53) w60 (fun (w61 : World) =>
  stC (Addr.mk w.heap.size 3 none) (.bool b54) w61 (fun (w62 : World) =>
  stC (Addr.mk w.heap.size 4 none) (.bool b55) w62 (fun (w63 : World) =>
  stC (Addr.mk w.heap.size 5 none) (.bool b56) w63 (fun (w64 : World) =>
  stC (Addr.mk w.heap.size 6 none) (.bool b57) w64 (fun (w65 : World) =>
  stC (Addr.mk w.heap.size 7 none) (.bool b58) w65 (fun (w66 : World) =>
  ∃ (b59 : Bool) (b60 : Bool) (b61 : Bool) (b62 : Bool) (b63 : Bool) (b64 : Bool) (b65 : Bool) (b66 : Bool), w66.cell? (Addr.mk w.heap.size 0 none) = some ((.bool b59 : Value)) ∧ w66.cell? (Addr.mk w.heap.size 1 none) = some ((.bool b60 : Value)) ∧ w66.cell? (Addr.mk w.heap.size 2 none) = some ((.bool b61 : Value)) ∧ w66.cell? (Addr.mk w.heap.size 3 none) = some ((.bool b62 : Value)) ∧ w66.cell? (Addr.mk w.heap.size 4 none) = some ((.bool b63 : Value)) ∧ w66.cell? (Addr.mk w.heap.size 5 none) = some ((.bool b64 : Value)) ∧ w66.cell? (Addr.mk w.heap.size 6 none) = some ((.bool b65 : Value)) ∧ w66.cell? (Addr.mk w.heap.size 7 none) = some ((.bool b66 : Value)) ∧ 
  Q (.tuple #[.agg #[.bool b59, .bool b60, .bool b61, .bool b62, .bool b63, .bool b64, .bool b65, .bool b66], .int .i64 0, .int .i64 (((ByteArray.size s1 : Nat) : Int))]) w66)))))))))))
theorem C22 {s1 : ByteArray} {Q : Value → World → Prop} {w : World} (h : L22 s1 Q w) : CallR Try.prog 22 [.string s1] w Q :=
  fun_calls (A := A22) mixed Try.func22 (c := (Try.f22.body).getD .skip) rfl (by kernel_rfl) (Eq.mp (by kernel_rfl) h)

/-- millrace/millracelaw09.num -/
def A23 : Ann := ⟨[], [], [], [], []⟩
def L23 (n1 : Int) (Q : Value → World → Prop) (w : World) : Prop :=
  Q (.int .i64 n1) w
theorem C23 {n1 : Int} {Q : Value → World → Prop} {w : World} (h : L23 n1 Q w) : CallR Try.prog 23 [.int .i64 n1] w Q :=
  fun_calls (A := A23) mixed Try.func23 (c := (Try.f23.body).getD .skip) rfl (by kernel_rfl) (Eq.mp (by kernel_rfl) h)

end Go.Proofs.Ytapnpbfbebdjjaa
