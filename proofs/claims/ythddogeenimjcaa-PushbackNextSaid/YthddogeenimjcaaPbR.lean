/-
  What some functions of the program ask of the world, printed by a program out of the loaded program; each text is held against the code by evaluation. Conditions: none.
-/
import Derived.Test.YthddogeenimjcaaProg
import Derived.Test.YthddogeenimjcaaLm
import Derived.Test.YthddogeenimjcaaLX
import Derived.Test.YthddogeenimjcaaRf
set_option linter.unusedVariables false
set_option maxRecDepth 100000
namespace Go.Proofs.Ythddogeenimjcaa
open Go.Lw
/-- slices.Backward[[]byte,byte] -/
def A24 : Ann := ⟨[], [], [], [], [], []⟩
def L24 (a1 : Option Addr) (l1 : Nat) (c1 : Nat) (Q : Value → World → Prop) (w : World) : Prop :=
  let w1 := World.alloc w (Obj.cells #[.slice a1 l1 c1] 22);
  Q (.func (.func 35) #[] #[.pointer (some (Addr.mk w.heap.size 0 none))]) w1
theorem C24 {a1 : Option Addr} {l1 : Nat} {c1 : Nat} {Q : Value → World → Prop} {w : World} (h : L24 a1 l1 c1 Q w) : CallR Try.prog 24 [.slice a1 l1 c1] w Q :=
  fun_calls (A := A24) mixed Try.func24 (c := (Try.f24.body).getD .skip) rfl (by kernel_rfl) (Eq.mp (by kernel_rfl) h)

/-- slices.Backward[[]byte,byte]$1 -/
def A35 : Ann := ⟨[(1, [(3, .one (.int .i64))])], [], [], [], [], []⟩
def L35 (v1 : Value) (p2 : Option Addr) (Q : Value → World → Prop) (w : World) : Prop :=
  nn p2 (fun (q3 : Addr) =>
  ∃ (a4 : Option Addr) (l4 : Nat) (c4 : Nat), w.cell? q3 = some ((.slice a4 l4 c4 : Value)) ∧
  inI ((((l4 : Nat) : Int)) - 1) ∧
  ∃ (I5 : List Value → World → Prop) (mu6 : List Value → World → Nat),
  I5 [.int .i64 ((((l4 : Nat) : Int)) - 1)] w ∧
  ∀ (_ : Env) (n7 : Int) (w1 : World), I5 [.int .i64 n7] w1 →
  cond (decide (n7 ≥ 0))
  (nn p2 (fun (q8 : Addr) =>
  ∃ (a9 : Option Addr) (l9 : Nat) (c9 : Nat), w1.cell? q8 = some ((.slice a9 l9 c9 : Value)) ∧
  (0 ≤ (n7 : Int) ∧ (n7 : Int) < ((l9 : Nat) : Int)) ∧
  nn a9 (fun (q10 : Addr) =>
  ∃ (n11 : Int), w1.cell? (Addr.add q10 (Int.toNat n7)) = some ((.int .u8 n11 : Value)) ∧
  ∃ (l12 : Nat), v1 = .func (.yield l12) #[] #[] ∧ YieldR Try.prog l12 [.int .i64 n7, .int .u8 n11] w1 (fun (b13 : Bool) (w2 : World) =>
  cond (!b13)
  (Q (.tuple #[]) w2)
  (inI (n7 - 1) ∧
  I5 [.int .i64 (n7 - 1)] w2 ∧ mu6 [.int .i64 (n7 - 1)] w2 < mu6 [.int .i64 n7] w1)))))
  (Q (.tuple #[]) w1))
theorem C35 {v1 : Value} {p2 : Option Addr} {Q : Value → World → Prop} {w : World} (h : L35 v1 p2 Q w) : CallR Try.prog 35 [v1, .pointer p2] w Q :=
  funI_calls (A := A35) Try.func35 (c := (Try.f35.body).getD .skip) rfl (by kernel_rfl) (Eq.mp (by kernel_rfl) h)

/-- millrace/pushback.UngetAll -/
def A10 : Ann := ⟨[], [], [], [], [], []⟩
def L10 (b1 : Bool) (b2 : Bool) (n3 : Int) (n4 : Int) (a5 : Option Addr) (l5 : Nat) (c5 : Nat) (a6 : Option Addr) (l6 : Nat) (c6 : Nat) (a7 : Option Addr) (l7 : Nat) (c7 : Nat) (n8 : Int) (b9 : Bool) (b10 : Bool) (b11 : Bool) (a12 : Option Addr) (l12 : Nat) (c12 : Nat) (Q : Value → World → Prop) (w : World) : Prop :=
  let w1 := World.alloc w (Obj.cells #[.bool b1, .bool b2, .int .i64 n3, .int .i64 n4, .slice a5 l5 c5, .slice a6 l6 c6, .slice a7 l7 c7, .int .i64 n8, .bool b9, .bool b10, .bool b11] 25);
  let w2 := World.alloc w1 (Obj.cells #[.bool false, .bool false, .int .i64 0, .int .i64 0, .slice none 0 0, .slice none 0 0, .slice none 0 0, .int .i64 0, .bool false, .bool false, .bool false] 25);
  ∃ (b13 : Bool) (b14 : Bool) (n15 : Int) (n16 : Int) (a17 : Option Addr) (l17 : Nat) (c17 : Nat) (a18 : Option Addr) (l18 : Nat) (c18 : Nat) (a19 : Option Addr) (l19 : Nat) (c19 : Nat) (n20 : Int) (b21 : Bool) (b22 : Bool) (b23 : Bool), w2.cell? (Addr.mk w.heap.size 0 none) = some ((.bool b13 : Value)) ∧ w2.cell? (Addr.mk w.heap.size 1 none) = some ((.bool b14 : Value)) ∧ w2.cell? (Addr.mk w.heap.size 2 none) = some ((.int .i64 n15 : Value)) ∧ w2.cell? (Addr.mk w.heap.size 3 none) = some ((.int .i64 n16 : Value)) ∧ w2.cell? (Addr.mk w.heap.size 4 none) = some ((.slice a17 l17 c17 : Value)) ∧ w2.cell? (Addr.mk w.heap.size 5 none) = some ((.slice a18 l18 c18 : Value)) ∧ w2.cell? (Addr.mk w.heap.size 6 none) = some ((.slice a19 l19 c19 : Value)) ∧ w2.cell? (Addr.mk w.heap.size 7 none) = some ((.int .i64 n20 : Value)) ∧ w2.cell? (Addr.mk w.heap.size 8 none) = some ((.bool b21 : Value)) ∧ w2.cell? (Addr.mk w.heap.size 9 none) = some ((.bool b22 : Value)) ∧ w2.cell? (Addr.mk w.heap.size 10 none) = some ((.bool b23 : Value)) ∧ 
  CallR Try.prog 23 [.agg #[.bool b13, .bool b14, .int .i64 n15, .int .i64 n16, .slice a17 l17 c17, .slice a18 l18 c18, .slice a19 l19 c19, .int .i64 n20, .bool b21, .bool b22, .bool b23]] w2 (fun (r36 : Value) (w3 : World) =>
  ∃ (b24 : Bool) (b25 : Bool) (n26 : Int) (n27 : Int) (a28 : Option Addr) (l28 : Nat) (c28 : Nat) (a29 : Option Addr) (l29 : Nat) (c29 : Nat) (a30 : Option Addr) (l30 : Nat) (c30 : Nat) (n31 : Int) (b32 : Bool) (b33 : Bool) (b34 : Bool) (n35 : Int), r36 = .tuple #[.agg #[.bool b24, .bool b25, .int .i64 n26, .int .i64 n27, .slice a28 l28 c28, .slice a29 l29 c29, .slice a30 l30 c30, .int .i64 n31, .bool b32, .bool b33, .bool b34], .int .i64 n35] ∧
  let w4 := World.alloc w3 (Obj.cells #[.bool false, .bool false, .int .i64 0, .int .i64 0, .slice none 0 0, .slice none 0 0, .slice none 0 0, .int .i64 0, .bool false, .bool false, .bool false] 25);
  stC (Addr.mk w3.heap.size 0 none) (.bool b24) w4 (fun (w5 : World) =>
  stC (Addr.mk w3.heap.size 1 none) (.bool b25) w5 (fun (w6 : World) =>
  stC (Addr.mk w3.heap.size 2 none) (.int .i64 n26) w6 (fun (w7 : World) =>
  stC (Addr.mk w3.heap.size 3 none) (.int .i64 n27) w7 (fun (w8 : World) =>
  stC (Addr.mk w3.heap.size 4 none) (.slice a28 l28 c28) w8 (fun (w9 : World) =>
  stC (Addr.mk w3.heap.size 5 none) (.slice a29 l29 c29) w9 (fun (w10 : World) =>
  stC (Addr.mk w3.heap.size 6 none) (.slice a30 l30 c30) w10 (fun (w11 : World) =>
  stC (Addr.mk w3.heap.size 7 none) (.int .i64 n31) w11 (fun (w12 : World) =>
  stC (Addr.mk w3.heap.size 8 none) (.bool b32) w12 (fun (w13 : World) =>
  stC (Addr.mk w3.heap.size 9 none) (.bool b33) w13 (fun (w14 : World) =>
  stC (Addr.mk w3.heap.size 10 none) (.bool b34) w14 (fun (w15 : World) =>
  cond (n35 != 0)
  (∃ (b37 : Bool) (b38 : Bool) (n39 : Int) (n40 : Int) (a41 : Option Addr) (l41 : Nat) (c41 : Nat) (a42 : Option Addr) (l42 : Nat) (c42 : Nat) (a43 : Option Addr) (l43 : Nat) (c43 : Nat) (n44 : Int) (b45 : Bool) (b46 : Bool) (b47 : Bool), w15.cell? (Addr.mk w3.heap.size 0 none) = some ((.bool b37 : Value)) ∧ w15.cell? (Addr.mk w3.heap.size 1 none) = some ((.bool b38 : Value)) ∧ w15.cell? (Addr.mk w3.heap.size 2 none) = some ((.int .i64 n39 : Value)) ∧ w15.cell? (Addr.mk w3.heap.size 3 none) = some ((.int .i64 n40 : Value)) ∧ w15.cell? (Addr.mk w3.heap.size 4 none) = some ((.slice a41 l41 c41 : Value)) ∧ w15.cell? (Addr.mk w3.heap.size 5 none) = some ((.slice a42 l42 c42 : Value)) ∧ w15.cell? (Addr.mk w3.heap.size 6 none) = some ((.slice a43 l43 c43 : Value)) ∧ w15.cell? (Addr.mk w3.heap.size 7 none) = some ((.int .i64 n44 : Value)) ∧ w15.cell? (Addr.mk w3.heap.size 8 none) = some ((.bool b45 : Value)) ∧ w15.cell? (Addr.mk w3.heap.size 9 none) = some ((.bool b46 : Value)) ∧ w15.cell? (Addr.mk w3.heap.size 10 none) = some ((.bool b47 : Value)) ∧ 
  stC (Addr.mk w1.heap.size 0 none) (.bool b37) w15 (fun (w16 : World) =>
  stC (Addr.mk w1.heap.size 1 none) (.bool b38) w16 (fun (w17 : World) =>
  stC (Addr.mk w1.heap.size 2 none) (.int .i64 n39) w17 (fun (w18 : World) =>
  stC (Addr.mk w1.heap.size 3 none) (.int .i64 n40) w18 (fun (w19 : World) =>
  stC (Addr.mk w1.heap.size 4 none) (.slice a41 l41 c41) w19 (fun (w20 : World) =>
  stC (Addr.mk w1.heap.size 5 none) (.slice a42 l42 c42) w20 (fun (w21 : World) =>
  stC (Addr.mk w1.heap.size 6 none) (.slice a43 l43 c43) w21 (fun (w22 : World) =>
  stC (Addr.mk w1.heap.size 7 none) (.int .i64 n44) w22 (fun (w23 : World) =>
  stC (Addr.mk w1.heap.size 8 none) (.bool b45) w23 (fun (w24 : World) =>
  stC (Addr.mk w1.heap.size 9 none) (.bool b46) w24 (fun (w25 : World) =>
  stC (Addr.mk w1.heap.size 10 none) (.bool b47) w25 (fun (w26 : World) =>
  ∃ (b48 : Bool) (b49 : Bool) (n50 : Int) (n51 : Int) (a52 : Option Addr) (l52 : Nat) (c52 : Nat) (a53 : Option Addr) (l53 : Nat) (c53 : Nat) (a54 : Option Addr) (l54 : Nat) (c54 : Nat) (n55 : Int) (b56 : Bool) (b57 : Bool) (b58 : Bool), w26.cell? (Addr.mk w1.heap.size 0 none) = some ((.bool b48 : Value)) ∧ w26.cell? (Addr.mk w1.heap.size 1 none) = some ((.bool b49 : Value)) ∧ w26.cell? (Addr.mk w1.heap.size 2 none) = some ((.int .i64 n50 : Value)) ∧ w26.cell? (Addr.mk w1.heap.size 3 none) = some ((.int .i64 n51 : Value)) ∧ w26.cell? (Addr.mk w1.heap.size 4 none) = some ((.slice a52 l52 c52 : Value)) ∧ w26.cell? (Addr.mk w1.heap.size 5 none) = some ((.slice a53 l53 c53 : Value)) ∧ w26.cell? (Addr.mk w1.heap.size 6 none) = some ((.slice a54 l54 c54 : Value)) ∧ w26.cell? (Addr.mk w1.heap.size 7 none) = some ((.int .i64 n55 : Value)) ∧ w26.cell? (Addr.mk w1.heap.size 8 none) = some ((.bool b56 : Value)) ∧ w26.cell? (Addr.mk w1.heap.size 9 none) = some ((.bool b57 : Value)) ∧ w26.cell? (Addr.mk w1.heap.size 10 none) = some ((.bool b58 : Value)) ∧ 
  Q (.tuple #[.agg #[.bool b48, .bool b49, .int .i64 n50, .int .i64 n51, .slice a52 l52 c52, .slice a53 l53 c53, .slice a54 l54 c54, .int .i64 n55, .bool b56, .bool b57, .bool b58], .int .i64 n35]) w26))))))))))))
  (∃ (b59 : Bool), w15.cell? (Addr.mk w3.heap.size 0 none) = some ((.bool b59 : Value)) ∧
  cond (!b59)
  (∃ (b60 : Bool) (b61 : Bool) (n62 : Int) (n63 : Int) (a64 : Option Addr) (l64 : Nat) (c64 : Nat) (a65 : Option Addr) (l65 : Nat) (c65 : Nat) (a66 : Option Addr) (l66 : Nat) (c66 : Nat) (n67 : Int) (b68 : Bool) (b69 : Bool) (b70 : Bool), w15.cell? (Addr.mk w3.heap.size 0 none) = some ((.bool b60 : Value)) ∧ w15.cell? (Addr.mk w3.heap.size 1 none) = some ((.bool b61 : Value)) ∧ w15.cell? (Addr.mk w3.heap.size 2 none) = some ((.int .i64 n62 : Value)) ∧ w15.cell? (Addr.mk w3.heap.size 3 none) = some ((.int .i64 n63 : Value)) ∧ w15.cell? (Addr.mk w3.heap.size 4 none) = some ((.slice a64 l64 c64 : Value)) ∧ w15.cell? (Addr.mk w3.heap.size 5 none) = some ((.slice a65 l65 c65 : Value)) ∧ w15.cell? (Addr.mk w3.heap.size 6 none) = some ((.slice a66 l66 c66 : Value)) ∧ w15.cell? (Addr.mk w3.heap.size 7 none) = some ((.int .i64 n67 : Value)) ∧ w15.cell? (Addr.mk w3.heap.size 8 none) = some ((.bool b68 : Value)) ∧ w15.cell? (Addr.mk w3.heap.size 9 none) = some ((.bool b69 : Value)) ∧ w15.cell? (Addr.mk w3.heap.size 10 none) = some ((.bool b70 : Value)) ∧ 
  stC (Addr.mk w1.heap.size 0 none) (.bool b60) w15 (fun (w27 : World) =>
  stC (Addr.mk w1.heap.size 1 none) (.bool b61) w27 (fun (w28 : World) =>
  stC (Addr.mk w1.heap.size 2 none) (.int .i64 n62) w28 (fun (w29 : World) =>
  stC (Addr.mk w1.heap.size 3 none) (.int .i64 n63) w29 (fun (w30 : World) =>
  stC (Addr.mk w1.heap.size 4 none) (.slice a64 l64 c64) w30 (fun (w31 : World) =>
  stC (Addr.mk w1.heap.size 5 none) (.slice a65 l65 c65) w31 (fun (w32 : World) =>
  stC (Addr.mk w1.heap.size 6 none) (.slice a66 l66 c66) w32 (fun (w33 : World) =>
  stC (Addr.mk w1.heap.size 7 none) (.int .i64 n67) w33 (fun (w34 : World) =>
  stC (Addr.mk w1.heap.size 8 none) (.bool b68) w34 (fun (w35 : World) =>
  stC (Addr.mk w1.heap.size 9 none) (.bool b69) w35 (fun (w36 : World) =>
  stC (Addr.mk w1.heap.size 10 none) (.bool b70) w36 (fun (w37 : World) =>
  ∃ (b71 : Bool) (b72 : Bool) (n73 : Int) (n74 : Int) (a75 : Option Addr) (l75 : Nat) (c75 : Nat) (a76 : Option Addr) (l76 : Nat) (c76 : Nat) (a77 : Option Addr) (l77 : Nat) (c77 : Nat) (n78 : Int) (b79 : Bool) (b80 : Bool) (b81 : Bool), w37.cell? (Addr.mk w1.heap.size 0 none) = some ((.bool b71 : Value)) ∧ w37.cell? (Addr.mk w1.heap.size 1 none) = some ((.bool b72 : Value)) ∧ w37.cell? (Addr.mk w1.heap.size 2 none) = some ((.int .i64 n73 : Value)) ∧ w37.cell? (Addr.mk w1.heap.size 3 none) = some ((.int .i64 n74 : Value)) ∧ w37.cell? (Addr.mk w1.heap.size 4 none) = some ((.slice a75 l75 c75 : Value)) ∧ w37.cell? (Addr.mk w1.heap.size 5 none) = some ((.slice a76 l76 c76 : Value)) ∧ w37.cell? (Addr.mk w1.heap.size 6 none) = some ((.slice a77 l77 c77 : Value)) ∧ w37.cell? (Addr.mk w1.heap.size 7 none) = some ((.int .i64 n78 : Value)) ∧ w37.cell? (Addr.mk w1.heap.size 8 none) = some ((.bool b79 : Value)) ∧ w37.cell? (Addr.mk w1.heap.size 9 none) = some ((.bool b80 : Value)) ∧ w37.cell? (Addr.mk w1.heap.size 10 none) = some ((.bool b81 : Value)) ∧ 
  Q (.tuple #[.agg #[.bool b71, .bool b72, .int .i64 n73, .int .i64 n74, .slice a75 l75 c75, .slice a76 l76 c76, .slice a77 l77 c77, .int .i64 n78, .bool b79, .bool b80, .bool b81], .int .i64 65]) w37))))))))))))
  (∃ (n82 : Int), w15.cell? (Addr.mk w3.heap.size 7 none) = some ((.int .i64 n82 : Value)) ∧
  cond (n82 == 2)
  (∃ (b83 : Bool) (b84 : Bool) (n85 : Int) (n86 : Int) (a87 : Option Addr) (l87 : Nat) (c87 : Nat) (a88 : Option Addr) (l88 : Nat) (c88 : Nat) (a89 : Option Addr) (l89 : Nat) (c89 : Nat) (n90 : Int) (b91 : Bool) (b92 : Bool) (b93 : Bool), w15.cell? (Addr.mk w3.heap.size 0 none) = some ((.bool b83 : Value)) ∧ w15.cell? (Addr.mk w3.heap.size 1 none) = some ((.bool b84 : Value)) ∧ w15.cell? (Addr.mk w3.heap.size 2 none) = some ((.int .i64 n85 : Value)) ∧ w15.cell? (Addr.mk w3.heap.size 3 none) = some ((.int .i64 n86 : Value)) ∧ w15.cell? (Addr.mk w3.heap.size 4 none) = some ((.slice a87 l87 c87 : Value)) ∧ w15.cell? (Addr.mk w3.heap.size 5 none) = some ((.slice a88 l88 c88 : Value)) ∧ w15.cell? (Addr.mk w3.heap.size 6 none) = some ((.slice a89 l89 c89 : Value)) ∧ w15.cell? (Addr.mk w3.heap.size 7 none) = some ((.int .i64 n90 : Value)) ∧ w15.cell? (Addr.mk w3.heap.size 8 none) = some ((.bool b91 : Value)) ∧ w15.cell? (Addr.mk w3.heap.size 9 none) = some ((.bool b92 : Value)) ∧ w15.cell? (Addr.mk w3.heap.size 10 none) = some ((.bool b93 : Value)) ∧ 
  stC (Addr.mk w1.heap.size 0 none) (.bool b83) w15 (fun (w38 : World) =>
  stC (Addr.mk w1.heap.size 1 none) (.bool b84) w38 (fun (w39 : World) =>
  stC (Addr.mk w1.heap.size 2 none) (.int .i64 n85) w39 (fun (w40 : World) =>
  stC (Addr.mk w1.heap.size 3 none) (.int .i64 n86) w40 (fun (w41 : World) =>
  stC (Addr.mk w1.heap.size 4 none) (.slice a87 l87 c87) w41 (fun (w42 : World) =>
  stC (Addr.mk w1.heap.size 5 none) (.slice a88 l88 c88) w42 (fun (w43 : World) =>
  stC (Addr.mk w1.heap.size 6 none) (.slice a89 l89 c89) w43 (fun (w44 : World) =>
  stC (Addr.mk w1.heap.size 7 none) (.int .i64 n90) w44 (fun (w45 : World) =>
  stC (Addr.mk w1.heap.size 8 none) (.bool b91) w45 (fun (w46 : World) =>
  stC (Addr.mk w1.heap.size 9 none) (.bool b92) w46 (fun (w47 : World) =>
  stC (Addr.mk w1.heap.size 10 none) (.bool b93) w47 (fun (w48 : World) =>
  ∃ (b94 : Bool) (b95 : Bool) (n96 : Int) (n97 : Int) (a98 : Option Addr) (l98 : Nat) (c98 : Nat) (a99 : Option Addr) (l99 : Nat) (c99 : Nat) (a100 : Option Addr) (l100 : Nat) (c100 : Nat) (n101 : Int) (b102 : Bool) (b103 : Bool) (b104 : Bool), w48.cell? (Addr.mk w1.heap.size 0 none) = some ((.bool b94 : Value)) ∧ w48.cell? (Addr.mk w1.heap.size 1 none) = some ((.bool b95 : Value)) ∧ w48.cell? (Addr.mk w1.heap.size 2 none) = some ((.int .i64 n96 : Value)) ∧ w48.cell? (Addr.mk w1.heap.size 3 none) = some ((.int .i64 n97 : Value)) ∧ w48.cell? (Addr.mk w1.heap.size 4 none) = some ((.slice a98 l98 c98 : Value)) ∧ w48.cell? (Addr.mk w1.heap.size 5 none) = some ((.slice a99 l99 c99 : Value)) ∧ w48.cell? (Addr.mk w1.heap.size 6 none) = some ((.slice a100 l100 c100 : Value)) ∧ w48.cell? (Addr.mk w1.heap.size 7 none) = some ((.int .i64 n101 : Value)) ∧ w48.cell? (Addr.mk w1.heap.size 8 none) = some ((.bool b102 : Value)) ∧ w48.cell? (Addr.mk w1.heap.size 9 none) = some ((.bool b103 : Value)) ∧ w48.cell? (Addr.mk w1.heap.size 10 none) = some ((.bool b104 : Value)) ∧ 
  Q (.tuple #[.agg #[.bool b94, .bool b95, .int .i64 n96, .int .i64 n97, .slice a98 l98 c98, .slice a99 l99 c99, .slice a100 l100 c100, .int .i64 n101, .bool b102, .bool b103, .bool b104], .int .i64 112]) w48))))))))))))
  (∃ (a105 : Option Addr) (l105 : Nat) (c105 : Nat), w15.cell? (Addr.mk w3.heap.size 6 none) = some ((.slice a105 l105 c105 : Value)) ∧
  inI ((((l105 : Nat) : Int)) + (((l12 : Nat) : Int))) ∧
  cond (decide (((((l105 : Nat) : Int)) + (((l12 : Nat) : Int))) > 8))
  (∃ (b106 : Bool) (b107 : Bool) (n108 : Int) (n109 : Int) (a110 : Option Addr) (l110 : Nat) (c110 : Nat) (a111 : Option Addr) (l111 : Nat) (c111 : Nat) (a112 : Option Addr) (l112 : Nat) (c112 : Nat) (n113 : Int) (b114 : Bool) (b115 : Bool) (b116 : Bool), w15.cell? (Addr.mk w3.heap.size 0 none) = some ((.bool b106 : Value)) ∧ w15.cell? (Addr.mk w3.heap.size 1 none) = some ((.bool b107 : Value)) ∧ w15.cell? (Addr.mk w3.heap.size 2 none) = some ((.int .i64 n108 : Value)) ∧ w15.cell? (Addr.mk w3.heap.size 3 none) = some ((.int .i64 n109 : Value)) ∧ w15.cell? (Addr.mk w3.heap.size 4 none) = some ((.slice a110 l110 c110 : Value)) ∧ w15.cell? (Addr.mk w3.heap.size 5 none) = some ((.slice a111 l111 c111 : Value)) ∧ w15.cell? (Addr.mk w3.heap.size 6 none) = some ((.slice a112 l112 c112 : Value)) ∧ w15.cell? (Addr.mk w3.heap.size 7 none) = some ((.int .i64 n113 : Value)) ∧ w15.cell? (Addr.mk w3.heap.size 8 none) = some ((.bool b114 : Value)) ∧ w15.cell? (Addr.mk w3.heap.size 9 none) = some ((.bool b115 : Value)) ∧ w15.cell? (Addr.mk w3.heap.size 10 none) = some ((.bool b116 : Value)) ∧ 
  stC (Addr.mk w1.heap.size 0 none) (.bool b106) w15 (fun (w49 : World) =>
  stC (Addr.mk w1.heap.size 1 none) (.bool b107) w49 (fun (w50 : World) =>
  stC (Addr.mk w1.heap.size 2 none) (.int .i64 n108) w50 (fun (w51 : World) =>
  stC (Addr.mk w1.heap.size 3 none) (.int .i64 n109) w51 (fun (w52 : World) =>
  stC (Addr.mk w1.heap.size 4 none) (.slice a110 l110 c110) w52 (fun (w53 : World) =>
  stC (Addr.mk w1.heap.size 5 none) (.slice a111 l111 c111) w53 (fun (w54 : World) =>
  stC (Addr.mk w1.heap.size 6 none) (.slice a112 l112 c112) w54 (fun (w55 : World) =>
  stC (Addr.mk w1.heap.size 7 none) (.int .i64 n113) w55 (fun (w56 : World) =>
  stC (Addr.mk w1.heap.size 8 none) (.bool b114) w56 (fun (w57 : World) =>
  stC (Addr.mk w1.heap.size 9 none) (.bool b115) w57 (fun (w58 : World) =>
  stC (Addr.mk w1.heap.size 10 none) (.bool b116) w58 (fun (w59 : World) =>
  ∃ (b117 : Bool) (b118 : Bool) (n119 : Int) (n120 : Int) (a121 : Option Addr) (l121 : Nat) (c121 : Nat) (a122 : Option Addr) (l122 : Nat) (c122 : Nat) (a123 : Option Addr) (l123 : Nat) (c123 : Nat) (n124 : Int) (b125 : Bool) (b126 : Bool) (b127 : Bool), w59.cell? (Addr.mk w1.heap.size 0 none) = some ((.bool b117 : Value)) ∧ w59.cell? (Addr.mk w1.heap.size 1 none) = some ((.bool b118 : Value)) ∧ w59.cell? (Addr.mk w1.heap.size 2 none) = some ((.int .i64 n119 : Value)) ∧ w59.cell? (Addr.mk w1.heap.size 3 none) = some ((.int .i64 n120 : Value)) ∧ w59.cell? (Addr.mk w1.heap.size 4 none) = some ((.slice a121 l121 c121 : Value)) ∧ w59.cell? (Addr.mk w1.heap.size 5 none) = some ((.slice a122 l122 c122 : Value)) ∧ w59.cell? (Addr.mk w1.heap.size 6 none) = some ((.slice a123 l123 c123 : Value)) ∧ w59.cell? (Addr.mk w1.heap.size 7 none) = some ((.int .i64 n124 : Value)) ∧ w59.cell? (Addr.mk w1.heap.size 8 none) = some ((.bool b125 : Value)) ∧ w59.cell? (Addr.mk w1.heap.size 9 none) = some ((.bool b126 : Value)) ∧ w59.cell? (Addr.mk w1.heap.size 10 none) = some ((.bool b127 : Value)) ∧ 
  Q (.tuple #[.agg #[.bool b117, .bool b118, .int .i64 n119, .int .i64 n120, .slice a121 l121 c121, .slice a122 l122 c122, .slice a123 l123 c123, .int .i64 n124, .bool b125, .bool b126, .bool b127], .int .i64 31]) w59))))))))))))
  (cond ((((l12 : Nat) : Int)) == 0)
  (∃ (b128 : Bool) (b129 : Bool) (n130 : Int) (n131 : Int) (a132 : Option Addr) (l132 : Nat) (c132 : Nat) (a133 : Option Addr) (l133 : Nat) (c133 : Nat) (a134 : Option Addr) (l134 : Nat) (c134 : Nat) (n135 : Int) (b136 : Bool) (b137 : Bool) (b138 : Bool), w15.cell? (Addr.mk w3.heap.size 0 none) = some ((.bool b128 : Value)) ∧ w15.cell? (Addr.mk w3.heap.size 1 none) = some ((.bool b129 : Value)) ∧ w15.cell? (Addr.mk w3.heap.size 2 none) = some ((.int .i64 n130 : Value)) ∧ w15.cell? (Addr.mk w3.heap.size 3 none) = some ((.int .i64 n131 : Value)) ∧ w15.cell? (Addr.mk w3.heap.size 4 none) = some ((.slice a132 l132 c132 : Value)) ∧ w15.cell? (Addr.mk w3.heap.size 5 none) = some ((.slice a133 l133 c133 : Value)) ∧ w15.cell? (Addr.mk w3.heap.size 6 none) = some ((.slice a134 l134 c134 : Value)) ∧ w15.cell? (Addr.mk w3.heap.size 7 none) = some ((.int .i64 n135 : Value)) ∧ w15.cell? (Addr.mk w3.heap.size 8 none) = some ((.bool b136 : Value)) ∧ w15.cell? (Addr.mk w3.heap.size 9 none) = some ((.bool b137 : Value)) ∧ w15.cell? (Addr.mk w3.heap.size 10 none) = some ((.bool b138 : Value)) ∧ 
  stC (Addr.mk w1.heap.size 0 none) (.bool b128) w15 (fun (w60 : World) =>
  stC (Addr.mk w1.heap.size 1 none) (.bool b129) w60 (fun (w61 : World) =>
  stC (Addr.mk w1.heap.size 2 none) (.int .i64 n130) w61 (fun (w62 : World) =>
  stC (Addr.mk w1.heap.size 3 none) (.int .i64 n131) w62 (fun (w63 : World) =>
  stC (Addr.mk w1.heap.size 4 none) (.slice a132 l132 c132) w63 (fun (w64 : World) =>
  stC (Addr.mk w1.heap.size 5 none) (.slice a133 l133 c133) w64 (fun (w65 : World) =>
  stC (Addr.mk w1.heap.size 6 none) (.slice a134 l134 c134) w65 (fun (w66 : World) =>
  stC (Addr.mk w1.heap.size 7 none) (.int .i64 n135) w66 (fun (w67 : World) =>
  stC (Addr.mk w1.heap.size 8 none) (.bool b136) w67 (fun (w68 : World) =>
  stC (Addr.mk w1.heap.size 9 none) (.bool b137) w68 (fun (w69 : World) =>
  stC (Addr.mk w1.heap.size 10 none) (.bool b138) w69 (fun (w70 : World) =>
  ∃ (b139 : Bool) (b140 : Bool) (n141 : Int) (n142 : Int) (a143 : Option Addr) (l143 : Nat) (c143 : Nat) (a144 : Option Addr) (l144 : Nat) (c144 : Nat) (a145 : Option Addr) (l145 : Nat) (c145 : Nat) (n146 : Int) (b147 : Bool) (b148 : Bool) (b149 : Bool), w70.cell? (Addr.mk w1.heap.size 0 none) = some ((.bool b139 : Value)) ∧ w70.cell? (Addr.mk w1.heap.size 1 none) = some ((.bool b140 : Value)) ∧ w70.cell? (Addr.mk w1.heap.size 2 none) = some ((.int .i64 n141 : Value)) ∧ w70.cell? (Addr.mk w1.heap.size 3 none) = some ((.int .i64 n142 : Value)) ∧ w70.cell? (Addr.mk w1.heap.size 4 none) = some ((.slice a143 l143 c143 : Value)) ∧ w70.cell? (Addr.mk w1.heap.size 5 none) = some ((.slice a144 l144 c144 : Value)) ∧ w70.cell? (Addr.mk w1.heap.size 6 none) = some ((.slice a145 l145 c145 : Value)) ∧ w70.cell? (Addr.mk w1.heap.size 7 none) = some ((.int .i64 n146 : Value)) ∧ w70.cell? (Addr.mk w1.heap.size 8 none) = some ((.bool b147 : Value)) ∧ w70.cell? (Addr.mk w1.heap.size 9 none) = some ((.bool b148 : Value)) ∧ w70.cell? (Addr.mk w1.heap.size 10 none) = some ((.bool b149 : Value)) ∧ 
  Q (.tuple #[.agg #[.bool b139, .bool b140, .int .i64 n141, .int .i64 n142, .slice a143 l143 c143, .slice a144 l144 c144, .slice a145 l145 c145, .int .i64 n146, .bool b147, .bool b148, .bool b149], .int .i64 0]) w70))))))))))))
  (CallR Try.prog 24 [.slice a12 l12 c12] w15 (fun (r151 : Value) (w71 : World) =>
  ∃ (v150 : Value), r151 = v150 ∧
  ∃ (gf156 : FuncId) (lb157 : Array Value) (xs158 : List (List Value)) (Kp159 T160 : Nat → Prop) (I161 Ix162 : Nat → World → Prop),
  v150 = .func (.func gf156) #[] lb157 ∧ bodyB Try.prog gf156 = true ∧ IterOK Try.prog gf156 (Array.toList lb157) xs158 Kp159 w71 ∧ (∀ z, Kp159 z → z < w71.heap.size) ∧ (∀ z, T160 z → ¬ Kp159 z ∧ z ≠ w71.heap.size ∧ z ≠ w71.heap.size + 1) ∧
  Steady w71.heap.size I161 ∧ Steady w71.heap.size Ix162 ∧ I161 0 w71 ∧
  (∀ (i154 : Nat) (x155 : List Value) (w72 : World), xs158[i154]? = some x155 → I161 i154 w72 → w71.heap.size + 2 ≤ w72.heap.size → List.length x155 = 2 ∧ ∃ (v152 : Value) (n153 : Int), x155 = [v152, .int .u8 n153] ∧
  w72 = w72 ∧ ∀ (w73 : World), Kept (fun z => z = w71.heap.size + 1) w72 w73 →
  ∃ (a163 : Option Addr) (l163 : Nat) (c163 : Nat), w73.cell? (Addr.mk w3.heap.size 6 none) = some ((.slice a163 l163 c163 : Value)) ∧
  let w77 := World.alloc w73 (Obj.cells #[.int .u8 n153] 5);
  ∃ (a164 : Option Addr) (l164 : Nat) (c164 : Nat) (w78 : World), Sem.run Try.prog (Builtin.append_ #[22, 22] 22 #[.slice a163 l163 c163, .slice (some (Addr.mk w73.heap.size 0 none)) 1 1]) w77 = .ok ((.slice a164 l164 c164 : Value)) w78 ∧
  stC (Addr.mk w3.heap.size 6 none) (.slice a164 l164 c164) w78 (fun (w79 : World) =>
  Kept T160 w73 w79 ∧ I161 (i154 + 1) w79)) ∧
  (∀ (w74 : World), I161 (List.length xs158) w74 →
  stC (Addr.mk w3.heap.size 7 none) (.int .i64 1) w74 (fun (w80 : World) =>
  stC (Addr.mk w3.heap.size 8 none) (.bool false) w80 (fun (w81 : World) =>
  ∃ (b165 : Bool) (b166 : Bool) (n167 : Int) (n168 : Int) (a169 : Option Addr) (l169 : Nat) (c169 : Nat) (a170 : Option Addr) (l170 : Nat) (c170 : Nat) (a171 : Option Addr) (l171 : Nat) (c171 : Nat) (n172 : Int) (b173 : Bool) (b174 : Bool) (b175 : Bool), w81.cell? (Addr.mk w3.heap.size 0 none) = some ((.bool b165 : Value)) ∧ w81.cell? (Addr.mk w3.heap.size 1 none) = some ((.bool b166 : Value)) ∧ w81.cell? (Addr.mk w3.heap.size 2 none) = some ((.int .i64 n167 : Value)) ∧ w81.cell? (Addr.mk w3.heap.size 3 none) = some ((.int .i64 n168 : Value)) ∧ w81.cell? (Addr.mk w3.heap.size 4 none) = some ((.slice a169 l169 c169 : Value)) ∧ w81.cell? (Addr.mk w3.heap.size 5 none) = some ((.slice a170 l170 c170 : Value)) ∧ w81.cell? (Addr.mk w3.heap.size 6 none) = some ((.slice a171 l171 c171 : Value)) ∧ w81.cell? (Addr.mk w3.heap.size 7 none) = some ((.int .i64 n172 : Value)) ∧ w81.cell? (Addr.mk w3.heap.size 8 none) = some ((.bool b173 : Value)) ∧ w81.cell? (Addr.mk w3.heap.size 9 none) = some ((.bool b174 : Value)) ∧ w81.cell? (Addr.mk w3.heap.size 10 none) = some ((.bool b175 : Value)) ∧ 
  stC (Addr.mk w1.heap.size 0 none) (.bool b165) w81 (fun (w82 : World) =>
  stC (Addr.mk w1.heap.size 1 none) (.bool b166) w82 (fun (w83 : World) =>
  stC (Addr.mk w1.heap.size 2 none) (.int .i64 n167) w83 (fun (w84 : World) =>
  stC (Addr.mk w1.heap.size 3 none) (.int .i64 n168) w84 (fun (w85 : World) =>
  stC (Addr.mk w1.heap.size 4 none) (.slice a169 l169 c169) w85 (fun (w86 : World) =>
  stC (Addr.mk w1.heap.size 5 none) (.slice a170 l170 c170) w86 (fun (w87 : World) =>
  stC (Addr.mk w1.heap.size 6 none) (.slice a171 l171 c171) w87 (fun (w88 : World) =>
  stC (Addr.mk w1.heap.size 7 none) (.int .i64 n172) w88 (fun (w89 : World) =>
  stC (Addr.mk w1.heap.size 8 none) (.bool b173) w89 (fun (w90 : World) =>
  stC (Addr.mk w1.heap.size 9 none) (.bool b174) w90 (fun (w91 : World) =>
  stC (Addr.mk w1.heap.size 10 none) (.bool b175) w91 (fun (w92 : World) =>
  Kept (fun z => z ≠ w71.heap.size) w74 w92 ∧ ∀ (w75 : World), Kept (fun z => z = w71.heap.size) w92 w75 →
  ∃ (b176 : Bool) (b177 : Bool) (n178 : Int) (n179 : Int) (a180 : Option Addr) (l180 : Nat) (c180 : Nat) (a181 : Option Addr) (l181 : Nat) (c181 : Nat) (a182 : Option Addr) (l182 : Nat) (c182 : Nat) (n183 : Int) (b184 : Bool) (b185 : Bool) (b186 : Bool), w75.cell? (Addr.mk w1.heap.size 0 none) = some ((.bool b176 : Value)) ∧ w75.cell? (Addr.mk w1.heap.size 1 none) = some ((.bool b177 : Value)) ∧ w75.cell? (Addr.mk w1.heap.size 2 none) = some ((.int .i64 n178 : Value)) ∧ w75.cell? (Addr.mk w1.heap.size 3 none) = some ((.int .i64 n179 : Value)) ∧ w75.cell? (Addr.mk w1.heap.size 4 none) = some ((.slice a180 l180 c180 : Value)) ∧ w75.cell? (Addr.mk w1.heap.size 5 none) = some ((.slice a181 l181 c181 : Value)) ∧ w75.cell? (Addr.mk w1.heap.size 6 none) = some ((.slice a182 l182 c182 : Value)) ∧ w75.cell? (Addr.mk w1.heap.size 7 none) = some ((.int .i64 n183 : Value)) ∧ w75.cell? (Addr.mk w1.heap.size 8 none) = some ((.bool b184 : Value)) ∧ w75.cell? (Addr.mk w1.heap.size 9 none) = some ((.bool b185 : Value)) ∧ w75.cell? (Addr.mk w1.heap.size 10 none) = some ((.bool b186 : Value)) ∧ 
  Q (.tuple #[.agg #[.bool b176, .bool b177, .int .i64 n178, .int .i64 n179, .slice a180 l180 c180, .slice a181 l181 c181, .slice a182 l182 c182, .int .i64 n183, .bool b184, .bool b185, .bool b186], .int .i64 0]) w75)))))))))))))) ∧
  (∀ (i154 : Nat) (w74 : World), Ix162 i154 w74 → ∀ (w76 : World), Kept (fun z => z = w71.heap.size) w74 w76 →
  ∃ (b187 : Bool) (b188 : Bool) (n189 : Int) (n190 : Int) (a191 : Option Addr) (l191 : Nat) (c191 : Nat) (a192 : Option Addr) (l192 : Nat) (c192 : Nat) (a193 : Option Addr) (l193 : Nat) (c193 : Nat) (n194 : Int) (b195 : Bool) (b196 : Bool) (b197 : Bool), w76.cell? (Addr.mk w1.heap.size 0 none) = some ((.bool b187 : Value)) ∧ w76.cell? (Addr.mk w1.heap.size 1 none) = some ((.bool b188 : Value)) ∧ w76.cell? (Addr.mk w1.heap.size 2 none) = some ((.int .i64 n189 : Value)) ∧ w76.cell? (Addr.mk w1.heap.size 3 none) = some ((.int .i64 n190 : Value)) ∧ w76.cell? (Addr.mk w1.heap.size 4 none) = some ((.slice a191 l191 c191 : Value)) ∧ w76.cell? (Addr.mk w1.heap.size 5 none) = some ((.slice a192 l192 c192 : Value)) ∧ w76.cell? (Addr.mk w1.heap.size 6 none) = some ((.slice a193 l193 c193 : Value)) ∧ w76.cell? (Addr.mk w1.heap.size 7 none) = some ((.int .i64 n194 : Value)) ∧ w76.cell? (Addr.mk w1.heap.size 8 none) = some ((.bool b195 : Value)) ∧ w76.cell? (Addr.mk w1.heap.size 9 none) = some ((.bool b196 : Value)) ∧ w76.cell? (Addr.mk w1.heap.size 10 none) = some ((.bool b197 : Value)) ∧ 
  Q (.tuple #[.agg #[.bool b187, .bool b188, .int .i64 n189, .int .i64 n190, .slice a191 l191 c191, .slice a192 l192 c192, .slice a193 l193 c193, .int .i64 n194, .bool b195, .bool b196, .bool b197], .int .i64 0]) w76)))))))))))))))))))
theorem C10 {b1 : Bool} {b2 : Bool} {n3 : Int} {n4 : Int} {a5 : Option Addr} {l5 : Nat} {c5 : Nat} {a6 : Option Addr} {l6 : Nat} {c6 : Nat} {a7 : Option Addr} {l7 : Nat} {c7 : Nat} {n8 : Int} {b9 : Bool} {b10 : Bool} {b11 : Bool} {a12 : Option Addr} {l12 : Nat} {c12 : Nat} {Q : Value → World → Prop} {w : World} (h : L10 b1 b2 n3 n4 a5 l5 c5 a6 l6 c6 a7 l7 c7 n8 b9 b10 b11 a12 l12 c12 Q w) : CallR Try.prog 10 [.agg #[.bool b1, .bool b2, .int .i64 n3, .int .i64 n4, .slice a5 l5 c5, .slice a6 l6 c6, .slice a7 l7 c7, .int .i64 n8, .bool b9, .bool b10, .bool b11], .slice a12 l12 c12] w Q :=
  funRF (A := A10) (shs := [.one (.any), .one (.int .u8)]) mixed Try.func10 (c := (Try.f10.body).getD .skip) rfl (by kernel_rfl) (Eq.mp (by kernel_rfl) h)

end Go.Proofs.Ythddogeenimjcaa
