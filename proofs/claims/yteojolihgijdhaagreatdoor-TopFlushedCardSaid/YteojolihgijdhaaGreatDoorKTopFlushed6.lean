/- Part 6 of 21 of the proof of TopFlushed. Conditions: the theorem's: none. -/
import Derived.Test.YteojolihgijdhaaGreatDoorKTopFlushed4
set_option linter.unusedVariables false
set_option maxRecDepth 100000
namespace Go.Proofs.YteojolihgijdhaaGreatDoor
open Go.Lw
def A12:Ann:=⟨[],[],[],[],[],[]⟩
def L12 (Q:Value→World→Prop) (w:World):Prop:=
 let w1:=w.alloc (.cells (gq4 true none 0 0 0 none 0 0 false) 98);
 Q (.pointer (some (Addr.mk w.heap.size 0 none))) w1
theorem C12 {Q w} (h:L12 Q w):CallR Tryz.prog 12 [] w Q:=
 fC A12 Tryz.func12 rfl (by kernel_rfl) (Eq.mp (by kernel_rfl) h)
def A155:Ann:=⟨[],[],[],[],[],[]⟩
def L155 (p1:Option Addr) (Q:Value→World→Prop) (w:World):Prop:=
 cond (Option.isNone p1)
 (Q (.bool true) w)
 (nn p1 (fun q2=>
 ∃ b3,w.cell? q2=some (.bool b3)∧
 Q (.bool (!b3)) w))
theorem C155 {p1 Q w} (h:L155 p1 Q w):CallR Tryz.prog 155 [.pointer p1] w Q:=
 fC A155 Tryz.func155 rfl (by kernel_rfl) (Eq.mp (by kernel_rfl) h)
def A138:Ann:=⟨[(4,[(15,.one (.int .i64))])],[],[],[],[],[]⟩
def L138 (p1:Option Addr) (n2:Int) (Q:Value→World→Prop) (w:World):Prop:=
 CQ 155 [.pointer p1] w (fun r4 w1=>
 ∃ b3,r4=.bool b3∧
 cond b3
 (Q (.tuple #[.pointer none,.int .i64 2]) w1)
 (nn p1 (fun q5=>
 ∃ a6 l6 c6,w1.cell? (Addr.add q5 1)=some (.slice a6 l6 c6)∧
 ∃ (I7:List Value→World→Prop) (mu8:List Value→World→Nat),
 I7 [.int .i64 0] w1∧
 ∀ (_:Env) (n9:Int) (w2:World),I7 [.int .i64 n9] w2→
 cond (decide (n9< (((l6:Nat):Int))))
 ((0≤(n9:Int)∧(n9:Int)< ((l6:Nat):Int))∧
 nn a6 (fun q10=>
 ∃ p11,w2.cell? (Addr.add q10 (Int.toNat n9))=some (.pointer p11)∧
 nn p11 (fun q12=>
 ∃ n13,w2.cell? q12=some (.int .i64 n13)∧
 cond (n13 == n2)
 (Q (.tuple #[.pointer p11,.int .i64 0]) w2)
 (inI (n9+1)∧
 I7 [.int .i64 (n9+1)] w2∧mu8 [.int .i64 (n9+1)] w2< mu8 [.int .i64 n9] w2))))
 (Q (.tuple #[.pointer none,.int .i64 191]) w2))))
theorem C138 {p1 n2 Q w} (h:L138 p1 n2 Q w):CallR Tryz.prog 138 [.pointer p1,.int .i64 n2] w Q:=
 fC A138 Tryz.func138 rfl (by kernel_rfl) (Eq.mp (by kernel_rfl) h)
def A191:Ann:=⟨[],[],[],[],[],[]⟩
def L191 (q1 q2:Addr) (K:World→Prop) (w:World):Prop:=
 ∃ b3 w1,Sem.run Tryz.prog (Sem.bind (eqGuard .neq 20 (.tmp 2) (.const (.nilIface)) .nilIface .nilIface) (fun _=>binOp .neq 20 .nilIface .nilIface)) w=.ok (.bool b3) w1∧
 cond b3
 (∃ p4,w1.cell? q1=some (.pointer p4)∧
 nn p4 (fun q5=>
 stC (Addr.add (Addr.add q5 1) 9) (.bool true) w1 (fun w2=>
 stC q2 (.int .i64 193) w2 (fun w3=>
 K w3))))
 (K w1)
theorem C191 {q1 q2 K w} (h:L191 q1 q2 K w):DefR Tryz.prog 191 [.pointer (some q1),.pointer (some q2)] w K:=
 fun_callsR (A:=A191) mixed Tryz.func191 (c:=(Tryz.f191.body).getD .skip) rfl (by kernel_rfl) (Eq.mp (by kernel_rfl) h)
def A139:Ann:=⟨[],[],[],[],[],[]⟩
def L139 (p1:Option Addr) (v2:Value) (Q:Value→World→Prop) (w:World):Prop:=
 let w1:=w.alloc (.cells #[.pointer p1] 234);
 let w2:=w1.alloc (.cells #[.int .i64 0] 26);
 ∃ p3,w2.cell? (Addr.mk w.heap.size 0 none)=some (.pointer p3)∧
 nn p3 (fun q4=>
 ∃ b5 b6 n7 n8 a9 l9 c9 a10 l10 c10 a11 l11 c11 n12 b13 b14 b15,w2.cell? (Addr.add q4 1)=some (.bool b5)∧w2.cell? (Addr.add (Addr.add q4 1) 1)=some (.bool b6)∧w2.cell? (Addr.add (Addr.add q4 1) 2)=some (.int .i64 n7)∧w2.cell? (Addr.add (Addr.add q4 1) 3)=some (.int .i64 n8)∧w2.cell? (Addr.add (Addr.add q4 1) 4)=some (.slice a9 l9 c9)∧w2.cell? (Addr.add (Addr.add q4 1) 5)=some (.slice a10 l10 c10)∧w2.cell? (Addr.add (Addr.add q4 1) 6)=some (.slice a11 l11 c11)∧w2.cell? (Addr.add (Addr.add q4 1) 7)=some (.int .i64 n12)∧w2.cell? (Addr.add (Addr.add q4 1) 8)=some (.bool b13)∧w2.cell? (Addr.add (Addr.add q4 1) 9)=some (.bool b14)∧w2.cell? (Addr.add (Addr.add q4 1) 10)=some (.bool b15)∧
 CQ 158 [.agg (gq1 b5 b6 n7 n8 a9 l9 c9 a10 l10 c10 a11 l11 c11 n12 b13 b14 b15)] w2 (fun r27 w3=>
 ∃ b16 b17 n18 n19 a20 l20 c20 a21 l21 c21 a22 l22 c22 n23 b24 b25 b26,r27=.agg (gq1 b16 b17 n18 n19 a20 l20 c20 a21 l21 c21 a22 l22 c22 n23 b24 b25 b26)∧
 ∃ (k28:FuncId) (xs29:Array Value) (xs30:Array Value),(v2:Value)=.func (.func k28) xs29 xs30∧bodyB Tryz.prog k28=true∧
 CQ k28 (Array.toList xs29 ++ ([.agg (gq1 b16 b17 n18 n19 a20 l20 c20 a21 l21 c21 a22 l22 c22 n23 b24 b25 b26)] ++ Array.toList xs30)) w3 (fun r43 w4=>
 ∃ b31 b32 n33 n34 a35 l35 c35 a36 l36 c36 a37 l37 c37 n38 b39 b40 b41 n42,r43=.tuple #[.agg (gq1 b31 b32 n33 n34 a35 l35 c35 a36 l36 c36 a37 l37 c37 n38 b39 b40 b41),.int .i64 n42]∧
 let w5:=w4.alloc (.cells zSq 151);
 sq11 w4.heap.size w5 (.bool b31) (.bool b32) (.int .i64 n33) (.int .i64 n34) (.slice a35 l35 c35) (.slice a36 l36 c36) (.slice a37 l37 c37) (.int .i64 n38) (.bool b39) (.bool b40) (.bool b41) (fun w16=>stC (Addr.mk w1.heap.size 0 none) (.int .i64 n42) w16 (fun w17=>
 ∃ p44,w17.cell? (Addr.mk w.heap.size 0 none)=some (.pointer p44)∧
 lq1 w17 w4.heap.size fun b45 b46 n47 n48 a49 l49 c49 a50 l50 c50 a51 l51 c51 n52 b53 b54 b55=>nn p44 (fun q56=>
 stC (Addr.add q56 1) (.bool b45) w17 (fun w18=>
 stC (Addr.add (Addr.add q56 1) 1) (.bool b46) w18 (fun w19=>
 stC (Addr.add (Addr.add q56 1) 2) (.int .i64 n47) w19 (fun w20=>
 stC (Addr.add (Addr.add q56 1) 3) (.int .i64 n48) w20 (fun w21=>
 stC (Addr.add (Addr.add q56 1) 4) (.slice a49 l49 c49) w21 (fun w22=>
 stC (Addr.add (Addr.add q56 1) 5) (.slice a50 l50 c50) w22 (fun w23=>
 stC (Addr.add (Addr.add q56 1) 6) (.slice a51 l51 c51) w23 (fun w24=>
 stC (Addr.add (Addr.add q56 1) 7) (.int .i64 n52) w24 (fun w25=>
 stC (Addr.add (Addr.add q56 1) 8) (.bool b53) w25 (fun w26=>
 stC (Addr.add (Addr.add q56 1) 9) (.bool b54) w26 (fun w27=>
 stC (Addr.add (Addr.add q56 1) 10) (.bool b55) w27 (fun w28=>
 ∃ n57,w28.cell? (Addr.mk w1.heap.size 0 none)=some (.int .i64 n57)∧
 stC (Addr.mk w1.heap.size 0 none) (.int .i64 n57) w28 (fun w29=>
 DefR Tryz.prog 191 [.pointer (some (Addr.mk w.heap.size 0 none)),.pointer (some (Addr.mk w1.heap.size 0 none))] w29 (fun w30=>
 ∃ n58,w30.cell? (Addr.mk w1.heap.size 0 none)=some (.int .i64 n58)∧
 Q (.int .i64 n58) w30)))))))))))))))))))
theorem C139 {p1 v2 Q w} (h:L139 p1 v2 Q w):CallR Tryz.prog 139 [.pointer p1,v2] w Q:=
 fun_callsF (A:=A139) mixed Tryz.func139 (c:=(Tryz.f139.body).getD .skip) rfl (by kernel_rfl) (Eq.mp (by kernel_rfl) h)
def A158:Ann:=⟨[],[],[],[],[(1,[0,1,3,4,6,7,2,9,5],8,[10,11,12,13,14])],[]⟩
def L158 (b1 b2:Bool) (n3 n4:Int) (a5:Option Addr) (l5 c5:Nat) (a6:Option Addr) (l6 c6:Nat) (a7:Option Addr) (l7 c7:Nat) (n8:Int) (b9 b10 b11:Bool) (Q:Value→World→Prop) (w:World):Prop:=
 let w1:=w.alloc (.cells (gq1 b1 b2 n3 n4 a5 l5 c5 a6 l6 c6 a7 l7 c7 n8 b9 b10 b11) 151);
 let w2:=w1.alloc (.cells zSq 151);
 ∃ (S12:World→Prop),S12 (w2.drew)∧
 let w3:=w2.drew;
 ∃ a13 l13 c13,(∀ wS:World,S12 wS→wS.cell? (Addr.mk w.heap.size 4 none)=some (.slice a13 l13 c13))∧
 ∃ a14 l14 c14,(∀ wS:World,S12 wS→wS.cell? (Addr.mk w.heap.size 5 none)=some (.slice a14 l14 c14))∧
 ∃ a15 l15 c15,(∀ wS:World,S12 wS→wS.cell? (Addr.mk w.heap.size 6 none)=some (.slice a15 l15 c15))∧
 CQ 47 [.slice a13 l13 c13] w3 (fun r17 w4=>
 ∃ a16 l16 c16,r17=.slice a16 l16 c16∧
 S12 w4∧
 CQ 47 [.slice a14 l14 c14] w4 (fun r19 w5=>
 ∃ a18 l18 c18,r19=.slice a18 l18 c18∧
 S12 w5∧
 CQ 47 [.slice a15 l15 c15] w5 (fun r21 w6=>
 ∃ a20 l20 c20,r21=.slice a20 l20 c20∧
 stC (Addr.mk w.heap.size 4 none) (.slice a16 l16 c16) w6 (fun w7=>
 stC (Addr.mk w.heap.size 5 none) (.slice a18 l18 c18) w7 (fun w8=>
 stC (Addr.mk w.heap.size 6 none) (.slice a20 l20 c20) w8 (fun w9=>
 lq1 w9 w.heap.size fun b22 b23 n24 n25 a26 l26 c26 a27 l27 c27 a28 l28 c28 n29 b30 b31 b32=>sq11 w1.heap.size w9 (.bool b22) (.bool b23) (.int .i64 n24) (.int .i64 n25) (.slice a26 l26 c26) (.slice a27 l27 c27) (.slice a28 l28 c28) (.int .i64 n29) (.bool b30) (.bool b31) (.bool b32) (fun w20=>lq1 w20 w1.heap.size fun b33 b34 n35 n36 a37 l37 c37 a38 l38 c38 a39 l39 c39 n40 b41 b42 b43=>Q (.agg (gq1 b33 b34 n35 n36 a37 l37 c37 a38 l38 c38 a39 l39 c39 n40 b41 b42 b43)) w20)))))))
theorem C158 {b1 b2 n3 n4 a5 l5 c5 a6 l6 c6 a7 l7 c7 n8 b9 b10 b11 Q w} (h:L158 b1 b2 n3 n4 a5 l5 c5 a6 l6 c6 a7 l7 c7 n8 b9 b10 b11 Q w):CallR Tryz.prog 158 [.agg #[.bool b1,.bool b2,.int .i64 n3,.int .i64 n4,.slice a5 l5 c5,.slice a6 l6 c6,.slice a7 l7 c7,.int .i64 n8,.bool b9,.bool b10,.bool b11]] w Q:=
 fC A158 Tryz.func158 rfl (by kernel_rfl) (Eq.mp (by kernel_rfl) h)
def A169:Ann:=⟨[],[],[],[],[],[]⟩
def L169 (b1 b2:Bool) (n3 n4:Int) (a5:Option Addr) (l5 c5:Nat) (a6:Option Addr) (l6 c6:Nat) (a7:Option Addr) (l7 c7:Nat) (n8:Int) (b9 b10 b11:Bool) (Q:Value→World→Prop) (w:World):Prop:=
 let w1:=w.alloc (.cells (gq1 b1 b2 n3 n4 a5 l5 c5 a6 l6 c6 a7 l7 c7 n8 b9 b10 b11) 151);
 lq1 w1 w.heap.size fun b12 b13 n14 n15 a16 l16 c16 a17 l17 c17 a18 l18 c18 n19 b20 b21 b22=>CQ 157 [.agg (gq1 b12 b13 n14 n15 a16 l16 c16 a17 l17 c17 a18 l18 c18 n19 b20 b21 b22)] w1 (fun r24 w2=>
 ∃ n23,r24=.int .i64 n23∧
 cond (n23 != 0)
 (Q (.int .i64 n23) w2)
 (∃ b25,w2.cell? (Addr.mk w.heap.size 10 none)=some (.bool b25)∧
 cond b25
 (Q (.int .i64 113) w2)
 (Q (.int .i64 0) w2)))
theorem C169 {b1 b2 n3 n4 a5 l5 c5 a6 l6 c6 a7 l7 c7 n8 b9 b10 b11 Q w} (h:L169 b1 b2 n3 n4 a5 l5 c5 a6 l6 c6 a7 l7 c7 n8 b9 b10 b11 Q w):CallR Tryz.prog 169 [.agg #[.bool b1,.bool b2,.int .i64 n3,.int .i64 n4,.slice a5 l5 c5,.slice a6 l6 c6,.slice a7 l7 c7,.int .i64 n8,.bool b9,.bool b10,.bool b11]] w Q:=
 fC A169 Tryz.func169 rfl (by kernel_rfl) (Eq.mp (by kernel_rfl) h)
def A95:Ann:=⟨[],[],[],[],[(14,[0,1,2,3,4,6,7,5,8],9,[10])],[]⟩
def L95 (p1:Option Addr) (b2 b3:Bool) (n4 n5:Int) (a6:Option Addr) (l6 c6:Nat) (a7:Option Addr) (l7 c7:Nat) (a8:Option Addr) (l8 c8:Nat) (n9:Int) (b10 b11 b12:Bool) (t13:TypeId) (v13:Value) (b14:Bool) (Q:Value→World→Prop) (w:World):Prop:=
 let w1:=w.alloc (.cells (gq1 b2 b3 n4 n5 a6 l6 c6 a7 l7 c7 a8 l8 c8 n9 b10 b11 b12) 151);
 CQ 155 [.pointer p1] w1 (fun r16 w2=>
 ∃ b15,r16=.bool b15∧
 cond b15
 (Q (.tuple #[.int .i64 0,.int .i64 2]) w2)
 (nn p1 (fun q17=>
 ∃ b18,w2.cell? (Addr.add q17 4)=some (.bool b18)∧
 cond b18
 (Q (.tuple #[.int .i64 0,.int .i64 192]) w2)
 (lq1 w2 w.heap.size fun b19 b20 n21 n22 a23 l23 c23 a24 l24 c24 a25 l25 c25 n26 b27 b28 b29=>CQ 157 [.agg (gq1 b19 b20 n21 n22 a23 l23 c23 a24 l24 c24 a25 l25 c25 n26 b27 b28 b29)] w2 (fun r31 w3=>
 ∃ n30,r31=.int .i64 n30∧
 cond (n30 != 0)
 (Q (.tuple #[.int .i64 0,.int .i64 n30]) w3)
 (∃ b32 w4,Sem.run Tryz.prog (Sem.bind (eqGuard .eql 179 (.tmp 24) (.const (.nilIface)) (.iface t13 v13) .nilIface) (fun _=>binOp .eql 179 (.iface t13 v13) .nilIface)) w3=.ok (.bool b32) w4∧
 cond b32
 (Q (.tuple #[.int .i64 0,.int .i64 2]) w4)
 (∃ b33,w4.cell? (Addr.mk w.heap.size 10 none)=some (.bool b33)∧
 cond b33
 (Q (.tuple #[.int .i64 0,.int .i64 113]) w4)
 (nn p1 (fun q34=>
 ∃ a35 l35 c35,w4.cell? (Addr.add q34 1)=some (.slice a35 l35 c35)∧
 cond (decide ((((l35:Nat):Int))≥64))
 (Q (.tuple #[.int .i64 0,.int .i64 3]) w4)
 (∃ (S36:World→Prop),S36 (w4.drew)∧
 let w5:=w4.drew;
 nn p1 (fun q37=>
 ∃ n38,(∀ wS:World,S36 wS→wS.cell? (Addr.add q37 2)=some (.int .i64 n38))∧
 ∃ b39 b40 n41 n42 a43 l43 c43 a44 l44 c44 a45 l45 c45 n46 b47 b48 b49,(∀ wS:World,S36 wS→wS.cell? (Addr.mk w.heap.size 0 none)=some (.bool b39)∧wS.cell? (Addr.mk w.heap.size 1 none)=some (.bool b40)∧wS.cell? (Addr.mk w.heap.size 2 none)=some (.int .i64 n41)∧wS.cell? (Addr.mk w.heap.size 3 none)=some (.int .i64 n42)∧wS.cell? (Addr.mk w.heap.size 4 none)=some (.slice a43 l43 c43)∧wS.cell? (Addr.mk w.heap.size 5 none)=some (.slice a44 l44 c44)∧wS.cell? (Addr.mk w.heap.size 6 none)=some (.slice a45 l45 c45)∧wS.cell? (Addr.mk w.heap.size 7 none)=some (.int .i64 n46)∧wS.cell? (Addr.mk w.heap.size 8 none)=some (.bool b47)∧wS.cell? (Addr.mk w.heap.size 9 none)=some (.bool b48)∧wS.cell? (Addr.mk w.heap.size 10 none)=some (.bool b49)∧True)∧
 CQ 158 [.agg (gq1 b39 b40 n41 n42 a43 l43 c43 a44 l44 c44 a45 l45 c45 n46 b47 b48 b49)] w5 (fun r61 w6=>
 ∃ b50 b51 n52 n53 a54 l54 c54 a55 l55 c55 a56 l56 c56 n57 b58 b59 b60,r61=.agg (gq1 b50 b51 n52 n53 a54 l54 c54 a55 l55 c55 a56 l56 c56 n57 b58 b59 b60)∧
 S36 w6∧
 let w7:=w6.alloc (.cells #[.int .i64 n38,.bool b50,.bool b51,.int .i64 n52,.int .i64 n53,.slice a54 l54 c54,.slice a55 l55 c55,.slice a56 l56 c56,.int .i64 n57,.bool b58,.bool b59,.bool b60,.iface t13 v13,.bool b14] 240);
 nn p1 (fun q62=>
 ∃ a63 l63 c63,w7.cell? (Addr.add q62 1)=some (.slice a63 l63 c63)∧
 let w8:=w7.alloc (.cells #[.pointer (some (Addr.mk w6.heap.size 0 none))] 234);
 ∃ a64 l64 c64 w9,Sem.run Tryz.prog (Builtin.append_ #[95,95] 95 #[.slice a63 l63 c63,.slice (some (Addr.mk w7.heap.size 0 none)) 1 1]) w8=.ok (.slice a64 l64 c64) w9∧
 nn p1 (fun q65=>
 stC (Addr.add q65 1) (.slice a64 l64 c64) w9 (fun w10=>
 nn p1 (fun q66=>
 ∃ n67,w10.cell? (Addr.add q66 2)=some (.int .i64 n67)∧
 inI (n67+1)∧
 nn p1 (fun q68=>
 stC (Addr.add q68 2) (.int .i64 (n67+1)) w10 (fun w11=>
 ∃ n69,w11.cell? (Addr.mk w6.heap.size 0 none)=some (.int .i64 n69)∧
 Q (.tuple #[.int .i64 n69,.int .i64 0]) w11))))))))))))))))))
theorem C95 {p1 b2 b3 n4 n5 a6 l6 c6 a7 l7 c7 a8 l8 c8 n9 b10 b11 b12 t13 v13 b14 Q w} (h:L95 p1 b2 b3 n4 n5 a6 l6 c6 a7 l7 c7 a8 l8 c8 n9 b10 b11 b12 t13 v13 b14 Q w):CallR Tryz.prog 95 [.pointer p1,.agg #[.bool b2,.bool b3,.int .i64 n4,.int .i64 n5,.slice a6 l6 c6,.slice a7 l7 c7,.slice a8 l8 c8,.int .i64 n9,.bool b10,.bool b11,.bool b12],.iface t13 v13,.bool b14] w Q:=
 fC A95 Tryz.func95 rfl (by kernel_rfl) (Eq.mp (by kernel_rfl) h)
def A106:Ann:=⟨[],[],[],[],[],[]⟩
def L106 (p1:Option Addr) (n2:Int) (Q:Value→World→Prop) (w:World):Prop:=
 let w1:=w.alloc (.cells zSq 151);
 CQ 138 [.pointer p1,.int .i64 n2] w1 (fun r5 w2=>
 ∃ p3 n4,r5=.tuple #[.pointer p3,.int .i64 n4]∧
 cond (n4 != 0)
 (sq11 w.heap.size w2 (.bool false) (.bool false) (.int .i64 0) (.int .i64 0) (.slice none 0 0) (.slice none 0 0) (.slice none 0 0) (.int .i64 0) (.bool false) (.bool false) (.bool false) (fun w13=>lq1 w13 w.heap.size fun b6 b7 n8 n9 a10 l10 c10 a11 l11 c11 a12 l12 c12 n13 b14 b15 b16=>Q (.tuple #[.agg (gq1 b6 b7 n8 n9 a10 l10 c10 a11 l11 c11 a12 l12 c12 n13 b14 b15 b16),.int .i64 n4]) w13))
 (nn p3 (fun q17=>
 ∃ b18 b19 n20 n21 a22 l22 c22 a23 l23 c23 a24 l24 c24 n25 b26 b27 b28,w2.cell? (Addr.add q17 1)=some (.bool b18)∧w2.cell? (Addr.add (Addr.add q17 1) 1)=some (.bool b19)∧w2.cell? (Addr.add (Addr.add q17 1) 2)=some (.int .i64 n20)∧w2.cell? (Addr.add (Addr.add q17 1) 3)=some (.int .i64 n21)∧w2.cell? (Addr.add (Addr.add q17 1) 4)=some (.slice a22 l22 c22)∧w2.cell? (Addr.add (Addr.add q17 1) 5)=some (.slice a23 l23 c23)∧w2.cell? (Addr.add (Addr.add q17 1) 6)=some (.slice a24 l24 c24)∧w2.cell? (Addr.add (Addr.add q17 1) 7)=some (.int .i64 n25)∧w2.cell? (Addr.add (Addr.add q17 1) 8)=some (.bool b26)∧w2.cell? (Addr.add (Addr.add q17 1) 9)=some (.bool b27)∧w2.cell? (Addr.add (Addr.add q17 1) 10)=some (.bool b28)∧
 CQ 158 [.agg (gq1 b18 b19 n20 n21 a22 l22 c22 a23 l23 c23 a24 l24 c24 n25 b26 b27 b28)] w2 (fun r40 w14=>
 ∃ b29 b30 n31 n32 a33 l33 c33 a34 l34 c34 a35 l35 c35 n36 b37 b38 b39,r40=.agg (gq1 b29 b30 n31 n32 a33 l33 c33 a34 l34 c34 a35 l35 c35 n36 b37 b38 b39)∧
 sq11 w.heap.size w14 (.bool b29) (.bool b30) (.int .i64 n31) (.int .i64 n32) (.slice a33 l33 c33) (.slice a34 l34 c34) (.slice a35 l35 c35) (.int .i64 n36) (.bool b37) (.bool b38) (.bool b39) (fun w25=>lq1 w25 w.heap.size fun b41 b42 n43 n44 a45 l45 c45 a46 l46 c46 a47 l47 c47 n48 b49 b50 b51=>Q (.tuple #[.agg (gq1 b41 b42 n43 n44 a45 l45 c45 a46 l46 c46 a47 l47 c47 n48 b49 b50 b51),.int .i64 0]) w25)))))
theorem C106 {p1 n2 Q w} (h:L106 p1 n2 Q w):CallR Tryz.prog 106 [.pointer p1,.int .i64 n2] w Q:=
 fC A106 Tryz.func106 rfl (by kernel_rfl) (Eq.mp (by kernel_rfl) h)
def A109:Ann:=⟨[],[],[],[],[],[]⟩
def L109 (p1:Option Addr) (n2:Int) (b3 b4:Bool) (n5 n6:Int) (a7:Option Addr) (l7 c7:Nat) (a8:Option Addr) (l8 c8:Nat) (a9:Option Addr) (l9 c9:Nat) (n10:Int) (b11 b12 b13:Bool) (Q:Value→World→Prop) (w:World):Prop:=
 let w1:=w.alloc (.cells (gq1 b3 b4 n5 n6 a7 l7 c7 a8 l8 c8 a9 l9 c9 n10 b11 b12 b13) 151);
 CQ 138 [.pointer p1,.int .i64 n2] w1 (fun r16 w2=>
 ∃ p14 n15,r16=.tuple #[.pointer p14,.int .i64 n15]∧
 cond (n15 == 0)
 (lq1 w2 w.heap.size fun b17 b18 n19 n20 a21 l21 c21 a22 l22 c22 a23 l23 c23 n24 b25 b26 b27=>CQ 169 [.agg (gq1 b17 b18 n19 n20 a21 l21 c21 a22 l22 c22 a23 l23 c23 n24 b25 b26 b27)] w2 (fun r29 w3=>
 ∃ n28,r29=.int .i64 n28∧
 cond (n28 == 0)
 (lq1 w3 w.heap.size fun b30 b31 n32 n33 a34 l34 c34 a35 l35 c35 a36 l36 c36 n37 b38 b39 b40=>CQ 158 [.agg (gq1 b30 b31 n32 n33 a34 l34 c34 a35 l35 c35 a36 l36 c36 n37 b38 b39 b40)] w3 (fun r52 w4=>
 ∃ b41 b42 n43 n44 a45 l45 c45 a46 l46 c46 a47 l47 c47 n48 b49 b50 b51,r52=.agg (gq1 b41 b42 n43 n44 a45 l45 c45 a46 l46 c46 a47 l47 c47 n48 b49 b50 b51)∧
 nn p14 (fun q53=>
 stC (Addr.add q53 1) (.bool b41) w4 (fun w5=>
 stC (Addr.add (Addr.add q53 1) 1) (.bool b42) w5 (fun w6=>
 stC (Addr.add (Addr.add q53 1) 2) (.int .i64 n43) w6 (fun w7=>
 stC (Addr.add (Addr.add q53 1) 3) (.int .i64 n44) w7 (fun w8=>
 stC (Addr.add (Addr.add q53 1) 4) (.slice a45 l45 c45) w8 (fun w9=>
 stC (Addr.add (Addr.add q53 1) 5) (.slice a46 l46 c46) w9 (fun w10=>
 stC (Addr.add (Addr.add q53 1) 6) (.slice a47 l47 c47) w10 (fun w11=>
 stC (Addr.add (Addr.add q53 1) 7) (.int .i64 n48) w11 (fun w12=>
 stC (Addr.add (Addr.add q53 1) 8) (.bool b49) w12 (fun w13=>
 stC (Addr.add (Addr.add q53 1) 9) (.bool b50) w13 (fun w14=>
 stC (Addr.add (Addr.add q53 1) 10) (.bool b51) w14 (fun w15=>
 Q (.int .i64 n28) w15))))))))))))))
 (Q (.int .i64 n28) w3)))
 (cond (n15 == 0)
 (lq1 w2 w.heap.size fun b54 b55 n56 n57 a58 l58 c58 a59 l59 c59 a60 l60 c60 n61 b62 b63 b64=>CQ 158 [.agg (gq1 b54 b55 n56 n57 a58 l58 c58 a59 l59 c59 a60 l60 c60 n61 b62 b63 b64)] w2 (fun r76 w16=>
 ∃ b65 b66 n67 n68 a69 l69 c69 a70 l70 c70 a71 l71 c71 n72 b73 b74 b75,r76=.agg (gq1 b65 b66 n67 n68 a69 l69 c69 a70 l70 c70 a71 l71 c71 n72 b73 b74 b75)∧
 nn p14 (fun q77=>
 stC (Addr.add q77 1) (.bool b65) w16 (fun w17=>
 stC (Addr.add (Addr.add q77 1) 1) (.bool b66) w17 (fun w18=>
 stC (Addr.add (Addr.add q77 1) 2) (.int .i64 n67) w18 (fun w19=>
 stC (Addr.add (Addr.add q77 1) 3) (.int .i64 n68) w19 (fun w20=>
 stC (Addr.add (Addr.add q77 1) 4) (.slice a69 l69 c69) w20 (fun w21=>
 stC (Addr.add (Addr.add q77 1) 5) (.slice a70 l70 c70) w21 (fun w22=>
 stC (Addr.add (Addr.add q77 1) 6) (.slice a71 l71 c71) w22 (fun w23=>
 stC (Addr.add (Addr.add q77 1) 7) (.int .i64 n72) w23 (fun w24=>
 stC (Addr.add (Addr.add q77 1) 8) (.bool b73) w24 (fun w25=>
 stC (Addr.add (Addr.add q77 1) 9) (.bool b74) w25 (fun w26=>
 stC (Addr.add (Addr.add q77 1) 10) (.bool b75) w26 (fun w27=>
 Q (.int .i64 n15) w27))))))))))))))
 (Q (.int .i64 n15) w2)))
theorem C109 {p1 n2 b3 b4 n5 n6 a7 l7 c7 a8 l8 c8 a9 l9 c9 n10 b11 b12 b13 Q w} (h:L109 p1 n2 b3 b4 n5 n6 a7 l7 c7 a8 l8 c8 a9 l9 c9 n10 b11 b12 b13 Q w):CallR Tryz.prog 109 [.pointer p1,.int .i64 n2,.agg #[.bool b3,.bool b4,.int .i64 n5,.int .i64 n6,.slice a7 l7 c7,.slice a8 l8 c8,.slice a9 l9 c9,.int .i64 n10,.bool b11,.bool b12,.bool b13]] w Q:=
 fC A109 Tryz.func109 rfl (by kernel_rfl) (Eq.mp (by kernel_rfl) h)
def A107:Ann:=⟨[],[],[],[],[],[]⟩
def L107 (p1:Option Addr) (n2:Int) (Q:Value→World→Prop) (w:World):Prop:=
 CQ 138 [.pointer p1,.int .i64 n2] w (fun r5 w1=>
 ∃ p3 n4,r5=.tuple #[.pointer p3,.int .i64 n4]∧
 cond (n4 != 0)
 (Q (.tuple #[.nilIface,.int .i64 n4]) w1)
 (nn p3 (fun q6=>
 ∃ (v7:Value),w1.cell? (Addr.add q6 12)=some v7∧
 Q (.tuple #[v7,.int .i64 0]) w1)))
theorem C107 {p1 n2 Q w} (h:L107 p1 n2 Q w):CallR Tryz.prog 107 [.pointer p1,.int .i64 n2] w Q:=
 fC A107 Tryz.func107 rfl (by kernel_rfl) (Eq.mp (by kernel_rfl) h)
def A79:Ann:=⟨[],[],[],[],[],[]⟩
def L79 (p1:Option Addr) (n2:Int) (a3:Option Addr) (l3 c3:Nat) (Q:Value→World→Prop) (w:World):Prop:=
 let w1:=w.alloc (.cells #[.slice a3 l3 c3] 34);
 CQ 138 [.pointer p1,.int .i64 n2] w1 (fun r6 w2=>
 ∃ p4 n5,r6=.tuple #[.pointer p4,.int .i64 n5]∧
 let w3:=w2.alloc (.cells #[.pointer none] 234);
 stC (Addr.mk w2.heap.size 0 none) (.pointer p4) w3 (fun w4=>
 cond (n5 != 0)
 (Q (.tuple #[.int .i64 0,.int .i64 n5]) w4)
 (let w5:=w4.alloc (.cells #[.int .i64 0] 3);
 stC (Addr.mk w4.heap.size 0 none) (.int .i64 0) w5 (fun w6=>
 ∃ p7,w6.cell? (Addr.mk w2.heap.size 0 none)=some (.pointer p7)∧
 CQ 139 [.pointer p7,.func (.func 144) #[] #[.pointer (some (Addr.mk w2.heap.size 0 none)),.pointer (some (Addr.mk w.heap.size 0 none)),.pointer (some (Addr.mk w4.heap.size 0 none))]] w6 (fun r9 w7=>
 ∃ n8,r9=.int .i64 n8∧
 ∃ n10,w7.cell? (Addr.mk w4.heap.size 0 none)=some (.int .i64 n10)∧
 Q (.tuple #[.int .i64 n10,.int .i64 n8]) w7)))))
theorem C79 {p1 n2 a3 l3 c3 Q w} (h:L79 p1 n2 a3 l3 c3 Q w):CallR Tryz.prog 79 [.pointer p1,.int .i64 n2,.slice a3 l3 c3] w Q:=
 fC A79 Tryz.func79 rfl (by kernel_rfl) (Eq.mp (by kernel_rfl) h)
def A144:Ann:=⟨[],[(2,[(7,.one (.ptr)),(8,.one (.int .i64)),(9,.one (.int .i64))])],[],[],[],[1]⟩
def L144 (b1 b2:Bool) (n3 n4:Int) (a5:Option Addr) (l5 c5:Nat) (a6:Option Addr) (l6 c6:Nat) (a7:Option Addr) (l7 c7:Nat) (n8:Int) (b9 b10 b11:Bool) (q12 q13 q14:Addr) (Q:Value→World→Prop) (w:World):Prop:=
 let w1:=w.alloc (.cells (gq1 b1 b2 n3 n4 a5 l5 c5 a6 l6 c6 a7 l7 c7 n8 b9 b10 b11) 151);
 let w2:=w1.alloc (.cells zSq 151);
 ∃ (J15:List Value→World→Prop),
 (let w3:=w2.drew;
 (lq1 w3 w.heap.size fun b16 b17 n18 n19 a20 l20 c20 a21 l21 c21 a22 l22 c22 n23 b24 b25 b26=>(∃ p27,w3.cell? q12=some (.pointer p27)∧
 nn p27 (fun q28=>
 (∃ (v29:Value),w3.cell? (Addr.add q28 12)=some v29∧
 (∃ a30 l30 c30,w3.cell? q13=some (.slice a30 l30 c30)∧
 (CQ 145 [.agg (gq1 b16 b17 n18 n19 a20 l20 c20 a21 l21 c21 a22 l22 c22 n23 b24 b25 b26),v29,.slice a30 l30 c30] w3 (fun r44 w4=>
 ∃ b31 b32 n33 n34 a35 l35 c35 a36 l36 c36 a37 l37 c37 n38 b39 b40 b41 n42 n43,r44=.tuple #[.agg (gq1 b31 b32 n33 n34 a35 l35 c35 a36 l36 c36 a37 l37 c37 n38 b39 b40 b41),.int .i64 n42,.int .i64 n43]∧
 let w5:=w4.alloc (.cells zSq 151);
 sq11 w4.heap.size w5 (.bool b31) (.bool b32) (.int .i64 n33) (.int .i64 n34) (.slice a35 l35 c35) (.slice a36 l36 c36) (.slice a37 l37 c37) (.int .i64 n38) (.bool b39) (.bool b40) (.bool b41) (fun w16=>J15 [.pointer (some (Addr.mk w4.heap.size 0 none)),.int .i64 n42,.int .i64 n43] w16)))∧
 (let w17:=w3.alloc (.cells zSq 151);
 CQ 145 [.agg (gq1 b16 b17 n18 n19 a20 l20 c20 a21 l21 c21 a22 l22 c22 n23 b24 b25 b26),v29,.slice a30 l30 c30] w17 (fun r58 w18=>
 ∃ b45 b46 n47 n48 a49 l49 c49 a50 l50 c50 a51 l51 c51 n52 b53 b54 b55 n56 n57,r58=.tuple #[.agg (gq1 b45 b46 n47 n48 a49 l49 c49 a50 l50 c50 a51 l51 c51 n52 b53 b54 b55),.int .i64 n56,.int .i64 n57]∧
 sq11 w3.heap.size w18 (.bool b45) (.bool b46) (.int .i64 n47) (.int .i64 n48) (.slice a49 l49 c49) (.slice a50 l50 c50) (.slice a51 l51 c51) (.int .i64 n52) (.bool b53) (.bool b54) (.bool b55) (fun w29=>J15 [.pointer (some (Addr.mk w3.heap.size 0 none)),.int .i64 n56,.int .i64 n57] w29))))∧
 (let w30:=w3.alloc (.cells zSq 151);
 ∃ a59 l59 c59,w30.cell? q13=some (.slice a59 l59 c59)∧
 CQ 145 [.agg (gq1 b16 b17 n18 n19 a20 l20 c20 a21 l21 c21 a22 l22 c22 n23 b24 b25 b26),v29,.slice a59 l59 c59] w30 (fun r73 w31=>
 ∃ b60 b61 n62 n63 a64 l64 c64 a65 l65 c65 a66 l66 c66 n67 b68 b69 b70 n71 n72,r73=.tuple #[.agg (gq1 b60 b61 n62 n63 a64 l64 c64 a65 l65 c65 a66 l66 c66 n67 b68 b69 b70),.int .i64 n71,.int .i64 n72]∧
 sq11 w3.heap.size w31 (.bool b60) (.bool b61) (.int .i64 n62) (.int .i64 n63) (.slice a64 l64 c64) (.slice a65 l65 c65) (.slice a66 l66 c66) (.int .i64 n67) (.bool b68) (.bool b69) (.bool b70) (fun w42=>J15 [.pointer (some (Addr.mk w3.heap.size 0 none)),.int .i64 n71,.int .i64 n72] w42))))∧
 (∃ a74 l74 c74,w3.cell? q13=some (.slice a74 l74 c74)∧
 (∃ (v75:Value),w3.cell? (Addr.add q28 12)=some v75∧
 (CQ 145 [.agg (gq1 b16 b17 n18 n19 a20 l20 c20 a21 l21 c21 a22 l22 c22 n23 b24 b25 b26),v75,.slice a74 l74 c74] w3 (fun r89 w43=>
 ∃ b76 b77 n78 n79 a80 l80 c80 a81 l81 c81 a82 l82 c82 n83 b84 b85 b86 n87 n88,r89=.tuple #[.agg (gq1 b76 b77 n78 n79 a80 l80 c80 a81 l81 c81 a82 l82 c82 n83 b84 b85 b86),.int .i64 n87,.int .i64 n88]∧
 let w44:=w43.alloc (.cells zSq 151);
 sq11 w43.heap.size w44 (.bool b76) (.bool b77) (.int .i64 n78) (.int .i64 n79) (.slice a80 l80 c80) (.slice a81 l81 c81) (.slice a82 l82 c82) (.int .i64 n83) (.bool b84) (.bool b85) (.bool b86) (fun w55=>J15 [.pointer (some (Addr.mk w43.heap.size 0 none)),.int .i64 n87,.int .i64 n88] w55)))∧
 (let w56:=w3.alloc (.cells zSq 151);
 CQ 145 [.agg (gq1 b16 b17 n18 n19 a20 l20 c20 a21 l21 c21 a22 l22 c22 n23 b24 b25 b26),v75,.slice a74 l74 c74] w56 (fun r103 w57=>
 ∃ b90 b91 n92 n93 a94 l94 c94 a95 l95 c95 a96 l96 c96 n97 b98 b99 b100 n101 n102,r103=.tuple #[.agg (gq1 b90 b91 n92 n93 a94 l94 c94 a95 l95 c95 a96 l96 c96 n97 b98 b99 b100),.int .i64 n101,.int .i64 n102]∧
 sq11 w3.heap.size w57 (.bool b90) (.bool b91) (.int .i64 n92) (.int .i64 n93) (.slice a94 l94 c94) (.slice a95 l95 c95) (.slice a96 l96 c96) (.int .i64 n97) (.bool b98) (.bool b99) (.bool b100) (fun w68=>J15 [.pointer (some (Addr.mk w3.heap.size 0 none)),.int .i64 n101,.int .i64 n102] w68))))∧
 (let w69:=w3.alloc (.cells zSq 151);
 ∃ (v104:Value),w69.cell? (Addr.add q28 12)=some v104∧
 CQ 145 [.agg (gq1 b16 b17 n18 n19 a20 l20 c20 a21 l21 c21 a22 l22 c22 n23 b24 b25 b26),v104,.slice a74 l74 c74] w69 (fun r118 w70=>
 ∃ b105 b106 n107 n108 a109 l109 c109 a110 l110 c110 a111 l111 c111 n112 b113 b114 b115 n116 n117,r118=.tuple #[.agg (gq1 b105 b106 n107 n108 a109 l109 c109 a110 l110 c110 a111 l111 c111 n112 b113 b114 b115),.int .i64 n116,.int .i64 n117]∧
 sq11 w3.heap.size w70 (.bool b105) (.bool b106) (.int .i64 n107) (.int .i64 n108) (.slice a109 l109 c109) (.slice a110 l110 c110) (.slice a111 l111 c111) (.int .i64 n112) (.bool b113) (.bool b114) (.bool b115) (fun w81=>J15 [.pointer (some (Addr.mk w3.heap.size 0 none)),.int .i64 n116,.int .i64 n117] w81))))∧
 (let w82:=w3.alloc (.cells zSq 151);
 (∃ (v119:Value),w82.cell? (Addr.add q28 12)=some v119∧
 ∃ a120 l120 c120,w82.cell? q13=some (.slice a120 l120 c120)∧
 CQ 145 [.agg (gq1 b16 b17 n18 n19 a20 l20 c20 a21 l21 c21 a22 l22 c22 n23 b24 b25 b26),v119,.slice a120 l120 c120] w82 (fun r134 w83=>
 ∃ b121 b122 n123 n124 a125 l125 c125 a126 l126 c126 a127 l127 c127 n128 b129 b130 b131 n132 n133,r134=.tuple #[.agg (gq1 b121 b122 n123 n124 a125 l125 c125 a126 l126 c126 a127 l127 c127 n128 b129 b130 b131),.int .i64 n132,.int .i64 n133]∧
 sq11 w3.heap.size w83 (.bool b121) (.bool b122) (.int .i64 n123) (.int .i64 n124) (.slice a125 l125 c125) (.slice a126 l126 c126) (.slice a127 l127 c127) (.int .i64 n128) (.bool b129) (.bool b130) (.bool b131) (fun w94=>J15 [.pointer (some (Addr.mk w3.heap.size 0 none)),.int .i64 n132,.int .i64 n133] w94)))∧
 (∃ a135 l135 c135,w82.cell? q13=some (.slice a135 l135 c135)∧
 ∃ (v136:Value),w82.cell? (Addr.add q28 12)=some v136∧
 CQ 145 [.agg (gq1 b16 b17 n18 n19 a20 l20 c20 a21 l21 c21 a22 l22 c22 n23 b24 b25 b26),v136,.slice a135 l135 c135] w82 (fun r150 w95=>
 ∃ b137 b138 n139 n140 a141 l141 c141 a142 l142 c142 a143 l143 c143 n144 b145 b146 b147 n148 n149,r150=.tuple #[.agg (gq1 b137 b138 n139 n140 a141 l141 c141 a142 l142 c142 a143 l143 c143 n144 b145 b146 b147),.int .i64 n148,.int .i64 n149]∧
 sq11 w3.heap.size w95 (.bool b137) (.bool b138) (.int .i64 n139) (.int .i64 n140) (.slice a141 l141 c141) (.slice a142 l142 c142) (.slice a143 l143 c143) (.int .i64 n144) (.bool b145) (.bool b146) (.bool b147) (fun w106=>J15 [.pointer (some (Addr.mk w3.heap.size 0 none)),.int .i64 n148,.int .i64 n149] w106))))))∧
 (∃ a151 l151 c151,w3.cell? q13=some (.slice a151 l151 c151)∧
 (∃ p152,w3.cell? q12=some (.pointer p152)∧
 nn p152 (fun q153=>
 (∃ (v154:Value),w3.cell? (Addr.add q153 12)=some v154∧
 (CQ 145 [.agg (gq1 b16 b17 n18 n19 a20 l20 c20 a21 l21 c21 a22 l22 c22 n23 b24 b25 b26),v154,.slice a151 l151 c151] w3 (fun r168 w107=>
 ∃ b155 b156 n157 n158 a159 l159 c159 a160 l160 c160 a161 l161 c161 n162 b163 b164 b165 n166 n167,r168=.tuple #[.agg (gq1 b155 b156 n157 n158 a159 l159 c159 a160 l160 c160 a161 l161 c161 n162 b163 b164 b165),.int .i64 n166,.int .i64 n167]∧
 let w108:=w107.alloc (.cells zSq 151);
 sq11 w107.heap.size w108 (.bool b155) (.bool b156) (.int .i64 n157) (.int .i64 n158) (.slice a159 l159 c159) (.slice a160 l160 c160) (.slice a161 l161 c161) (.int .i64 n162) (.bool b163) (.bool b164) (.bool b165) (fun w119=>J15 [.pointer (some (Addr.mk w107.heap.size 0 none)),.int .i64 n166,.int .i64 n167] w119)))∧
 (let w120:=w3.alloc (.cells zSq 151);
 CQ 145 [.agg (gq1 b16 b17 n18 n19 a20 l20 c20 a21 l21 c21 a22 l22 c22 n23 b24 b25 b26),v154,.slice a151 l151 c151] w120 (fun r182 w121=>
 ∃ b169 b170 n171 n172 a173 l173 c173 a174 l174 c174 a175 l175 c175 n176 b177 b178 b179 n180 n181,r182=.tuple #[.agg (gq1 b169 b170 n171 n172 a173 l173 c173 a174 l174 c174 a175 l175 c175 n176 b177 b178 b179),.int .i64 n180,.int .i64 n181]∧
 sq11 w3.heap.size w121 (.bool b169) (.bool b170) (.int .i64 n171) (.int .i64 n172) (.slice a173 l173 c173) (.slice a174 l174 c174) (.slice a175 l175 c175) (.int .i64 n176) (.bool b177) (.bool b178) (.bool b179) (fun w132=>J15 [.pointer (some (Addr.mk w3.heap.size 0 none)),.int .i64 n180,.int .i64 n181] w132))))∧
 (let w133:=w3.alloc (.cells zSq 151);
 ∃ (v183:Value),w133.cell? (Addr.add q153 12)=some v183∧
 CQ 145 [.agg (gq1 b16 b17 n18 n19 a20 l20 c20 a21 l21 c21 a22 l22 c22 n23 b24 b25 b26),v183,.slice a151 l151 c151] w133 (fun r197 w134=>
 ∃ b184 b185 n186 n187 a188 l188 c188 a189 l189 c189 a190 l190 c190 n191 b192 b193 b194 n195 n196,r197=.tuple #[.agg (gq1 b184 b185 n186 n187 a188 l188 c188 a189 l189 c189 a190 l190 c190 n191 b192 b193 b194),.int .i64 n195,.int .i64 n196]∧
 sq11 w3.heap.size w134 (.bool b184) (.bool b185) (.int .i64 n186) (.int .i64 n187) (.slice a188 l188 c188) (.slice a189 l189 c189) (.slice a190 l190 c190) (.int .i64 n191) (.bool b192) (.bool b193) (.bool b194) (fun w145=>J15 [.pointer (some (Addr.mk w3.heap.size 0 none)),.int .i64 n195,.int .i64 n196] w145)))))∧
 (let w146:=w3.alloc (.cells zSq 151);
 ∃ p198,w146.cell? q12=some (.pointer p198)∧
 nn p198 (fun q199=>
 ∃ (v200:Value),w146.cell? (Addr.add q199 12)=some v200∧
 CQ 145 [.agg (gq1 b16 b17 n18 n19 a20 l20 c20 a21 l21 c21 a22 l22 c22 n23 b24 b25 b26),v200,.slice a151 l151 c151] w146 (fun r214 w147=>
 ∃ b201 b202 n203 n204 a205 l205 c205 a206 l206 c206 a207 l207 c207 n208 b209 b210 b211 n212 n213,r214=.tuple #[.agg (gq1 b201 b202 n203 n204 a205 l205 c205 a206 l206 c206 a207 l207 c207 n208 b209 b210 b211),.int .i64 n212,.int .i64 n213]∧
 sq11 w3.heap.size w147 (.bool b201) (.bool b202) (.int .i64 n203) (.int .i64 n204) (.slice a205 l205 c205) (.slice a206 l206 c206) (.slice a207 l207 c207) (.int .i64 n208) (.bool b209) (.bool b210) (.bool b211) (fun w158=>J15 [.pointer (some (Addr.mk w3.heap.size 0 none)),.int .i64 n212,.int .i64 n213] w158)))))∧
 (let w159:=w3.alloc (.cells zSq 151);
 (∃ p215,w159.cell? q12=some (.pointer p215)∧
 nn p215 (fun q216=>
 (∃ (v217:Value),w159.cell? (Addr.add q216 12)=some v217∧
 ∃ a218 l218 c218,w159.cell? q13=some (.slice a218 l218 c218)∧
 CQ 145 [.agg (gq1 b16 b17 n18 n19 a20 l20 c20 a21 l21 c21 a22 l22 c22 n23 b24 b25 b26),v217,.slice a218 l218 c218] w159 (fun r232 w160=>
 ∃ b219 b220 n221 n222 a223 l223 c223 a224 l224 c224 a225 l225 c225 n226 b227 b228 b229 n230 n231,r232=.tuple #[.agg (gq1 b219 b220 n221 n222 a223 l223 c223 a224 l224 c224 a225 l225 c225 n226 b227 b228 b229),.int .i64 n230,.int .i64 n231]∧
 sq11 w3.heap.size w160 (.bool b219) (.bool b220) (.int .i64 n221) (.int .i64 n222) (.slice a223 l223 c223) (.slice a224 l224 c224) (.slice a225 l225 c225) (.int .i64 n226) (.bool b227) (.bool b228) (.bool b229) (fun w171=>J15 [.pointer (some (Addr.mk w3.heap.size 0 none)),.int .i64 n230,.int .i64 n231] w171)))∧
 (∃ a233 l233 c233,w159.cell? q13=some (.slice a233 l233 c233)∧
 ∃ (v234:Value),w159.cell? (Addr.add q216 12)=some v234∧
 CQ 145 [.agg (gq1 b16 b17 n18 n19 a20 l20 c20 a21 l21 c21 a22 l22 c22 n23 b24 b25 b26),v234,.slice a233 l233 c233] w159 (fun r248 w172=>
 ∃ b235 b236 n237 n238 a239 l239 c239 a240 l240 c240 a241 l241 c241 n242 b243 b244 b245 n246 n247,r248=.tuple #[.agg (gq1 b235 b236 n237 n238 a239 l239 c239 a240 l240 c240 a241 l241 c241 n242 b243 b244 b245),.int .i64 n246,.int .i64 n247]∧
 sq11 w3.heap.size w172 (.bool b235) (.bool b236) (.int .i64 n237) (.int .i64 n238) (.slice a239 l239 c239) (.slice a240 l240 c240) (.slice a241 l241 c241) (.int .i64 n242) (.bool b243) (.bool b244) (.bool b245) (fun w183=>J15 [.pointer (some (Addr.mk w3.heap.size 0 none)),.int .i64 n246,.int .i64 n247] w183)))))∧
 (∃ a249 l249 c249,w159.cell? q13=some (.slice a249 l249 c249)∧
 ∃ p250,w159.cell? q12=some (.pointer p250)∧
 nn p250 (fun q251=>
 ∃ (v252:Value),w159.cell? (Addr.add q251 12)=some v252∧
 CQ 145 [.agg (gq1 b16 b17 n18 n19 a20 l20 c20 a21 l21 c21 a22 l22 c22 n23 b24 b25 b26),v252,.slice a249 l249 c249] w159 (fun r266 w184=>
 ∃ b253 b254 n255 n256 a257 l257 c257 a258 l258 c258 a259 l259 c259 n260 b261 b262 b263 n264 n265,r266=.tuple #[.agg (gq1 b253 b254 n255 n256 a257 l257 c257 a258 l258 c258 a259 l259 c259 n260 b261 b262 b263),.int .i64 n264,.int .i64 n265]∧
 sq11 w3.heap.size w184 (.bool b253) (.bool b254) (.int .i64 n255) (.int .i64 n256) (.slice a257 l257 c257) (.slice a258 l258 c258) (.slice a259 l259 c259) (.int .i64 n260) (.bool b261) (.bool b262) (.bool b263) (fun w195=>J15 [.pointer (some (Addr.mk w3.heap.size 0 none)),.int .i64 n264,.int .i64 n265] w195))))))∧
 (∃ p267,w3.cell? q12=some (.pointer p267)∧
 nn p267 (fun q268=>
 (lq1 w3 w.heap.size fun b269 b270 n271 n272 a273 l273 c273 a274 l274 c274 a275 l275 c275 n276 b277 b278 b279=>(∃ (v280:Value),w3.cell? (Addr.add q268 12)=some v280∧
 (∃ a281 l281 c281,w3.cell? q13=some (.slice a281 l281 c281)∧
 (CQ 145 [.agg (gq1 b269 b270 n271 n272 a273 l273 c273 a274 l274 c274 a275 l275 c275 n276 b277 b278 b279),v280,.slice a281 l281 c281] w3 (fun r295 w196=>
 ∃ b282 b283 n284 n285 a286 l286 c286 a287 l287 c287 a288 l288 c288 n289 b290 b291 b292 n293 n294,r295=.tuple #[.agg (gq1 b282 b283 n284 n285 a286 l286 c286 a287 l287 c287 a288 l288 c288 n289 b290 b291 b292),.int .i64 n293,.int .i64 n294]∧
 let w197:=w196.alloc (.cells zSq 151);
 sq11 w196.heap.size w197 (.bool b282) (.bool b283) (.int .i64 n284) (.int .i64 n285) (.slice a286 l286 c286) (.slice a287 l287 c287) (.slice a288 l288 c288) (.int .i64 n289) (.bool b290) (.bool b291) (.bool b292) (fun w208=>J15 [.pointer (some (Addr.mk w196.heap.size 0 none)),.int .i64 n293,.int .i64 n294] w208)))∧
 (let w209:=w3.alloc (.cells zSq 151);
 CQ 145 [.agg (gq1 b269 b270 n271 n272 a273 l273 c273 a274 l274 c274 a275 l275 c275 n276 b277 b278 b279),v280,.slice a281 l281 c281] w209 (fun r309 w210=>
 ∃ b296 b297 n298 n299 a300 l300 c300 a301 l301 c301 a302 l302 c302 n303 b304 b305 b306 n307 n308,r309=.tuple #[.agg (gq1 b296 b297 n298 n299 a300 l300 c300 a301 l301 c301 a302 l302 c302 n303 b304 b305 b306),.int .i64 n307,.int .i64 n308]∧
 sq11 w3.heap.size w210 (.bool b296) (.bool b297) (.int .i64 n298) (.int .i64 n299) (.slice a300 l300 c300) (.slice a301 l301 c301) (.slice a302 l302 c302) (.int .i64 n303) (.bool b304) (.bool b305) (.bool b306) (fun w221=>J15 [.pointer (some (Addr.mk w3.heap.size 0 none)),.int .i64 n307,.int .i64 n308] w221))))∧
 (let w222:=w3.alloc (.cells zSq 151);
 ∃ a310 l310 c310,w222.cell? q13=some (.slice a310 l310 c310)∧
 CQ 145 [.agg (gq1 b269 b270 n271 n272 a273 l273 c273 a274 l274 c274 a275 l275 c275 n276 b277 b278 b279),v280,.slice a310 l310 c310] w222 (fun r324 w223=>
 ∃ b311 b312 n313 n314 a315 l315 c315 a316 l316 c316 a317 l317 c317 n318 b319 b320 b321 n322 n323,r324=.tuple #[.agg (gq1 b311 b312 n313 n314 a315 l315 c315 a316 l316 c316 a317 l317 c317 n318 b319 b320 b321),.int .i64 n322,.int .i64 n323]∧
 sq11 w3.heap.size w223 (.bool b311) (.bool b312) (.int .i64 n313) (.int .i64 n314) (.slice a315 l315 c315) (.slice a316 l316 c316) (.slice a317 l317 c317) (.int .i64 n318) (.bool b319) (.bool b320) (.bool b321) (fun w234=>J15 [.pointer (some (Addr.mk w3.heap.size 0 none)),.int .i64 n322,.int .i64 n323] w234))))∧
 (∃ a325 l325 c325,w3.cell? q13=some (.slice a325 l325 c325)∧
 (∃ (v326:Value),w3.cell? (Addr.add q268 12)=some v326∧
 (CQ 145 [.agg (gq1 b269 b270 n271 n272 a273 l273 c273 a274 l274 c274 a275 l275 c275 n276 b277 b278 b279),v326,.slice a325 l325 c325] w3 (fun r340 w235=>
 ∃ b327 b328 n329 n330 a331 l331 c331 a332 l332 c332 a333 l333 c333 n334 b335 b336 b337 n338 n339,r340=.tuple #[.agg (gq1 b327 b328 n329 n330 a331 l331 c331 a332 l332 c332 a333 l333 c333 n334 b335 b336 b337),.int .i64 n338,.int .i64 n339]∧
 let w236:=w235.alloc (.cells zSq 151);
 sq11 w235.heap.size w236 (.bool b327) (.bool b328) (.int .i64 n329) (.int .i64 n330) (.slice a331 l331 c331) (.slice a332 l332 c332) (.slice a333 l333 c333) (.int .i64 n334) (.bool b335) (.bool b336) (.bool b337) (fun w247=>J15 [.pointer (some (Addr.mk w235.heap.size 0 none)),.int .i64 n338,.int .i64 n339] w247)))∧
 (let w248:=w3.alloc (.cells zSq 151);
 CQ 145 [.agg (gq1 b269 b270 n271 n272 a273 l273 c273 a274 l274 c274 a275 l275 c275 n276 b277 b278 b279),v326,.slice a325 l325 c325] w248 (fun r354 w249=>
 ∃ b341 b342 n343 n344 a345 l345 c345 a346 l346 c346 a347 l347 c347 n348 b349 b350 b351 n352 n353,r354=.tuple #[.agg (gq1 b341 b342 n343 n344 a345 l345 c345 a346 l346 c346 a347 l347 c347 n348 b349 b350 b351),.int .i64 n352,.int .i64 n353]∧
 sq11 w3.heap.size w249 (.bool b341) (.bool b342) (.int .i64 n343) (.int .i64 n344) (.slice a345 l345 c345) (.slice a346 l346 c346) (.slice a347 l347 c347) (.int .i64 n348) (.bool b349) (.bool b350) (.bool b351) (fun w260=>J15 [.pointer (some (Addr.mk w3.heap.size 0 none)),.int .i64 n352,.int .i64 n353] w260))))∧
 (let w261:=w3.alloc (.cells zSq 151);
 ∃ (v355:Value),w261.cell? (Addr.add q268 12)=some v355∧
 CQ 145 [.agg (gq1 b269 b270 n271 n272 a273 l273 c273 a274 l274 c274 a275 l275 c275 n276 b277 b278 b279),v355,.slice a325 l325 c325] w261 (fun r369 w262=>
 ∃ b356 b357 n358 n359 a360 l360 c360 a361 l361 c361 a362 l362 c362 n363 b364 b365 b366 n367 n368,r369=.tuple #[.agg (gq1 b356 b357 n358 n359 a360 l360 c360 a361 l361 c361 a362 l362 c362 n363 b364 b365 b366),.int .i64 n367,.int .i64 n368]∧
 sq11 w3.heap.size w262 (.bool b356) (.bool b357) (.int .i64 n358) (.int .i64 n359) (.slice a360 l360 c360) (.slice a361 l361 c361) (.slice a362 l362 c362) (.int .i64 n363) (.bool b364) (.bool b365) (.bool b366) (fun w273=>J15 [.pointer (some (Addr.mk w3.heap.size 0 none)),.int .i64 n367,.int .i64 n368] w273))))∧
 (let w274:=w3.alloc (.cells zSq 151);
 (∃ (v370:Value),w274.cell? (Addr.add q268 12)=some v370∧
 ∃ a371 l371 c371,w274.cell? q13=some (.slice a371 l371 c371)∧
 CQ 145 [.agg (gq1 b269 b270 n271 n272 a273 l273 c273 a274 l274 c274 a275 l275 c275 n276 b277 b278 b279),v370,.slice a371 l371 c371] w274 (fun r385 w275=>
 ∃ b372 b373 n374 n375 a376 l376 c376 a377 l377 c377 a378 l378 c378 n379 b380 b381 b382 n383 n384,r385=.tuple #[.agg (gq1 b372 b373 n374 n375 a376 l376 c376 a377 l377 c377 a378 l378 c378 n379 b380 b381 b382),.int .i64 n383,.int .i64 n384]∧
 sq11 w3.heap.size w275 (.bool b372) (.bool b373) (.int .i64 n374) (.int .i64 n375) (.slice a376 l376 c376) (.slice a377 l377 c377) (.slice a378 l378 c378) (.int .i64 n379) (.bool b380) (.bool b381) (.bool b382) (fun w286=>J15 [.pointer (some (Addr.mk w3.heap.size 0 none)),.int .i64 n383,.int .i64 n384] w286)))∧
 (∃ a386 l386 c386,w274.cell? q13=some (.slice a386 l386 c386)∧
 ∃ (v387:Value),w274.cell? (Addr.add q268 12)=some v387∧
 CQ 145 [.agg (gq1 b269 b270 n271 n272 a273 l273 c273 a274 l274 c274 a275 l275 c275 n276 b277 b278 b279),v387,.slice a386 l386 c386] w274 (fun r401 w287=>
 ∃ b388 b389 n390 n391 a392 l392 c392 a393 l393 c393 a394 l394 c394 n395 b396 b397 b398 n399 n400,r401=.tuple #[.agg (gq1 b388 b389 n390 n391 a392 l392 c392 a393 l393 c393 a394 l394 c394 n395 b396 b397 b398),.int .i64 n399,.int .i64 n400]∧
 sq11 w3.heap.size w287 (.bool b388) (.bool b389) (.int .i64 n390) (.int .i64 n391) (.slice a392 l392 c392) (.slice a393 l393 c393) (.slice a394 l394 c394) (.int .i64 n395) (.bool b396) (.bool b397) (.bool b398) (fun w298=>J15 [.pointer (some (Addr.mk w3.heap.size 0 none)),.int .i64 n399,.int .i64 n400] w298)))))∧
 (∃ (v402:Value),w3.cell? (Addr.add q268 12)=some v402∧
 (lq1 w3 w.heap.size fun b403 b404 n405 n406 a407 l407 c407 a408 l408 c408 a409 l409 c409 n410 b411 b412 b413=>(∃ a414 l414 c414,w3.cell? q13=some (.slice a414 l414 c414)∧
 (CQ 145 [.agg (gq1 b403 b404 n405 n406 a407 l407 c407 a408 l408 c408 a409 l409 c409 n410 b411 b412 b413),v402,.slice a414 l414 c414] w3 (fun r428 w299=>
 ∃ b415 b416 n417 n418 a419 l419 c419 a420 l420 c420 a421 l421 c421 n422 b423 b424 b425 n426 n427,r428=.tuple #[.agg (gq1 b415 b416 n417 n418 a419 l419 c419 a420 l420 c420 a421 l421 c421 n422 b423 b424 b425),.int .i64 n426,.int .i64 n427]∧
 let w300:=w299.alloc (.cells zSq 151);
 sq11 w299.heap.size w300 (.bool b415) (.bool b416) (.int .i64 n417) (.int .i64 n418) (.slice a419 l419 c419) (.slice a420 l420 c420) (.slice a421 l421 c421) (.int .i64 n422) (.bool b423) (.bool b424) (.bool b425) (fun w311=>J15 [.pointer (some (Addr.mk w299.heap.size 0 none)),.int .i64 n426,.int .i64 n427] w311)))∧
 (let w312:=w3.alloc (.cells zSq 151);
 CQ 145 [.agg (gq1 b403 b404 n405 n406 a407 l407 c407 a408 l408 c408 a409 l409 c409 n410 b411 b412 b413),v402,.slice a414 l414 c414] w312 (fun r442 w313=>
 ∃ b429 b430 n431 n432 a433 l433 c433 a434 l434 c434 a435 l435 c435 n436 b437 b438 b439 n440 n441,r442=.tuple #[.agg (gq1 b429 b430 n431 n432 a433 l433 c433 a434 l434 c434 a435 l435 c435 n436 b437 b438 b439),.int .i64 n440,.int .i64 n441]∧
 sq11 w3.heap.size w313 (.bool b429) (.bool b430) (.int .i64 n431) (.int .i64 n432) (.slice a433 l433 c433) (.slice a434 l434 c434) (.slice a435 l435 c435) (.int .i64 n436) (.bool b437) (.bool b438) (.bool b439) (fun w324=>J15 [.pointer (some (Addr.mk w3.heap.size 0 none)),.int .i64 n440,.int .i64 n441] w324))))∧
 (let w325:=w3.alloc (.cells zSq 151);
 ∃ a443 l443 c443,w325.cell? q13=some (.slice a443 l443 c443)∧
 CQ 145 [.agg (gq1 b403 b404 n405 n406 a407 l407 c407 a408 l408 c408 a409 l409 c409 n410 b411 b412 b413),v402,.slice a443 l443 c443] w325 (fun r457 w326=>
 ∃ b444 b445 n446 n447 a448 l448 c448 a449 l449 c449 a450 l450 c450 n451 b452 b453 b454 n455 n456,r457=.tuple #[.agg (gq1 b444 b445 n446 n447 a448 l448 c448 a449 l449 c449 a450 l450 c450 n451 b452 b453 b454),.int .i64 n455,.int .i64 n456]∧
 sq11 w3.heap.size w326 (.bool b444) (.bool b445) (.int .i64 n446) (.int .i64 n447) (.slice a448 l448 c448) (.slice a449 l449 c449) (.slice a450 l450 c450) (.int .i64 n451) (.bool b452) (.bool b453) (.bool b454) (fun w337=>J15 [.pointer (some (Addr.mk w3.heap.size 0 none)),.int .i64 n455,.int .i64 n456] w337))))∧
 (∃ a458 l458 c458,w3.cell? q13=some (.slice a458 l458 c458)∧
 (lq1 w3 w.heap.size fun b459 b460 n461 n462 a463 l463 c463 a464 l464 c464 a465 l465 c465 n466 b467 b468 b469=>(CQ 145 [.agg (gq1 b459 b460 n461 n462 a463 l463 c463 a464 l464 c464 a465 l465 c465 n466 b467 b468 b469),v402,.slice a458 l458 c458] w3 (fun r483 w338=>
 ∃ b470 b471 n472 n473 a474 l474 c474 a475 l475 c475 a476 l476 c476 n477 b478 b479 b480 n481 n482,r483=.tuple #[.agg (gq1 b470 b471 n472 n473 a474 l474 c474 a475 l475 c475 a476 l476 c476 n477 b478 b479 b480),.int .i64 n481,.int .i64 n482]∧
 let w339:=w338.alloc (.cells zSq 151);
 sq11 w338.heap.size w339 (.bool b470) (.bool b471) (.int .i64 n472) (.int .i64 n473) (.slice a474 l474 c474) (.slice a475 l475 c475) (.slice a476 l476 c476) (.int .i64 n477) (.bool b478) (.bool b479) (.bool b480) (fun w350=>J15 [.pointer (some (Addr.mk w338.heap.size 0 none)),.int .i64 n481,.int .i64 n482] w350)))∧
 (let w351:=w3.alloc (.cells zSq 151);
 CQ 145 [.agg (gq1 b459 b460 n461 n462 a463 l463 c463 a464 l464 c464 a465 l465 c465 n466 b467 b468 b469),v402,.slice a458 l458 c458] w351 (fun r497 w352=>
 ∃ b484 b485 n486 n487 a488 l488 c488 a489 l489 c489 a490 l490 c490 n491 b492 b493 b494 n495 n496,r497=.tuple #[.agg (gq1 b484 b485 n486 n487 a488 l488 c488 a489 l489 c489 a490 l490 c490 n491 b492 b493 b494),.int .i64 n495,.int .i64 n496]∧
 sq11 w3.heap.size w352 (.bool b484) (.bool b485) (.int .i64 n486) (.int .i64 n487) (.slice a488 l488 c488) (.slice a489 l489 c489) (.slice a490 l490 c490) (.int .i64 n491) (.bool b492) (.bool b493) (.bool b494) (fun w363=>J15 [.pointer (some (Addr.mk w3.heap.size 0 none)),.int .i64 n495,.int .i64 n496] w363))))∧
 (let w364:=w3.alloc (.cells zSq 151);
 lq1 w364 w.heap.size fun b498 b499 n500 n501 a502 l502 c502 a503 l503 c503 a504 l504 c504 n505 b506 b507 b508=>CQ 145 [.agg (gq1 b498 b499 n500 n501 a502 l502 c502 a503 l503 c503 a504 l504 c504 n505 b506 b507 b508),v402,.slice a458 l458 c458] w364 (fun r522 w365=>
 ∃ b509 b510 n511 n512 a513 l513 c513 a514 l514 c514 a515 l515 c515 n516 b517 b518 b519 n520 n521,r522=.tuple #[.agg (gq1 b509 b510 n511 n512 a513 l513 c513 a514 l514 c514 a515 l515 c515 n516 b517 b518 b519),.int .i64 n520,.int .i64 n521]∧
 sq11 w3.heap.size w365 (.bool b509) (.bool b510) (.int .i64 n511) (.int .i64 n512) (.slice a513 l513 c513) (.slice a514 l514 c514) (.slice a515 l515 c515) (.int .i64 n516) (.bool b517) (.bool b518) (.bool b519) (fun w376=>J15 [.pointer (some (Addr.mk w3.heap.size 0 none)),.int .i64 n520,.int .i64 n521] w376))))∧
 (let w377:=w3.alloc (.cells zSq 151);
 (lq1 w377 w.heap.size fun b523 b524 n525 n526 a527 l527 c527 a528 l528 c528 a529 l529 c529 n530 b531 b532 b533=>∃ a534 l534 c534,w377.cell? q13=some (.slice a534 l534 c534)∧
 CQ 145 [.agg (gq1 b523 b524 n525 n526 a527 l527 c527 a528 l528 c528 a529 l529 c529 n530 b531 b532 b533),v402,.slice a534 l534 c534] w377 (fun r548 w378=>
 ∃ b535 b536 n537 n538 a539 l539 c539 a540 l540 c540 a541 l541 c541 n542 b543 b544 b545 n546 n547,r548=.tuple #[.agg (gq1 b535 b536 n537 n538 a539 l539 c539 a540 l540 c540 a541 l541 c541 n542 b543 b544 b545),.int .i64 n546,.int .i64 n547]∧
 sq11 w3.heap.size w378 (.bool b535) (.bool b536) (.int .i64 n537) (.int .i64 n538) (.slice a539 l539 c539) (.slice a540 l540 c540) (.slice a541 l541 c541) (.int .i64 n542) (.bool b543) (.bool b544) (.bool b545) (fun w389=>J15 [.pointer (some (Addr.mk w3.heap.size 0 none)),.int .i64 n546,.int .i64 n547] w389)))∧
 (∃ a549 l549 c549,w377.cell? q13=some (.slice a549 l549 c549)∧
 lq1 w377 w.heap.size fun b550 b551 n552 n553 a554 l554 c554 a555 l555 c555 a556 l556 c556 n557 b558 b559 b560=>CQ 145 [.agg (gq1 b550 b551 n552 n553 a554 l554 c554 a555 l555 c555 a556 l556 c556 n557 b558 b559 b560),v402,.slice a549 l549 c549] w377 (fun r574 w390=>
 ∃ b561 b562 n563 n564 a565 l565 c565 a566 l566 c566 a567 l567 c567 n568 b569 b570 b571 n572 n573,r574=.tuple #[.agg (gq1 b561 b562 n563 n564 a565 l565 c565 a566 l566 c566 a567 l567 c567 n568 b569 b570 b571),.int .i64 n572,.int .i64 n573]∧
 sq11 w3.heap.size w390 (.bool b561) (.bool b562) (.int .i64 n563) (.int .i64 n564) (.slice a565 l565 c565) (.slice a566 l566 c566) (.slice a567 l567 c567) (.int .i64 n568) (.bool b569) (.bool b570) (.bool b571) (fun w401=>J15 [.pointer (some (Addr.mk w3.heap.size 0 none)),.int .i64 n572,.int .i64 n573] w401)))))∧
 (∃ a575 l575 c575,w3.cell? q13=some (.slice a575 l575 c575)∧
 (lq1 w3 w.heap.size fun b576 b577 n578 n579 a580 l580 c580 a581 l581 c581 a582 l582 c582 n583 b584 b585 b586=>(∃ (v587:Value),w3.cell? (Addr.add q268 12)=some v587∧
 (CQ 145 [.agg (gq1 b576 b577 n578 n579 a580 l580 c580 a581 l581 c581 a582 l582 c582 n583 b584 b585 b586),v587,.slice a575 l575 c575] w3 (fun r601 w402=>
 ∃ b588 b589 n590 n591 a592 l592 c592 a593 l593 c593 a594 l594 c594 n595 b596 b597 b598 n599 n600,r601=.tuple #[.agg (gq1 b588 b589 n590 n591 a592 l592 c592 a593 l593 c593 a594 l594 c594 n595 b596 b597 b598),.int .i64 n599,.int .i64 n600]∧
 let w403:=w402.alloc (.cells zSq 151);
 sq11 w402.heap.size w403 (.bool b588) (.bool b589) (.int .i64 n590) (.int .i64 n591) (.slice a592 l592 c592) (.slice a593 l593 c593) (.slice a594 l594 c594) (.int .i64 n595) (.bool b596) (.bool b597) (.bool b598) (fun w414=>J15 [.pointer (some (Addr.mk w402.heap.size 0 none)),.int .i64 n599,.int .i64 n600] w414)))∧
 (let w415:=w3.alloc (.cells zSq 151);
 CQ 145 [.agg (gq1 b576 b577 n578 n579 a580 l580 c580 a581 l581 c581 a582 l582 c582 n583 b584 b585 b586),v587,.slice a575 l575 c575] w415 (fun r615 w416=>
 ∃ b602 b603 n604 n605 a606 l606 c606 a607 l607 c607 a608 l608 c608 n609 b610 b611 b612 n613 n614,r615=.tuple #[.agg (gq1 b602 b603 n604 n605 a606 l606 c606 a607 l607 c607 a608 l608 c608 n609 b610 b611 b612),.int .i64 n613,.int .i64 n614]∧
 sq11 w3.heap.size w416 (.bool b602) (.bool b603) (.int .i64 n604) (.int .i64 n605) (.slice a606 l606 c606) (.slice a607 l607 c607) (.slice a608 l608 c608) (.int .i64 n609) (.bool b610) (.bool b611) (.bool b612) (fun w427=>J15 [.pointer (some (Addr.mk w3.heap.size 0 none)),.int .i64 n613,.int .i64 n614] w427))))∧
 (let w428:=w3.alloc (.cells zSq 151);
 ∃ (v616:Value),w428.cell? (Addr.add q268 12)=some v616∧
 CQ 145 [.agg (gq1 b576 b577 n578 n579 a580 l580 c580 a581 l581 c581 a582 l582 c582 n583 b584 b585 b586),v616,.slice a575 l575 c575] w428 (fun r630 w429=>
 ∃ b617 b618 n619 n620 a621 l621 c621 a622 l622 c622 a623 l623 c623 n624 b625 b626 b627 n628 n629,r630=.tuple #[.agg (gq1 b617 b618 n619 n620 a621 l621 c621 a622 l622 c622 a623 l623 c623 n624 b625 b626 b627),.int .i64 n628,.int .i64 n629]∧
 sq11 w3.heap.size w429 (.bool b617) (.bool b618) (.int .i64 n619) (.int .i64 n620) (.slice a621 l621 c621) (.slice a622 l622 c622) (.slice a623 l623 c623) (.int .i64 n624) (.bool b625) (.bool b626) (.bool b627) (fun w440=>J15 [.pointer (some (Addr.mk w3.heap.size 0 none)),.int .i64 n628,.int .i64 n629] w440))))∧
 (∃ (v631:Value),w3.cell? (Addr.add q268 12)=some v631∧
 (lq1 w3 w.heap.size fun b632 b633 n634 n635 a636 l636 c636 a637 l637 c637 a638 l638 c638 n639 b640 b641 b642=>(CQ 145 [.agg (gq1 b632 b633 n634 n635 a636 l636 c636 a637 l637 c637 a638 l638 c638 n639 b640 b641 b642),v631,.slice a575 l575 c575] w3 (fun r656 w441=>
 ∃ b643 b644 n645 n646 a647 l647 c647 a648 l648 c648 a649 l649 c649 n650 b651 b652 b653 n654 n655,r656=.tuple #[.agg (gq1 b643 b644 n645 n646 a647 l647 c647 a648 l648 c648 a649 l649 c649 n650 b651 b652 b653),.int .i64 n654,.int .i64 n655]∧
 let w442:=w441.alloc (.cells zSq 151);
 sq11 w441.heap.size w442 (.bool b643) (.bool b644) (.int .i64 n645) (.int .i64 n646) (.slice a647 l647 c647) (.slice a648 l648 c648) (.slice a649 l649 c649) (.int .i64 n650) (.bool b651) (.bool b652) (.bool b653) (fun w453=>J15 [.pointer (some (Addr.mk w441.heap.size 0 none)),.int .i64 n654,.int .i64 n655] w453)))∧
 (let w454:=w3.alloc (.cells zSq 151);
 CQ 145 [.agg (gq1 b632 b633 n634 n635 a636 l636 c636 a637 l637 c637 a638 l638 c638 n639 b640 b641 b642),v631,.slice a575 l575 c575] w454 (fun r670 w455=>
 ∃ b657 b658 n659 n660 a661 l661 c661 a662 l662 c662 a663 l663 c663 n664 b665 b666 b667 n668 n669,r670=.tuple #[.agg (gq1 b657 b658 n659 n660 a661 l661 c661 a662 l662 c662 a663 l663 c663 n664 b665 b666 b667),.int .i64 n668,.int .i64 n669]∧
 sq11 w3.heap.size w455 (.bool b657) (.bool b658) (.int .i64 n659) (.int .i64 n660) (.slice a661 l661 c661) (.slice a662 l662 c662) (.slice a663 l663 c663) (.int .i64 n664) (.bool b665) (.bool b666) (.bool b667) (fun w466=>J15 [.pointer (some (Addr.mk w3.heap.size 0 none)),.int .i64 n668,.int .i64 n669] w466))))∧
 (let w467:=w3.alloc (.cells zSq 151);
 lq1 w467 w.heap.size fun b671 b672 n673 n674 a675 l675 c675 a676 l676 c676 a677 l677 c677 n678 b679 b680 b681=>CQ 145 [.agg (gq1 b671 b672 n673 n674 a675 l675 c675 a676 l676 c676 a677 l677 c677 n678 b679 b680 b681),v631,.slice a575 l575 c575] w467 (fun r695 w468=>
 ∃ b682 b683 n684 n685 a686 l686 c686 a687 l687 c687 a688 l688 c688 n689 b690 b691 b692 n693 n694,r695=.tuple #[.agg (gq1 b682 b683 n684 n685 a686 l686 c686 a687 l687 c687 a688 l688 c688 n689 b690 b691 b692),.int .i64 n693,.int .i64 n694]∧
 sq11 w3.heap.size w468 (.bool b682) (.bool b683) (.int .i64 n684) (.int .i64 n685) (.slice a686 l686 c686) (.slice a687 l687 c687) (.slice a688 l688 c688) (.int .i64 n689) (.bool b690) (.bool b691) (.bool b692) (fun w479=>J15 [.pointer (some (Addr.mk w3.heap.size 0 none)),.int .i64 n693,.int .i64 n694] w479))))∧
 (let w480:=w3.alloc (.cells zSq 151);
 (lq1 w480 w.heap.size fun b696 b697 n698 n699 a700 l700 c700 a701 l701 c701 a702 l702 c702 n703 b704 b705 b706=>∃ (v707:Value),w480.cell? (Addr.add q268 12)=some v707∧
 CQ 145 [.agg (gq1 b696 b697 n698 n699 a700 l700 c700 a701 l701 c701 a702 l702 c702 n703 b704 b705 b706),v707,.slice a575 l575 c575] w480 (fun r721 w481=>
 ∃ b708 b709 n710 n711 a712 l712 c712 a713 l713 c713 a714 l714 c714 n715 b716 b717 b718 n719 n720,r721=.tuple #[.agg (gq1 b708 b709 n710 n711 a712 l712 c712 a713 l713 c713 a714 l714 c714 n715 b716 b717 b718),.int .i64 n719,.int .i64 n720]∧
 sq11 w3.heap.size w481 (.bool b708) (.bool b709) (.int .i64 n710) (.int .i64 n711) (.slice a712 l712 c712) (.slice a713 l713 c713) (.slice a714 l714 c714) (.int .i64 n715) (.bool b716) (.bool b717) (.bool b718) (fun w492=>J15 [.pointer (some (Addr.mk w3.heap.size 0 none)),.int .i64 n719,.int .i64 n720] w492)))∧
 (∃ (v722:Value),w480.cell? (Addr.add q268 12)=some v722∧
 lq1 w480 w.heap.size fun b723 b724 n725 n726 a727 l727 c727 a728 l728 c728 a729 l729 c729 n730 b731 b732 b733=>CQ 145 [.agg (gq1 b723 b724 n725 n726 a727 l727 c727 a728 l728 c728 a729 l729 c729 n730 b731 b732 b733),v722,.slice a575 l575 c575] w480 (fun r747 w493=>
 ∃ b734 b735 n736 n737 a738 l738 c738 a739 l739 c739 a740 l740 c740 n741 b742 b743 b744 n745 n746,r747=.tuple #[.agg (gq1 b734 b735 n736 n737 a738 l738 c738 a739 l739 c739 a740 l740 c740 n741 b742 b743 b744),.int .i64 n745,.int .i64 n746]∧
 sq11 w3.heap.size w493 (.bool b734) (.bool b735) (.int .i64 n736) (.int .i64 n737) (.slice a738 l738 c738) (.slice a739 l739 c739) (.slice a740 l740 c740) (.int .i64 n741) (.bool b742) (.bool b743) (.bool b744) (fun w504=>J15 [.pointer (some (Addr.mk w3.heap.size 0 none)),.int .i64 n745,.int .i64 n746] w504)))))∧
 (let w505:=w3.alloc (.cells zSq 151);
 (lq1 w505 w.heap.size fun b748 b749 n750 n751 a752 l752 c752 a753 l753 c753 a754 l754 c754 n755 b756 b757 b758=>(∃ (v759:Value),w505.cell? (Addr.add q268 12)=some v759∧
 ∃ a760 l760 c760,w505.cell? q13=some (.slice a760 l760 c760)∧
 CQ 145 [.agg (gq1 b748 b749 n750 n751 a752 l752 c752 a753 l753 c753 a754 l754 c754 n755 b756 b757 b758),v759,.slice a760 l760 c760] w505 (fun r774 w506=>
 ∃ b761 b762 n763 n764 a765 l765 c765 a766 l766 c766 a767 l767 c767 n768 b769 b770 b771 n772 n773,r774=.tuple #[.agg (gq1 b761 b762 n763 n764 a765 l765 c765 a766 l766 c766 a767 l767 c767 n768 b769 b770 b771),.int .i64 n772,.int .i64 n773]∧
 sq11 w3.heap.size w506 (.bool b761) (.bool b762) (.int .i64 n763) (.int .i64 n764) (.slice a765 l765 c765) (.slice a766 l766 c766) (.slice a767 l767 c767) (.int .i64 n768) (.bool b769) (.bool b770) (.bool b771) (fun w517=>J15 [.pointer (some (Addr.mk w3.heap.size 0 none)),.int .i64 n772,.int .i64 n773] w517)))∧
 (∃ a775 l775 c775,w505.cell? q13=some (.slice a775 l775 c775)∧
 ∃ (v776:Value),w505.cell? (Addr.add q268 12)=some v776∧
 CQ 145 [.agg (gq1 b748 b749 n750 n751 a752 l752 c752 a753 l753 c753 a754 l754 c754 n755 b756 b757 b758),v776,.slice a775 l775 c775] w505 (fun r790 w518=>
 ∃ b777 b778 n779 n780 a781 l781 c781 a782 l782 c782 a783 l783 c783 n784 b785 b786 b787 n788 n789,r790=.tuple #[.agg (gq1 b777 b778 n779 n780 a781 l781 c781 a782 l782 c782 a783 l783 c783 n784 b785 b786 b787),.int .i64 n788,.int .i64 n789]∧
 sq11 w3.heap.size w518 (.bool b777) (.bool b778) (.int .i64 n779) (.int .i64 n780) (.slice a781 l781 c781) (.slice a782 l782 c782) (.slice a783 l783 c783) (.int .i64 n784) (.bool b785) (.bool b786) (.bool b787) (fun w529=>J15 [.pointer (some (Addr.mk w3.heap.size 0 none)),.int .i64 n788,.int .i64 n789] w529))))∧
 (∃ (v791:Value),w505.cell? (Addr.add q268 12)=some v791∧
 (lq1 w505 w.heap.size fun b792 b793 n794 n795 a796 l796 c796 a797 l797 c797 a798 l798 c798 n799 b800 b801 b802=>∃ a803 l803 c803,w505.cell? q13=some (.slice a803 l803 c803)∧
 CQ 145 [.agg (gq1 b792 b793 n794 n795 a796 l796 c796 a797 l797 c797 a798 l798 c798 n799 b800 b801 b802),v791,.slice a803 l803 c803] w505 (fun r817 w530=>
 ∃ b804 b805 n806 n807 a808 l808 c808 a809 l809 c809 a810 l810 c810 n811 b812 b813 b814 n815 n816,r817=.tuple #[.agg (gq1 b804 b805 n806 n807 a808 l808 c808 a809 l809 c809 a810 l810 c810 n811 b812 b813 b814),.int .i64 n815,.int .i64 n816]∧
 sq11 w3.heap.size w530 (.bool b804) (.bool b805) (.int .i64 n806) (.int .i64 n807) (.slice a808 l808 c808) (.slice a809 l809 c809) (.slice a810 l810 c810) (.int .i64 n811) (.bool b812) (.bool b813) (.bool b814) (fun w541=>J15 [.pointer (some (Addr.mk w3.heap.size 0 none)),.int .i64 n815,.int .i64 n816] w541)))∧
 (∃ a818 l818 c818,w505.cell? q13=some (.slice a818 l818 c818)∧
 lq1 w505 w.heap.size fun b819 b820 n821 n822 a823 l823 c823 a824 l824 c824 a825 l825 c825 n826 b827 b828 b829=>CQ 145 [.agg (gq1 b819 b820 n821 n822 a823 l823 c823 a824 l824 c824 a825 l825 c825 n826 b827 b828 b829),v791,.slice a818 l818 c818] w505 (fun r843 w542=>
 ∃ b830 b831 n832 n833 a834 l834 c834 a835 l835 c835 a836 l836 c836 n837 b838 b839 b840 n841 n842,r843=.tuple #[.agg (gq1 b830 b831 n832 n833 a834 l834 c834 a835 l835 c835 a836 l836 c836 n837 b838 b839 b840),.int .i64 n841,.int .i64 n842]∧
 sq11 w3.heap.size w542 (.bool b830) (.bool b831) (.int .i64 n832) (.int .i64 n833) (.slice a834 l834 c834) (.slice a835 l835 c835) (.slice a836 l836 c836) (.int .i64 n837) (.bool b838) (.bool b839) (.bool b840) (fun w553=>J15 [.pointer (some (Addr.mk w3.heap.size 0 none)),.int .i64 n841,.int .i64 n842] w553))))∧
 (∃ a844 l844 c844,w505.cell? q13=some (.slice a844 l844 c844)∧
 (lq1 w505 w.heap.size fun b845 b846 n847 n848 a849 l849 c849 a850 l850 c850 a851 l851 c851 n852 b853 b854 b855=>∃ (v856:Value),w505.cell? (Addr.add q268 12)=some v856∧
 CQ 145 [.agg (gq1 b845 b846 n847 n848 a849 l849 c849 a850 l850 c850 a851 l851 c851 n852 b853 b854 b855),v856,.slice a844 l844 c844] w505 (fun r870 w554=>
 ∃ b857 b858 n859 n860 a861 l861 c861 a862 l862 c862 a863 l863 c863 n864 b865 b866 b867 n868 n869,r870=.tuple #[.agg (gq1 b857 b858 n859 n860 a861 l861 c861 a862 l862 c862 a863 l863 c863 n864 b865 b866 b867),.int .i64 n868,.int .i64 n869]∧
 sq11 w3.heap.size w554 (.bool b857) (.bool b858) (.int .i64 n859) (.int .i64 n860) (.slice a861 l861 c861) (.slice a862 l862 c862) (.slice a863 l863 c863) (.int .i64 n864) (.bool b865) (.bool b866) (.bool b867) (fun w565=>J15 [.pointer (some (Addr.mk w3.heap.size 0 none)),.int .i64 n868,.int .i64 n869] w565)))∧
 (∃ (v871:Value),w505.cell? (Addr.add q268 12)=some v871∧
 lq1 w505 w.heap.size fun b872 b873 n874 n875 a876 l876 c876 a877 l877 c877 a878 l878 c878 n879 b880 b881 b882=>CQ 145 [.agg (gq1 b872 b873 n874 n875 a876 l876 c876 a877 l877 c877 a878 l878 c878 n879 b880 b881 b882),v871,.slice a844 l844 c844] w505 (fun r896 w566=>
 ∃ b883 b884 n885 n886 a887 l887 c887 a888 l888 c888 a889 l889 c889 n890 b891 b892 b893 n894 n895,r896=.tuple #[.agg (gq1 b883 b884 n885 n886 a887 l887 c887 a888 l888 c888 a889 l889 c889 n890 b891 b892 b893),.int .i64 n894,.int .i64 n895]∧
 sq11 w3.heap.size w566 (.bool b883) (.bool b884) (.int .i64 n885) (.int .i64 n886) (.slice a887 l887 c887) (.slice a888 l888 c888) (.slice a889 l889 c889) (.int .i64 n890) (.bool b891) (.bool b892) (.bool b893) (fun w577=>J15 [.pointer (some (Addr.mk w3.heap.size 0 none)),.int .i64 n894,.int .i64 n895] w577)))))))∧
 (∃ a897 l897 c897,w3.cell? q13=some (.slice a897 l897 c897)∧
 (lq1 w3 w.heap.size fun b898 b899 n900 n901 a902 l902 c902 a903 l903 c903 a904 l904 c904 n905 b906 b907 b908=>(∃ p909,w3.cell? q12=some (.pointer p909)∧
 nn p909 (fun q910=>
 (∃ (v911:Value),w3.cell? (Addr.add q910 12)=some v911∧
 (CQ 145 [.agg (gq1 b898 b899 n900 n901 a902 l902 c902 a903 l903 c903 a904 l904 c904 n905 b906 b907 b908),v911,.slice a897 l897 c897] w3 (fun r925 w578=>
 ∃ b912 b913 n914 n915 a916 l916 c916 a917 l917 c917 a918 l918 c918 n919 b920 b921 b922 n923 n924,r925=.tuple #[.agg (gq1 b912 b913 n914 n915 a916 l916 c916 a917 l917 c917 a918 l918 c918 n919 b920 b921 b922),.int .i64 n923,.int .i64 n924]∧
 let w579:=w578.alloc (.cells zSq 151);
 sq11 w578.heap.size w579 (.bool b912) (.bool b913) (.int .i64 n914) (.int .i64 n915) (.slice a916 l916 c916) (.slice a917 l917 c917) (.slice a918 l918 c918) (.int .i64 n919) (.bool b920) (.bool b921) (.bool b922) (fun w590=>J15 [.pointer (some (Addr.mk w578.heap.size 0 none)),.int .i64 n923,.int .i64 n924] w590)))∧
 (let w591:=w3.alloc (.cells zSq 151);
 CQ 145 [.agg (gq1 b898 b899 n900 n901 a902 l902 c902 a903 l903 c903 a904 l904 c904 n905 b906 b907 b908),v911,.slice a897 l897 c897] w591 (fun r939 w592=>
 ∃ b926 b927 n928 n929 a930 l930 c930 a931 l931 c931 a932 l932 c932 n933 b934 b935 b936 n937 n938,r939=.tuple #[.agg (gq1 b926 b927 n928 n929 a930 l930 c930 a931 l931 c931 a932 l932 c932 n933 b934 b935 b936),.int .i64 n937,.int .i64 n938]∧
 sq11 w3.heap.size w592 (.bool b926) (.bool b927) (.int .i64 n928) (.int .i64 n929) (.slice a930 l930 c930) (.slice a931 l931 c931) (.slice a932 l932 c932) (.int .i64 n933) (.bool b934) (.bool b935) (.bool b936) (fun w603=>J15 [.pointer (some (Addr.mk w3.heap.size 0 none)),.int .i64 n937,.int .i64 n938] w603))))∧
 (let w604:=w3.alloc (.cells zSq 151);
 ∃ (v940:Value),w604.cell? (Addr.add q910 12)=some v940∧
 CQ 145 [.agg (gq1 b898 b899 n900 n901 a902 l902 c902 a903 l903 c903 a904 l904 c904 n905 b906 b907 b908),v940,.slice a897 l897 c897] w604 (fun r954 w605=>
 ∃ b941 b942 n943 n944 a945 l945 c945 a946 l946 c946 a947 l947 c947 n948 b949 b950 b951 n952 n953,r954=.tuple #[.agg (gq1 b941 b942 n943 n944 a945 l945 c945 a946 l946 c946 a947 l947 c947 n948 b949 b950 b951),.int .i64 n952,.int .i64 n953]∧
 sq11 w3.heap.size w605 (.bool b941) (.bool b942) (.int .i64 n943) (.int .i64 n944) (.slice a945 l945 c945) (.slice a946 l946 c946) (.slice a947 l947 c947) (.int .i64 n948) (.bool b949) (.bool b950) (.bool b951) (fun w616=>J15 [.pointer (some (Addr.mk w3.heap.size 0 none)),.int .i64 n952,.int .i64 n953] w616)))))∧
 (let w617:=w3.alloc (.cells zSq 151);
 ∃ p955,w617.cell? q12=some (.pointer p955)∧
 nn p955 (fun q956=>
 ∃ (v957:Value),w617.cell? (Addr.add q956 12)=some v957∧
 CQ 145 [.agg (gq1 b898 b899 n900 n901 a902 l902 c902 a903 l903 c903 a904 l904 c904 n905 b906 b907 b908),v957,.slice a897 l897 c897] w617 (fun r971 w618=>
 ∃ b958 b959 n960 n961 a962 l962 c962 a963 l963 c963 a964 l964 c964 n965 b966 b967 b968 n969 n970,r971=.tuple #[.agg (gq1 b958 b959 n960 n961 a962 l962 c962 a963 l963 c963 a964 l964 c964 n965 b966 b967 b968),.int .i64 n969,.int .i64 n970]∧
 sq11 w3.heap.size w618 (.bool b958) (.bool b959) (.int .i64 n960) (.int .i64 n961) (.slice a962 l962 c962) (.slice a963 l963 c963) (.slice a964 l964 c964) (.int .i64 n965) (.bool b966) (.bool b967) (.bool b968) (fun w629=>J15 [.pointer (some (Addr.mk w3.heap.size 0 none)),.int .i64 n969,.int .i64 n970] w629)))))∧
 (∃ p972,w3.cell? q12=some (.pointer p972)∧
 nn p972 (fun q973=>
 (lq1 w3 w.heap.size fun b974 b975 n976 n977 a978 l978 c978 a979 l979 c979 a980 l980 c980 n981 b982 b983 b984=>(∃ (v985:Value),w3.cell? (Addr.add q973 12)=some v985∧
 (CQ 145 [.agg (gq1 b974 b975 n976 n977 a978 l978 c978 a979 l979 c979 a980 l980 c980 n981 b982 b983 b984),v985,.slice a897 l897 c897] w3 (fun r999 w630=>
 ∃ b986 b987 n988 n989 a990 l990 c990 a991 l991 c991 a992 l992 c992 n993 b994 b995 b996 n997 n998,r999=.tuple #[.agg (gq1 b986 b987 n988 n989 a990 l990 c990 a991 l991 c991 a992 l992 c992 n993 b994 b995 b996),.int .i64 n997,.int .i64 n998]∧
 let w631:=w630.alloc (.cells zSq 151);
 sq11 w630.heap.size w631 (.bool b986) (.bool b987) (.int .i64 n988) (.int .i64 n989) (.slice a990 l990 c990) (.slice a991 l991 c991) (.slice a992 l992 c992) (.int .i64 n993) (.bool b994) (.bool b995) (.bool b996) (fun w642=>J15 [.pointer (some (Addr.mk w630.heap.size 0 none)),.int .i64 n997,.int .i64 n998] w642)))∧
 (let w643:=w3.alloc (.cells zSq 151);
 CQ 145 [.agg (gq1 b974 b975 n976 n977 a978 l978 c978 a979 l979 c979 a980 l980 c980 n981 b982 b983 b984),v985,.slice a897 l897 c897] w643 (fun r1013 w644=>
 ∃ b1000 b1001 n1002 n1003 a1004 l1004 c1004 a1005 l1005 c1005 a1006 l1006 c1006 n1007 b1008 b1009 b1010 n1011 n1012,r1013=.tuple #[.agg (gq1 b1000 b1001 n1002 n1003 a1004 l1004 c1004 a1005 l1005 c1005 a1006 l1006 c1006 n1007 b1008 b1009 b1010),.int .i64 n1011,.int .i64 n1012]∧
 sq11 w3.heap.size w644 (.bool b1000) (.bool b1001) (.int .i64 n1002) (.int .i64 n1003) (.slice a1004 l1004 c1004) (.slice a1005 l1005 c1005) (.slice a1006 l1006 c1006) (.int .i64 n1007) (.bool b1008) (.bool b1009) (.bool b1010) (fun w655=>J15 [.pointer (some (Addr.mk w3.heap.size 0 none)),.int .i64 n1011,.int .i64 n1012] w655))))∧
 (let w656:=w3.alloc (.cells zSq 151);
 ∃ (v1014:Value),w656.cell? (Addr.add q973 12)=some v1014∧
 CQ 145 [.agg (gq1 b974 b975 n976 n977 a978 l978 c978 a979 l979 c979 a980 l980 c980 n981 b982 b983 b984),v1014,.slice a897 l897 c897] w656 (fun r1028 w657=>
 ∃ b1015 b1016 n1017 n1018 a1019 l1019 c1019 a1020 l1020 c1020 a1021 l1021 c1021 n1022 b1023 b1024 b1025 n1026 n1027,r1028=.tuple #[.agg (gq1 b1015 b1016 n1017 n1018 a1019 l1019 c1019 a1020 l1020 c1020 a1021 l1021 c1021 n1022 b1023 b1024 b1025),.int .i64 n1026,.int .i64 n1027]∧
 sq11 w3.heap.size w657 (.bool b1015) (.bool b1016) (.int .i64 n1017) (.int .i64 n1018) (.slice a1019 l1019 c1019) (.slice a1020 l1020 c1020) (.slice a1021 l1021 c1021) (.int .i64 n1022) (.bool b1023) (.bool b1024) (.bool b1025) (fun w668=>J15 [.pointer (some (Addr.mk w3.heap.size 0 none)),.int .i64 n1026,.int .i64 n1027] w668))))∧
 (∃ (v1029:Value),w3.cell? (Addr.add q973 12)=some v1029∧
 (lq1 w3 w.heap.size fun b1030 b1031 n1032 n1033 a1034 l1034 c1034 a1035 l1035 c1035 a1036 l1036 c1036 n1037 b1038 b1039 b1040=>(CQ 145 [.agg (gq1 b1030 b1031 n1032 n1033 a1034 l1034 c1034 a1035 l1035 c1035 a1036 l1036 c1036 n1037 b1038 b1039 b1040),v1029,.slice a897 l897 c897] w3 (fun r1054 w669=>
 ∃ b1041 b1042 n1043 n1044 a1045 l1045 c1045 a1046 l1046 c1046 a1047 l1047 c1047 n1048 b1049 b1050 b1051 n1052 n1053,r1054=.tuple #[.agg (gq1 b1041 b1042 n1043 n1044 a1045 l1045 c1045 a1046 l1046 c1046 a1047 l1047 c1047 n1048 b1049 b1050 b1051),.int .i64 n1052,.int .i64 n1053]∧
 let w670:=w669.alloc (.cells zSq 151);
 sq11 w669.heap.size w670 (.bool b1041) (.bool b1042) (.int .i64 n1043) (.int .i64 n1044) (.slice a1045 l1045 c1045) (.slice a1046 l1046 c1046) (.slice a1047 l1047 c1047) (.int .i64 n1048) (.bool b1049) (.bool b1050) (.bool b1051) (fun w681=>J15 [.pointer (some (Addr.mk w669.heap.size 0 none)),.int .i64 n1052,.int .i64 n1053] w681)))∧
 (let w682:=w3.alloc (.cells zSq 151);
 CQ 145 [.agg (gq1 b1030 b1031 n1032 n1033 a1034 l1034 c1034 a1035 l1035 c1035 a1036 l1036 c1036 n1037 b1038 b1039 b1040),v1029,.slice a897 l897 c897] w682 (fun r1068 w683=>
 ∃ b1055 b1056 n1057 n1058 a1059 l1059 c1059 a1060 l1060 c1060 a1061 l1061 c1061 n1062 b1063 b1064 b1065 n1066 n1067,r1068=.tuple #[.agg (gq1 b1055 b1056 n1057 n1058 a1059 l1059 c1059 a1060 l1060 c1060 a1061 l1061 c1061 n1062 b1063 b1064 b1065),.int .i64 n1066,.int .i64 n1067]∧
 sq11 w3.heap.size w683 (.bool b1055) (.bool b1056) (.int .i64 n1057) (.int .i64 n1058) (.slice a1059 l1059 c1059) (.slice a1060 l1060 c1060) (.slice a1061 l1061 c1061) (.int .i64 n1062) (.bool b1063) (.bool b1064) (.bool b1065) (fun w694=>J15 [.pointer (some (Addr.mk w3.heap.size 0 none)),.int .i64 n1066,.int .i64 n1067] w694))))∧
 (let w695:=w3.alloc (.cells zSq 151);
 lq1 w695 w.heap.size fun b1069 b1070 n1071 n1072 a1073 l1073 c1073 a1074 l1074 c1074 a1075 l1075 c1075 n1076 b1077 b1078 b1079=>CQ 145 [.agg (gq1 b1069 b1070 n1071 n1072 a1073 l1073 c1073 a1074 l1074 c1074 a1075 l1075 c1075 n1076 b1077 b1078 b1079),v1029,.slice a897 l897 c897] w695 (fun r1093 w696=>
 ∃ b1080 b1081 n1082 n1083 a1084 l1084 c1084 a1085 l1085 c1085 a1086 l1086 c1086 n1087 b1088 b1089 b1090 n1091 n1092,r1093=.tuple #[.agg (gq1 b1080 b1081 n1082 n1083 a1084 l1084 c1084 a1085 l1085 c1085 a1086 l1086 c1086 n1087 b1088 b1089 b1090),.int .i64 n1091,.int .i64 n1092]∧
 sq11 w3.heap.size w696 (.bool b1080) (.bool b1081) (.int .i64 n1082) (.int .i64 n1083) (.slice a1084 l1084 c1084) (.slice a1085 l1085 c1085) (.slice a1086 l1086 c1086) (.int .i64 n1087) (.bool b1088) (.bool b1089) (.bool b1090) (fun w707=>J15 [.pointer (some (Addr.mk w3.heap.size 0 none)),.int .i64 n1091,.int .i64 n1092] w707))))∧
 (let w708:=w3.alloc (.cells zSq 151);
 (lq1 w708 w.heap.size fun b1094 b1095 n1096 n1097 a1098 l1098 c1098 a1099 l1099 c1099 a1100 l1100 c1100 n1101 b1102 b1103 b1104=>∃ (v1105:Value),w708.cell? (Addr.add q973 12)=some v1105∧
 CQ 145 [.agg (gq1 b1094 b1095 n1096 n1097 a1098 l1098 c1098 a1099 l1099 c1099 a1100 l1100 c1100 n1101 b1102 b1103 b1104),v1105,.slice a897 l897 c897] w708 (fun r1119 w709=>
 ∃ b1106 b1107 n1108 n1109 a1110 l1110 c1110 a1111 l1111 c1111 a1112 l1112 c1112 n1113 b1114 b1115 b1116 n1117 n1118,r1119=.tuple #[.agg (gq1 b1106 b1107 n1108 n1109 a1110 l1110 c1110 a1111 l1111 c1111 a1112 l1112 c1112 n1113 b1114 b1115 b1116),.int .i64 n1117,.int .i64 n1118]∧
 sq11 w3.heap.size w709 (.bool b1106) (.bool b1107) (.int .i64 n1108) (.int .i64 n1109) (.slice a1110 l1110 c1110) (.slice a1111 l1111 c1111) (.slice a1112 l1112 c1112) (.int .i64 n1113) (.bool b1114) (.bool b1115) (.bool b1116) (fun w720=>J15 [.pointer (some (Addr.mk w3.heap.size 0 none)),.int .i64 n1117,.int .i64 n1118] w720)))∧
 (∃ (v1120:Value),w708.cell? (Addr.add q973 12)=some v1120∧
 lq1 w708 w.heap.size fun b1121 b1122 n1123 n1124 a1125 l1125 c1125 a1126 l1126 c1126 a1127 l1127 c1127 n1128 b1129 b1130 b1131=>CQ 145 [.agg (gq1 b1121 b1122 n1123 n1124 a1125 l1125 c1125 a1126 l1126 c1126 a1127 l1127 c1127 n1128 b1129 b1130 b1131),v1120,.slice a897 l897 c897] w708 (fun r1145 w721=>
 ∃ b1132 b1133 n1134 n1135 a1136 l1136 c1136 a1137 l1137 c1137 a1138 l1138 c1138 n1139 b1140 b1141 b1142 n1143 n1144,r1145=.tuple #[.agg (gq1 b1132 b1133 n1134 n1135 a1136 l1136 c1136 a1137 l1137 c1137 a1138 l1138 c1138 n1139 b1140 b1141 b1142),.int .i64 n1143,.int .i64 n1144]∧
 sq11 w3.heap.size w721 (.bool b1132) (.bool b1133) (.int .i64 n1134) (.int .i64 n1135) (.slice a1136 l1136 c1136) (.slice a1137 l1137 c1137) (.slice a1138 l1138 c1138) (.int .i64 n1139) (.bool b1140) (.bool b1141) (.bool b1142) (fun w732=>J15 [.pointer (some (Addr.mk w3.heap.size 0 none)),.int .i64 n1143,.int .i64 n1144] w732))))))∧
 (let w733:=w3.alloc (.cells zSq 151);
 (lq1 w733 w.heap.size fun b1146 b1147 n1148 n1149 a1150 l1150 c1150 a1151 l1151 c1151 a1152 l1152 c1152 n1153 b1154 b1155 b1156=>∃ p1157,w733.cell? q12=some (.pointer p1157)∧
 nn p1157 (fun q1158=>
 ∃ (v1159:Value),w733.cell? (Addr.add q1158 12)=some v1159∧
 CQ 145 [.agg (gq1 b1146 b1147 n1148 n1149 a1150 l1150 c1150 a1151 l1151 c1151 a1152 l1152 c1152 n1153 b1154 b1155 b1156),v1159,.slice a897 l897 c897] w733 (fun r1173 w734=>
 ∃ b1160 b1161 n1162 n1163 a1164 l1164 c1164 a1165 l1165 c1165 a1166 l1166 c1166 n1167 b1168 b1169 b1170 n1171 n1172,r1173=.tuple #[.agg (gq1 b1160 b1161 n1162 n1163 a1164 l1164 c1164 a1165 l1165 c1165 a1166 l1166 c1166 n1167 b1168 b1169 b1170),.int .i64 n1171,.int .i64 n1172]∧
 sq11 w3.heap.size w734 (.bool b1160) (.bool b1161) (.int .i64 n1162) (.int .i64 n1163) (.slice a1164 l1164 c1164) (.slice a1165 l1165 c1165) (.slice a1166 l1166 c1166) (.int .i64 n1167) (.bool b1168) (.bool b1169) (.bool b1170) (fun w745=>J15 [.pointer (some (Addr.mk w3.heap.size 0 none)),.int .i64 n1171,.int .i64 n1172] w745))))∧
 (∃ p1174,w733.cell? q12=some (.pointer p1174)∧
 nn p1174 (fun q1175=>
 (lq1 w733 w.heap.size fun b1176 b1177 n1178 n1179 a1180 l1180 c1180 a1181 l1181 c1181 a1182 l1182 c1182 n1183 b1184 b1185 b1186=>∃ (v1187:Value),w733.cell? (Addr.add q1175 12)=some v1187∧
 CQ 145 [.agg (gq1 b1176 b1177 n1178 n1179 a1180 l1180 c1180 a1181 l1181 c1181 a1182 l1182 c1182 n1183 b1184 b1185 b1186),v1187,.slice a897 l897 c897] w733 (fun r1201 w746=>
 ∃ b1188 b1189 n1190 n1191 a1192 l1192 c1192 a1193 l1193 c1193 a1194 l1194 c1194 n1195 b1196 b1197 b1198 n1199 n1200,r1201=.tuple #[.agg (gq1 b1188 b1189 n1190 n1191 a1192 l1192 c1192 a1193 l1193 c1193 a1194 l1194 c1194 n1195 b1196 b1197 b1198),.int .i64 n1199,.int .i64 n1200]∧
 sq11 w3.heap.size w746 (.bool b1188) (.bool b1189) (.int .i64 n1190) (.int .i64 n1191) (.slice a1192 l1192 c1192) (.slice a1193 l1193 c1193) (.slice a1194 l1194 c1194) (.int .i64 n1195) (.bool b1196) (.bool b1197) (.bool b1198) (fun w757=>J15 [.pointer (some (Addr.mk w3.heap.size 0 none)),.int .i64 n1199,.int .i64 n1200] w757)))∧
 (∃ (v1202:Value),w733.cell? (Addr.add q1175 12)=some v1202∧
 lq1 w733 w.heap.size fun b1203 b1204 n1205 n1206 a1207 l1207 c1207 a1208 l1208 c1208 a1209 l1209 c1209 n1210 b1211 b1212 b1213=>CQ 145 [.agg (gq1 b1203 b1204 n1205 n1206 a1207 l1207 c1207 a1208 l1208 c1208 a1209 l1209 c1209 n1210 b1211 b1212 b1213),v1202,.slice a897 l897 c897] w733 (fun r1227 w758=>
 ∃ b1214 b1215 n1216 n1217 a1218 l1218 c1218 a1219 l1219 c1219 a1220 l1220 c1220 n1221 b1222 b1223 b1224 n1225 n1226,r1227=.tuple #[.agg (gq1 b1214 b1215 n1216 n1217 a1218 l1218 c1218 a1219 l1219 c1219 a1220 l1220 c1220 n1221 b1222 b1223 b1224),.int .i64 n1225,.int .i64 n1226]∧
 sq11 w3.heap.size w758 (.bool b1214) (.bool b1215) (.int .i64 n1216) (.int .i64 n1217) (.slice a1218 l1218 c1218) (.slice a1219 l1219 c1219) (.slice a1220 l1220 c1220) (.int .i64 n1221) (.bool b1222) (.bool b1223) (.bool b1224) (fun w769=>J15 [.pointer (some (Addr.mk w3.heap.size 0 none)),.int .i64 n1225,.int .i64 n1226] w769)))))))∧
 (let w770:=w3.alloc (.cells zSq 151);
 (lq1 w770 w.heap.size fun b1228 b1229 n1230 n1231 a1232 l1232 c1232 a1233 l1233 c1233 a1234 l1234 c1234 n1235 b1236 b1237 b1238=>(∃ p1239,w770.cell? q12=some (.pointer p1239)∧
 nn p1239 (fun q1240=>
 (∃ (v1241:Value),w770.cell? (Addr.add q1240 12)=some v1241∧
 ∃ a1242 l1242 c1242,w770.cell? q13=some (.slice a1242 l1242 c1242)∧
 CQ 145 [.agg (gq1 b1228 b1229 n1230 n1231 a1232 l1232 c1232 a1233 l1233 c1233 a1234 l1234 c1234 n1235 b1236 b1237 b1238),v1241,.slice a1242 l1242 c1242] w770 (fun r1256 w771=>
 ∃ b1243 b1244 n1245 n1246 a1247 l1247 c1247 a1248 l1248 c1248 a1249 l1249 c1249 n1250 b1251 b1252 b1253 n1254 n1255,r1256=.tuple #[.agg (gq1 b1243 b1244 n1245 n1246 a1247 l1247 c1247 a1248 l1248 c1248 a1249 l1249 c1249 n1250 b1251 b1252 b1253),.int .i64 n1254,.int .i64 n1255]∧
 sq11 w3.heap.size w771 (.bool b1243) (.bool b1244) (.int .i64 n1245) (.int .i64 n1246) (.slice a1247 l1247 c1247) (.slice a1248 l1248 c1248) (.slice a1249 l1249 c1249) (.int .i64 n1250) (.bool b1251) (.bool b1252) (.bool b1253) (fun w782=>J15 [.pointer (some (Addr.mk w3.heap.size 0 none)),.int .i64 n1254,.int .i64 n1255] w782)))∧
 (∃ a1257 l1257 c1257,w770.cell? q13=some (.slice a1257 l1257 c1257)∧
 ∃ (v1258:Value),w770.cell? (Addr.add q1240 12)=some v1258∧
 CQ 145 [.agg (gq1 b1228 b1229 n1230 n1231 a1232 l1232 c1232 a1233 l1233 c1233 a1234 l1234 c1234 n1235 b1236 b1237 b1238),v1258,.slice a1257 l1257 c1257] w770 (fun r1272 w783=>
 ∃ b1259 b1260 n1261 n1262 a1263 l1263 c1263 a1264 l1264 c1264 a1265 l1265 c1265 n1266 b1267 b1268 b1269 n1270 n1271,r1272=.tuple #[.agg (gq1 b1259 b1260 n1261 n1262 a1263 l1263 c1263 a1264 l1264 c1264 a1265 l1265 c1265 n1266 b1267 b1268 b1269),.int .i64 n1270,.int .i64 n1271]∧
 sq11 w3.heap.size w783 (.bool b1259) (.bool b1260) (.int .i64 n1261) (.int .i64 n1262) (.slice a1263 l1263 c1263) (.slice a1264 l1264 c1264) (.slice a1265 l1265 c1265) (.int .i64 n1266) (.bool b1267) (.bool b1268) (.bool b1269) (fun w794=>J15 [.pointer (some (Addr.mk w3.heap.size 0 none)),.int .i64 n1270,.int .i64 n1271] w794)))))∧
 (∃ a1273 l1273 c1273,w770.cell? q13=some (.slice a1273 l1273 c1273)∧
 ∃ p1274,w770.cell? q12=some (.pointer p1274)∧
 nn p1274 (fun q1275=>
 ∃ (v1276:Value),w770.cell? (Addr.add q1275 12)=some v1276∧
 CQ 145 [.agg (gq1 b1228 b1229 n1230 n1231 a1232 l1232 c1232 a1233 l1233 c1233 a1234 l1234 c1234 n1235 b1236 b1237 b1238),v1276,.slice a1273 l1273 c1273] w770 (fun r1290 w795=>
 ∃ b1277 b1278 n1279 n1280 a1281 l1281 c1281 a1282 l1282 c1282 a1283 l1283 c1283 n1284 b1285 b1286 b1287 n1288 n1289,r1290=.tuple #[.agg (gq1 b1277 b1278 n1279 n1280 a1281 l1281 c1281 a1282 l1282 c1282 a1283 l1283 c1283 n1284 b1285 b1286 b1287),.int .i64 n1288,.int .i64 n1289]∧
 sq11 w3.heap.size w795 (.bool b1277) (.bool b1278) (.int .i64 n1279) (.int .i64 n1280) (.slice a1281 l1281 c1281) (.slice a1282 l1282 c1282) (.slice a1283 l1283 c1283) (.int .i64 n1284) (.bool b1285) (.bool b1286) (.bool b1287) (fun w806=>J15 [.pointer (some (Addr.mk w3.heap.size 0 none)),.int .i64 n1288,.int .i64 n1289] w806)))))∧
 (∃ p1291,w770.cell? q12=some (.pointer p1291)∧
 nn p1291 (fun q1292=>
 (lq1 w770 w.heap.size fun b1293 b1294 n1295 n1296 a1297 l1297 c1297 a1298 l1298 c1298 a1299 l1299 c1299 n1300 b1301 b1302 b1303=>(∃ (v1304:Value),w770.cell? (Addr.add q1292 12)=some v1304∧
 ∃ a1305 l1305 c1305,w770.cell? q13=some (.slice a1305 l1305 c1305)∧
 CQ 145 [.agg (gq1 b1293 b1294 n1295 n1296 a1297 l1297 c1297 a1298 l1298 c1298 a1299 l1299 c1299 n1300 b1301 b1302 b1303),v1304,.slice a1305 l1305 c1305] w770 (fun r1319 w807=>
 ∃ b1306 b1307 n1308 n1309 a1310 l1310 c1310 a1311 l1311 c1311 a1312 l1312 c1312 n1313 b1314 b1315 b1316 n1317 n1318,r1319=.tuple #[.agg (gq1 b1306 b1307 n1308 n1309 a1310 l1310 c1310 a1311 l1311 c1311 a1312 l1312 c1312 n1313 b1314 b1315 b1316),.int .i64 n1317,.int .i64 n1318]∧
 sq11 w3.heap.size w807 (.bool b1306) (.bool b1307) (.int .i64 n1308) (.int .i64 n1309) (.slice a1310 l1310 c1310) (.slice a1311 l1311 c1311) (.slice a1312 l1312 c1312) (.int .i64 n1313) (.bool b1314) (.bool b1315) (.bool b1316) (fun w818=>J15 [.pointer (some (Addr.mk w3.heap.size 0 none)),.int .i64 n1317,.int .i64 n1318] w818)))∧
 (∃ a1320 l1320 c1320,w770.cell? q13=some (.slice a1320 l1320 c1320)∧
 ∃ (v1321:Value),w770.cell? (Addr.add q1292 12)=some v1321∧
 CQ 145 [.agg (gq1 b1293 b1294 n1295 n1296 a1297 l1297 c1297 a1298 l1298 c1298 a1299 l1299 c1299 n1300 b1301 b1302 b1303),v1321,.slice a1320 l1320 c1320] w770 (fun r1335 w819=>
 ∃ b1322 b1323 n1324 n1325 a1326 l1326 c1326 a1327 l1327 c1327 a1328 l1328 c1328 n1329 b1330 b1331 b1332 n1333 n1334,r1335=.tuple #[.agg (gq1 b1322 b1323 n1324 n1325 a1326 l1326 c1326 a1327 l1327 c1327 a1328 l1328 c1328 n1329 b1330 b1331 b1332),.int .i64 n1333,.int .i64 n1334]∧
 sq11 w3.heap.size w819 (.bool b1322) (.bool b1323) (.int .i64 n1324) (.int .i64 n1325) (.slice a1326 l1326 c1326) (.slice a1327 l1327 c1327) (.slice a1328 l1328 c1328) (.int .i64 n1329) (.bool b1330) (.bool b1331) (.bool b1332) (fun w830=>J15 [.pointer (some (Addr.mk w3.heap.size 0 none)),.int .i64 n1333,.int .i64 n1334] w830))))∧
 (∃ (v1336:Value),w770.cell? (Addr.add q1292 12)=some v1336∧
 (lq1 w770 w.heap.size fun b1337 b1338 n1339 n1340 a1341 l1341 c1341 a1342 l1342 c1342 a1343 l1343 c1343 n1344 b1345 b1346 b1347=>∃ a1348 l1348 c1348,w770.cell? q13=some (.slice a1348 l1348 c1348)∧
 CQ 145 [.agg (gq1 b1337 b1338 n1339 n1340 a1341 l1341 c1341 a1342 l1342 c1342 a1343 l1343 c1343 n1344 b1345 b1346 b1347),v1336,.slice a1348 l1348 c1348] w770 (fun r1362 w831=>
 ∃ b1349 b1350 n1351 n1352 a1353 l1353 c1353 a1354 l1354 c1354 a1355 l1355 c1355 n1356 b1357 b1358 b1359 n1360 n1361,r1362=.tuple #[.agg (gq1 b1349 b1350 n1351 n1352 a1353 l1353 c1353 a1354 l1354 c1354 a1355 l1355 c1355 n1356 b1357 b1358 b1359),.int .i64 n1360,.int .i64 n1361]∧
 sq11 w3.heap.size w831 (.bool b1349) (.bool b1350) (.int .i64 n1351) (.int .i64 n1352) (.slice a1353 l1353 c1353) (.slice a1354 l1354 c1354) (.slice a1355 l1355 c1355) (.int .i64 n1356) (.bool b1357) (.bool b1358) (.bool b1359) (fun w842=>J15 [.pointer (some (Addr.mk w3.heap.size 0 none)),.int .i64 n1360,.int .i64 n1361] w842)))∧
 (∃ a1363 l1363 c1363,w770.cell? q13=some (.slice a1363 l1363 c1363)∧
 lq1 w770 w.heap.size fun b1364 b1365 n1366 n1367 a1368 l1368 c1368 a1369 l1369 c1369 a1370 l1370 c1370 n1371 b1372 b1373 b1374=>CQ 145 [.agg (gq1 b1364 b1365 n1366 n1367 a1368 l1368 c1368 a1369 l1369 c1369 a1370 l1370 c1370 n1371 b1372 b1373 b1374),v1336,.slice a1363 l1363 c1363] w770 (fun r1388 w843=>
 ∃ b1375 b1376 n1377 n1378 a1379 l1379 c1379 a1380 l1380 c1380 a1381 l1381 c1381 n1382 b1383 b1384 b1385 n1386 n1387,r1388=.tuple #[.agg (gq1 b1375 b1376 n1377 n1378 a1379 l1379 c1379 a1380 l1380 c1380 a1381 l1381 c1381 n1382 b1383 b1384 b1385),.int .i64 n1386,.int .i64 n1387]∧
 sq11 w3.heap.size w843 (.bool b1375) (.bool b1376) (.int .i64 n1377) (.int .i64 n1378) (.slice a1379 l1379 c1379) (.slice a1380 l1380 c1380) (.slice a1381 l1381 c1381) (.int .i64 n1382) (.bool b1383) (.bool b1384) (.bool b1385) (fun w854=>J15 [.pointer (some (Addr.mk w3.heap.size 0 none)),.int .i64 n1386,.int .i64 n1387] w854))))∧
 (∃ a1389 l1389 c1389,w770.cell? q13=some (.slice a1389 l1389 c1389)∧
 (lq1 w770 w.heap.size fun b1390 b1391 n1392 n1393 a1394 l1394 c1394 a1395 l1395 c1395 a1396 l1396 c1396 n1397 b1398 b1399 b1400=>∃ (v1401:Value),w770.cell? (Addr.add q1292 12)=some v1401∧
 CQ 145 [.agg (gq1 b1390 b1391 n1392 n1393 a1394 l1394 c1394 a1395 l1395 c1395 a1396 l1396 c1396 n1397 b1398 b1399 b1400),v1401,.slice a1389 l1389 c1389] w770 (fun r1415 w855=>
 ∃ b1402 b1403 n1404 n1405 a1406 l1406 c1406 a1407 l1407 c1407 a1408 l1408 c1408 n1409 b1410 b1411 b1412 n1413 n1414,r1415=.tuple #[.agg (gq1 b1402 b1403 n1404 n1405 a1406 l1406 c1406 a1407 l1407 c1407 a1408 l1408 c1408 n1409 b1410 b1411 b1412),.int .i64 n1413,.int .i64 n1414]∧
 sq11 w3.heap.size w855 (.bool b1402) (.bool b1403) (.int .i64 n1404) (.int .i64 n1405) (.slice a1406 l1406 c1406) (.slice a1407 l1407 c1407) (.slice a1408 l1408 c1408) (.int .i64 n1409) (.bool b1410) (.bool b1411) (.bool b1412) (fun w866=>J15 [.pointer (some (Addr.mk w3.heap.size 0 none)),.int .i64 n1413,.int .i64 n1414] w866)))∧
 (∃ (v1416:Value),w770.cell? (Addr.add q1292 12)=some v1416∧
 lq1 w770 w.heap.size fun b1417 b1418 n1419 n1420 a1421 l1421 c1421 a1422 l1422 c1422 a1423 l1423 c1423 n1424 b1425 b1426 b1427=>CQ 145 [.agg (gq1 b1417 b1418 n1419 n1420 a1421 l1421 c1421 a1422 l1422 c1422 a1423 l1423 c1423 n1424 b1425 b1426 b1427),v1416,.slice a1389 l1389 c1389] w770 (fun r1441 w867=>
 ∃ b1428 b1429 n1430 n1431 a1432 l1432 c1432 a1433 l1433 c1433 a1434 l1434 c1434 n1435 b1436 b1437 b1438 n1439 n1440,r1441=.tuple #[.agg (gq1 b1428 b1429 n1430 n1431 a1432 l1432 c1432 a1433 l1433 c1433 a1434 l1434 c1434 n1435 b1436 b1437 b1438),.int .i64 n1439,.int .i64 n1440]∧
 sq11 w3.heap.size w867 (.bool b1428) (.bool b1429) (.int .i64 n1430) (.int .i64 n1431) (.slice a1432 l1432 c1432) (.slice a1433 l1433 c1433) (.slice a1434 l1434 c1434) (.int .i64 n1435) (.bool b1436) (.bool b1437) (.bool b1438) (fun w878=>J15 [.pointer (some (Addr.mk w3.heap.size 0 none)),.int .i64 n1439,.int .i64 n1440] w878))))))∧
 (∃ a1442 l1442 c1442,w770.cell? q13=some (.slice a1442 l1442 c1442)∧
 (lq1 w770 w.heap.size fun b1443 b1444 n1445 n1446 a1447 l1447 c1447 a1448 l1448 c1448 a1449 l1449 c1449 n1450 b1451 b1452 b1453=>∃ p1454,w770.cell? q12=some (.pointer p1454)∧
 nn p1454 (fun q1455=>
 ∃ (v1456:Value),w770.cell? (Addr.add q1455 12)=some v1456∧
 CQ 145 [.agg (gq1 b1443 b1444 n1445 n1446 a1447 l1447 c1447 a1448 l1448 c1448 a1449 l1449 c1449 n1450 b1451 b1452 b1453),v1456,.slice a1442 l1442 c1442] w770 (fun r1470 w879=>
 ∃ b1457 b1458 n1459 n1460 a1461 l1461 c1461 a1462 l1462 c1462 a1463 l1463 c1463 n1464 b1465 b1466 b1467 n1468 n1469,r1470=.tuple #[.agg (gq1 b1457 b1458 n1459 n1460 a1461 l1461 c1461 a1462 l1462 c1462 a1463 l1463 c1463 n1464 b1465 b1466 b1467),.int .i64 n1468,.int .i64 n1469]∧
 sq11 w3.heap.size w879 (.bool b1457) (.bool b1458) (.int .i64 n1459) (.int .i64 n1460) (.slice a1461 l1461 c1461) (.slice a1462 l1462 c1462) (.slice a1463 l1463 c1463) (.int .i64 n1464) (.bool b1465) (.bool b1466) (.bool b1467) (fun w890=>J15 [.pointer (some (Addr.mk w3.heap.size 0 none)),.int .i64 n1468,.int .i64 n1469] w890))))∧
 (∃ p1471,w770.cell? q12=some (.pointer p1471)∧
 nn p1471 (fun q1472=>
 (lq1 w770 w.heap.size fun b1473 b1474 n1475 n1476 a1477 l1477 c1477 a1478 l1478 c1478 a1479 l1479 c1479 n1480 b1481 b1482 b1483=>∃ (v1484:Value),w770.cell? (Addr.add q1472 12)=some v1484∧
 CQ 145 [.agg (gq1 b1473 b1474 n1475 n1476 a1477 l1477 c1477 a1478 l1478 c1478 a1479 l1479 c1479 n1480 b1481 b1482 b1483),v1484,.slice a1442 l1442 c1442] w770 (fun r1498 w891=>
 ∃ b1485 b1486 n1487 n1488 a1489 l1489 c1489 a1490 l1490 c1490 a1491 l1491 c1491 n1492 b1493 b1494 b1495 n1496 n1497,r1498=.tuple #[.agg (gq1 b1485 b1486 n1487 n1488 a1489 l1489 c1489 a1490 l1490 c1490 a1491 l1491 c1491 n1492 b1493 b1494 b1495),.int .i64 n1496,.int .i64 n1497]∧
 sq11 w3.heap.size w891 (.bool b1485) (.bool b1486) (.int .i64 n1487) (.int .i64 n1488) (.slice a1489 l1489 c1489) (.slice a1490 l1490 c1490) (.slice a1491 l1491 c1491) (.int .i64 n1492) (.bool b1493) (.bool b1494) (.bool b1495) (fun w902=>J15 [.pointer (some (Addr.mk w3.heap.size 0 none)),.int .i64 n1496,.int .i64 n1497] w902)))∧
 (∃ (v1499:Value),w770.cell? (Addr.add q1472 12)=some v1499∧
 lq1 w770 w.heap.size fun b1500 b1501 n1502 n1503 a1504 l1504 c1504 a1505 l1505 c1505 a1506 l1506 c1506 n1507 b1508 b1509 b1510=>CQ 145 [.agg (gq1 b1500 b1501 n1502 n1503 a1504 l1504 c1504 a1505 l1505 c1505 a1506 l1506 c1506 n1507 b1508 b1509 b1510),v1499,.slice a1442 l1442 c1442] w770 (fun r1524 w903=>
 ∃ b1511 b1512 n1513 n1514 a1515 l1515 c1515 a1516 l1516 c1516 a1517 l1517 c1517 n1518 b1519 b1520 b1521 n1522 n1523,r1524=.tuple #[.agg (gq1 b1511 b1512 n1513 n1514 a1515 l1515 c1515 a1516 l1516 c1516 a1517 l1517 c1517 n1518 b1519 b1520 b1521),.int .i64 n1522,.int .i64 n1523]∧
 sq11 w3.heap.size w903 (.bool b1511) (.bool b1512) (.int .i64 n1513) (.int .i64 n1514) (.slice a1515 l1515 c1515) (.slice a1516 l1516 c1516) (.slice a1517 l1517 c1517) (.int .i64 n1518) (.bool b1519) (.bool b1520) (.bool b1521) (fun w914=>J15 [.pointer (some (Addr.mk w3.heap.size 0 none)),.int .i64 n1522,.int .i64 n1523] w914))))))))∧
 (∀ (_:Env) (p1525:Option Addr) (n1526:Int) (n1527:Int) (w915:World),J15 [.pointer p1525,.int .i64 n1526,.int .i64 n1527] w915→
 stC q14 (.int .i64 n1526) w915 (fun w916=>
 (match (Value.pointer p1525) with
 | .pointer (some q1528)=>∃ b1529 b1530 n1531 n1532 a1533 l1533 c1533 a1534 l1534 c1534 a1535 l1535 c1535 n1536 b1537 b1538 b1539,w916.cell? q1528=some (.bool b1529)∧w916.cell? (Addr.add q1528 1)=some (.bool b1530)∧w916.cell? (Addr.add q1528 2)=some (.int .i64 n1531)∧w916.cell? (Addr.add q1528 3)=some (.int .i64 n1532)∧w916.cell? (Addr.add q1528 4)=some (.slice a1533 l1533 c1533)∧w916.cell? (Addr.add q1528 5)=some (.slice a1534 l1534 c1534)∧w916.cell? (Addr.add q1528 6)=some (.slice a1535 l1535 c1535)∧w916.cell? (Addr.add q1528 7)=some (.int .i64 n1536)∧w916.cell? (Addr.add q1528 8)=some (.bool b1537)∧w916.cell? (Addr.add q1528 9)=some (.bool b1538)∧w916.cell? (Addr.add q1528 10)=some (.bool b1539)∧ sq11 w1.heap.size w916 (.bool b1529) (.bool b1530) (.int .i64 n1531) (.int .i64 n1532) (.slice a1533 l1533 c1533) (.slice a1534 l1534 c1534) (.slice a1535 l1535 c1535) (.int .i64 n1536) (.bool b1537) (.bool b1538) (.bool b1539) (fun w927=>lq1 w927 w1.heap.size fun b1540 b1541 n1542 n1543 a1544 l1544 c1544 a1545 l1545 c1545 a1546 l1546 c1546 n1547 b1548 b1549 b1550=>Q (.tuple #[.agg (gq1 b1540 b1541 n1542 n1543 a1544 l1544 c1544 a1545 l1545 c1545 a1546 l1546 c1546 n1547 b1548 b1549 b1550),.int .i64 n1527]) w927)
 | _=>False)))
theorem C144 {b1 b2 n3 n4 a5 l5 c5 a6 l6 c6 a7 l7 c7 n8 b9 b10 b11 q12 q13 q14 Q w} (h:L144 b1 b2 n3 n4 a5 l5 c5 a6 l6 c6 a7 l7 c7 n8 b9 b10 b11 q12 q13 q14 Q w):CallR Tryz.prog 144 [.agg #[.bool b1,.bool b2,.int .i64 n3,.int .i64 n4,.slice a5 l5 c5,.slice a6 l6 c6,.slice a7 l7 c7,.int .i64 n8,.bool b9,.bool b10,.bool b11],.pointer (some q12),.pointer (some q13),.pointer (some q14)] w Q:=
 fC A144 Tryz.func144 rfl (by kernel_rfl) (Eq.mp (by kernel_rfl) h)
def A148:Ann:=⟨[],[],[],[],[],[]⟩
def L148 (p1:Option Addr) (Q:Value→World→Prop) (w:World):Prop:=
 let w1:=w.alloc (.cells #[.pointer p1] 234);
 ∃ p2,w1.cell? (Addr.mk w.heap.size 0 none)=some (.pointer p2)∧
 CQ 139 [.pointer p2,.func (.func 204) #[] #[.pointer (some (Addr.mk w.heap.size 0 none))]] w1 (fun r4 w2=>
 ∃ n3,r4=.int .i64 n3∧
 Q (.int .i64 n3) w2)
theorem C148 {p1 Q w} (h:L148 p1 Q w):CallR Tryz.prog 148 [.pointer p1] w Q:=
 fC A148 Tryz.func148 rfl (by kernel_rfl) (Eq.mp (by kernel_rfl) h)
def A204:Ann:=⟨[],[],[],[(1,[0,1,2,3,4,5,6,7,8,9])],[],[]⟩
def L204 (b1 b2:Bool) (n3 n4:Int) (a5:Option Addr) (l5 c5:Nat) (a6:Option Addr) (l6 c6:Nat) (a7:Option Addr) (l7 c7:Nat) (n8:Int) (b9 b10 b11:Bool) (q12:Addr) (Q:Value→World→Prop) (w:World):Prop:=
 let w1:=w.alloc (.cells (gq1 b1 b2 n3 n4 a5 l5 c5 a6 l6 c6 a7 l7 c7 n8 b9 b10 b11) 151);
 let w2:=w1.alloc (.cells zSq 151);
 let w3:=w2.drew;
 lq1 w3 w.heap.size fun b13 b14 n15 n16 a17 l17 c17 a18 l18 c18 a19 l19 c19 n20 b21 b22 b23=>∃ p24,w3.cell? q12=some (.pointer p24)∧
 nn p24 (fun q25=>
 ∃ (v26:Value),w3.cell? (Addr.add q25 12)=some v26∧
 CQ 198 [.agg (gq1 b13 b14 n15 n16 a17 l17 c17 a18 l18 c18 a19 l19 c19 n20 b21 b22 b23),v26] w3 (fun r39 w4=>
 ∃ b27 b28 n29 n30 a31 l31 c31 a32 l32 c32 a33 l33 c33 n34 b35 b36 b37 n38,r39=.tuple #[.agg (gq1 b27 b28 n29 n30 a31 l31 c31 a32 l32 c32 a33 l33 c33 n34 b35 b36 b37),.int .i64 n38]∧
 sq11 w1.heap.size w4 (.bool b27) (.bool b28) (.int .i64 n29) (.int .i64 n30) (.slice a31 l31 c31) (.slice a32 l32 c32) (.slice a33 l33 c33) (.int .i64 n34) (.bool b35) (.bool b36) (.bool b37) (fun w15=>lq1 w15 w1.heap.size fun b40 b41 n42 n43 a44 l44 c44 a45 l45 c45 a46 l46 c46 n47 b48 b49 b50=>Q (.tuple #[.agg (gq1 b40 b41 n42 n43 a44 l44 c44 a45 l45 c45 a46 l46 c46 n47 b48 b49 b50),.int .i64 n38]) w15)))
theorem C204 {b1 b2 n3 n4 a5 l5 c5 a6 l6 c6 a7 l7 c7 n8 b9 b10 b11 q12 Q w} (h:L204 b1 b2 n3 n4 a5 l5 c5 a6 l6 c6 a7 l7 c7 n8 b9 b10 b11 q12 Q w):CallR Tryz.prog 204 [.agg #[.bool b1,.bool b2,.int .i64 n3,.int .i64 n4,.slice a5 l5 c5,.slice a6 l6 c6,.slice a7 l7 c7,.int .i64 n8,.bool b9,.bool b10,.bool b11],.pointer (some q12)] w Q:=
 fC A204 Tryz.func204 rfl (by kernel_rfl) (Eq.mp (by kernel_rfl) h)
def A82:Ann:=⟨[],[],[],[],[],[]⟩
def L82 (p1:Option Addr) (n2:Int) (Q:Value→World→Prop) (w:World):Prop:=
 CQ 138 [.pointer p1,.int .i64 n2] w (fun r5 w1=>
 ∃ p3 n4,r5=.tuple #[.pointer p3,.int .i64 n4]∧
 cond (n4 != 0)
 (Q (.int .i64 n4) w1)
 (CQ 148 [.pointer p3] w1 (fun r7 w2=>
 ∃ n6,r7=.int .i64 n6∧
 Q (.int .i64 n6) w2)))
theorem C82 {p1 n2 Q w} (h:L82 p1 n2 Q w):CallR Tryz.prog 82 [.pointer p1,.int .i64 n2] w Q:=
 fC A82 Tryz.func82 rfl (by kernel_rfl) (Eq.mp (by kernel_rfl) h)
def A89:Ann:=⟨[(5,[(3,.one (.int .i64)),(14,.one (.int .i64))])],[],[],[],[],[]⟩
def L89 (p1:Option Addr) (Q:Value→World→Prop) (w:World):Prop:=
 CQ 155 [.pointer p1] w (fun r3 w1=>
 ∃ b2,r3=.bool b2∧
 cond b2
 (Q (.int .i64 2) w1)
 (nn p1 (fun q4=>
 ∃ a5 l5 c5,w1.cell? (Addr.add q4 1)=some (.slice a5 l5 c5)∧
 ∃ (I6:List Value→World→Prop) (mu7:List Value→World→Nat),
 I6 [.int .i64 0,.int .i64 0] w1∧
 ∀ (_:Env) (n8:Int) (n9:Int) (w2:World),I6 [.int .i64 n8,.int .i64 n9] w2→
 cond (decide (n9< (((l5:Nat):Int))))
 ((0≤(n9:Int)∧(n9:Int)< ((l5:Nat):Int))∧
 nn a5 (fun q10=>
 ∃ p11,w2.cell? (Addr.add q10 (Int.toNat n9))=some (.pointer p11)∧
 CQ 148 [.pointer p11] w2 (fun r13 w3=>
 ∃ n12,r13=.int .i64 n12∧
 cond (n8 == 0)
 (inI (n9+1)∧
 I6 [.int .i64 n12,.int .i64 (n9+1)] w3∧mu7 [.int .i64 n12,.int .i64 (n9+1)] w3< mu7 [.int .i64 n8,.int .i64 n9] w2)
 (inI (n9+1)∧
 I6 [.int .i64 n8,.int .i64 (n9+1)] w3∧mu7 [.int .i64 n8,.int .i64 (n9+1)] w3< mu7 [.int .i64 n8,.int .i64 n9] w2))))
 (Q (.int .i64 n8) w2))))
theorem C89 {p1 Q w} (h:L89 p1 Q w):CallR Tryz.prog 89 [.pointer p1] w Q:=
 fC A89 Tryz.func89 rfl (by kernel_rfl) (Eq.mp (by kernel_rfl) h)
def A194:Ann:=⟨[(2,[(8,.one (.int .i64))])],[],[],[],[],[]⟩
def L194 (a1:Option Addr) (l1 c1:Nat) (v2:Value) (Q:Value→World→Prop) (w:World):Prop:=
 ∃ (I3:List Value→World→Prop) (mu4:List Value→World→Nat),
 I3 [.int .i64 0] w∧
 ∀ (_:Env) (n5:Int) (w1:World),I3 [.int .i64 n5] w1→
 cond (decide (n5< (((l1:Nat):Int))))
 ((0≤(n5:Int)∧(n5:Int)< ((l1:Nat):Int))∧
 nn a1 (fun q6=>
 ∃ p7,w1.cell? (Addr.add q6 (Int.toNat n5))=some (.pointer p7)∧
 ∃ (k8:FuncId) (xs9:Array Value) (xs10:Array Value),(v2:Value)=.func (.func k8) xs9 xs10∧bodyB Tryz.prog k8=true∧
 CQ k8 (Array.toList xs9 ++ ([.pointer p7] ++ Array.toList xs10)) w1 (fun r12 w2=>
 ∃ b11,r12=.bool b11∧
 cond b11
 (Q (.int .i64 n5) w2)
 (inI (n5+1)∧
 I3 [.int .i64 (n5+1)] w2∧mu4 [.int .i64 (n5+1)] w2< mu4 [.int .i64 n5] w1))))
 (Q (.int .i64 ((-1))) w1)
theorem C194 {a1 l1 c1 v2 Q w} (h:L194 a1 l1 c1 v2 Q w):CallR Tryz.prog 194 [.slice a1 l1 c1,v2] w Q:=
 fC A194 Tryz.func194 rfl (by kernel_rfl) (Eq.mp (by kernel_rfl) h)
def A142:Ann:=⟨[(5,[(5,.one (.int .i64)),(6,.one (.int .i64))])],[],[],[],[],[]⟩
def L142 (a1:Option Addr) (l1 c1:Nat) (v2:Value) (Q:Value→World→Prop) (w:World):Prop:=
 CQ 194 [.slice a1 l1 c1,v2] w (fun r4 w1=>
 ∃ n3,r4=.int .i64 n3∧
 cond (n3 == ((-1)))
 (Q (.slice a1 l1 c1) w1)
 (inI (n3+1)∧
 ∃ (I5:List Value→World→Prop) (mu6:List Value→World→Nat),
 I5 [.int .i64 n3,.int .i64 (n3+1)] w1∧
 ∀ (_:Env) (n7:Int) (n8:Int) (w2:World),I5 [.int .i64 n7,.int .i64 n8] w2→
 cond (decide (n8< (((l1:Nat):Int))))
 ((0≤(n8:Int)∧(n8:Int)< ((l1:Nat):Int))∧
 nn a1 (fun q9=>
 ∃ p10,w2.cell? (Addr.add q9 (Int.toNat n8))=some (.pointer p10)∧
 ∃ (k11:FuncId) (xs12:Array Value) (xs13:Array Value),(v2:Value)=.func (.func k11) xs12 xs13∧bodyB Tryz.prog k11=true∧
 CQ k11 (Array.toList xs12 ++ ([.pointer p10] ++ Array.toList xs13)) w2 (fun r15 w3=>
 ∃ b14,r15=.bool b14∧
 cond (!b14)
 ((0≤(n7:Int)∧(n7:Int)< ((l1:Nat):Int))∧
 nn a1 (fun q16=>
 stC (Addr.add q16 (Int.toNat n7)) (.pointer p10) w3 (fun w4=>
 inI (n7+1)∧
 inI (n8+1)∧
 I5 [.int .i64 (n7+1),.int .i64 (n8+1)] w4∧mu6 [.int .i64 (n7+1),.int .i64 (n8+1)] w4< mu6 [.int .i64 n7,.int .i64 n8] w2)))
 (inI (n8+1)∧
 I5 [.int .i64 n7,.int .i64 (n8+1)] w3∧mu6 [.int .i64 n7,.int .i64 (n8+1)] w3< mu6 [.int .i64 n7,.int .i64 n8] w2))))
 ((0≤(n7:Int)∧(n7:Int)≤((l1:Nat):Int))∧
 ∃ w5,Sem.run Tryz.prog (Builtin.clear_ #[95] 0 #[.slice (adv a1 (Int.toNat n7) c1 1) (l1 - Int.toNat n7) (c1 - Int.toNat n7)]) w2=.ok ((.tuple #[]:Value)) w5∧
 (0≤(n7:Int)∧(n7:Int)≤((c1:Nat):Int))∧
 Q (.slice a1 (Int.toNat n7) c1) w5)))
theorem C142 {a1 l1 c1 v2 Q w} (h:L142 a1 l1 c1 v2 Q w):CallR Tryz.prog 142 [.slice a1 l1 c1,v2] w Q:=
 fC A142 Tryz.func142 rfl (by kernel_rfl) (Eq.mp (by kernel_rfl) h)
def A140:Ann:=⟨[],[],[],[(1,[0,1,2,3,4,5,6,7,8,9])],[],[]⟩
def L140 (b1 b2:Bool) (n3 n4:Int) (a5:Option Addr) (l5 c5:Nat) (a6:Option Addr) (l6 c6:Nat) (a7:Option Addr) (l7 c7:Nat) (n8:Int) (b9 b10 b11:Bool) (q12:Addr) (Q:Value→World→Prop) (w:World):Prop:=
 let w1:=w.alloc (.cells (gq1 b1 b2 n3 n4 a5 l5 c5 a6 l6 c6 a7 l7 c7 n8 b9 b10 b11) 151);
 let w2:=w1.alloc (.cells zSq 151);
 let w3:=w2.drew;
 lq1 w3 w.heap.size fun b13 b14 n15 n16 a17 l17 c17 a18 l18 c18 a19 l19 c19 n20 b21 b22 b23=>∃ p24,w3.cell? q12=some (.pointer p24)∧
 nn p24 (fun q25=>
 ∃ (v26:Value),w3.cell? (Addr.add q25 12)=some v26∧
 CQ 141 [.agg (gq1 b13 b14 n15 n16 a17 l17 c17 a18 l18 c18 a19 l19 c19 n20 b21 b22 b23),v26] w3 (fun r39 w4=>
 ∃ b27 b28 n29 n30 a31 l31 c31 a32 l32 c32 a33 l33 c33 n34 b35 b36 b37 n38,r39=.tuple #[.agg (gq1 b27 b28 n29 n30 a31 l31 c31 a32 l32 c32 a33 l33 c33 n34 b35 b36 b37),.int .i64 n38]∧
 sq11 w1.heap.size w4 (.bool b27) (.bool b28) (.int .i64 n29) (.int .i64 n30) (.slice a31 l31 c31) (.slice a32 l32 c32) (.slice a33 l33 c33) (.int .i64 n34) (.bool b35) (.bool b36) (.bool b37) (fun w15=>lq1 w15 w1.heap.size fun b40 b41 n42 n43 a44 l44 c44 a45 l45 c45 a46 l46 c46 n47 b48 b49 b50=>Q (.tuple #[.agg (gq1 b40 b41 n42 n43 a44 l44 c44 a45 l45 c45 a46 l46 c46 n47 b48 b49 b50),.int .i64 n38]) w15)))
theorem C140 {b1 b2 n3 n4 a5 l5 c5 a6 l6 c6 a7 l7 c7 n8 b9 b10 b11 q12 Q w} (h:L140 b1 b2 n3 n4 a5 l5 c5 a6 l6 c6 a7 l7 c7 n8 b9 b10 b11 q12 Q w):CallR Tryz.prog 140 [.agg #[.bool b1,.bool b2,.int .i64 n3,.int .i64 n4,.slice a5 l5 c5,.slice a6 l6 c6,.slice a7 l7 c7,.int .i64 n8,.bool b9,.bool b10,.bool b11],.pointer (some q12)] w Q:=
 fC A140 Tryz.func140 rfl (by kernel_rfl) (Eq.mp (by kernel_rfl) h)
def A143:Ann:=⟨[],[],[],[],[],[]⟩
def L143 (p1 p2:Option Addr) (Q:Value→World→Prop) (w:World):Prop:=
 (match (Value.pointer p2) with
 | .pointer (some q3)=>∃ p4,w.cell? q3=some (.pointer p4)∧∃ b5 w1,Sem.run Tryz.prog (Sem.bind (eqGuard .eql 234 (.tmp 4) (.tmp 5) (.pointer p1) (.pointer p4)) (fun _=>binOp .eql 234 (.pointer p1) (.pointer p4))) w=.ok (.bool b5) w1∧Q (.bool b5) w1
 | _=>False)
theorem C143 {p1 p2 Q w} (h:L143 p1 p2 Q w):CallR Tryz.prog 143 [.pointer p1,.pointer p2] w Q:=
 fC A143 Tryz.func143 rfl (by kernel_rfl) (Eq.mp (by kernel_rfl) h)
def A77:Ann:=⟨[],[],[],[],[],[]⟩
def L77 (p1:Option Addr) (n2:Int) (Q:Value→World→Prop) (w:World):Prop:=
 CQ 138 [.pointer p1,.int .i64 n2] w (fun r5 w1=>
 ∃ p3 n4,r5=.tuple #[.pointer p3,.int .i64 n4]∧
 let w2:=w1.alloc (.cells #[.pointer none] 234);
 stC (Addr.mk w1.heap.size 0 none) (.pointer p3) w2 (fun w3=>
 cond (n4 != 0)
 (Q (.int .i64 n4) w3)
 (∃ p6,w3.cell? (Addr.mk w1.heap.size 0 none)=some (.pointer p6)∧
 CQ 139 [.pointer p6,.func (.func 140) #[] #[.pointer (some (Addr.mk w1.heap.size 0 none))]] w3 (fun r8 w4=>
 ∃ n7,r8=.int .i64 n7∧
 nn p1 (fun q9=>
 ∃ a10 l10 c10,w4.cell? (Addr.add q9 1)=some (.slice a10 l10 c10)∧
 CQ 142 [.slice a10 l10 c10,.func (.func 143) #[] #[.pointer (some (Addr.mk w1.heap.size 0 none))]] w4 (fun r12 w5=>
 ∃ a11 l11 c11,r12=.slice a11 l11 c11∧
 nn p1 (fun q13=>
 stC (Addr.add q13 1) (.slice a11 l11 c11) w5 (fun w6=>
 Q (.int .i64 n7) w6))))))))
theorem C77 {p1 n2 Q w} (h:L77 p1 n2 Q w):CallR Tryz.prog 77 [.pointer p1,.int .i64 n2] w Q:=
 fC A77 Tryz.func77 rfl (by kernel_rfl) (Eq.mp (by kernel_rfl) h)
def A172:Ann:=⟨[(5,[(3,.one (.slice)),(13,.one (.int .i64))])],[],[],[],[],[]⟩
def L172 (p1:Option Addr) (Q:Value→World→Prop) (w:World):Prop:=
 CQ 155 [.pointer p1] w (fun r3 w1=>
 ∃ b2,r3=.bool b2∧
 cond b2
 (Q (.slice none 0 0) w1)
 (nn p1 (fun q4=>
 ∃ a5 l5 c5,w1.cell? (Addr.add q4 1)=some (.slice a5 l5 c5)∧
 ∃ (I6:List Value→World→Prop) (mu7:List Value→World→Nat),
 I6 [.slice none 0 0,.int .i64 0] w1∧
 ∀ (_:Env) (a8:Option Addr) (l8:Nat) (c8:Nat) (n9:Int) (w2:World),I6 [.slice a8 l8 c8,.int .i64 n9] w2→
 cond (decide (n9< (((l5:Nat):Int))))
 ((0≤(n9:Int)∧(n9:Int)< ((l5:Nat):Int))∧
 nn a5 (fun q10=>
 ∃ p11,w2.cell? (Addr.add q10 (Int.toNat n9))=some (.pointer p11)∧
 nn p11 (fun q12=>
 ∃ n13,w2.cell? q12=some (.int .i64 n13)∧
 let w3:=w2.alloc (.cells #[.int .i64 n13] 3);
 ∃ a14 l14 c14 w4,Sem.run Tryz.prog (Builtin.append_ #[39,39] 39 #[.slice a8 l8 c8,.slice (some (Addr.mk w2.heap.size 0 none)) 1 1]) w3=.ok (.slice a14 l14 c14) w4∧
 inI (n9+1)∧
 I6 [.slice a14 l14 c14,.int .i64 (n9+1)] w4∧mu7 [.slice a14 l14 c14,.int .i64 (n9+1)] w4< mu7 [.slice a8 l8 c8,.int .i64 n9] w2)))
 (Q (.slice a8 l8 c8) w2))))
theorem C172 {p1 Q w} (h:L172 p1 Q w):CallR Tryz.prog 172 [.pointer p1] w Q:=
 fC A172 Tryz.func172 rfl (by kernel_rfl) (Eq.mp (by kernel_rfl) h)
def A170:Ann:=⟨[],[],[],[],[],[]⟩
def L170 (a1:Option Addr) (l1 c1:Nat) (Q:Value→World→Prop) (w:World):Prop:=
 let w1:=w.alloc (.cells #[.slice a1 l1 c1] 96);
 Q (.func (.func 221) #[] #[.pointer (some (Addr.mk w.heap.size 0 none))]) w1
theorem C170 {a1 l1 c1 Q w} (h:L170 a1 l1 c1 Q w):CallR Tryz.prog 170 [.slice a1 l1 c1] w Q:=
 fC A170 Tryz.func170 rfl (by kernel_rfl) (Eq.mp (by kernel_rfl) h)
end Go.Proofs.YteojolihgijdhaaGreatDoor
