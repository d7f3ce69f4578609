/- Part 9 of 21 of the proof of TopFlushed. Conditions: the theorem's: none. -/
import Derived.Test.YteojolihgijdhaaGreatDoorKTopFlushed4
set_option linter.unusedVariables false
set_option maxRecDepth 100000
namespace Go.Proofs.YteojolihgijdhaaGreatDoor
open Go.Lw
def A221:Ann:=⟨[(1,[(3,.one (.int .i64))])],[],[],[],[],[]⟩
def L221 (v1:Value) (p2:Option Addr) (Q:Value→World→Prop) (w:World):Prop:=
 nn p2 (fun q3=>
 ∃ a4 l4 c4,w.cell? q3=some (.slice a4 l4 c4)∧
 inI ((((l4:Nat):Int)) - 1)∧
 ∃ (I5:List Value→World→Prop) (mu6:List Value→World→Nat),
 I5 [.int .i64 ((((l4:Nat):Int)) - 1)] w∧
 ∀ (_:Env) (n7:Int) (w1:World),I5 [.int .i64 n7] w1→
 cond (decide (n7≥0))
 (nn p2 (fun q8=>
 ∃ a9 l9 c9,w1.cell? q8=some (.slice a9 l9 c9)∧
 (0≤(n7:Int)∧(n7:Int)< ((l9:Nat):Int))∧
 nn a9 (fun q10=>
 ∃ n11 n12 a13 l13 c13 n14,w1.cell? (Addr.add q10 (Int.toNat n7 * 4))=some (.int .i64 n11)∧w1.cell? (Addr.add (Addr.add q10 (Int.toNat n7 * 4)) 1)=some (.int .i64 n12)∧w1.cell? (Addr.add (Addr.add q10 (Int.toNat n7 * 4)) 2)=some (.slice a13 l13 c13)∧w1.cell? (Addr.add (Addr.add q10 (Int.toNat n7 * 4)) 3)=some (.int .i64 n14)∧
 ∃ l15,v1=.func (.yield l15) #[] #[]∧YieldR Tryz.prog l15 [.int .i64 n7,.agg #[.int .i64 n11,.int .i64 n12,.slice a13 l13 c13,.int .i64 n14]] w1 (fun (b16:Bool) (w2:World)=>
 cond (!b16)
 (Q (.tuple #[]) w2)
 (inI (n7 - 1)∧
 I5 [.int .i64 (n7 - 1)] w2∧mu6 [.int .i64 (n7 - 1)] w2< mu6 [.int .i64 n7] w1)))))
 (Q (.tuple #[]) w1))
theorem C221 {v1 p2 Q w} (h:L221 v1 p2 Q w):CallR Tryz.prog 221 [v1,.pointer p2] w Q:=
 funI_calls (A:=A221) Tryz.func221 (c:=(Tryz.f221.body).getD .skip) rfl (by kernel_rfl) (Eq.mp (by kernel_rfl) h)
def A113:Ann:=⟨[(12,[(41,.one (.int .i64))])],[],[],[],[(14,[0,1,2,3,4,5,6],7,[8])],[]⟩
def L113 (p1:Option Addr) (n2:Int) (Q:Value→World→Prop) (w:World):Prop:=
 let w1:=w.alloc (.cells #[.pointer p1] 58);
 ∃ p3,w1.cell? (Addr.mk w.heap.size 0 none)=some (.pointer p3)∧
 CQ 155 [.pointer p3] w1 (fun r5 w2=>
 ∃ b4,r5=.bool b4∧
 cond b4
 (Q (.tuple #[.int .i64 0,.slice none 0 0,.int .i64 2]) w2)
 (∃ p6,w2.cell? (Addr.mk w.heap.size 0 none)=some (.pointer p6)∧
 nn p6 (fun q7=>
 ∃ b8,w2.cell? (Addr.add q7 4)=some (.bool b8)∧
 cond b8
 (Q (.tuple #[.int .i64 0,.slice none 0 0,.int .i64 192]) w2)
 (∃ p9,w2.cell? (Addr.mk w.heap.size 0 none)=some (.pointer p9)∧
 nn p9 (fun q10=>
 stC (Addr.add q10 4) (.bool true) w2 (fun w3=>
 let w4:=w3.alloc (.cells #[.slice none 0 0] 46);
 ∃ p11,w4.cell? (Addr.mk w.heap.size 0 none)=some (.pointer p11)∧
 nn p11 (fun q12=>
 ∃ a13 l13 c13,w4.cell? (Addr.add q12 3)=some (.slice a13 l13 c13)∧
 CQ 170 [.slice a13 l13 c13] w4 (fun r15 w5=>
 ∃ (v14:Value),r15=v14∧
 ∃ (gf20:FuncId) (lb21:Array Value) (xs22:List (List Value)) (Kp23 T24:Nat→Prop) (I25 Ix26:Nat→World→Prop),
 v14=.func (.func gf20) #[] lb21∧bodyB Tryz.prog gf20=true∧IterOK Tryz.prog gf20 (Array.toList lb21) xs22 Kp23 w5∧(∀ z,Kp23 z→z< w5.heap.size)∧(∀ z,T24 z→¬ Kp23 z∧z≠w5.heap.size∧z≠w5.heap.size+1)∧
 Steady w5.heap.size I25∧Steady w5.heap.size Ix26∧I25 0 w5∧
 (∀ (i18:Nat) (x19:List Value) (w6:World),xs22[i18]?=some x19→I25 i18 w6→w5.heap.size+2≤w6.heap.size→List.length x19=2∧∃ (n16:Int) (v17:Value),x19=[.int .i64 n16,v17]∧
 let w11:=w6.alloc (.cells #[.int .i64 0,.int .i64 0,.slice none 0 0,.int .i64 0] 177);
 storeS Tryz.prog 177 (Addr.mk w6.heap.size 0 none) v17 w11 (fun w12=>
 w12=w6∧∀ (w7:World),Kept (fun z=>z=w5.heap.size+1) w6 w7→
 False))∧
 (∀ (w8:World),I25 (List.length xs22) w8→
 ∃ p27,w8.cell? (Addr.mk w.heap.size 0 none)=some (.pointer p27)∧
 CQ 172 [.pointer p27] w8 (fun r29 w13=>
 ∃ a28 l28 c28,r29=.slice a28 l28 c28∧
 ∃ (I30:List Value→World→Prop) (mu31:List Value→World→Nat),
 I30 [.int .i64 0] w13∧
 ∀ (_:Env) (n32:Int) (w14:World),I30 [.int .i64 n32] w14→
 cond (decide (n32< (((l28:Nat):Int))))
 ((0≤(n32:Int)∧(n32:Int)< ((l28:Nat):Int))∧
 nn a28 (fun q33=>
 ∃ n34,w14.cell? (Addr.add q33 (Int.toNat n32))=some (.int .i64 n34)∧
 ∃ (S35:World→Prop),S35 (w14.drew)∧
 let w15:=w14.drew;
 ∃ a36 l36 c36,(∀ wS:World,S35 wS→wS.cell? (Addr.mk w3.heap.size 0 none)=some (.slice a36 l36 c36))∧
 ∃ p37,(∀ wS:World,S35 wS→wS.cell? (Addr.mk w.heap.size 0 none)=some (.pointer p37))∧
 CQ 77 [.pointer p37,.int .i64 n34] w15 (fun r39 w16=>
 ∃ n38,r39=.int .i64 n38∧
 S35 w16∧
 let w17:=w16.alloc (.cells #[.int .i64 2,.int .i64 n34,.int .i64 n38] 118);
 S35 w17∧
 ∃ a40 l40 c40 w18,Sem.run Tryz.prog (Builtin.append_ #[46,46] 46 #[.slice a36 l36 c36,.slice (some (Addr.mk w16.heap.size 0 none)) 1 1]) w17=.ok (.slice a40 l40 c40) w18∧
 stC (Addr.mk w3.heap.size 0 none) (.slice a40 l40 c40) w18 (fun w19=>
 inI (n32+1)∧
 I30 [.int .i64 (n32+1)] w19∧mu31 [.int .i64 (n32+1)] w19< mu31 [.int .i64 n32] w14))))
 (∃ a42 l42 c42,w14.cell? (Addr.mk w3.heap.size 0 none)=some (.slice a42 l42 c42)∧
 ∀ nd41:Nat,let w20:=World.drewN w14 nd41;
 Kept (fun z=>z≠w5.heap.size) w8 w20∧∀ (w9:World),Kept (fun z=>z=w5.heap.size) w20 w9→
 Q (.tuple #[.int .i64 n2,.slice a42 l42 c42,.int .i64 0]) w9)))∧
 (∀ (i18:Nat) (w8:World),Ix26 i18 w8→∀ (w10:World),Kept (fun z=>z=w5.heap.size) w8 w10→
 Q (.tuple #[.int .i64 0,.slice none 0 0,.int .i64 0]) w10)))))))))
theorem C113 {p1 n2 Q w} (h:L113 p1 n2 Q w):CallR Tryz.prog 113 [.pointer p1,.int .i64 n2] w Q:=
 funRF (A:=A113) (shs:=[.one (.int .i64),.one (.any)]) mixed Tryz.func113 (c:=(Tryz.f113.body).getD .skip) rfl (by kernel_rfl) (Eq.mp (by kernel_rfl) h)
def A17:Ann:=⟨[(3,[(23,.one (.int .i64))])],[],[],[],[],[]⟩
def L17 (p1:Option Addr) (Q:Value→World→Prop) (w:World):Prop:=
 nn p1 (fun q2=>
 stC (Addr.add q2 11) (.bool true) w (fun w1=>
 nn p1 (fun q3=>
 ∃ p4,w1.cell? q3=some (.pointer p4)∧
 CQ 49 [.pointer p4] w1 (fun r6 w2=>
 ∃ a5 l5 c5,r6=.slice a5 l5 c5∧
 nn p1 (fun q7=>
 stC (Addr.add (Addr.add q7 5) 4) (.slice a5 l5 c5) w2 (fun w3=>
 nn p1 (fun q8=>
 ∃ a9 l9 c9,w3.cell? (Addr.add q8 4)=some (.slice a9 l9 c9)∧
 ∃ (I10:List Value→World→Prop) (mu11:List Value→World→Nat),
 I10 [.int .i64 0] w3∧
 ∀ (_:Env) (n12:Int) (w4:World),I10 [.int .i64 n12] w4→
 cond (decide (n12< (((l9:Nat):Int))))
 ((0≤(n12:Int)∧(n12:Int)< ((l9:Nat):Int))∧
 nn a9 (fun q13=>
 ∃ s14,w4.cell? (Addr.add q13 (Int.toNat n12))=some (.string s14)∧
 nn p1 (fun q15=>
 ∃ p16,w4.cell? q15=some (.pointer p16)∧
 CQ 50 [.pointer p16,.string s14] w4 (fun r19 w5=>
 ∃ a17 l17 c17 b18,r19=.tuple #[.slice a17 l17 c17,.bool b18]∧
 nn p1 (fun q20=>
 ∃ a21 l21 c21,w5.cell? (Addr.add (Addr.add q20 5) 5)=some (.slice a21 l21 c21)∧
 let w6:=w5.alloc (.cells #[.string s14,.slice a17 l17 c17] 52);
 ∃ a22 l22 c22 w7,Sem.run Tryz.prog (Builtin.append_ #[29,29] 29 #[.slice a21 l21 c21,.slice (some (Addr.mk w5.heap.size 0 none)) 1 1]) w6=.ok (.slice a22 l22 c22) w7∧
 nn p1 (fun q23=>
 stC (Addr.add (Addr.add q23 5) 5) (.slice a22 l22 c22) w7 (fun w8=>
 inI (n12+1)∧
 I10 [.int .i64 (n12+1)] w8∧mu11 [.int .i64 (n12+1)] w8< mu11 [.int .i64 n12] w4)))))))
 (Q (.tuple #[]) w4))))))))
theorem C17 {p1 Q w} (h:L17 p1 Q w):CallR Tryz.prog 17 [.pointer p1] w Q:=
 fC A17 Tryz.func17 rfl (by kernel_rfl) (Eq.mp (by kernel_rfl) h)
def A51:Ann:=⟨[(2,[])],[],[],[(4,[0,1,2,3,4,5,6])],[],[]⟩
def L51 (p1:Option Addr) (n2:Int) (Q:Value→World→Prop) (w:World):Prop:=
 nn p1 (fun q3=>
 ∃ p4,w.cell? (Addr.add q3 2)=some (.pointer p4)∧
 CQ 113 [.pointer p4,.int .i64 n2] w (fun r8 w1=>
 ∃ n5 a6 l6 c6 n7,r8=.tuple #[.int .i64 n5,.slice a6 l6 c6,.int .i64 n7]∧
 nn p1 (fun q9=>
 stC (Addr.add (Addr.add q9 5) 1) (.int .i64 n5) w1 (fun w2=>
 nn p1 (fun q10=>
 stC (Addr.add (Addr.add q10 5) 2) (.slice a6 l6 c6) w2 (fun w3=>
 nn p1 (fun q11=>
 ∃ (m12:Option Nat),w3.cell? (Addr.add q11 3)=some (.map m12)∧
 ∃ w4,Sem.run Tryz.prog (Instr.range 60 (.map m12)) w3=.ok (.pointer (some (Addr.mk w3.heap.size 0 none))) w4∧
 ∃ (I13:List Value→World→Prop) (mu14:List Value→World→Nat),
 I13 [] w4∧
 ∀ (_:Env) (w5:World),I13 [] w5→
 (∃ w6,Sem.run Tryz.prog (Instr.next (.pointer (some (Addr.mk w3.heap.size 0 none))) false 0) w5=.ok (.tuple #[.bool false]) w6∧
 nn p1 (fun q17=>
 ∃ p18,w6.cell? (Addr.add q17 1)=some (.pointer p18)∧
 CQ 115 [.pointer p18] w6 (fun r19 w8=>
 r19=.tuple #[]∧
 CQ 17 [.pointer p1] w8 (fun r20 w9=>
 r20=.tuple #[]∧
 Q (.tuple #[]) w9))))∨
 (∃ (v15:Value) (v16:Value) (w7:World),Sem.run Tryz.prog (Instr.next (.pointer (some (Addr.mk w3.heap.size 0 none))) false 0) w5=.ok (.tuple #[.bool true,v15,v16]) w7∧
 ((∃ (s21:ByteArray) (v22:Value) (w10:World),Sem.run Tryz.prog (Instr.entry (.pointer (some (Addr.mk w3.heap.size 0 none)))) w7=.ok (.tuple #[.string s21,v22]) w10∧
 let w12:=w10.alloc (.cells #[.int .i64 0,.int .i64 0] 161);
 storeS Tryz.prog 161 (Addr.mk w10.heap.size 0 none) v22 w12 (fun w13=>
 let w14:=w13.drew;
 nn p1 (fun q25=>
 ∃ p26,w14.cell? q25=some (.pointer p26)∧
 ∃ n27,w14.cell? (Addr.mk w10.heap.size 0 none)=some (.int .i64 n27)∧
 CQ 114 [.pointer p26,.int .i64 n27] w14 (fun r29 w15=>
 ∃ n28,r29=.int .i64 n28∧
 I13 [] w15∧mu14 [] w15< mu14 [] w5))))∨
 (∃ (n23:Int) (v24:Value) (w11:World),Sem.run Tryz.prog (Instr.entry (.pointer (some (Addr.mk w3.heap.size 0 none)))) w7=.ok (.tuple #[.int .i64 n23,v24]) w11∧
 let w16:=w11.alloc (.cells #[.int .i64 0,.int .i64 0] 161);
 storeS Tryz.prog 161 (Addr.mk w11.heap.size 0 none) v24 w16 (fun w17=>
 let w18:=w17.drew;
 nn p1 (fun q30=>
 ∃ p31,w18.cell? q30=some (.pointer p31)∧
 ∃ n32,w18.cell? (Addr.mk w11.heap.size 0 none)=some (.int .i64 n32)∧
 CQ 114 [.pointer p31,.int .i64 n32] w18 (fun r34 w19=>
 ∃ n33,r34=.int .i64 n33∧
 I13 [] w19∧mu14 [] w19< mu14 [] w5)))))))))))))
theorem C51 {p1 n2 Q w} (h:L51 p1 n2 Q w):CallR Tryz.prog 51 [.pointer p1,.int .i64 n2] w Q:=
 fC A51 Tryz.func51 rfl (by kernel_rfl) (Eq.mp (by kernel_rfl) h)
def A53:Ann:=⟨[(3,[(3,.one (.slice)),(8,.one (.int .i64))])],[],[],[],[(5,[0,1,2,3,4,5,6],7,[8,9])],[]⟩
def L53 (a1:Option Addr) (l1 c1:Nat) (Q:Value→World→Prop) (w:World):Prop:=
 ∃ (I2:List Value→World→Prop) (mu3:List Value→World→Nat),
 I2 [.slice none 0 0,.int .i64 0] w∧
 ∀ (_:Env) (a4:Option Addr) (l4:Nat) (c4:Nat) (n5:Int) (w1:World),I2 [.slice a4 l4 c4,.int .i64 n5] w1→
 cond (decide (n5< (((l1:Nat):Int))))
 ((0≤(n5:Int)∧(n5:Int)< ((l1:Nat):Int))∧
 nn a1 (fun q6=>
 ∃ s7 a8 l8 c8,w1.cell? (Addr.add q6 (Int.toNat n5 * 2))=some (.string s7)∧w1.cell? (Addr.add (Addr.add q6 (Int.toNat n5 * 2)) 1)=some (.slice a8 l8 c8)∧
 let w2:=w1.alloc (.cells #[.string (ByteArray.mk #[]),.slice none 0 0] 52);
 stC (Addr.mk w1.heap.size 0 none) (.string s7) w2 (fun w3=>
 stC (Addr.mk w1.heap.size 1 none) (.slice a8 l8 c8) w3 (fun w4=>
 ∃ (S9:World→Prop),S9 (w4.drew)∧
 let w5:=w4.drew;
 ∃ s10,(∀ wS:World,S9 wS→wS.cell? (Addr.mk w1.heap.size 0 none)=some (.string s10))∧
 ∃ a11 l11 c11,(∀ wS:World,S9 wS→wS.cell? (Addr.mk w1.heap.size 1 none)=some (.slice a11 l11 c11))∧
 CQ 47 [.slice a11 l11 c11] w5 (fun r13 w6=>
 ∃ a12 l12 c12,r13=.slice a12 l12 c12∧
 S9 w6∧
 let w7:=w6.alloc (.cells #[.string s10,.slice a12 l12 c12] 52);
 ∃ a14 l14 c14 w8,Sem.run Tryz.prog (Builtin.append_ #[29,29] 29 #[.slice a4 l4 c4,.slice (some (Addr.mk w6.heap.size 0 none)) 1 1]) w7=.ok (.slice a14 l14 c14) w8∧
 inI (n5+1)∧
 I2 [.slice a14 l14 c14,.int .i64 (n5+1)] w8∧mu3 [.slice a14 l14 c14,.int .i64 (n5+1)] w8< mu3 [.slice a4 l4 c4,.int .i64 n5] w1)))))
 (Q (.slice a4 l4 c4) w1)
theorem C53 {a1 l1 c1 Q w} (h:L53 a1 l1 c1 Q w):CallR Tryz.prog 53 [.slice a1 l1 c1] w Q:=
 fC A53 Tryz.func53 rfl (by kernel_rfl) (Eq.mp (by kernel_rfl) h)
def A18:Ann:=⟨[(8,[(30,.one (.int .i64))])],[(5,[])],[],[],[(10,[0,1,2,3,4],5,[6,7]),(13,[0,1,3,4,2,6],5,[7,8,9])],[]⟩
def L18 (p1:Option Addr) (n2:Int) (Q:Value→World→Prop) (w:World):Prop:=
 let w1:=w.alloc (.cells (gq10 none 0 0 0 none 0 0 false none 0 0 none 0 0) 48);
 CQ 14 [.pointer p1] w1 (fun r4 w2=>
 ∃ b3,r4=.bool b3∧
 cond b3
 (sq6 w.heap.size w2 (.slice none 0 0) (.int .i64 0) (.slice none 0 0) (.bool false) (.slice none 0 0) (.slice none 0 0) (fun w8=>lq10 w8 w.heap.size fun a5 l5 c5 n6 a7 l7 c7 b8 a9 l9 c9 a10 l10 c10=>Q (.agg (gq10 a5 l5 c5 n6 a7 l7 c7 b8 a9 l9 c9 a10 l10 c10)) w8))
 (∃ (J11:List Value→World→Prop),
 (nn p1 (fun q12=>
 ∃ b13,w2.cell? (Addr.add q12 11)=some (.bool b13)∧
 cond (!b13)
 (CQ 51 [.pointer p1,.int .i64 n2] w2 (fun r14 w9=>
 r14=.tuple #[]∧
 J11 [] w9))
 (J11 [] w2)))∧
 (∀ (_:Env) (w10:World),J11 [] w10→
 nn p1 (fun q15=>
 ∃ a16 l16 c16 n17 a18 l18 c18 b19 a20 l20 c20 a21 l21 c21,w10.cell? (Addr.add q15 5)=some (.slice a16 l16 c16)∧w10.cell? (Addr.add (Addr.add q15 5) 1)=some (.int .i64 n17)∧w10.cell? (Addr.add (Addr.add q15 5) 2)=some (.slice a18 l18 c18)∧w10.cell? (Addr.add (Addr.add q15 5) 3)=some (.bool b19)∧w10.cell? (Addr.add (Addr.add q15 5) 4)=some (.slice a20 l20 c20)∧w10.cell? (Addr.add (Addr.add q15 5) 5)=some (.slice a21 l21 c21)∧
 let w11:=w10.alloc (.cells (gq10 none 0 0 0 none 0 0 false none 0 0 none 0 0) 48);
 sq6 w10.heap.size w11 (.slice a16 l16 c16) (.int .i64 n17) (.slice a18 l18 c18) (.bool b19) (.slice a20 l20 c20) (.slice a21 l21 c21) (fun w17=>stC (Addr.mk w10.heap.size 0 none) (.slice none 0 0) w17 (fun w18=>
 nn p1 (fun q22=>
 ∃ a23 l23 c23,w18.cell? (Addr.add q22 5)=some (.slice a23 l23 c23)∧
 ∃ (I24:List Value→World→Prop) (mu25:List Value→World→Nat),
 I24 [.int .i64 0] w18∧
 ∀ (_:Env) (n26:Int) (w19:World),I24 [.int .i64 n26] w19→
 cond (decide (n26< (((l23:Nat):Int))))
 ((0≤(n26:Int)∧(n26:Int)< ((l23:Nat):Int))∧
 nn a23 (fun q27=>
 ∃ n28 n29 n30 a31 l31 c31 a32 l32 c32,w19.cell? (Addr.add q27 (Int.toNat n26 * 5))=some (.int .i64 n28)∧w19.cell? (Addr.add (Addr.add q27 (Int.toNat n26 * 5)) 1)=some (.int .i64 n29)∧w19.cell? (Addr.add (Addr.add q27 (Int.toNat n26 * 5)) 2)=some (.int .i64 n30)∧w19.cell? (Addr.add (Addr.add q27 (Int.toNat n26 * 5)) 3)=some (.slice a31 l31 c31)∧w19.cell? (Addr.add (Addr.add q27 (Int.toNat n26 * 5)) 4)=some (.slice a32 l32 c32)∧
 let w20:=w19.alloc (.cells (gq7 0 0 0 none 0 0 none 0 0) 37);
 sq5 w19.heap.size w20 (.int .i64 n28) (.int .i64 n29) (.int .i64 n30) (.slice a31 l31 c31) (.slice a32 l32 c32) (fun w25=>∃ (S33:World→Prop),S33 (w25.drew)∧
 let w26:=w25.drew;
 ∃ a34 l34 c34,(∀ wS:World,S33 wS→wS.cell? (Addr.mk w10.heap.size 0 none)=some (.slice a34 l34 c34))∧
 ∃ n35 n36 n37 a38 l38 c38 a39 l39 c39,(∀ wS:World,S33 wS→wS.cell? (Addr.mk w19.heap.size 0 none)=some (.int .i64 n35)∧wS.cell? (Addr.mk w19.heap.size 1 none)=some (.int .i64 n36)∧wS.cell? (Addr.mk w19.heap.size 2 none)=some (.int .i64 n37)∧wS.cell? (Addr.mk w19.heap.size 3 none)=some (.slice a38 l38 c38)∧wS.cell? (Addr.mk w19.heap.size 4 none)=some (.slice a39 l39 c39)∧True)∧
 CQ 16 [.agg (gq7 n35 n36 n37 a38 l38 c38 a39 l39 c39)] w26 (fun r45 w27=>
 ∃ n40 n41 n42 a43 l43 c43 a44 l44 c44,r45=.agg (gq7 n40 n41 n42 a43 l43 c43 a44 l44 c44)∧
 S33 w27∧
 let w28:=w27.alloc (.cells (gq7 n40 n41 n42 a43 l43 c43 a44 l44 c44) 37);
 S33 w28∧
 ∃ a46 l46 c46 w29,Sem.run Tryz.prog (Builtin.append_ #[45,45] 45 #[.slice a34 l34 c34,.slice (some (Addr.mk w27.heap.size 0 none)) 1 1]) w28=.ok (.slice a46 l46 c46) w29∧
 stC (Addr.mk w10.heap.size 0 none) (.slice a46 l46 c46) w29 (fun w30=>
 inI (n26+1)∧
 I24 [.int .i64 (n26+1)] w30∧mu25 [.int .i64 (n26+1)] w30< mu25 [.int .i64 n26] w19)))))
 (∃ a47 l47 c47,w19.cell? (Addr.mk w10.heap.size 2 none)=some (.slice a47 l47 c47)∧
 CQ 52 [.slice a47 l47 c47] w19 (fun r49 w31=>
 ∃ a48 l48 c48,r49=.slice a48 l48 c48∧
 stC (Addr.mk w10.heap.size 2 none) (.slice a48 l48 c48) w31 (fun w32=>
 ∃ (S50:World→Prop),S50 (w32.drew)∧
 let w33:=w32.drew;
 ∃ a51 l51 c51,(∀ wS:World,S50 wS→wS.cell? (Addr.mk w10.heap.size 4 none)=some (.slice a51 l51 c51))∧
 ∃ a52 l52 c52,(∀ wS:World,S50 wS→wS.cell? (Addr.mk w10.heap.size 5 none)=some (.slice a52 l52 c52))∧
 CQ 53 [.slice a51 l51 c51] w33 (fun r54 w34=>
 ∃ a53 l53 c53,r54=.slice a53 l53 c53∧
 S50 w34∧
 CQ 53 [.slice a52 l52 c52] w34 (fun r56 w35=>
 ∃ a55 l55 c55,r56=.slice a55 l55 c55∧
 stC (Addr.mk w10.heap.size 4 none) (.slice a53 l53 c53) w35 (fun w36=>
 stC (Addr.mk w10.heap.size 5 none) (.slice a55 l55 c55) w36 (fun w37=>
 lq10 w37 w10.heap.size fun a57 l57 c57 n58 a59 l59 c59 b60 a61 l61 c61 a62 l62 c62=>sq6 w.heap.size w37 (.slice a57 l57 c57) (.int .i64 n58) (.slice a59 l59 c59) (.bool b60) (.slice a61 l61 c61) (.slice a62 l62 c62) (fun w43=>lq10 w43 w.heap.size fun a63 l63 c63 n64 a65 l65 c65 b66 a67 l67 c67 a68 l68 c68=>Q (.agg (gq10 a63 l63 c63 n64 a65 l65 c65 b66 a67 l67 c67 a68 l68 c68)) w43)))))))))))))))
theorem C18 {p1 n2 Q w} (h:L18 p1 n2 Q w):CallR Tryz.prog 18 [.pointer p1,.int .i64 n2] w Q:=
 fC A18 Tryz.func18 rfl (by kernel_rfl) (Eq.mp (by kernel_rfl) h)
def A9:Ann:=⟨[(7,[(25,.one (.int .i64))])],[],[],[],[],[]⟩
def L9 (a1:Option Addr) (l1 c1:Nat) (a2:Option Addr) (l2 c2:Nat) (a3:Option Addr) (l3 c3:Nat) (a4:Option Addr) (l4 c4:Nat) (Q:Value→World→Prop) (w:World):Prop:=
 let w1:=w.alloc (.cells #[.slice a1 l1 c1,.slice a2 l2 c2,.slice a3 l3 c3] 32);
 let w2:=w1.alloc (.cells (gq10 none 0 0 0 none 0 0 false none 0 0 none 0 0) 48);
 cond (decide ((((l4:Nat):Int)) > 4096))
 (sq6 w1.heap.size w2 (.slice none 0 0) (.int .i64 0) (.slice none 0 0) (.bool false) (.slice none 0 0) (.slice none 0 0) (fun w8=>lq10 w8 w1.heap.size fun a5 l5 c5 n6 a7 l7 c7 b8 a9 l9 c9 a10 l10 c10=>Q (.tuple #[.agg (gq10 a5 l5 c5 n6 a7 l7 c7 b8 a9 l9 c9 a10 l10 c10),.int .i64 3]) w8))
 (lq2 w2 w.heap.size fun a11 l11 c11 a12 l12 c12 a13 l13 c13=>CQ 5 [.agg #[.slice a11 l11 c11,.slice a12 l12 c12,.slice a13 l13 c13]] w2 (fun r16 w9=>
 ∃ p14 n15,r16=.tuple #[.pointer p14,.int .i64 n15]∧
 cond (n15 != 0)
 (sq6 w1.heap.size w9 (.slice none 0 0) (.int .i64 0) (.slice none 0 0) (.bool false) (.slice none 0 0) (.slice none 0 0) (fun w15=>lq10 w15 w1.heap.size fun a17 l17 c17 n18 a19 l19 c19 b20 a21 l21 c21 a22 l22 c22=>Q (.tuple #[.agg (gq10 a17 l17 c17 n18 a19 l19 c19 b20 a21 l21 c21 a22 l22 c22),.int .i64 n15]) w15))
 (∃ (I23:List Value→World→Prop) (mu24:List Value→World→Nat),
 I23 [.int .i64 0] w9∧
 ∀ (_:Env) (n25:Int) (w16:World),I23 [.int .i64 n25] w16→
 cond (decide (n25< (((l4:Nat):Int))))
 ((0≤(n25:Int)∧(n25:Int)< ((l4:Nat):Int))∧
 nn a4 (fun q26=>
 ∃ n27 n28 n29 n30 s31 s32 a33 l33 c33 a34 l34 c34 a35 l35 c35,w16.cell? (Addr.add q26 (Int.toNat n25 * 9))=some (.int .i64 n27)∧w16.cell? (Addr.add (Addr.add q26 (Int.toNat n25 * 9)) 1)=some (.int .i64 n28)∧w16.cell? (Addr.add (Addr.add q26 (Int.toNat n25 * 9)) 2)=some (.int .i64 n29)∧w16.cell? (Addr.add (Addr.add q26 (Int.toNat n25 * 9)) 3)=some (.int .i64 n30)∧w16.cell? (Addr.add (Addr.add q26 (Int.toNat n25 * 9)) 4)=some (.string s31)∧w16.cell? (Addr.add (Addr.add q26 (Int.toNat n25 * 9)) 5)=some (.string s32)∧w16.cell? (Addr.add (Addr.add q26 (Int.toNat n25 * 9)) 6)=some (.slice a33 l33 c33)∧w16.cell? (Addr.add (Addr.add q26 (Int.toNat n25 * 9)) 7)=some (.slice a34 l34 c34)∧w16.cell? (Addr.add (Addr.add q26 (Int.toNat n25 * 9)) 8)=some (.slice a35 l35 c35)∧
 let w17:=w16.alloc (.cells #[.int .i64 0,.int .i64 0,.int .i64 0,.int .i64 0,.string (ByteArray.mk #[]),.string (ByteArray.mk #[]),.slice none 0 0,.slice none 0 0,.slice none 0 0] 41);
 sq9 w16.heap.size w17 (.int .i64 n27) (.int .i64 n28) (.int .i64 n29) (.int .i64 n30) (.string s31) (.string s32) (.slice a33 l33 c33) (.slice a34 l34 c34) (.slice a35 l35 c35) (fun w26=>lq8 w26 w16.heap.size fun n36 n37 n38 n39 s40 s41 a42 l42 c42 a43 l43 c43 a44 l44 c44=>CQ 7 [.pointer p14,.agg (gq8 n36 n37 n38 n39 s40 s41 a42 l42 c42 a43 l43 c43 a44 l44 c44)] w26 (fun r50 w27=>
 ∃ n45 n46 n47 a48 l48 c48 a49 l49 c49,r50=.agg (gq7 n45 n46 n47 a48 l48 c48 a49 l49 c49)∧
 nn p14 (fun q51=>
 ∃ b52,w27.cell? (Addr.add q51 11)=some (.bool b52)∧
 cond b52
 (CQ 18 [.pointer p14,.int .i64 0] w27 (fun r59 w28=>
 ∃ a53 l53 c53 n54 a55 l55 c55 b56 a57 l57 c57 a58 l58 c58,r59=.agg (gq10 a53 l53 c53 n54 a55 l55 c55 b56 a57 l57 c57 a58 l58 c58)∧
 sq6 w1.heap.size w28 (.slice a53 l53 c53) (.int .i64 n54) (.slice a55 l55 c55) (.bool b56) (.slice a57 l57 c57) (.slice a58 l58 c58) (fun w34=>lq10 w34 w1.heap.size fun a60 l60 c60 n61 a62 l62 c62 b63 a64 l64 c64 a65 l65 c65=>Q (.tuple #[.agg (gq10 a60 l60 c60 n61 a62 l62 c62 b63 a64 l64 c64 a65 l65 c65),.int .i64 0]) w34)))
 (inI (n25+1)∧
 I23 [.int .i64 (n25+1)] w27∧mu24 [.int .i64 (n25+1)] w27< mu24 [.int .i64 n25] w16))))))
 (CQ 18 [.pointer p14,.int .i64 0] w16 (fun r72 w35=>
 ∃ a66 l66 c66 n67 a68 l68 c68 b69 a70 l70 c70 a71 l71 c71,r72=.agg (gq10 a66 l66 c66 n67 a68 l68 c68 b69 a70 l70 c70 a71 l71 c71)∧
 sq6 w1.heap.size w35 (.slice a66 l66 c66) (.int .i64 n67) (.slice a68 l68 c68) (.bool b69) (.slice a70 l70 c70) (.slice a71 l71 c71) (fun w41=>lq10 w41 w1.heap.size fun a73 l73 c73 n74 a75 l75 c75 b76 a77 l77 c77 a78 l78 c78=>Q (.tuple #[.agg (gq10 a73 l73 c73 n74 a75 l75 c75 b76 a77 l77 c77 a78 l78 c78),.int .i64 0]) w41))))))
theorem C9 {a1 l1 c1 a2 l2 c2 a3 l3 c3 a4 l4 c4 Q w} (h:L9 a1 l1 c1 a2 l2 c2 a3 l3 c3 a4 l4 c4 Q w):CallR Tryz.prog 9 [.agg #[.slice a1 l1 c1,.slice a2 l2 c2,.slice a3 l3 c3],.slice a4 l4 c4] w Q:=
 fC A9 Tryz.func9 rfl (by kernel_rfl) (Eq.mp (by kernel_rfl) h)
def A6:Ann:=⟨[],[],[],[],[],[]⟩
def L6 (n1:Int) (Q:Value→World→Prop) (w:World):Prop:=
 Q (.int .i64 n1) w
theorem C6 {n1 Q w} (h:L6 n1 Q w):CallR Tryz.prog 6 [.int .i64 n1] w Q:=
 fC A6 Tryz.func6 rfl (by kernel_rfl) (Eq.mp (by kernel_rfl) h)
def A4:Ann:=⟨[],[],[],[],[],[]⟩
def L4 (Q:Value→World→Prop) (w:World):Prop:=
 let w1:=w.alloc (.cells #[.int .u8 104,.int .u8 105,.int .u8 10] 5);
 ∃ a1 l1 c1 w2,Sem.run Tryz.prog (convert 34 34 (.slice (some (Addr.mk w.heap.size 0 none)) 3 3)) w1=.ok (.slice a1 l1 c1) w2∧
 let w3:=w2.alloc (.cells #[.int .i64 1,.int .i64 0,.int .i64 2,.int .i64 8,.string (ByteArray.mk #[98]),.string (ByteArray.mk #[119]),.slice none 0 0,.slice none 0 0,.slice none 0 0,.int .i64 4,.int .i64 0,.int .i64 0,.int .i64 0,.string (ByteArray.mk #[]),.string (ByteArray.mk #[]),.slice a1 l1 c1,.slice none 0 0,.slice none 0 0] 41);
 CQ 9 [.agg #[.slice none 0 0,.slice none 0 0,.slice none 0 0],.slice (some (Addr.mk w2.heap.size 0 none)) 2 2] w3 (fun r9 w4=>
 ∃ a2 l2 c2 n3 a4 l4 c4 b5 a6 l6 c6 a7 l7 c7 n8,r9=.tuple #[.agg (gq10 a2 l2 c2 n3 a4 l4 c4 b5 a6 l6 c6 a7 l7 c7),.int .i64 n8]∧
 let w5:=w4.alloc (.cells (gq10 none 0 0 0 none 0 0 false none 0 0 none 0 0) 48);
 sq6 w4.heap.size w5 (.slice a2 l2 c2) (.int .i64 n3) (.slice a4 l4 c4) (.bool b5) (.slice a6 l6 c6) (.slice a7 l7 c7) (fun w11=>CQ 6 [.int .i64 n8] w11 (fun r11 w12=>
 ∃ n10,r11=.int .i64 n10∧
 cond (n10 == 0)
 (∃ a12 l12 c12,w12.cell? (Addr.mk w4.heap.size 4 none)=some (.slice a12 l12 c12)∧
 cond ((((l12:Nat):Int)) == 1)
 (∃ a13 l13 c13,w12.cell? (Addr.mk w4.heap.size 4 none)=some (.slice a13 l13 c13)∧
 (0≤(0:Int)∧(0:Int)< ((l13:Nat):Int))∧
 nn a13 (fun q14=>
 ∃ a15 l15 c15,w12.cell? (Addr.add (Addr.add q14 (Int.toNat 0 * 2)) 1)=some (.slice a15 l15 c15)∧
 ∃ s16 w13,Sem.run Tryz.prog (convert 34 9 (.slice a15 l15 c15)) w12=.ok (.string s16) w13∧
 Q (.bool (ByteArray.toList s16 == ByteArray.toList (ByteArray.mk #[104,105,10]))) w13))
 (Q (.bool false) w12))
 (Q (.bool false) w12))))
theorem C4 {Q w} (h:L4 Q w):CallR Tryz.prog 4 [] w Q:=
 fC A4 Tryz.func4 rfl (by kernel_rfl) (Eq.mp (by kernel_rfl) h)
def A3:Ann:=⟨[(12,[(13,.one (.int .i64))])],[(17,[(14,.one (.ptr))])],[],[(21,[0,1,2,3,4,5,6,7,8,9,10,11,12,13])],[(9,[0,1,3,4,2],5,[6,7]),(18,[0,1,3,4,2],5,[6,7,8,9,10,11,12,13,14,15,16,17])],[16,20]⟩
def L3 (a1:Option Addr) (l1 c1:Nat) (n2 n3:Int) (a4:Option Addr) (l4 c4:Nat) (Q:Value→World→Prop) (w:World):Prop:=
 CQ 4 [] w (fun r6 w1=>
 ∃ b5,r6=.bool b5∧
 cond (!b5)
 (Q (.bool false) w1)
 ((3:Int)≠0∧
 inI ((Int.tmod n2 (3:Int))+3)∧
 (3:Int)≠0∧
 inI ((1:Int)+(Int.tmod ((Int.tmod n2 (3:Int))+3) (3:Int)))∧
 (300:Int)≠0∧
 inI ((Int.tmod n3 (300:Int))+300)∧
 (300:Int)≠0∧
 inI ((1:Int)+(Int.tmod ((Int.tmod n3 (300:Int))+300) (300:Int)))∧
 CQ 5 [.agg #[.slice none 0 0,.slice none 0 0,.slice a4 l4 c4]] w1 (fun r9 w2=>
 ∃ p7 n8,r9=.tuple #[.pointer p7,.int .i64 n8]∧
 CQ 6 [.int .i64 n8] w2 (fun r11 w3=>
 ∃ n10,r11=.int .i64 n10∧
 cond (n10 != 0)
 (Q (.bool (Option.isNone p7)) w3)
 (cond (Option.isNone p7)
 (Q (.bool (Option.isNone p7)) w3)
 (CQ 7 [.pointer p7,.agg #[.int .i64 1,.int .i64 0,.int .i64 ((1:Int)+(Int.tmod ((Int.tmod n2 (3:Int))+3) (3:Int))),.int .i64 ((1:Int)+(Int.tmod ((Int.tmod n3 (300:Int))+300) (300:Int))),.string (ByteArray.mk #[102]),.string (ByteArray.mk #[119]),.slice none 0 0,.slice none 0 0,.slice none 0 0]] w3 (fun r17 w4=>
 ∃ n12 n13 n14 a15 l15 c15 a16 l16 c16,r17=.agg (gq7 n12 n13 n14 a15 l15 c15 a16 l16 c16)∧
 let w5:=w4.alloc (.cells (gq7 0 0 0 none 0 0 none 0 0) 37);
 sq5 w4.heap.size w5 (.int .i64 n12) (.int .i64 n13) (.int .i64 n14) (.slice a15 l15 c15) (.slice a16 l16 c16) (fun w10=>CQ 7 [.pointer p7,.agg #[.int .i64 1,.int .i64 0,.int .i64 3,.int .i64 64,.string (ByteArray.mk #[102]),.string (ByteArray.mk #[114]),.slice none 0 0,.slice none 0 0,.slice none 0 0]] w10 (fun r23 w11=>
 ∃ n18 n19 n20 a21 l21 c21 a22 l22 c22,r23=.agg (gq7 n18 n19 n20 a21 l21 c21 a22 l22 c22)∧
 let w12:=w11.alloc (.cells (gq7 0 0 0 none 0 0 none 0 0) 37);
 sq5 w11.heap.size w12 (.int .i64 n18) (.int .i64 n19) (.int .i64 n20) (.slice a21 l21 c21) (.slice a22 l22 c22) (fun w17=>∃ (S24:World→Prop),S24 (w17.drew)∧
 let w18:=w17.drew;
 ∃ n25,(∀ wS:World,S24 wS→wS.cell? (Addr.mk w4.heap.size 0 none)=some (.int .i64 n25))∧
 ∃ n26,(∀ wS:World,S24 wS→wS.cell? (Addr.mk w11.heap.size 0 none)=some (.int .i64 n26))∧
 CQ 6 [.int .i64 n25] w18 (fun r28 w19=>
 ∃ n27,r28=.int .i64 n27∧
 S24 w19∧
 CQ 6 [.int .i64 n26] w19 (fun r30 w20=>
 ∃ n29,r30=.int .i64 n29∧
 inI (n27+n29)∧
 cond ((n27+n29) != 0)
 (Q (.bool false) w20)
 (∃ (I31:List Value→World→Prop) (mu32:List Value→World→Nat),
 I31 [.int .i64 0] w20∧
 ∀ (_:Env) (n33:Int) (w21:World),I31 [.int .i64 n33] w21→
 cond (decide (n33< (((l1:Nat):Int))))
 (cond (decide (n33< 30))
 ((0≤(n33:Int)∧(n33:Int)< ((l1:Nat):Int))∧
 nn a1 (fun q34=>
 ∃ a35 l35 c35,w21.cell? (Addr.add q34 (Int.toNat n33))=some (.slice a35 l35 c35)∧
 cond (decide ((((l35:Nat):Int)) > 500))
 (Q (.bool true) w21)
 (∃ (J36:List Value→World→Prop),
 (let w22:=w21.drew;
 (0≤(n33:Int)∧(n33:Int)< ((l1:Nat):Int))∧
 nn a1 (fun q37=>
 (∃ n38,w22.cell? (Addr.mk w4.heap.size 1 none)=some (.int .i64 n38)∧
 (∃ a39 l39 c39,w22.cell? (Addr.add q37 (Int.toNat n33))=some (.slice a39 l39 c39)∧
 (CQ 7 [.pointer p7,.agg #[.int .i64 4,.int .i64 n38,.int .i64 0,.int .i64 0,.string (ByteArray.mk #[]),.string (ByteArray.mk #[]),.slice a39 l39 c39,.slice none 0 0,.slice none 0 0]] w22 (fun r45 w23=>
 ∃ n40 n41 n42 a43 l43 c43 a44 l44 c44,r45=.agg (gq7 n40 n41 n42 a43 l43 c43 a44 l44 c44)∧
 let w24:=w23.alloc (.cells (gq7 0 0 0 none 0 0 none 0 0) 37);
 sq5 w23.heap.size w24 (.int .i64 n40) (.int .i64 n41) (.int .i64 n42) (.slice a43 l43 c43) (.slice a44 l44 c44) (fun w29=>J36 [.pointer (some (Addr.mk w23.heap.size 0 none))] w29)))∧
 (let w30:=w22.alloc (.cells (gq7 0 0 0 none 0 0 none 0 0) 37);
 CQ 7 [.pointer p7,.agg #[.int .i64 4,.int .i64 n38,.int .i64 0,.int .i64 0,.string (ByteArray.mk #[]),.string (ByteArray.mk #[]),.slice a39 l39 c39,.slice none 0 0,.slice none 0 0]] w30 (fun r51 w31=>
 ∃ n46 n47 n48 a49 l49 c49 a50 l50 c50,r51=.agg (gq7 n46 n47 n48 a49 l49 c49 a50 l50 c50)∧
 sq5 w22.heap.size w31 (.int .i64 n46) (.int .i64 n47) (.int .i64 n48) (.slice a49 l49 c49) (.slice a50 l50 c50) (fun w36=>J36 [.pointer (some (Addr.mk w22.heap.size 0 none))] w36))))∧
 (let w37:=w22.alloc (.cells (gq7 0 0 0 none 0 0 none 0 0) 37);
 ∃ a52 l52 c52,w37.cell? (Addr.add q37 (Int.toNat n33))=some (.slice a52 l52 c52)∧
 CQ 7 [.pointer p7,.agg #[.int .i64 4,.int .i64 n38,.int .i64 0,.int .i64 0,.string (ByteArray.mk #[]),.string (ByteArray.mk #[]),.slice a52 l52 c52,.slice none 0 0,.slice none 0 0]] w37 (fun r58 w38=>
 ∃ n53 n54 n55 a56 l56 c56 a57 l57 c57,r58=.agg (gq7 n53 n54 n55 a56 l56 c56 a57 l57 c57)∧
 sq5 w22.heap.size w38 (.int .i64 n53) (.int .i64 n54) (.int .i64 n55) (.slice a56 l56 c56) (.slice a57 l57 c57) (fun w43=>J36 [.pointer (some (Addr.mk w22.heap.size 0 none))] w43))))∧
 (∃ a59 l59 c59,w22.cell? (Addr.add q37 (Int.toNat n33))=some (.slice a59 l59 c59)∧
 (∃ n60,w22.cell? (Addr.mk w4.heap.size 1 none)=some (.int .i64 n60)∧
 (CQ 7 [.pointer p7,.agg #[.int .i64 4,.int .i64 n60,.int .i64 0,.int .i64 0,.string (ByteArray.mk #[]),.string (ByteArray.mk #[]),.slice a59 l59 c59,.slice none 0 0,.slice none 0 0]] w22 (fun r66 w44=>
 ∃ n61 n62 n63 a64 l64 c64 a65 l65 c65,r66=.agg (gq7 n61 n62 n63 a64 l64 c64 a65 l65 c65)∧
 let w45:=w44.alloc (.cells (gq7 0 0 0 none 0 0 none 0 0) 37);
 sq5 w44.heap.size w45 (.int .i64 n61) (.int .i64 n62) (.int .i64 n63) (.slice a64 l64 c64) (.slice a65 l65 c65) (fun w50=>J36 [.pointer (some (Addr.mk w44.heap.size 0 none))] w50)))∧
 (let w51:=w22.alloc (.cells (gq7 0 0 0 none 0 0 none 0 0) 37);
 CQ 7 [.pointer p7,.agg #[.int .i64 4,.int .i64 n60,.int .i64 0,.int .i64 0,.string (ByteArray.mk #[]),.string (ByteArray.mk #[]),.slice a59 l59 c59,.slice none 0 0,.slice none 0 0]] w51 (fun r72 w52=>
 ∃ n67 n68 n69 a70 l70 c70 a71 l71 c71,r72=.agg (gq7 n67 n68 n69 a70 l70 c70 a71 l71 c71)∧
 sq5 w22.heap.size w52 (.int .i64 n67) (.int .i64 n68) (.int .i64 n69) (.slice a70 l70 c70) (.slice a71 l71 c71) (fun w57=>J36 [.pointer (some (Addr.mk w22.heap.size 0 none))] w57))))∧
 (let w58:=w22.alloc (.cells (gq7 0 0 0 none 0 0 none 0 0) 37);
 ∃ n73,w58.cell? (Addr.mk w4.heap.size 1 none)=some (.int .i64 n73)∧
 CQ 7 [.pointer p7,.agg #[.int .i64 4,.int .i64 n73,.int .i64 0,.int .i64 0,.string (ByteArray.mk #[]),.string (ByteArray.mk #[]),.slice a59 l59 c59,.slice none 0 0,.slice none 0 0]] w58 (fun r79 w59=>
 ∃ n74 n75 n76 a77 l77 c77 a78 l78 c78,r79=.agg (gq7 n74 n75 n76 a77 l77 c77 a78 l78 c78)∧
 sq5 w22.heap.size w59 (.int .i64 n74) (.int .i64 n75) (.int .i64 n76) (.slice a77 l77 c77) (.slice a78 l78 c78) (fun w64=>J36 [.pointer (some (Addr.mk w22.heap.size 0 none))] w64))))∧
 (let w65:=w22.alloc (.cells (gq7 0 0 0 none 0 0 none 0 0) 37);
 (∃ n80,w65.cell? (Addr.mk w4.heap.size 1 none)=some (.int .i64 n80)∧
 ∃ a81 l81 c81,w65.cell? (Addr.add q37 (Int.toNat n33))=some (.slice a81 l81 c81)∧
 CQ 7 [.pointer p7,.agg #[.int .i64 4,.int .i64 n80,.int .i64 0,.int .i64 0,.string (ByteArray.mk #[]),.string (ByteArray.mk #[]),.slice a81 l81 c81,.slice none 0 0,.slice none 0 0]] w65 (fun r87 w66=>
 ∃ n82 n83 n84 a85 l85 c85 a86 l86 c86,r87=.agg (gq7 n82 n83 n84 a85 l85 c85 a86 l86 c86)∧
 sq5 w22.heap.size w66 (.int .i64 n82) (.int .i64 n83) (.int .i64 n84) (.slice a85 l85 c85) (.slice a86 l86 c86) (fun w71=>J36 [.pointer (some (Addr.mk w22.heap.size 0 none))] w71)))∧
 (∃ a88 l88 c88,w65.cell? (Addr.add q37 (Int.toNat n33))=some (.slice a88 l88 c88)∧
 ∃ n89,w65.cell? (Addr.mk w4.heap.size 1 none)=some (.int .i64 n89)∧
 CQ 7 [.pointer p7,.agg #[.int .i64 4,.int .i64 n89,.int .i64 0,.int .i64 0,.string (ByteArray.mk #[]),.string (ByteArray.mk #[]),.slice a88 l88 c88,.slice none 0 0,.slice none 0 0]] w65 (fun r95 w72=>
 ∃ n90 n91 n92 a93 l93 c93 a94 l94 c94,r95=.agg (gq7 n90 n91 n92 a93 l93 c93 a94 l94 c94)∧
 sq5 w22.heap.size w72 (.int .i64 n90) (.int .i64 n91) (.int .i64 n92) (.slice a93 l93 c93) (.slice a94 l94 c94) (fun w77=>J36 [.pointer (some (Addr.mk w22.heap.size 0 none))] w77))))))∧
 (∀ (_:Env) (p96:Option Addr) (w78:World),J36 [.pointer p96] w78→
 ∃ n97,w78.cell? (Addr.mk w4.heap.size 1 none)=some (.int .i64 n97)∧
 ∃ n98,w78.cell? (Addr.mk w4.heap.size 1 none)=some (.int .i64 n98)∧
 ∃ n99,w78.cell? (Addr.mk w4.heap.size 1 none)=some (.int .i64 n99)∧
 let w79:=w78.alloc (.cells #[.int .i64 7,.int .i64 n97,.int .i64 0,.int .i64 0,.string (ByteArray.mk #[]),.string (ByteArray.mk #[]),.slice none 0 0,.slice none 0 0,.slice none 0 0,.int .i64 10,.int .i64 n98,.int .i64 0,.int .i64 0,.string (ByteArray.mk #[]),.string (ByteArray.mk #[]),.slice none 0 0,.slice none 0 0,.slice none 0 0,.int .i64 25,.int .i64 0,.int .i64 0,.int .i64 0,.string (ByteArray.mk #[]),.string (ByteArray.mk #[]),.slice none 0 0,.slice none 0 0,.slice none 0 0,.int .i64 11,.int .i64 n99,.int .i64 0,.int .i64 1,.string (ByteArray.mk #[]),.string (ByteArray.mk #[]),.slice none 0 0,.slice none 0 0,.slice none 0 0] 41);
 (4:Int)≠0∧
 (0≤(Int.tmod n33 (4:Int):Int)∧(Int.tmod n33 (4:Int):Int)< ((4:Nat):Int))∧
 ∃ n100 n101 n102 n103 s104 s105 a106 l106 c106 a107 l107 c107 a108 l108 c108,w79.cell? (Addr.add (Addr.mk w78.heap.size 0 none) (Int.toNat (Int.tmod n33 (4:Int)) * 9))=some (.int .i64 n100)∧w79.cell? (Addr.add (Addr.add (Addr.mk w78.heap.size 0 none) (Int.toNat (Int.tmod n33 (4:Int)) * 9)) 1)=some (.int .i64 n101)∧w79.cell? (Addr.add (Addr.add (Addr.mk w78.heap.size 0 none) (Int.toNat (Int.tmod n33 (4:Int)) * 9)) 2)=some (.int .i64 n102)∧w79.cell? (Addr.add (Addr.add (Addr.mk w78.heap.size 0 none) (Int.toNat (Int.tmod n33 (4:Int)) * 9)) 3)=some (.int .i64 n103)∧w79.cell? (Addr.add (Addr.add (Addr.mk w78.heap.size 0 none) (Int.toNat (Int.tmod n33 (4:Int)) * 9)) 4)=some (.string s104)∧w79.cell? (Addr.add (Addr.add (Addr.mk w78.heap.size 0 none) (Int.toNat (Int.tmod n33 (4:Int)) * 9)) 5)=some (.string s105)∧w79.cell? (Addr.add (Addr.add (Addr.mk w78.heap.size 0 none) (Int.toNat (Int.tmod n33 (4:Int)) * 9)) 6)=some (.slice a106 l106 c106)∧w79.cell? (Addr.add (Addr.add (Addr.mk w78.heap.size 0 none) (Int.toNat (Int.tmod n33 (4:Int)) * 9)) 7)=some (.slice a107 l107 c107)∧w79.cell? (Addr.add (Addr.add (Addr.mk w78.heap.size 0 none) (Int.toNat (Int.tmod n33 (4:Int)) * 9)) 8)=some (.slice a108 l108 c108)∧
 CQ 7 [.pointer p7,.agg (gq8 n100 n101 n102 n103 s104 s105 a106 l106 c106 a107 l107 c107 a108 l108 c108)] w79 (fun r114 w80=>
 ∃ n109 n110 n111 a112 l112 c112 a113 l113 c113,r114=.agg (gq7 n109 n110 n111 a112 l112 c112 a113 l113 c113)∧
 let w81:=w80.alloc (.cells (gq7 0 0 0 none 0 0 none 0 0) 37);
 sq5 w80.heap.size w81 (.int .i64 n109) (.int .i64 n110) (.int .i64 n111) (.slice a112 l112 c112) (.slice a113 l113 c113) (fun w86=>∃ (S115:World→Prop),S115 (w86.drew)∧
 let w87:=w86.drew;
 (match (Value.pointer p96) with
 | .pointer (some q116)=>∃ n117,(∀ wS:World,S115 wS→wS.cell? q116=some (.int .i64 n117))∧∃ n118,(∀ wS:World,S115 wS→wS.cell? (Addr.mk w80.heap.size 0 none)=some (.int .i64 n118))∧CQ 6 [.int .i64 n117] w87 (fun r120 w88=>∃ n119,r120=.int .i64 n119∧S115 w88∧CQ 6 [.int .i64 n118] w88 (fun r122 w89=>∃ n121,r122=.int .i64 n121∧inI (n119+n121)∧cond ((n119+n121) != 0) (Q (.bool false) w89) ((match (Value.pointer p96) with | .pointer (some q123)=>∃ n124,w89.cell? (Addr.add q123 1)=some (.int .i64 n124)∧(0≤(n33:Int)∧(n33:Int)< ((l1:Nat):Int))∧nn a1 (fun q125=>∃ a126 l126 c126,w89.cell? (Addr.add q125 (Int.toNat n33))=some (.slice a126 l126 c126)∧cond (n124 != (((l126:Nat):Int))) (Q (.bool false) w89) (let w90:=w89.drew; (0≤(n33:Int)∧(n33:Int)< ((l1:Nat):Int))∧nn a1 (fun q127=>(∃ n128,w90.cell? (Addr.mk w11.heap.size 1 none)=some (.int .i64 n128)∧(∃ a129 l129 c129,w90.cell? (Addr.add q127 (Int.toNat n33))=some (.slice a129 l129 c129)∧(CQ 7 [.pointer p7,.agg #[.int .i64 13,.int .i64 n128,.int .i64 1,.int .i64 (((l129:Nat):Int)),.string (ByteArray.mk #[]),.string (ByteArray.mk #[]),.slice none 0 0,.slice none 0 0,.slice none 0 0]] w90 (fun r135 w91=>∃ n130 n131 n132 a133 l133 c133 a134 l134 c134,r135=.agg (gq7 n130 n131 n132 a133 l133 c133 a134 l134 c134)∧let w92:=w91.alloc (.cells (gq7 0 0 0 none 0 0 none 0 0) 37); sq5 w91.heap.size w92 (.int .i64 n130) (.int .i64 n131) (.int .i64 n132) (.slice a133 l133 c133) (.slice a134 l134 c134) (fun w97=>let w98:=w97.drew; ∃ n136,w98.cell? (Addr.mk w91.heap.size 0 none)=some (.int .i64 n136)∧CQ 6 [.int .i64 n136] w98 (fun r138 w99=>∃ n137,r138=.int .i64 n137∧cond (n137 != 0) (Q (.bool false) w99) (∃ a139 l139 c139,w99.cell? (Addr.mk w91.heap.size 3 none)=some (.slice a139 l139 c139)∧(0≤(n33:Int)∧(n33:Int)< ((l1:Nat):Int))∧nn a1 (fun q140=>∃ a141 l141 c141,w99.cell? (Addr.add q140 (Int.toNat n33))=some (.slice a141 l141 c141)∧CQ 8 [.slice a139 l139 c139,.slice a141 l141 c141] w99 (fun r143 w100=>∃ b142,r143=.bool b142∧cond (!b142) (Q (.bool false) w100) (inI (n33+1)∧I31 [.int .i64 (n33+1)] w100∧mu32 [.int .i64 (n33+1)] w100< mu32 [.int .i64 n33] w21))))))))∧(let w101:=w90.alloc (.cells (gq7 0 0 0 none 0 0 none 0 0) 37); CQ 7 [.pointer p7,.agg #[.int .i64 13,.int .i64 n128,.int .i64 1,.int .i64 (((l129:Nat):Int)),.string (ByteArray.mk #[]),.string (ByteArray.mk #[]),.slice none 0 0,.slice none 0 0,.slice none 0 0]] w101 (fun r149 w102=>∃ n144 n145 n146 a147 l147 c147 a148 l148 c148,r149=.agg (gq7 n144 n145 n146 a147 l147 c147 a148 l148 c148)∧sq5 w90.heap.size w102 (.int .i64 n144) (.int .i64 n145) (.int .i64 n146) (.slice a147 l147 c147) (.slice a148 l148 c148) (fun w107=>let w108:=w107.drew; ∃ n150,w108.cell? (Addr.mk w90.heap.size 0 none)=some (.int .i64 n150)∧CQ 6 [.int .i64 n150] w108 (fun r152 w109=>∃ n151,r152=.int .i64 n151∧cond (n151 != 0) (Q (.bool false) w109) (∃ a153 l153 c153,w109.cell? (Addr.mk w90.heap.size 3 none)=some (.slice a153 l153 c153)∧(0≤(n33:Int)∧(n33:Int)< ((l1:Nat):Int))∧nn a1 (fun q154=>∃ a155 l155 c155,w109.cell? (Addr.add q154 (Int.toNat n33))=some (.slice a155 l155 c155)∧CQ 8 [.slice a153 l153 c153,.slice a155 l155 c155] w109 (fun r157 w110=>∃ b156,r157=.bool b156∧cond (!b156) (Q (.bool false) w110) (inI (n33+1)∧I31 [.int .i64 (n33+1)] w110∧mu32 [.int .i64 (n33+1)] w110< mu32 [.int .i64 n33] w21)))))))))∧(let w111:=w90.alloc (.cells (gq7 0 0 0 none 0 0 none 0 0) 37); ∃ a158 l158 c158,w111.cell? (Addr.add q127 (Int.toNat n33))=some (.slice a158 l158 c158)∧CQ 7 [.pointer p7,.agg #[.int .i64 13,.int .i64 n128,.int .i64 1,.int .i64 (((l158:Nat):Int)),.string (ByteArray.mk #[]),.string (ByteArray.mk #[]),.slice none 0 0,.slice none 0 0,.slice none 0 0]] w111 (fun r164 w112=>∃ n159 n160 n161 a162 l162 c162 a163 l163 c163,r164=.agg (gq7 n159 n160 n161 a162 l162 c162 a163 l163 c163)∧sq5 w90.heap.size w112 (.int .i64 n159) (.int .i64 n160) (.int .i64 n161) (.slice a162 l162 c162) (.slice a163 l163 c163) (fun w117=>let w118:=w117.drew; ∃ n165,w118.cell? (Addr.mk w90.heap.size 0 none)=some (.int .i64 n165)∧CQ 6 [.int .i64 n165] w118 (fun r167 w119=>∃ n166,r167=.int .i64 n166∧cond (n166 != 0) (Q (.bool false) w119) (∃ a168 l168 c168,w119.cell? (Addr.mk w90.heap.size 3 none)=some (.slice a168 l168 c168)∧(0≤(n33:Int)∧(n33:Int)< ((l1:Nat):Int))∧nn a1 (fun q169=>∃ a170 l170 c170,w119.cell? (Addr.add q169 (Int.toNat n33))=some (.slice a170 l170 c170)∧CQ 8 [.slice a168 l168 c168,.slice a170 l170 c170] w119 (fun r172 w120=>∃ b171,r172=.bool b171∧cond (!b171) (Q (.bool false) w120) (inI (n33+1)∧I31 [.int .i64 (n33+1)] w120∧mu32 [.int .i64 (n33+1)] w120< mu32 [.int .i64 n33] w21)))))))))∧(∃ a173 l173 c173,w90.cell? (Addr.add q127 (Int.toNat n33))=some (.slice a173 l173 c173)∧(∃ n174,w90.cell? (Addr.mk w11.heap.size 1 none)=some (.int .i64 n174)∧(CQ 7 [.pointer p7,.agg #[.int .i64 13,.int .i64 n174,.int .i64 1,.int .i64 (((l173:Nat):Int)),.string (ByteArray.mk #[]),.string (ByteArray.mk #[]),.slice none 0 0,.slice none 0 0,.slice none 0 0]] w90 (fun r180 w121=>∃ n175 n176 n177 a178 l178 c178 a179 l179 c179,r180=.agg (gq7 n175 n176 n177 a178 l178 c178 a179 l179 c179)∧let w122:=w121.alloc (.cells (gq7 0 0 0 none 0 0 none 0 0) 37); sq5 w121.heap.size w122 (.int .i64 n175) (.int .i64 n176) (.int .i64 n177) (.slice a178 l178 c178) (.slice a179 l179 c179) (fun w127=>let w128:=w127.drew; ∃ n181,w128.cell? (Addr.mk w121.heap.size 0 none)=some (.int .i64 n181)∧CQ 6 [.int .i64 n181] w128 (fun r183 w129=>∃ n182,r183=.int .i64 n182∧cond (n182 != 0) (Q (.bool false) w129) (∃ a184 l184 c184,w129.cell? (Addr.mk w121.heap.size 3 none)=some (.slice a184 l184 c184)∧(0≤(n33:Int)∧(n33:Int)< ((l1:Nat):Int))∧nn a1 (fun q185=>∃ a186 l186 c186,w129.cell? (Addr.add q185 (Int.toNat n33))=some (.slice a186 l186 c186)∧CQ 8 [.slice a184 l184 c184,.slice a186 l186 c186] w129 (fun r188 w130=>∃ b187,r188=.bool b187∧cond (!b187) (Q (.bool false) w130) (inI (n33+1)∧I31 [.int .i64 (n33+1)] w130∧mu32 [.int .i64 (n33+1)] w130< mu32 [.int .i64 n33] w21))))))))∧(let w131:=w90.alloc (.cells (gq7 0 0 0 none 0 0 none 0 0) 37); CQ 7 [.pointer p7,.agg #[.int .i64 13,.int .i64 n174,.int .i64 1,.int .i64 (((l173:Nat):Int)),.string (ByteArray.mk #[]),.string (ByteArray.mk #[]),.slice none 0 0,.slice none 0 0,.slice none 0 0]] w131 (fun r194 w132=>∃ n189 n190 n191 a192 l192 c192 a193 l193 c193,r194=.agg (gq7 n189 n190 n191 a192 l192 c192 a193 l193 c193)∧sq5 w90.heap.size w132 (.int .i64 n189) (.int .i64 n190) (.int .i64 n191) (.slice a192 l192 c192) (.slice a193 l193 c193) (fun w137=>let w138:=w137.drew; ∃ n195,w138.cell? (Addr.mk w90.heap.size 0 none)=some (.int .i64 n195)∧CQ 6 [.int .i64 n195] w138 (fun r197 w139=>∃ n196,r197=.int .i64 n196∧cond (n196 != 0) (Q (.bool false) w139) (∃ a198 l198 c198,w139.cell? (Addr.mk w90.heap.size 3 none)=some (.slice a198 l198 c198)∧(0≤(n33:Int)∧(n33:Int)< ((l1:Nat):Int))∧nn a1 (fun q199=>∃ a200 l200 c200,w139.cell? (Addr.add q199 (Int.toNat n33))=some (.slice a200 l200 c200)∧CQ 8 [.slice a198 l198 c198,.slice a200 l200 c200] w139 (fun r202 w140=>∃ b201,r202=.bool b201∧cond (!b201) (Q (.bool false) w140) (inI (n33+1)∧I31 [.int .i64 (n33+1)] w140∧mu32 [.int .i64 (n33+1)] w140< mu32 [.int .i64 n33] w21)))))))))∧(let w141:=w90.alloc (.cells (gq7 0 0 0 none 0 0 none 0 0) 37); ∃ n203,w141.cell? (Addr.mk w11.heap.size 1 none)=some (.int .i64 n203)∧CQ 7 [.pointer p7,.agg #[.int .i64 13,.int .i64 n203,.int .i64 1,.int .i64 (((l173:Nat):Int)),.string (ByteArray.mk #[]),.string (ByteArray.mk #[]),.slice none 0 0,.slice none 0 0,.slice none 0 0]] w141 (fun r209 w142=>∃ n204 n205 n206 a207 l207 c207 a208 l208 c208,r209=.agg (gq7 n204 n205 n206 a207 l207 c207 a208 l208 c208)∧sq5 w90.heap.size w142 (.int .i64 n204) (.int .i64 n205) (.int .i64 n206) (.slice a207 l207 c207) (.slice a208 l208 c208) (fun w147=>let w148:=w147.drew; ∃ n210,w148.cell? (Addr.mk w90.heap.size 0 none)=some (.int .i64 n210)∧CQ 6 [.int .i64 n210] w148 (fun r212 w149=>∃ n211,r212=.int .i64 n211∧cond (n211 != 0) (Q (.bool false) w149) (∃ a213 l213 c213,w149.cell? (Addr.mk w90.heap.size 3 none)=some (.slice a213 l213 c213)∧(0≤(n33:Int)∧(n33:Int)< ((l1:Nat):Int))∧nn a1 (fun q214=>∃ a215 l215 c215,w149.cell? (Addr.add q214 (Int.toNat n33))=some (.slice a215 l215 c215)∧CQ 8 [.slice a213 l213 c213,.slice a215 l215 c215] w149 (fun r217 w150=>∃ b216,r217=.bool b216∧cond (!b216) (Q (.bool false) w150) (inI (n33+1)∧I31 [.int .i64 (n33+1)] w150∧mu32 [.int .i64 (n33+1)] w150< mu32 [.int .i64 n33] w21)))))))))∧(let w151:=w90.alloc (.cells (gq7 0 0 0 none 0 0 none 0 0) 37); (∃ n218,w151.cell? (Addr.mk w11.heap.size 1 none)=some (.int .i64 n218)∧∃ a219 l219 c219,w151.cell? (Addr.add q127 (Int.toNat n33))=some (.slice a219 l219 c219)∧CQ 7 [.pointer p7,.agg #[.int .i64 13,.int .i64 n218,.int .i64 1,.int .i64 (((l219:Nat):Int)),.string (ByteArray.mk #[]),.string (ByteArray.mk #[]),.slice none 0 0,.slice none 0 0,.slice none 0 0]] w151 (fun r225 w152=>∃ n220 n221 n222 a223 l223 c223 a224 l224 c224,r225=.agg (gq7 n220 n221 n222 a223 l223 c223 a224 l224 c224)∧sq5 w90.heap.size w152 (.int .i64 n220) (.int .i64 n221) (.int .i64 n222) (.slice a223 l223 c223) (.slice a224 l224 c224) (fun w157=>let w158:=w157.drew; ∃ n226,w158.cell? (Addr.mk w90.heap.size 0 none)=some (.int .i64 n226)∧CQ 6 [.int .i64 n226] w158 (fun r228 w159=>∃ n227,r228=.int .i64 n227∧cond (n227 != 0) (Q (.bool false) w159) (∃ a229 l229 c229,w159.cell? (Addr.mk w90.heap.size 3 none)=some (.slice a229 l229 c229)∧(0≤(n33:Int)∧(n33:Int)< ((l1:Nat):Int))∧nn a1 (fun q230=>∃ a231 l231 c231,w159.cell? (Addr.add q230 (Int.toNat n33))=some (.slice a231 l231 c231)∧CQ 8 [.slice a229 l229 c229,.slice a231 l231 c231] w159 (fun r233 w160=>∃ b232,r233=.bool b232∧cond (!b232) (Q (.bool false) w160) (inI (n33+1)∧I31 [.int .i64 (n33+1)] w160∧mu32 [.int .i64 (n33+1)] w160< mu32 [.int .i64 n33] w21))))))))∧(∃ a234 l234 c234,w151.cell? (Addr.add q127 (Int.toNat n33))=some (.slice a234 l234 c234)∧∃ n235,w151.cell? (Addr.mk w11.heap.size 1 none)=some (.int .i64 n235)∧CQ 7 [.pointer p7,.agg #[.int .i64 13,.int .i64 n235,.int .i64 1,.int .i64 (((l234:Nat):Int)),.string (ByteArray.mk #[]),.string (ByteArray.mk #[]),.slice none 0 0,.slice none 0 0,.slice none 0 0]] w151 (fun r241 w161=>∃ n236 n237 n238 a239 l239 c239 a240 l240 c240,r241=.agg (gq7 n236 n237 n238 a239 l239 c239 a240 l240 c240)∧sq5 w90.heap.size w161 (.int .i64 n236) (.int .i64 n237) (.int .i64 n238) (.slice a239 l239 c239) (.slice a240 l240 c240) (fun w166=>let w167:=w166.drew; ∃ n242,w167.cell? (Addr.mk w90.heap.size 0 none)=some (.int .i64 n242)∧CQ 6 [.int .i64 n242] w167 (fun r244 w168=>∃ n243,r244=.int .i64 n243∧cond (n243 != 0) (Q (.bool false) w168) (∃ a245 l245 c245,w168.cell? (Addr.mk w90.heap.size 3 none)=some (.slice a245 l245 c245)∧(0≤(n33:Int)∧(n33:Int)< ((l1:Nat):Int))∧nn a1 (fun q246=>∃ a247 l247 c247,w168.cell? (Addr.add q246 (Int.toNat n33))=some (.slice a247 l247 c247)∧CQ 8 [.slice a245 l245 c245,.slice a247 l247 c247] w168 (fun r249 w169=>∃ b248,r249=.bool b248∧cond (!b248) (Q (.bool false) w169) (inI (n33+1)∧I31 [.int .i64 (n33+1)] w169∧mu32 [.int .i64 (n33+1)] w169< mu32 [.int .i64 n33] w21)))))))))))) | _=>False))))
 | _=>False)))))))
 (Q (.bool true) w21))
 (Q (.bool true) w21))))))))))))))
theorem C3 {a1 l1 c1 n2 n3 a4 l4 c4 Q w} (h:L3 a1 l1 c1 n2 n3 a4 l4 c4 Q w):CallR Tryz.prog 3 [.slice a1 l1 c1,.int .i64 n2,.int .i64 n3,.slice a4 l4 c4] w Q:=
 fC A3 Tryz.func3 rfl (by kernel_rfl) (Eq.mp (by kernel_rfl) h)
end Go.Proofs.YteojolihgijdhaaGreatDoor
