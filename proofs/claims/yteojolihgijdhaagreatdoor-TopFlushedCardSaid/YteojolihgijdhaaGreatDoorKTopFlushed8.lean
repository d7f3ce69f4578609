/- Part 8 of 21 of the proof of TopFlushed. Conditions: the theorem's: none. -/
import Derived.Test.YteojolihgijdhaaGreatDoorKTopFlushed4
set_option linter.unusedVariables false
set_option maxRecDepth 100000
namespace Go.Proofs.YteojolihgijdhaaGreatDoor
open Go.Lw
def A48:Ann:=⟨[],[],[],[],[],[]⟩
def L48 (a1:Option Addr) (l1 c1:Nat) (Q:Value→World→Prop) (w:World):Prop:=
 cond (Option.isNone a1)
 (Q (.slice none 0 0) w)
 (let w1:=w.alloc (.cells #[] 111);
 ∃ a2 l2 c2 w2,Sem.run Tryz.prog (Builtin.append_ #[35,35] 35 #[.slice (some (Addr.mk w.heap.size 0 none)) 0 0,.slice a1 l1 c1]) w1=.ok (.slice a2 l2 c2) w2∧
 Q (.slice a2 l2 c2) w2)
theorem C48 {a1 l1 c1 Q w} (h:L48 a1 l1 c1 Q w):CallR Tryz.prog 48 [.slice a1 l1 c1] w Q:=
 fC A48 Tryz.func48 rfl (by kernel_rfl) (Eq.mp (by kernel_rfl) h)
def A52:Ann:=⟨[],[],[],[],[],[]⟩
def L52 (a1:Option Addr) (l1 c1:Nat) (Q:Value→World→Prop) (w:World):Prop:=
 cond (Option.isNone a1)
 (Q (.slice none 0 0) w)
 (let w1:=w.alloc (.cells #[] 118);
 ∃ a2 l2 c2 w2,Sem.run Tryz.prog (Builtin.append_ #[46,46] 46 #[.slice (some (Addr.mk w.heap.size 0 none)) 0 0,.slice a1 l1 c1]) w1=.ok (.slice a2 l2 c2) w2∧
 Q (.slice a2 l2 c2) w2)
theorem C52 {a1 l1 c1 Q w} (h:L52 a1 l1 c1 Q w):CallR Tryz.prog 52 [.slice a1 l1 c1] w Q:=
 fC A52 Tryz.func52 rfl (by kernel_rfl) (Eq.mp (by kernel_rfl) h)
def A5:Ann:=⟨[(6,[(27,.one (.int .i64))])],[],[],[],[(8,[0,1,2,3,4,5,6,7],8,[9,10,11])],[]⟩
def L5 (a1:Option Addr) (l1 c1:Nat) (a2:Option Addr) (l2 c2:Nat) (a3:Option Addr) (l3 c3:Nat) (Q:Value→World→Prop) (w:World):Prop:=
 let w1:=w.alloc (.cells #[.slice a1 l1 c1,.slice a2 l2 c2,.slice a3 l3 c3] 32);
 lq2 w1 w.heap.size fun a4 l4 c4 a5 l5 c5 a6 l6 c6=>CQ 10 [.agg #[.slice a4 l4 c4,.slice a5 l5 c5,.slice a6 l6 c6]] w1 (fun r9 w2=>
 ∃ p7 n8,r9=.tuple #[.pointer p7,.int .i64 n8]∧
 cond (n8 != 0)
 (Q (.tuple #[.pointer none,.int .i64 n8]) w2)
 (CQ 11 [.pointer p7] w2 (fun r11 w3=>
 ∃ p10,r11=.pointer p10∧
 CQ 12 [] w3 (fun r13 w4=>
 ∃ p12,r13=.pointer p12∧
 let w5:=World.alloc w4 (Obj.map #[] 0);
 let w6:=w5.alloc (.cells (gq6 p7 p10 p12 (some w4.heap.size) none 0 0 none 0 0 0 none 0 0 false none 0 0 none 0 0 false) 63);
 ∃ a14 l14 c14,w6.cell? (Addr.mk w.heap.size 1 none)=some (.slice a14 l14 c14)∧
 ∃ (I15:List Value→World→Prop) (mu16:List Value→World→Nat),
 I15 [.int .i64 0] w6∧
 ∀ (_:Env) (n17:Int) (w7:World),I15 [.int .i64 n17] w7→
 cond (decide (n17< (((l14:Nat):Int))))
 ((0≤(n17:Int)∧(n17:Int)< ((l14:Nat):Int))∧
 nn a14 (fun q18=>
 ∃ s19 a20 l20 c20,w7.cell? (Addr.add q18 (Int.toNat n17 * 2))=some (.string s19)∧w7.cell? (Addr.add (Addr.add q18 (Int.toNat n17 * 2)) 1)=some (.slice a20 l20 c20)∧
 let w8:=w7.alloc (.cells #[.string (ByteArray.mk #[]),.slice none 0 0] 65);
 stC (Addr.mk w7.heap.size 0 none) (.string s19) w8 (fun w9=>
 stC (Addr.mk w7.heap.size 1 none) (.slice a20 l20 c20) w9 (fun w10=>
 ∃ (S21:World→Prop),S21 (w10.drew)∧
 let w11:=w10.drew;
 ∃ a22 l22 c22,(∀ wS:World,S21 wS→wS.cell? (Addr.mk w5.heap.size 4 none)=some (.slice a22 l22 c22))∧
 ∃ s23,(∀ wS:World,S21 wS→wS.cell? (Addr.mk w7.heap.size 0 none)=some (.string s23))∧
 let w12:=w11.alloc (.cells #[.string s23] 9);
 S21 w12∧
 ∃ a24 l24 c24 w13,Sem.run Tryz.prog (Builtin.append_ #[61,61] 61 #[.slice a22 l22 c22,.slice (some (Addr.mk w11.heap.size 0 none)) 1 1]) w12=.ok (.slice a24 l24 c24) w13∧
 stC (Addr.mk w5.heap.size 4 none) (.slice a24 l24 c24) w13 (fun w14=>
 inI (n17+1)∧
 I15 [.int .i64 (n17+1)] w14∧mu16 [.int .i64 (n17+1)] w14< mu16 [.int .i64 n17] w7)))))
 (∃ a25 l25 c25,w7.cell? (Addr.mk w5.heap.size 4 none)=some (.slice a25 l25 c25)∧
 CQ 13 [.slice a25 l25 c25] w7 (fun r26 w15=>
 r26=.tuple #[]∧
 Q (.tuple #[.pointer (some (Addr.mk w5.heap.size 0 none)),.int .i64 0]) w15))))))
theorem C5 {a1 l1 c1 a2 l2 c2 a3 l3 c3 Q w} (h:L5 a1 l1 c1 a2 l2 c2 a3 l3 c3 Q w):CallR Tryz.prog 5 [.agg #[.slice a1 l1 c1,.slice a2 l2 c2,.slice a3 l3 c3]] w Q:=
 fC A5 Tryz.func5 rfl (by kernel_rfl) (Eq.mp (by kernel_rfl) h)
def A14:Ann:=⟨[],[],[],[],[],[]⟩
def L14 (p1:Option Addr) (Q:Value→World→Prop) (w:World):Prop:=
 cond (Option.isNone p1)
 (Q (.bool true) w)
 (nn p1 (fun q2=>
 ∃ p3,w.cell? q2=some (.pointer p3)∧
 Q (.bool (Option.isNone p3)) w))
theorem C14 {p1 Q w} (h:L14 p1 Q w):CallR Tryz.prog 14 [.pointer p1] w Q:=
 fC A14 Tryz.func14 rfl (by kernel_rfl) (Eq.mp (by kernel_rfl) h)
def A75:Ann:=⟨[],[],[],[(1,[0,1,2,3,4,5,6,7]),(6,[0,1,2,3,4,5,6]),(8,[0,1,2,3,4,5,6])],[(4,[0,1,2,3,4,5,6,7,8,9,10,11,12,13,14,15,16,17,18,19,20],21,[22,23,24,25,26])],[]⟩
def L75 (p1:Option Addr) (b2 b3:Bool) (n4 n5:Int) (a6:Option Addr) (l6 c6:Nat) (a7:Option Addr) (l7 c7:Nat) (a8:Option Addr) (l8 c8:Nat) (n9:Int) (b10 b11 b12:Bool) (n13 n14:Int) (Q:Value→World→Prop) (w:World):Prop:=
 let w1:=w.alloc (.cells (gq1 b2 b3 n4 n5 a6 l6 c6 a7 l7 c7 a8 l8 c8 n9 b10 b11 b12) 151);
 let w2:=w1.alloc (.cells #[.int .i64 n13,.int .i64 n14] 161);
 let w3:=w2.drew;
 nn p1 (fun q15=>
 ∃ p16,w3.cell? q15=some (.pointer p16)∧
 ∃ n17,w3.cell? (Addr.mk w1.heap.size 0 none)=some (.int .i64 n17)∧
 CQ 136 [.pointer p16,.int .i64 n17] w3 (fun r19 w4=>
 ∃ n18,r19=.int .i64 n18∧
 cond (n18 != 0)
 (Q (.tuple #[.int .i64 0,.int .i64 n18]) w4)
 (∃ (S20:World→Prop),S20 (w4.drew)∧
 let w5:=w4.drew;
 nn p1 (fun q21=>
 ∃ p22,(∀ wS:World,S20 wS→wS.cell? (Addr.add q21 2)=some (.pointer p22))∧
 ∃ b23 b24 n25 n26 a27 l27 c27 a28 l28 c28 a29 l29 c29 n30 b31 b32 b33,(∀ wS:World,S20 wS→wS.cell? (Addr.mk w.heap.size 0 none)=some (.bool b23)∧wS.cell? (Addr.mk w.heap.size 1 none)=some (.bool b24)∧wS.cell? (Addr.mk w.heap.size 2 none)=some (.int .i64 n25)∧wS.cell? (Addr.mk w.heap.size 3 none)=some (.int .i64 n26)∧wS.cell? (Addr.mk w.heap.size 4 none)=some (.slice a27 l27 c27)∧wS.cell? (Addr.mk w.heap.size 5 none)=some (.slice a28 l28 c28)∧wS.cell? (Addr.mk w.heap.size 6 none)=some (.slice a29 l29 c29)∧wS.cell? (Addr.mk w.heap.size 7 none)=some (.int .i64 n30)∧wS.cell? (Addr.mk w.heap.size 8 none)=some (.bool b31)∧wS.cell? (Addr.mk w.heap.size 9 none)=some (.bool b32)∧wS.cell? (Addr.mk w.heap.size 10 none)=some (.bool b33)∧True)∧
 nn p1 (fun q34=>
 ∃ p35,(∀ wS:World,S20 wS→wS.cell? q34=some (.pointer p35))∧
 ∃ n36,(∀ wS:World,S20 wS→wS.cell? (Addr.mk w1.heap.size 0 none)=some (.int .i64 n36))∧
 nn p1 (fun q37=>
 ∃ p38,(∀ wS:World,S20 wS→wS.cell? q37=some (.pointer p38))∧
 ∃ n39,(∀ wS:World,S20 wS→wS.cell? (Addr.mk w1.heap.size 0 none)=some (.int .i64 n39))∧
 CQ 137 [.pointer p38,.int .i64 n39] w5 (fun r41 w6=>
 ∃ n40,r41=.int .i64 n40∧
 S20 w6∧
 CQ 95 [.pointer p22,.agg (gq1 b23 b24 n25 n26 a27 l27 c27 a28 l28 c28 a29 l29 c29 n30 b31 b32 b33),.iface 232 (.agg #[.pointer p35,.int .i64 n36]),.bool (n40 == 2)] w6 (fun r44 w7=>
 ∃ n42 n43,r44=.tuple #[.int .i64 n42,.int .i64 n43]∧
 cond (n43 != 0)
 (let w8:=w7.drew;
 nn p1 (fun q45=>
 ∃ p46,w8.cell? q45=some (.pointer p46)∧
 ∃ n47,w8.cell? (Addr.mk w1.heap.size 0 none)=some (.int .i64 n47)∧
 CQ 114 [.pointer p46,.int .i64 n47] w8 (fun r49 w9=>
 ∃ n48,r49=.int .i64 n48∧
 Q (.tuple #[.int .i64 0,.int .i64 n43]) w9)))
 (let w10:=w7.drew;
 nn p1 (fun q50=>
 ∃ (m51:Option Nat),w10.cell? (Addr.add q50 3)=some (.map m51)∧
 ∃ n52 n53,w10.cell? (Addr.mk w1.heap.size 0 none)=some (.int .i64 n52)∧w10.cell? (Addr.mk w1.heap.size 1 none)=some (.int .i64 n53)∧
 ∃ w11,Sem.run Tryz.prog (Instr.mapUpdate 60 (.map m51) (.int .i64 n42) (.agg #[.int .i64 n52,.int .i64 n53])) w10=.ok () w11∧
 Q (.tuple #[.int .i64 n42,.int .i64 0]) w11))))))))))
theorem C75 {p1 b2 b3 n4 n5 a6 l6 c6 a7 l7 c7 a8 l8 c8 n9 b10 b11 b12 n13 n14 Q w} (h:L75 p1 b2 b3 n4 n5 a6 l6 c6 a7 l7 c7 a8 l8 c8 n9 b10 b11 b12 n13 n14 Q w):CallR Tryz.prog 75 [.pointer p1,.agg #[.bool b2,.bool b3,.int .i64 n4,.int .i64 n5,.slice a6 l6 c6,.slice a7 l7 c7,.slice a8 l8 c8,.int .i64 n9,.bool b10,.bool b11,.bool b12],.agg #[.int .i64 n13,.int .i64 n14]] w Q:=
 fC A75 Tryz.func75 rfl (by kernel_rfl) (Eq.mp (by kernel_rfl) h)
def A25:Ann:=⟨[],[],[],[(8,[0,1,2,3,4,5,6,7,8,9,10,11,12]),(11,[0,1,2,3,4,5,6,7])],[],[]⟩
def L25 (p1:Option Addr) (n2 n3 n4 n5:Int) (s6 s7:ByteArray) (a8:Option Addr) (l8 c8:Nat) (a9:Option Addr) (l9 c9:Nat) (a10:Option Addr) (l10 c10:Nat) (Q:Value→World→Prop) (w:World):Prop:=
 let w1:=w.alloc (.cells (gq8 n2 n3 n4 n5 s6 s7 a8 l8 c8 a9 l9 c9 a10 l10 c10) 41);
 let w2:=w1.alloc (.cells (gq7 0 0 0 none 0 0 none 0 0) 37);
 ∃ s11,w2.cell? (Addr.mk w.heap.size 5 none)=some (.string s11)∧
 CQ 69 [.string s11] w2 (fun r22 w3=>
 ∃ b12 b13 b14 b15 b16 b17 b18 b19 n20 n21,r22=.tuple #[.agg (gq0 b12 b13 b14 b15 b16 b17 b18 b19),.int .i64 n20,.int .i64 n21]∧
 let w4:=w3.alloc (.cells (gq0 false false false false false false false false) 147);
 sq8 w3.heap.size w4 (.bool b12) (.bool b13) (.bool b14) (.bool b15) (.bool b16) (.bool b17) (.bool b18) (.bool b19) (fun w12=>cond (n20 != 0)
 (sq5 w1.heap.size w12 (.int .i64 n20) (.int .i64 0) (.int .i64 0) (.slice none 0 0) (.slice none 0 0) (fun w17=>lq7 w17 w1.heap.size fun n23 n24 n25 a26 l26 c26 a27 l27 c27=>Q (.agg (gq7 n23 n24 n25 a26 l26 c26 a27 l27 c27)) w17))
 (lq0 w12 w3.heap.size fun b28 b29 b30 b31 b32 b33 b34 b35=>∃ n36,w12.cell? (Addr.mk w.heap.size 2 none)=some (.int .i64 n36)∧
 ∃ n37,w12.cell? (Addr.mk w.heap.size 3 none)=some (.int .i64 n37)∧
 CQ 70 [.agg (gq0 b28 b29 b30 b31 b32 b33 b34 b35),.int .i64 n36,.int .i64 n37] w12 (fun r50 w18=>
 ∃ b38 b39 n40 n41 a42 l42 c42 a43 l43 c43 a44 l44 c44 n45 b46 b47 b48 n49,r50=.tuple #[.agg (gq1 b38 b39 n40 n41 a42 l42 c42 a43 l43 c43 a44 l44 c44 n45 b46 b47 b48),.int .i64 n49]∧
 let w19:=w18.alloc (.cells zSq 151);
 sq11 w18.heap.size w19 (.bool b38) (.bool b39) (.int .i64 n40) (.int .i64 n41) (.slice a42 l42 c42) (.slice a43 l43 c43) (.slice a44 l44 c44) (.int .i64 n45) (.bool b46) (.bool b47) (.bool b48) (fun w30=>cond (n49 != 0)
 (sq5 w1.heap.size w30 (.int .i64 n49) (.int .i64 0) (.int .i64 0) (.slice none 0 0) (.slice none 0 0) (fun w35=>lq7 w35 w1.heap.size fun n51 n52 n53 a54 l54 c54 a55 l55 c55=>Q (.agg (gq7 n51 n52 n53 a54 l54 c54 a55 l55 c55)) w35))
 (lq0 w30 w3.heap.size fun b56 b57 b58 b59 b60 b61 b62 b63=>CQ 71 [.agg (gq0 b56 b57 b58 b59 b60 b61 b62 b63)] w30 (fun r66 w36=>
 ∃ n64 n65,r66=.tuple #[.int .i64 n64,.int .i64 n65]∧
 let w37:=w36.drew;
 nn p1 (fun q67=>
 ∃ p68,w37.cell? (Addr.add q67 1)=some (.pointer p68)∧
 ∃ s69,w37.cell? (Addr.mk w.heap.size 4 none)=some (.string s69)∧
 CQ 72 [.pointer p68,.string s69,.int .i64 n64] w37 (fun r72 w38=>
 ∃ n70 n71,r72=.tuple #[.int .i64 n70,.int .i64 n71]∧
 cond (n71 != 0)
 (sq5 w1.heap.size w38 (.int .i64 n71) (.int .i64 0) (.int .i64 0) (.slice none 0 0) (.slice none 0 0) (fun w43=>lq7 w43 w1.heap.size fun n73 n74 n75 a76 l76 c76 a77 l77 c77=>Q (.agg (gq7 n73 n74 n75 a76 l76 c76 a77 l77 c77)) w43))
 (let w44:=w38.drew;
 nn p1 (fun q78=>
 ∃ p79,w44.cell? (Addr.add q78 1)=some (.pointer p79)∧
 ∃ b80,w44.cell? (Addr.mk w3.heap.size 7 none)=some (.bool b80)∧
 CQ 73 [.pointer p79,.int .i64 n70,.bool b80] w44 (fun r82 w45=>
 ∃ n81,r82=.int .i64 n81∧
 nn p1 (fun q83=>
 ∃ p84,w45.cell? (Addr.add q83 1)=some (.pointer p84)∧
 CQ 74 [.pointer p84,.int .i64 n70] w45 (fun r87 w46=>
 ∃ n85 n86,r87=.tuple #[.int .i64 n85,.int .i64 n86]∧
 lq1 w46 w18.heap.size fun b88 b89 n90 n91 a92 l92 c92 a93 l93 c93 a94 l94 c94 n95 b96 b97 b98=>CQ 75 [.pointer p1,.agg (gq1 b88 b89 n90 n91 a92 l92 c92 a93 l93 c93 a94 l94 c94 n95 b96 b97 b98),.agg #[.int .i64 n85,.int .i64 n70]] w46 (fun r101 w47=>
 ∃ n99 n100,r101=.tuple #[.int .i64 n99,.int .i64 n100]∧
 stC (Addr.mk w1.heap.size 1 none) (.int .i64 n99) w47 (fun w48=>
 stC (Addr.mk w1.heap.size 0 none) (.int .i64 n100) w48 (fun w49=>
 ∃ n102,w49.cell? (Addr.mk w1.heap.size 0 none)=some (.int .i64 n102)∧
 cond (n102 != 0)
 (nn p1 (fun q103=>
 ∃ p104,w49.cell? (Addr.add q103 1)=some (.pointer p104)∧
 CQ 76 [.pointer p104,.int .i64 n70] w49 (fun r106 w50=>
 ∃ n105,r106=.int .i64 n105∧
 lq7 w50 w1.heap.size fun n107 n108 n109 a110 l110 c110 a111 l111 c111=>sq5 w1.heap.size w50 (.int .i64 n107) (.int .i64 n108) (.int .i64 n109) (.slice a110 l110 c110) (.slice a111 l111 c111) (fun w55=>lq7 w55 w1.heap.size fun n112 n113 n114 a115 l115 c115 a116 l116 c116=>Q (.agg (gq7 n112 n113 n114 a115 l115 c115 a116 l116 c116)) w55))))
 (lq7 w49 w1.heap.size fun n117 n118 n119 a120 l120 c120 a121 l121 c121=>sq5 w1.heap.size w49 (.int .i64 n117) (.int .i64 n118) (.int .i64 n119) (.slice a120 l120 c120) (.slice a121 l121 c121) (fun w60=>lq7 w60 w1.heap.size fun n122 n123 n124 a125 l125 c125 a126 l126 c126=>Q (.agg (gq7 n122 n123 n124 a125 l125 c125 a126 l126 c126)) w60)))))))))))))))))))
theorem C25 {p1 n2 n3 n4 n5 s6 s7 a8 l8 c8 a9 l9 c9 a10 l10 c10 Q w} (h:L25 p1 n2 n3 n4 n5 s6 s7 a8 l8 c8 a9 l9 c9 a10 l10 c10 Q w):CallR Tryz.prog 25 [.pointer p1,.agg #[.int .i64 n2,.int .i64 n3,.int .i64 n4,.int .i64 n5,.string s6,.string s7,.slice a8 l8 c8,.slice a9 l9 c9,.slice a10 l10 c10]] w Q:=
 fC A25 Tryz.func25 rfl (by kernel_rfl) (Eq.mp (by kernel_rfl) h)
def A28:Ann:=⟨[],[],[],[(1,[0,1,2,3,4,5,6,7,8,9,10,11,12,13])],[],[]⟩
def L28 (p1:Option Addr) (n2 n3 n4 n5:Int) (s6 s7:ByteArray) (a8:Option Addr) (l8 c8:Nat) (a9:Option Addr) (l9 c9:Nat) (a10:Option Addr) (l10 c10:Nat) (Q:Value→World→Prop) (w:World):Prop:=
 let w1:=w.alloc (.cells (gq8 n2 n3 n4 n5 s6 s7 a8 l8 c8 a9 l9 c9 a10 l10 c10) 41);
 let w2:=w1.alloc (.cells (gq7 0 0 0 none 0 0 none 0 0) 37);
 let w3:=w2.drew;
 nn p1 (fun q11=>
 ∃ p12,w3.cell? (Addr.add q11 2)=some (.pointer p12)∧
 ∃ n13,w3.cell? (Addr.mk w.heap.size 1 none)=some (.int .i64 n13)∧
 ∃ a14 l14 c14,w3.cell? (Addr.mk w.heap.size 6 none)=some (.slice a14 l14 c14)∧
 CQ 79 [.pointer p12,.int .i64 n13,.slice a14 l14 c14] w3 (fun r17 w4=>
 ∃ n15 n16,r17=.tuple #[.int .i64 n15,.int .i64 n16]∧
 sq5 w1.heap.size w4 (.int .i64 n16) (.int .i64 n15) (.int .i64 0) (.slice none 0 0) (.slice none 0 0) (fun w9=>lq7 w9 w1.heap.size fun n18 n19 n20 a21 l21 c21 a22 l22 c22=>Q (.agg (gq7 n18 n19 n20 a21 l21 c21 a22 l22 c22)) w9)))
theorem C28 {p1 n2 n3 n4 n5 s6 s7 a8 l8 c8 a9 l9 c9 a10 l10 c10 Q w} (h:L28 p1 n2 n3 n4 n5 s6 s7 a8 l8 c8 a9 l9 c9 a10 l10 c10 Q w):CallR Tryz.prog 28 [.pointer p1,.agg #[.int .i64 n2,.int .i64 n3,.int .i64 n4,.int .i64 n5,.string s6,.string s7,.slice a8 l8 c8,.slice a9 l9 c9,.slice a10 l10 c10]] w Q:=
 fC A28 Tryz.func28 rfl (by kernel_rfl) (Eq.mp (by kernel_rfl) h)
def A31:Ann:=⟨[],[],[],[(1,[0,1,2,3,4,5,6,7,8])],[],[]⟩
def L31 (p1:Option Addr) (n2 n3 n4 n5:Int) (s6 s7:ByteArray) (a8:Option Addr) (l8 c8:Nat) (a9:Option Addr) (l9 c9:Nat) (a10:Option Addr) (l10 c10:Nat) (Q:Value→World→Prop) (w:World):Prop:=
 let w1:=w.alloc (.cells (gq8 n2 n3 n4 n5 s6 s7 a8 l8 c8 a9 l9 c9 a10 l10 c10) 41);
 let w2:=w1.alloc (.cells (gq7 0 0 0 none 0 0 none 0 0) 37);
 let w3:=w2.drew;
 nn p1 (fun q11=>
 ∃ p12,w3.cell? (Addr.add q11 2)=some (.pointer p12)∧
 ∃ n13,w3.cell? (Addr.mk w.heap.size 1 none)=some (.int .i64 n13)∧
 CQ 82 [.pointer p12,.int .i64 n13] w3 (fun r15 w4=>
 ∃ n14,r15=.int .i64 n14∧
 sq5 w1.heap.size w4 (.int .i64 n14) (.int .i64 0) (.int .i64 0) (.slice none 0 0) (.slice none 0 0) (fun w9=>lq7 w9 w1.heap.size fun n16 n17 n18 a19 l19 c19 a20 l20 c20=>Q (.agg (gq7 n16 n17 n18 a19 l19 c19 a20 l20 c20)) w9)))
theorem C31 {p1 n2 n3 n4 n5 s6 s7 a8 l8 c8 a9 l9 c9 a10 l10 c10 Q w} (h:L31 p1 n2 n3 n4 n5 s6 s7 a8 l8 c8 a9 l9 c9 a10 l10 c10 Q w):CallR Tryz.prog 31 [.pointer p1,.agg #[.int .i64 n2,.int .i64 n3,.int .i64 n4,.int .i64 n5,.string s6,.string s7,.slice a8 l8 c8,.slice a9 l9 c9,.slice a10 l10 c10]] w Q:=
 fC A31 Tryz.func31 rfl (by kernel_rfl) (Eq.mp (by kernel_rfl) h)
def A40:Ann:=⟨[],[],[],[],[],[]⟩
def L40 (p1:Option Addr) (n2 n3 n4 n5:Int) (s6 s7:ByteArray) (a8:Option Addr) (l8 c8:Nat) (a9:Option Addr) (l9 c9:Nat) (a10:Option Addr) (l10 c10:Nat) (Q:Value→World→Prop) (w:World):Prop:=
 let w1:=w.alloc (.cells (gq8 n2 n3 n4 n5 s6 s7 a8 l8 c8 a9 l9 c9 a10 l10 c10) 41);
 let w2:=w1.alloc (.cells (gq7 0 0 0 none 0 0 none 0 0) 37);
 nn p1 (fun q11=>
 ∃ p12,w2.cell? (Addr.add q11 2)=some (.pointer p12)∧
 CQ 89 [.pointer p12] w2 (fun r14 w3=>
 ∃ n13,r14=.int .i64 n13∧
 sq5 w1.heap.size w3 (.int .i64 n13) (.int .i64 0) (.int .i64 0) (.slice none 0 0) (.slice none 0 0) (fun w8=>lq7 w8 w1.heap.size fun n15 n16 n17 a18 l18 c18 a19 l19 c19=>Q (.agg (gq7 n15 n16 n17 a18 l18 c18 a19 l19 c19)) w8)))
theorem C40 {p1 n2 n3 n4 n5 s6 s7 a8 l8 c8 a9 l9 c9 a10 l10 c10 Q w} (h:L40 p1 n2 n3 n4 n5 s6 s7 a8 l8 c8 a9 l9 c9 a10 l10 c10 Q w):CallR Tryz.prog 40 [.pointer p1,.agg #[.int .i64 n2,.int .i64 n3,.int .i64 n4,.int .i64 n5,.string s6,.string s7,.slice a8 l8 c8,.slice a9 l9 c9,.slice a10 l10 c10]] w Q:=
 fC A40 Tryz.func40 rfl (by kernel_rfl) (Eq.mp (by kernel_rfl) h)
def A98:Ann:=⟨[],[],[],[],[],[]⟩
def L98 (b1 b2:Bool) (n3 n4:Int) (a5:Option Addr) (l5 c5:Nat) (a6:Option Addr) (l6 c6:Nat) (a7:Option Addr) (l7 c7:Nat) (n8:Int) (b9 b10 b11:Bool) (v12:Value) (n13 n14 n15 n16:Int) (s17 s18:ByteArray) (a19:Option Addr) (l19 c19:Nat) (a20:Option Addr) (l20 c20:Nat) (a21:Option Addr) (l21 c21:Nat) (Q:Value→World→Prop) (w:World):Prop:=
 let w1:=w.alloc (.cells (gq1 b1 b2 n3 n4 a5 l5 c5 a6 l6 c6 a7 l7 c7 n8 b9 b10 b11) 151);
 let w2:=w1.alloc (.cells (gq8 n13 n14 n15 n16 s17 s18 a19 l19 c19 a20 l20 c20 a21 l21 c21) 41);
 let w3:=w2.alloc (.cells zSq 151);
 let w4:=w3.alloc (.cells (gq7 0 0 0 none 0 0 none 0 0) 37);
 lq1 w4 w.heap.size fun b22 b23 n24 n25 a26 l26 c26 a27 l27 c27 a28 l28 c28 n29 b30 b31 b32=>CQ 161 [.agg (gq1 b22 b23 n24 n25 a26 l26 c26 a27 l27 c27 a28 l28 c28 n29 b30 b31 b32),v12] w4 (fun r46 w5=>
 ∃ b33 b34 n35 n36 a37 l37 c37 a38 l38 c38 a39 l39 c39 n40 b41 b42 b43 n44 n45,r46=.tuple #[.agg (gq1 b33 b34 n35 n36 a37 l37 c37 a38 l38 c38 a39 l39 c39 n40 b41 b42 b43),.int .i64 n44,.int .i64 n45]∧
 sq11 w.heap.size w5 (.bool b33) (.bool b34) (.int .i64 n35) (.int .i64 n36) (.slice a37 l37 c37) (.slice a38 l38 c38) (.slice a39 l39 c39) (.int .i64 n40) (.bool b41) (.bool b42) (.bool b43) (fun w16=>lq1 w16 w.heap.size fun b47 b48 n49 n50 a51 l51 c51 a52 l52 c52 a53 l53 c53 n54 b55 b56 b57=>sq11 w2.heap.size w16 (.bool b47) (.bool b48) (.int .i64 n49) (.int .i64 n50) (.slice a51 l51 c51) (.slice a52 l52 c52) (.slice a53 l53 c53) (.int .i64 n54) (.bool b55) (.bool b56) (.bool b57) (fun w27=>sq5 w3.heap.size w27 (.int .i64 n45) (.int .i64 n44) (.int .i64 0) (.slice none 0 0) (.slice none 0 0) (fun w32=>lq1 w32 w2.heap.size fun b58 b59 n60 n61 a62 l62 c62 a63 l63 c63 a64 l64 c64 n65 b66 b67 b68=>lq7 w32 w3.heap.size fun n69 n70 n71 a72 l72 c72 a73 l73 c73=>Q (.tuple #[.agg (gq1 b58 b59 n60 n61 a62 l62 c62 a63 l63 c63 a64 l64 c64 n65 b66 b67 b68),.agg (gq7 n69 n70 n71 a72 l72 c72 a73 l73 c73)]) w32))))
theorem C98 {b1 b2 n3 n4 a5 l5 c5 a6 l6 c6 a7 l7 c7 n8 b9 b10 b11 v12 n13 n14 n15 n16 s17 s18 a19 l19 c19 a20 l20 c20 a21 l21 c21 Q w} (h:L98 b1 b2 n3 n4 a5 l5 c5 a6 l6 c6 a7 l7 c7 n8 b9 b10 b11 v12 n13 n14 n15 n16 s17 s18 a19 l19 c19 a20 l20 c20 a21 l21 c21 Q w):CallR Tryz.prog 98 [.agg #[.bool b1,.bool b2,.int .i64 n3,.int .i64 n4,.slice a5 l5 c5,.slice a6 l6 c6,.slice a7 l7 c7,.int .i64 n8,.bool b9,.bool b10,.bool b11],v12,.agg #[.int .i64 n13,.int .i64 n14,.int .i64 n15,.int .i64 n16,.string s17,.string s18,.slice a19 l19 c19,.slice a20 l20 c20,.slice a21 l21 c21]] w Q:=
 fC A98 Tryz.func98 rfl (by kernel_rfl) (Eq.mp (by kernel_rfl) h)
def A99:Ann:=⟨[],[],[],[],[],[]⟩
def L99 (b1 b2:Bool) (n3 n4:Int) (a5:Option Addr) (l5 c5:Nat) (a6:Option Addr) (l6 c6:Nat) (a7:Option Addr) (l7 c7:Nat) (n8:Int) (b9 b10 b11:Bool) (v12:Value) (n13 n14 n15 n16:Int) (s17 s18:ByteArray) (a19:Option Addr) (l19 c19:Nat) (a20:Option Addr) (l20 c20:Nat) (a21:Option Addr) (l21 c21:Nat) (Q:Value→World→Prop) (w:World):Prop:=
 let w1:=w.alloc (.cells (gq1 b1 b2 n3 n4 a5 l5 c5 a6 l6 c6 a7 l7 c7 n8 b9 b10 b11) 151);
 let w2:=w1.alloc (.cells (gq8 n13 n14 n15 n16 s17 s18 a19 l19 c19 a20 l20 c20 a21 l21 c21) 41);
 let w3:=w2.alloc (.cells zSq 151);
 let w4:=w3.alloc (.cells (gq7 0 0 0 none 0 0 none 0 0) 37);
 lq1 w4 w.heap.size fun b22 b23 n24 n25 a26 l26 c26 a27 l27 c27 a28 l28 c28 n29 b30 b31 b32=>∃ n33,w4.cell? (Addr.mk w1.heap.size 2 none)=some (.int .i64 n33)∧
 ∃ n34,w4.cell? (Addr.mk w1.heap.size 3 none)=some (.int .i64 n34)∧
 CQ 162 [.agg (gq1 b22 b23 n24 n25 a26 l26 c26 a27 l27 c27 a28 l28 c28 n29 b30 b31 b32),v12,.int .i64 n33,.int .i64 n34] w4 (fun r48 w5=>
 ∃ b35 b36 n37 n38 a39 l39 c39 a40 l40 c40 a41 l41 c41 n42 b43 b44 b45 n46 n47,r48=.tuple #[.agg (gq1 b35 b36 n37 n38 a39 l39 c39 a40 l40 c40 a41 l41 c41 n42 b43 b44 b45),.int .i64 n46,.int .i64 n47]∧
 sq11 w.heap.size w5 (.bool b35) (.bool b36) (.int .i64 n37) (.int .i64 n38) (.slice a39 l39 c39) (.slice a40 l40 c40) (.slice a41 l41 c41) (.int .i64 n42) (.bool b43) (.bool b44) (.bool b45) (fun w16=>lq1 w16 w.heap.size fun b49 b50 n51 n52 a53 l53 c53 a54 l54 c54 a55 l55 c55 n56 b57 b58 b59=>sq11 w2.heap.size w16 (.bool b49) (.bool b50) (.int .i64 n51) (.int .i64 n52) (.slice a53 l53 c53) (.slice a54 l54 c54) (.slice a55 l55 c55) (.int .i64 n56) (.bool b57) (.bool b58) (.bool b59) (fun w27=>sq5 w3.heap.size w27 (.int .i64 n47) (.int .i64 n46) (.int .i64 0) (.slice none 0 0) (.slice none 0 0) (fun w32=>lq1 w32 w2.heap.size fun b60 b61 n62 n63 a64 l64 c64 a65 l65 c65 a66 l66 c66 n67 b68 b69 b70=>lq7 w32 w3.heap.size fun n71 n72 n73 a74 l74 c74 a75 l75 c75=>Q (.tuple #[.agg (gq1 b60 b61 n62 n63 a64 l64 c64 a65 l65 c65 a66 l66 c66 n67 b68 b69 b70),.agg (gq7 n71 n72 n73 a74 l74 c74 a75 l75 c75)]) w32))))
theorem C99 {b1 b2 n3 n4 a5 l5 c5 a6 l6 c6 a7 l7 c7 n8 b9 b10 b11 v12 n13 n14 n15 n16 s17 s18 a19 l19 c19 a20 l20 c20 a21 l21 c21 Q w} (h:L99 b1 b2 n3 n4 a5 l5 c5 a6 l6 c6 a7 l7 c7 n8 b9 b10 b11 v12 n13 n14 n15 n16 s17 s18 a19 l19 c19 a20 l20 c20 a21 l21 c21 Q w):CallR Tryz.prog 99 [.agg #[.bool b1,.bool b2,.int .i64 n3,.int .i64 n4,.slice a5 l5 c5,.slice a6 l6 c6,.slice a7 l7 c7,.int .i64 n8,.bool b9,.bool b10,.bool b11],v12,.agg #[.int .i64 n13,.int .i64 n14,.int .i64 n15,.int .i64 n16,.string s17,.string s18,.slice a19 l19 c19,.slice a20 l20 c20,.slice a21 l21 c21]] w Q:=
 fC A99 Tryz.func99 rfl (by kernel_rfl) (Eq.mp (by kernel_rfl) h)
def A101:Ann:=⟨[],[],[],[],[],[]⟩
def L101 (b1 b2:Bool) (n3 n4:Int) (a5:Option Addr) (l5 c5:Nat) (a6:Option Addr) (l6 c6:Nat) (a7:Option Addr) (l7 c7:Nat) (n8:Int) (b9 b10 b11:Bool) (v12:Value) (n13 n14 n15 n16:Int) (s17 s18:ByteArray) (a19:Option Addr) (l19 c19:Nat) (a20:Option Addr) (l20 c20:Nat) (a21:Option Addr) (l21 c21:Nat) (Q:Value→World→Prop) (w:World):Prop:=
 let w1:=w.alloc (.cells (gq1 b1 b2 n3 n4 a5 l5 c5 a6 l6 c6 a7 l7 c7 n8 b9 b10 b11) 151);
 let w2:=w1.alloc (.cells (gq8 n13 n14 n15 n16 s17 s18 a19 l19 c19 a20 l20 c20 a21 l21 c21) 41);
 let w3:=w2.alloc (.cells zSq 151);
 let w4:=w3.alloc (.cells (gq7 0 0 0 none 0 0 none 0 0) 37);
 lq1 w4 w.heap.size fun b22 b23 n24 n25 a26 l26 c26 a27 l27 c27 a28 l28 c28 n29 b30 b31 b32=>∃ n33,w4.cell? (Addr.mk w1.heap.size 2 none)=some (.int .i64 n33)∧
 ∃ n34,w4.cell? (Addr.mk w1.heap.size 3 none)=some (.int .i64 n34)∧
 CQ 164 [.agg (gq1 b22 b23 n24 n25 a26 l26 c26 a27 l27 c27 a28 l28 c28 n29 b30 b31 b32),v12,.int .i64 n33,.int .i64 n34] w4 (fun r49 w5=>
 ∃ b35 b36 n37 n38 a39 l39 c39 a40 l40 c40 a41 l41 c41 n42 b43 b44 b45 a46 l46 c46 n47 n48,r49=.tuple #[.agg (gq1 b35 b36 n37 n38 a39 l39 c39 a40 l40 c40 a41 l41 c41 n42 b43 b44 b45),.slice a46 l46 c46,.int .i64 n47,.int .i64 n48]∧
 sq11 w.heap.size w5 (.bool b35) (.bool b36) (.int .i64 n37) (.int .i64 n38) (.slice a39 l39 c39) (.slice a40 l40 c40) (.slice a41 l41 c41) (.int .i64 n42) (.bool b43) (.bool b44) (.bool b45) (fun w16=>lq1 w16 w.heap.size fun b50 b51 n52 n53 a54 l54 c54 a55 l55 c55 a56 l56 c56 n57 b58 b59 b60=>sq11 w2.heap.size w16 (.bool b50) (.bool b51) (.int .i64 n52) (.int .i64 n53) (.slice a54 l54 c54) (.slice a55 l55 c55) (.slice a56 l56 c56) (.int .i64 n57) (.bool b58) (.bool b59) (.bool b60) (fun w27=>sq5 w3.heap.size w27 (.int .i64 n48) (.int .i64 n47) (.int .i64 0) (.slice a46 l46 c46) (.slice none 0 0) (fun w32=>lq1 w32 w2.heap.size fun b61 b62 n63 n64 a65 l65 c65 a66 l66 c66 a67 l67 c67 n68 b69 b70 b71=>lq7 w32 w3.heap.size fun n72 n73 n74 a75 l75 c75 a76 l76 c76=>Q (.tuple #[.agg (gq1 b61 b62 n63 n64 a65 l65 c65 a66 l66 c66 a67 l67 c67 n68 b69 b70 b71),.agg (gq7 n72 n73 n74 a75 l75 c75 a76 l76 c76)]) w32))))
theorem C101 {b1 b2 n3 n4 a5 l5 c5 a6 l6 c6 a7 l7 c7 n8 b9 b10 b11 v12 n13 n14 n15 n16 s17 s18 a19 l19 c19 a20 l20 c20 a21 l21 c21 Q w} (h:L101 b1 b2 n3 n4 a5 l5 c5 a6 l6 c6 a7 l7 c7 n8 b9 b10 b11 v12 n13 n14 n15 n16 s17 s18 a19 l19 c19 a20 l20 c20 a21 l21 c21 Q w):CallR Tryz.prog 101 [.agg #[.bool b1,.bool b2,.int .i64 n3,.int .i64 n4,.slice a5 l5 c5,.slice a6 l6 c6,.slice a7 l7 c7,.int .i64 n8,.bool b9,.bool b10,.bool b11],v12,.agg #[.int .i64 n13,.int .i64 n14,.int .i64 n15,.int .i64 n16,.string s17,.string s18,.slice a19 l19 c19,.slice a20 l20 c20,.slice a21 l21 c21]] w Q:=
 fC A101 Tryz.func101 rfl (by kernel_rfl) (Eq.mp (by kernel_rfl) h)
def A44:Ann:=⟨[],[],[],[],[],[]⟩
def L44 (Q:Value→World→Prop) (w:World):Prop:=
 let w1:=World.alloc w (Obj.map #[] 0);
 ∃ w2,Sem.run Tryz.prog (Instr.mapUpdate 102 (.map (some w.heap.size)) (.int .i64 8) (.func (.func 96) #[] #[])) w1=.ok () w2∧
 ∃ w3,Sem.run Tryz.prog (Instr.mapUpdate 102 (.map (some w.heap.size)) (.int .i64 9) (.func (.func 97) #[] #[])) w2=.ok () w3∧
 ∃ w4,Sem.run Tryz.prog (Instr.mapUpdate 102 (.map (some w.heap.size)) (.int .i64 10) (.func (.func 98) #[] #[])) w3=.ok () w4∧
 ∃ w5,Sem.run Tryz.prog (Instr.mapUpdate 102 (.map (some w.heap.size)) (.int .i64 11) (.func (.func 99) #[] #[])) w4=.ok () w5∧
 ∃ w6,Sem.run Tryz.prog (Instr.mapUpdate 102 (.map (some w.heap.size)) (.int .i64 12) (.func (.func 100) #[] #[])) w5=.ok () w6∧
 ∃ w7,Sem.run Tryz.prog (Instr.mapUpdate 102 (.map (some w.heap.size)) (.int .i64 13) (.func (.func 101) #[] #[])) w6=.ok () w7∧
 ∃ w8,Sem.run Tryz.prog (Instr.mapUpdate 102 (.map (some w.heap.size)) (.int .i64 14) (.func (.func 102) #[] #[])) w7=.ok () w8∧
 ∃ w9,Sem.run Tryz.prog (Instr.mapUpdate 102 (.map (some w.heap.size)) (.int .i64 15) (.func (.func 103) #[] #[])) w8=.ok () w9∧
 ∃ w10,Sem.run Tryz.prog (Instr.mapUpdate 102 (.map (some w.heap.size)) (.int .i64 16) (.func (.func 104) #[] #[])) w9=.ok () w10∧
 ∃ w11,Sem.run Tryz.prog (Instr.mapUpdate 102 (.map (some w.heap.size)) (.int .i64 28) (.func (.func 105) #[] #[])) w10=.ok () w11∧
 Q (.map (some w.heap.size)) w11
theorem C44 {Q w} (h:L44 Q w):CallR Tryz.prog 44 [] w Q:=
 fC A44 Tryz.func44 rfl (by kernel_rfl) (Eq.mp (by kernel_rfl) h)
def A15:Ann:=⟨[(3,[])],[],[],[],[],[]⟩
def L15 (Q:Value→World→Prop) (w:World):Prop:=
 let w1:=World.alloc w (Obj.map #[] 0);
 ∃ w2,Sem.run Tryz.prog (Instr.mapUpdate 70 (.map (some w.heap.size)) (.int .i64 1) (.func (.func 25) #[] #[])) w1=.ok () w2∧
 ∃ w3,Sem.run Tryz.prog (Instr.mapUpdate 70 (.map (some w.heap.size)) (.int .i64 2) (.func (.func 26) #[] #[])) w2=.ok () w3∧
 ∃ w4,Sem.run Tryz.prog (Instr.mapUpdate 70 (.map (some w.heap.size)) (.int .i64 3) (.func (.func 27) #[] #[])) w3=.ok () w4∧
 ∃ w5,Sem.run Tryz.prog (Instr.mapUpdate 70 (.map (some w.heap.size)) (.int .i64 4) (.func (.func 28) #[] #[])) w4=.ok () w5∧
 ∃ w6,Sem.run Tryz.prog (Instr.mapUpdate 70 (.map (some w.heap.size)) (.int .i64 5) (.func (.func 29) #[] #[])) w5=.ok () w6∧
 ∃ w7,Sem.run Tryz.prog (Instr.mapUpdate 70 (.map (some w.heap.size)) (.int .i64 6) (.func (.func 30) #[] #[])) w6=.ok () w7∧
 ∃ w8,Sem.run Tryz.prog (Instr.mapUpdate 70 (.map (some w.heap.size)) (.int .i64 7) (.func (.func 31) #[] #[])) w7=.ok () w8∧
 ∃ w9,Sem.run Tryz.prog (Instr.mapUpdate 70 (.map (some w.heap.size)) (.int .i64 17) (.func (.func 32) #[] #[])) w8=.ok () w9∧
 ∃ w10,Sem.run Tryz.prog (Instr.mapUpdate 70 (.map (some w.heap.size)) (.int .i64 18) (.func (.func 33) #[] #[])) w9=.ok () w10∧
 ∃ w11,Sem.run Tryz.prog (Instr.mapUpdate 70 (.map (some w.heap.size)) (.int .i64 19) (.func (.func 34) #[] #[])) w10=.ok () w11∧
 ∃ w12,Sem.run Tryz.prog (Instr.mapUpdate 70 (.map (some w.heap.size)) (.int .i64 20) (.func (.func 35) #[] #[])) w11=.ok () w12∧
 ∃ w13,Sem.run Tryz.prog (Instr.mapUpdate 70 (.map (some w.heap.size)) (.int .i64 21) (.func (.func 36) #[] #[])) w12=.ok () w13∧
 ∃ w14,Sem.run Tryz.prog (Instr.mapUpdate 70 (.map (some w.heap.size)) (.int .i64 22) (.func (.func 37) #[] #[])) w13=.ok () w14∧
 ∃ w15,Sem.run Tryz.prog (Instr.mapUpdate 70 (.map (some w.heap.size)) (.int .i64 23) (.func (.func 38) #[] #[])) w14=.ok () w15∧
 ∃ w16,Sem.run Tryz.prog (Instr.mapUpdate 70 (.map (some w.heap.size)) (.int .i64 24) (.func (.func 39) #[] #[])) w15=.ok () w16∧
 ∃ w17,Sem.run Tryz.prog (Instr.mapUpdate 70 (.map (some w.heap.size)) (.int .i64 25) (.func (.func 40) #[] #[])) w16=.ok () w17∧
 ∃ w18,Sem.run Tryz.prog (Instr.mapUpdate 70 (.map (some w.heap.size)) (.int .i64 26) (.func (.func 41) #[] #[])) w17=.ok () w18∧
 ∃ w19,Sem.run Tryz.prog (Instr.mapUpdate 70 (.map (some w.heap.size)) (.int .i64 27) (.func (.func 42) #[] #[])) w18=.ok () w19∧
 ∃ w20,Sem.run Tryz.prog (Instr.mapUpdate 70 (.map (some w.heap.size)) (.int .i64 29) (.func (.func 43) #[] #[])) w19=.ok () w20∧
 ∃ w21,Sem.run Tryz.prog (Instr.mapUpdate 70 (.map (some w.heap.size)) (.int .i64 30) (.func (.func 43) #[] #[])) w20=.ok () w21∧
 CQ 44 [] w21 (fun r2 w22=>
 ∃ (m1:Option Nat),r2=.map m1∧
 ∃ w23,Sem.run Tryz.prog (Instr.range 102 (.map m1)) w22=.ok (.pointer (some (Addr.mk w22.heap.size 0 none))) w23∧
 ∃ (I3:List Value→World→Prop) (mu4:List Value→World→Nat),
 I3 [] w23∧
 ∀ (_:Env) (w24:World),I3 [] w24→
 (∃ w25,Sem.run Tryz.prog (Instr.next (.pointer (some (Addr.mk w22.heap.size 0 none))) false 0) w24=.ok (.tuple #[.bool false]) w25∧
 Q (.map (some w.heap.size)) w25)∨
 (∃ (v5:Value) (v6:Value) (w26:World),Sem.run Tryz.prog (Instr.next (.pointer (some (Addr.mk w22.heap.size 0 none))) false 0) w24=.ok (.tuple #[.bool true,v5,v6]) w26∧
 ((∃ (s7:ByteArray) (v8:Value) (w27:World),Sem.run Tryz.prog (Instr.entry (.pointer (some (Addr.mk w22.heap.size 0 none)))) w26=.ok (.tuple #[.string s7,v8]) w27∧
 let w29:=w27.alloc (.cells #[.nilFunc] 105);
 oneC v8 (stC (Addr.mk w27.heap.size 0 none) v8 w29 (fun w30=>
 ∃ w31,Sem.run Tryz.prog (Instr.mapUpdate 70 (.map (some w.heap.size)) (.string s7) (.func (.func 45) #[] #[.pointer (some (Addr.mk w27.heap.size 0 none))])) w30=.ok () w31∧
 I3 [] w31∧mu4 [] w31< mu4 [] w24)))∨
 (∃ (n9:Int) (v10:Value) (w28:World),Sem.run Tryz.prog (Instr.entry (.pointer (some (Addr.mk w22.heap.size 0 none)))) w26=.ok (.tuple #[.int .i64 n9,v10]) w28∧
 let w32:=w28.alloc (.cells #[.nilFunc] 105);
 oneC v10 (stC (Addr.mk w28.heap.size 0 none) v10 w32 (fun w33=>
 ∃ w34,Sem.run Tryz.prog (Instr.mapUpdate 70 (.map (some w.heap.size)) (.int .i64 n9) (.func (.func 45) #[] #[.pointer (some (Addr.mk w28.heap.size 0 none))])) w33=.ok () w34∧
 I3 [] w34∧mu4 [] w34< mu4 [] w24))))))
theorem C15 {Q w} (h:L15 Q w):CallR Tryz.prog 15 [] w Q:=
 fC A15 Tryz.func15 rfl (by kernel_rfl) (Eq.mp (by kernel_rfl) h)
def A45:Ann:=⟨[],[],[],[],[],[]⟩
def L45 (p1:Option Addr) (n2 n3 n4 n5:Int) (s6 s7:ByteArray) (a8:Option Addr) (l8 c8:Nat) (a9:Option Addr) (l9 c9:Nat) (a10:Option Addr) (l10 c10:Nat) (q11:Addr) (Q:Value→World→Prop) (w:World):Prop:=
 let w1:=w.alloc (.cells (gq8 n2 n3 n4 n5 s6 s7 a8 l8 c8 a9 l9 c9 a10 l10 c10) 41);
 let w2:=w1.alloc (.cells (gq7 0 0 0 none 0 0 none 0 0) 37);
 lq8 w2 w.heap.size fun n12 n13 n14 n15 s16 s17 a18 l18 c18 a19 l19 c19 a20 l20 c20=>∃ (v21:Value),w2.cell? q11=some v21∧
 CQ 46 [.pointer p1,.agg (gq8 n12 n13 n14 n15 s16 s17 a18 l18 c18 a19 l19 c19 a20 l20 c20),v21] w2 (fun r27 w3=>
 ∃ n22 n23 n24 a25 l25 c25 a26 l26 c26,r27=.agg (gq7 n22 n23 n24 a25 l25 c25 a26 l26 c26)∧
 sq5 w1.heap.size w3 (.int .i64 n22) (.int .i64 n23) (.int .i64 n24) (.slice a25 l25 c25) (.slice a26 l26 c26) (fun w8=>lq7 w8 w1.heap.size fun n28 n29 n30 a31 l31 c31 a32 l32 c32=>Q (.agg (gq7 n28 n29 n30 a31 l31 c31 a32 l32 c32)) w8))
theorem C45 {p1 n2 n3 n4 n5 s6 s7 a8 l8 c8 a9 l9 c9 a10 l10 c10 q11 Q w} (h:L45 p1 n2 n3 n4 n5 s6 s7 a8 l8 c8 a9 l9 c9 a10 l10 c10 q11 Q w):CallR Tryz.prog 45 [.pointer p1,.agg #[.int .i64 n2,.int .i64 n3,.int .i64 n4,.int .i64 n5,.string s6,.string s7,.slice a8 l8 c8,.slice a9 l9 c9,.slice a10 l10 c10],.pointer (some q11)] w Q:=
 fC A45 Tryz.func45 rfl (by kernel_rfl) (Eq.mp (by kernel_rfl) h)
def A108:Ann:=⟨[],[],[],[(2,[0,1,2,3,4,5,6,7])],[],[]⟩
def L108 (q1 q2 q3 q4:Addr) (K:World→Prop) (w:World):Prop:=
 ∃ b5 w1,Sem.run Tryz.prog (Sem.bind (eqGuard .neq 20 (.tmp 4) (.const (.nilIface)) .nilIface .nilIface) (fun _=>binOp .neq 20 .nilIface .nilIface)) w=.ok (.bool b5) w1∧
 cond b5
 (stC (Addr.add q1 9) (.bool true) w1 (fun w2=>
 let w3:=w2.drew;
 ∃ p6,w3.cell? q2=some (.pointer p6)∧
 nn p6 (fun q7=>
 ∃ p8,w3.cell? (Addr.add q7 2)=some (.pointer p8)∧
 ∃ n9,w3.cell? (Addr.add q3 1)=some (.int .i64 n9)∧
 ∃ b10 b11 n12 n13 a14 l14 c14 a15 l15 c15 a16 l16 c16 n17 b18 b19 b20,w3.cell? q1=some (.bool b10)∧w3.cell? (Addr.add q1 1)=some (.bool b11)∧w3.cell? (Addr.add q1 2)=some (.int .i64 n12)∧w3.cell? (Addr.add q1 3)=some (.int .i64 n13)∧w3.cell? (Addr.add q1 4)=some (.slice a14 l14 c14)∧w3.cell? (Addr.add q1 5)=some (.slice a15 l15 c15)∧w3.cell? (Addr.add q1 6)=some (.slice a16 l16 c16)∧w3.cell? (Addr.add q1 7)=some (.int .i64 n17)∧w3.cell? (Addr.add q1 8)=some (.bool b18)∧w3.cell? (Addr.add q1 9)=some (.bool b19)∧w3.cell? (Addr.add q1 10)=some (.bool b20)∧
 CQ 109 [.pointer p8,.int .i64 n9,.agg (gq1 b10 b11 n12 n13 a14 l14 c14 a15 l15 c15 a16 l16 c16 n17 b18 b19 b20)] w3 (fun r22 w4=>
 ∃ n21,r22=.int .i64 n21∧
 stC q4 (.int .i64 193) w4 (fun w5=>
 stC (Addr.add q4 1) (.int .i64 0) w5 (fun w6=>
 stC (Addr.add q4 2) (.int .i64 0) w6 (fun w7=>
 stC (Addr.add q4 3) (.slice none 0 0) w7 (fun w8=>
 stC (Addr.add q4 4) (.slice none 0 0) w8 (fun w9=>
 K w9)))))))))
 (K w1)
theorem C108 {q1 q2 q3 q4 K w} (h:L108 q1 q2 q3 q4 K w):DefR Tryz.prog 108 [.pointer (some q1),.pointer (some q2),.pointer (some q3),.pointer (some q4)] w K:=
 fun_callsR (A:=A108) mixed Tryz.func108 (c:=(Tryz.f108.body).getD .skip) rfl (by kernel_rfl) (Eq.mp (by kernel_rfl) h)
def A46:Ann:=⟨[],[(2,[(7,.one (.ptr)),(8,.one (.int .i64))]),(6,[(11,.one (.ptr))])],[],[(4,[0,1,2,3,4,5,6,7,8,9,10,11]),(8,[0,1,2,3,4,5,6,7])],[],[1,5]⟩
def L46 (p1:Option Addr) (n2 n3 n4 n5:Int) (s6 s7:ByteArray) (a8:Option Addr) (l8 c8:Nat) (a9:Option Addr) (l9 c9:Nat) (a10:Option Addr) (l10 c10:Nat) (v11:Value) (Q:Value→World→Prop) (w:World):Prop:=
 let w1:=w.alloc (.cells #[.pointer p1] 25);
 let w2:=w1.alloc (.cells (gq8 n2 n3 n4 n5 s6 s7 a8 l8 c8 a9 l9 c9 a10 l10 c10) 41);
 let w3:=w2.alloc (.cells (gq7 0 0 0 none 0 0 none 0 0) 37);
 ∃ (J12:List Value→World→Prop),
 (let w4:=w3.drew;
 (∃ p13,w4.cell? (Addr.mk w.heap.size 0 none)=some (.pointer p13)∧
 nn p13 (fun q14=>
 (∃ p15,w4.cell? (Addr.add q14 2)=some (.pointer p15)∧
 (∃ n16,w4.cell? (Addr.mk w1.heap.size 1 none)=some (.int .i64 n16)∧
 (CQ 106 [.pointer p15,.int .i64 n16] w4 (fun r29 w5=>
 ∃ b17 b18 n19 n20 a21 l21 c21 a22 l22 c22 a23 l23 c23 n24 b25 b26 b27 n28,r29=.tuple #[.agg (gq1 b17 b18 n19 n20 a21 l21 c21 a22 l22 c22 a23 l23 c23 n24 b25 b26 b27),.int .i64 n28]∧
 let w6:=w5.alloc (.cells zSq 151);
 sq11 w5.heap.size w6 (.bool b17) (.bool b18) (.int .i64 n19) (.int .i64 n20) (.slice a21 l21 c21) (.slice a22 l22 c22) (.slice a23 l23 c23) (.int .i64 n24) (.bool b25) (.bool b26) (.bool b27) (fun w17=>J12 [.pointer (some (Addr.mk w5.heap.size 0 none)),.int .i64 n28] w17)))∧
 (let w18:=w4.alloc (.cells zSq 151);
 CQ 106 [.pointer p15,.int .i64 n16] w18 (fun r42 w19=>
 ∃ b30 b31 n32 n33 a34 l34 c34 a35 l35 c35 a36 l36 c36 n37 b38 b39 b40 n41,r42=.tuple #[.agg (gq1 b30 b31 n32 n33 a34 l34 c34 a35 l35 c35 a36 l36 c36 n37 b38 b39 b40),.int .i64 n41]∧
 sq11 w4.heap.size w19 (.bool b30) (.bool b31) (.int .i64 n32) (.int .i64 n33) (.slice a34 l34 c34) (.slice a35 l35 c35) (.slice a36 l36 c36) (.int .i64 n37) (.bool b38) (.bool b39) (.bool b40) (fun w30=>J12 [.pointer (some (Addr.mk w4.heap.size 0 none)),.int .i64 n41] w30))))∧
 (let w31:=w4.alloc (.cells zSq 151);
 ∃ n43,w31.cell? (Addr.mk w1.heap.size 1 none)=some (.int .i64 n43)∧
 CQ 106 [.pointer p15,.int .i64 n43] w31 (fun r56 w32=>
 ∃ b44 b45 n46 n47 a48 l48 c48 a49 l49 c49 a50 l50 c50 n51 b52 b53 b54 n55,r56=.tuple #[.agg (gq1 b44 b45 n46 n47 a48 l48 c48 a49 l49 c49 a50 l50 c50 n51 b52 b53 b54),.int .i64 n55]∧
 sq11 w4.heap.size w32 (.bool b44) (.bool b45) (.int .i64 n46) (.int .i64 n47) (.slice a48 l48 c48) (.slice a49 l49 c49) (.slice a50 l50 c50) (.int .i64 n51) (.bool b52) (.bool b53) (.bool b54) (fun w43=>J12 [.pointer (some (Addr.mk w4.heap.size 0 none)),.int .i64 n55] w43))))∧
 (∃ n57,w4.cell? (Addr.mk w1.heap.size 1 none)=some (.int .i64 n57)∧
 (∃ p58,w4.cell? (Addr.add q14 2)=some (.pointer p58)∧
 (CQ 106 [.pointer p58,.int .i64 n57] w4 (fun r71 w44=>
 ∃ b59 b60 n61 n62 a63 l63 c63 a64 l64 c64 a65 l65 c65 n66 b67 b68 b69 n70,r71=.tuple #[.agg (gq1 b59 b60 n61 n62 a63 l63 c63 a64 l64 c64 a65 l65 c65 n66 b67 b68 b69),.int .i64 n70]∧
 let w45:=w44.alloc (.cells zSq 151);
 sq11 w44.heap.size w45 (.bool b59) (.bool b60) (.int .i64 n61) (.int .i64 n62) (.slice a63 l63 c63) (.slice a64 l64 c64) (.slice a65 l65 c65) (.int .i64 n66) (.bool b67) (.bool b68) (.bool b69) (fun w56=>J12 [.pointer (some (Addr.mk w44.heap.size 0 none)),.int .i64 n70] w56)))∧
 (let w57:=w4.alloc (.cells zSq 151);
 CQ 106 [.pointer p58,.int .i64 n57] w57 (fun r84 w58=>
 ∃ b72 b73 n74 n75 a76 l76 c76 a77 l77 c77 a78 l78 c78 n79 b80 b81 b82 n83,r84=.tuple #[.agg (gq1 b72 b73 n74 n75 a76 l76 c76 a77 l77 c77 a78 l78 c78 n79 b80 b81 b82),.int .i64 n83]∧
 sq11 w4.heap.size w58 (.bool b72) (.bool b73) (.int .i64 n74) (.int .i64 n75) (.slice a76 l76 c76) (.slice a77 l77 c77) (.slice a78 l78 c78) (.int .i64 n79) (.bool b80) (.bool b81) (.bool b82) (fun w69=>J12 [.pointer (some (Addr.mk w4.heap.size 0 none)),.int .i64 n83] w69))))∧
 (let w70:=w4.alloc (.cells zSq 151);
 ∃ p85,w70.cell? (Addr.add q14 2)=some (.pointer p85)∧
 CQ 106 [.pointer p85,.int .i64 n57] w70 (fun r98 w71=>
 ∃ b86 b87 n88 n89 a90 l90 c90 a91 l91 c91 a92 l92 c92 n93 b94 b95 b96 n97,r98=.tuple #[.agg (gq1 b86 b87 n88 n89 a90 l90 c90 a91 l91 c91 a92 l92 c92 n93 b94 b95 b96),.int .i64 n97]∧
 sq11 w4.heap.size w71 (.bool b86) (.bool b87) (.int .i64 n88) (.int .i64 n89) (.slice a90 l90 c90) (.slice a91 l91 c91) (.slice a92 l92 c92) (.int .i64 n93) (.bool b94) (.bool b95) (.bool b96) (fun w82=>J12 [.pointer (some (Addr.mk w4.heap.size 0 none)),.int .i64 n97] w82))))∧
 (let w83:=w4.alloc (.cells zSq 151);
 (∃ p99,w83.cell? (Addr.add q14 2)=some (.pointer p99)∧
 ∃ n100,w83.cell? (Addr.mk w1.heap.size 1 none)=some (.int .i64 n100)∧
 CQ 106 [.pointer p99,.int .i64 n100] w83 (fun r113 w84=>
 ∃ b101 b102 n103 n104 a105 l105 c105 a106 l106 c106 a107 l107 c107 n108 b109 b110 b111 n112,r113=.tuple #[.agg (gq1 b101 b102 n103 n104 a105 l105 c105 a106 l106 c106 a107 l107 c107 n108 b109 b110 b111),.int .i64 n112]∧
 sq11 w4.heap.size w84 (.bool b101) (.bool b102) (.int .i64 n103) (.int .i64 n104) (.slice a105 l105 c105) (.slice a106 l106 c106) (.slice a107 l107 c107) (.int .i64 n108) (.bool b109) (.bool b110) (.bool b111) (fun w95=>J12 [.pointer (some (Addr.mk w4.heap.size 0 none)),.int .i64 n112] w95)))∧
 (∃ n114,w83.cell? (Addr.mk w1.heap.size 1 none)=some (.int .i64 n114)∧
 ∃ p115,w83.cell? (Addr.add q14 2)=some (.pointer p115)∧
 CQ 106 [.pointer p115,.int .i64 n114] w83 (fun r128 w96=>
 ∃ b116 b117 n118 n119 a120 l120 c120 a121 l121 c121 a122 l122 c122 n123 b124 b125 b126 n127,r128=.tuple #[.agg (gq1 b116 b117 n118 n119 a120 l120 c120 a121 l121 c121 a122 l122 c122 n123 b124 b125 b126),.int .i64 n127]∧
 sq11 w4.heap.size w96 (.bool b116) (.bool b117) (.int .i64 n118) (.int .i64 n119) (.slice a120 l120 c120) (.slice a121 l121 c121) (.slice a122 l122 c122) (.int .i64 n123) (.bool b124) (.bool b125) (.bool b126) (fun w107=>J12 [.pointer (some (Addr.mk w4.heap.size 0 none)),.int .i64 n127] w107))))))∧
 (∃ n129,w4.cell? (Addr.mk w1.heap.size 1 none)=some (.int .i64 n129)∧
 (∃ p130,w4.cell? (Addr.mk w.heap.size 0 none)=some (.pointer p130)∧
 nn p130 (fun q131=>
 (∃ p132,w4.cell? (Addr.add q131 2)=some (.pointer p132)∧
 (CQ 106 [.pointer p132,.int .i64 n129] w4 (fun r145 w108=>
 ∃ b133 b134 n135 n136 a137 l137 c137 a138 l138 c138 a139 l139 c139 n140 b141 b142 b143 n144,r145=.tuple #[.agg (gq1 b133 b134 n135 n136 a137 l137 c137 a138 l138 c138 a139 l139 c139 n140 b141 b142 b143),.int .i64 n144]∧
 let w109:=w108.alloc (.cells zSq 151);
 sq11 w108.heap.size w109 (.bool b133) (.bool b134) (.int .i64 n135) (.int .i64 n136) (.slice a137 l137 c137) (.slice a138 l138 c138) (.slice a139 l139 c139) (.int .i64 n140) (.bool b141) (.bool b142) (.bool b143) (fun w120=>J12 [.pointer (some (Addr.mk w108.heap.size 0 none)),.int .i64 n144] w120)))∧
 (let w121:=w4.alloc (.cells zSq 151);
 CQ 106 [.pointer p132,.int .i64 n129] w121 (fun r158 w122=>
 ∃ b146 b147 n148 n149 a150 l150 c150 a151 l151 c151 a152 l152 c152 n153 b154 b155 b156 n157,r158=.tuple #[.agg (gq1 b146 b147 n148 n149 a150 l150 c150 a151 l151 c151 a152 l152 c152 n153 b154 b155 b156),.int .i64 n157]∧
 sq11 w4.heap.size w122 (.bool b146) (.bool b147) (.int .i64 n148) (.int .i64 n149) (.slice a150 l150 c150) (.slice a151 l151 c151) (.slice a152 l152 c152) (.int .i64 n153) (.bool b154) (.bool b155) (.bool b156) (fun w133=>J12 [.pointer (some (Addr.mk w4.heap.size 0 none)),.int .i64 n157] w133))))∧
 (let w134:=w4.alloc (.cells zSq 151);
 ∃ p159,w134.cell? (Addr.add q131 2)=some (.pointer p159)∧
 CQ 106 [.pointer p159,.int .i64 n129] w134 (fun r172 w135=>
 ∃ b160 b161 n162 n163 a164 l164 c164 a165 l165 c165 a166 l166 c166 n167 b168 b169 b170 n171,r172=.tuple #[.agg (gq1 b160 b161 n162 n163 a164 l164 c164 a165 l165 c165 a166 l166 c166 n167 b168 b169 b170),.int .i64 n171]∧
 sq11 w4.heap.size w135 (.bool b160) (.bool b161) (.int .i64 n162) (.int .i64 n163) (.slice a164 l164 c164) (.slice a165 l165 c165) (.slice a166 l166 c166) (.int .i64 n167) (.bool b168) (.bool b169) (.bool b170) (fun w146=>J12 [.pointer (some (Addr.mk w4.heap.size 0 none)),.int .i64 n171] w146)))))∧
 (let w147:=w4.alloc (.cells zSq 151);
 ∃ p173,w147.cell? (Addr.mk w.heap.size 0 none)=some (.pointer p173)∧
 nn p173 (fun q174=>
 ∃ p175,w147.cell? (Addr.add q174 2)=some (.pointer p175)∧
 CQ 106 [.pointer p175,.int .i64 n129] w147 (fun r188 w148=>
 ∃ b176 b177 n178 n179 a180 l180 c180 a181 l181 c181 a182 l182 c182 n183 b184 b185 b186 n187,r188=.tuple #[.agg (gq1 b176 b177 n178 n179 a180 l180 c180 a181 l181 c181 a182 l182 c182 n183 b184 b185 b186),.int .i64 n187]∧
 sq11 w4.heap.size w148 (.bool b176) (.bool b177) (.int .i64 n178) (.int .i64 n179) (.slice a180 l180 c180) (.slice a181 l181 c181) (.slice a182 l182 c182) (.int .i64 n183) (.bool b184) (.bool b185) (.bool b186) (fun w159=>J12 [.pointer (some (Addr.mk w4.heap.size 0 none)),.int .i64 n187] w159)))))∧
 (let w160:=w4.alloc (.cells zSq 151);
 (∃ p189,w160.cell? (Addr.mk w.heap.size 0 none)=some (.pointer p189)∧
 nn p189 (fun q190=>
 (∃ p191,w160.cell? (Addr.add q190 2)=some (.pointer p191)∧
 ∃ n192,w160.cell? (Addr.mk w1.heap.size 1 none)=some (.int .i64 n192)∧
 CQ 106 [.pointer p191,.int .i64 n192] w160 (fun r205 w161=>
 ∃ b193 b194 n195 n196 a197 l197 c197 a198 l198 c198 a199 l199 c199 n200 b201 b202 b203 n204,r205=.tuple #[.agg (gq1 b193 b194 n195 n196 a197 l197 c197 a198 l198 c198 a199 l199 c199 n200 b201 b202 b203),.int .i64 n204]∧
 sq11 w4.heap.size w161 (.bool b193) (.bool b194) (.int .i64 n195) (.int .i64 n196) (.slice a197 l197 c197) (.slice a198 l198 c198) (.slice a199 l199 c199) (.int .i64 n200) (.bool b201) (.bool b202) (.bool b203) (fun w172=>J12 [.pointer (some (Addr.mk w4.heap.size 0 none)),.int .i64 n204] w172)))∧
 (∃ n206,w160.cell? (Addr.mk w1.heap.size 1 none)=some (.int .i64 n206)∧
 ∃ p207,w160.cell? (Addr.add q190 2)=some (.pointer p207)∧
 CQ 106 [.pointer p207,.int .i64 n206] w160 (fun r220 w173=>
 ∃ b208 b209 n210 n211 a212 l212 c212 a213 l213 c213 a214 l214 c214 n215 b216 b217 b218 n219,r220=.tuple #[.agg (gq1 b208 b209 n210 n211 a212 l212 c212 a213 l213 c213 a214 l214 c214 n215 b216 b217 b218),.int .i64 n219]∧
 sq11 w4.heap.size w173 (.bool b208) (.bool b209) (.int .i64 n210) (.int .i64 n211) (.slice a212 l212 c212) (.slice a213 l213 c213) (.slice a214 l214 c214) (.int .i64 n215) (.bool b216) (.bool b217) (.bool b218) (fun w184=>J12 [.pointer (some (Addr.mk w4.heap.size 0 none)),.int .i64 n219] w184)))))∧
 (∃ n221,w160.cell? (Addr.mk w1.heap.size 1 none)=some (.int .i64 n221)∧
 ∃ p222,w160.cell? (Addr.mk w.heap.size 0 none)=some (.pointer p222)∧
 nn p222 (fun q223=>
 ∃ p224,w160.cell? (Addr.add q223 2)=some (.pointer p224)∧
 CQ 106 [.pointer p224,.int .i64 n221] w160 (fun r237 w185=>
 ∃ b225 b226 n227 n228 a229 l229 c229 a230 l230 c230 a231 l231 c231 n232 b233 b234 b235 n236,r237=.tuple #[.agg (gq1 b225 b226 n227 n228 a229 l229 c229 a230 l230 c230 a231 l231 c231 n232 b233 b234 b235),.int .i64 n236]∧
 sq11 w4.heap.size w185 (.bool b225) (.bool b226) (.int .i64 n227) (.int .i64 n228) (.slice a229 l229 c229) (.slice a230 l230 c230) (.slice a231 l231 c231) (.int .i64 n232) (.bool b233) (.bool b234) (.bool b235) (fun w196=>J12 [.pointer (some (Addr.mk w4.heap.size 0 none)),.int .i64 n236] w196))))))∧
 (∀ (_:Env) (p238:Option Addr) (n239:Int) (w197:World),J12 [.pointer p238,.int .i64 n239] w197→
 cond (n239 != 0)
 (sq5 w2.heap.size w197 (.int .i64 n239) (.int .i64 0) (.int .i64 0) (.slice none 0 0) (.slice none 0 0) (fun w202=>lq7 w202 w2.heap.size fun n240 n241 n242 a243 l243 c243 a244 l244 c244=>Q (.agg (gq7 n240 n241 n242 a243 l243 c243 a244 l244 c244)) w202))
 (let w203:=w197.drew;
 ∃ p245,w203.cell? (Addr.mk w.heap.size 0 none)=some (.pointer p245)∧
 nn p245 (fun q246=>
 ∃ p247,w203.cell? (Addr.add q246 2)=some (.pointer p247)∧
 ∃ n248,w203.cell? (Addr.mk w1.heap.size 1 none)=some (.int .i64 n248)∧
 CQ 107 [.pointer p247,.int .i64 n248] w203 (fun r251 w204=>
 ∃ (v249:Value) (n250:Int),r251=.tuple #[v249,.int .i64 n250]∧
 ∃ (J252:List Value→World→Prop),
 (let w205:=w204.drew;
 (∃ p253,w205.cell? (Addr.mk w.heap.size 0 none)=some (.pointer p253)∧
 nn p253 (fun q254=>
 (∃ p255,w205.cell? (Addr.add q254 2)=some (.pointer p255)∧
 (∃ n256,w205.cell? (Addr.mk w1.heap.size 1 none)=some (.int .i64 n256)∧
 (CQ 106 [.pointer p255,.int .i64 n256] w205 (fun r269 w206=>
 ∃ b257 b258 n259 n260 a261 l261 c261 a262 l262 c262 a263 l263 c263 n264 b265 b266 b267 n268,r269=.tuple #[.agg (gq1 b257 b258 n259 n260 a261 l261 c261 a262 l262 c262 a263 l263 c263 n264 b265 b266 b267),.int .i64 n268]∧
 let w207:=w206.alloc (.cells zSq 151);
 sq11 w206.heap.size w207 (.bool b257) (.bool b258) (.int .i64 n259) (.int .i64 n260) (.slice a261 l261 c261) (.slice a262 l262 c262) (.slice a263 l263 c263) (.int .i64 n264) (.bool b265) (.bool b266) (.bool b267) (fun w218=>J252 [.pointer (some (Addr.mk w206.heap.size 0 none))] w218)))∧
 (let w219:=w205.alloc (.cells zSq 151);
 CQ 106 [.pointer p255,.int .i64 n256] w219 (fun r282 w220=>
 ∃ b270 b271 n272 n273 a274 l274 c274 a275 l275 c275 a276 l276 c276 n277 b278 b279 b280 n281,r282=.tuple #[.agg (gq1 b270 b271 n272 n273 a274 l274 c274 a275 l275 c275 a276 l276 c276 n277 b278 b279 b280),.int .i64 n281]∧
 sq11 w205.heap.size w220 (.bool b270) (.bool b271) (.int .i64 n272) (.int .i64 n273) (.slice a274 l274 c274) (.slice a275 l275 c275) (.slice a276 l276 c276) (.int .i64 n277) (.bool b278) (.bool b279) (.bool b280) (fun w231=>J252 [.pointer (some (Addr.mk w205.heap.size 0 none))] w231))))∧
 (let w232:=w205.alloc (.cells zSq 151);
 ∃ n283,w232.cell? (Addr.mk w1.heap.size 1 none)=some (.int .i64 n283)∧
 CQ 106 [.pointer p255,.int .i64 n283] w232 (fun r296 w233=>
 ∃ b284 b285 n286 n287 a288 l288 c288 a289 l289 c289 a290 l290 c290 n291 b292 b293 b294 n295,r296=.tuple #[.agg (gq1 b284 b285 n286 n287 a288 l288 c288 a289 l289 c289 a290 l290 c290 n291 b292 b293 b294),.int .i64 n295]∧
 sq11 w205.heap.size w233 (.bool b284) (.bool b285) (.int .i64 n286) (.int .i64 n287) (.slice a288 l288 c288) (.slice a289 l289 c289) (.slice a290 l290 c290) (.int .i64 n291) (.bool b292) (.bool b293) (.bool b294) (fun w244=>J252 [.pointer (some (Addr.mk w205.heap.size 0 none))] w244))))∧
 (∃ n297,w205.cell? (Addr.mk w1.heap.size 1 none)=some (.int .i64 n297)∧
 (∃ p298,w205.cell? (Addr.add q254 2)=some (.pointer p298)∧
 (CQ 106 [.pointer p298,.int .i64 n297] w205 (fun r311 w245=>
 ∃ b299 b300 n301 n302 a303 l303 c303 a304 l304 c304 a305 l305 c305 n306 b307 b308 b309 n310,r311=.tuple #[.agg (gq1 b299 b300 n301 n302 a303 l303 c303 a304 l304 c304 a305 l305 c305 n306 b307 b308 b309),.int .i64 n310]∧
 let w246:=w245.alloc (.cells zSq 151);
 sq11 w245.heap.size w246 (.bool b299) (.bool b300) (.int .i64 n301) (.int .i64 n302) (.slice a303 l303 c303) (.slice a304 l304 c304) (.slice a305 l305 c305) (.int .i64 n306) (.bool b307) (.bool b308) (.bool b309) (fun w257=>J252 [.pointer (some (Addr.mk w245.heap.size 0 none))] w257)))∧
 (let w258:=w205.alloc (.cells zSq 151);
 CQ 106 [.pointer p298,.int .i64 n297] w258 (fun r324 w259=>
 ∃ b312 b313 n314 n315 a316 l316 c316 a317 l317 c317 a318 l318 c318 n319 b320 b321 b322 n323,r324=.tuple #[.agg (gq1 b312 b313 n314 n315 a316 l316 c316 a317 l317 c317 a318 l318 c318 n319 b320 b321 b322),.int .i64 n323]∧
 sq11 w205.heap.size w259 (.bool b312) (.bool b313) (.int .i64 n314) (.int .i64 n315) (.slice a316 l316 c316) (.slice a317 l317 c317) (.slice a318 l318 c318) (.int .i64 n319) (.bool b320) (.bool b321) (.bool b322) (fun w270=>J252 [.pointer (some (Addr.mk w205.heap.size 0 none))] w270))))∧
 (let w271:=w205.alloc (.cells zSq 151);
 ∃ p325,w271.cell? (Addr.add q254 2)=some (.pointer p325)∧
 CQ 106 [.pointer p325,.int .i64 n297] w271 (fun r338 w272=>
 ∃ b326 b327 n328 n329 a330 l330 c330 a331 l331 c331 a332 l332 c332 n333 b334 b335 b336 n337,r338=.tuple #[.agg (gq1 b326 b327 n328 n329 a330 l330 c330 a331 l331 c331 a332 l332 c332 n333 b334 b335 b336),.int .i64 n337]∧
 sq11 w205.heap.size w272 (.bool b326) (.bool b327) (.int .i64 n328) (.int .i64 n329) (.slice a330 l330 c330) (.slice a331 l331 c331) (.slice a332 l332 c332) (.int .i64 n333) (.bool b334) (.bool b335) (.bool b336) (fun w283=>J252 [.pointer (some (Addr.mk w205.heap.size 0 none))] w283))))∧
 (let w284:=w205.alloc (.cells zSq 151);
 (∃ p339,w284.cell? (Addr.add q254 2)=some (.pointer p339)∧
 ∃ n340,w284.cell? (Addr.mk w1.heap.size 1 none)=some (.int .i64 n340)∧
 CQ 106 [.pointer p339,.int .i64 n340] w284 (fun r353 w285=>
 ∃ b341 b342 n343 n344 a345 l345 c345 a346 l346 c346 a347 l347 c347 n348 b349 b350 b351 n352,r353=.tuple #[.agg (gq1 b341 b342 n343 n344 a345 l345 c345 a346 l346 c346 a347 l347 c347 n348 b349 b350 b351),.int .i64 n352]∧
 sq11 w205.heap.size w285 (.bool b341) (.bool b342) (.int .i64 n343) (.int .i64 n344) (.slice a345 l345 c345) (.slice a346 l346 c346) (.slice a347 l347 c347) (.int .i64 n348) (.bool b349) (.bool b350) (.bool b351) (fun w296=>J252 [.pointer (some (Addr.mk w205.heap.size 0 none))] w296)))∧
 (∃ n354,w284.cell? (Addr.mk w1.heap.size 1 none)=some (.int .i64 n354)∧
 ∃ p355,w284.cell? (Addr.add q254 2)=some (.pointer p355)∧
 CQ 106 [.pointer p355,.int .i64 n354] w284 (fun r368 w297=>
 ∃ b356 b357 n358 n359 a360 l360 c360 a361 l361 c361 a362 l362 c362 n363 b364 b365 b366 n367,r368=.tuple #[.agg (gq1 b356 b357 n358 n359 a360 l360 c360 a361 l361 c361 a362 l362 c362 n363 b364 b365 b366),.int .i64 n367]∧
 sq11 w205.heap.size w297 (.bool b356) (.bool b357) (.int .i64 n358) (.int .i64 n359) (.slice a360 l360 c360) (.slice a361 l361 c361) (.slice a362 l362 c362) (.int .i64 n363) (.bool b364) (.bool b365) (.bool b366) (fun w308=>J252 [.pointer (some (Addr.mk w205.heap.size 0 none))] w308))))))∧
 (∃ n369,w205.cell? (Addr.mk w1.heap.size 1 none)=some (.int .i64 n369)∧
 (∃ p370,w205.cell? (Addr.mk w.heap.size 0 none)=some (.pointer p370)∧
 nn p370 (fun q371=>
 (∃ p372,w205.cell? (Addr.add q371 2)=some (.pointer p372)∧
 (CQ 106 [.pointer p372,.int .i64 n369] w205 (fun r385 w309=>
 ∃ b373 b374 n375 n376 a377 l377 c377 a378 l378 c378 a379 l379 c379 n380 b381 b382 b383 n384,r385=.tuple #[.agg (gq1 b373 b374 n375 n376 a377 l377 c377 a378 l378 c378 a379 l379 c379 n380 b381 b382 b383),.int .i64 n384]∧
 let w310:=w309.alloc (.cells zSq 151);
 sq11 w309.heap.size w310 (.bool b373) (.bool b374) (.int .i64 n375) (.int .i64 n376) (.slice a377 l377 c377) (.slice a378 l378 c378) (.slice a379 l379 c379) (.int .i64 n380) (.bool b381) (.bool b382) (.bool b383) (fun w321=>J252 [.pointer (some (Addr.mk w309.heap.size 0 none))] w321)))∧
 (let w322:=w205.alloc (.cells zSq 151);
 CQ 106 [.pointer p372,.int .i64 n369] w322 (fun r398 w323=>
 ∃ b386 b387 n388 n389 a390 l390 c390 a391 l391 c391 a392 l392 c392 n393 b394 b395 b396 n397,r398=.tuple #[.agg (gq1 b386 b387 n388 n389 a390 l390 c390 a391 l391 c391 a392 l392 c392 n393 b394 b395 b396),.int .i64 n397]∧
 sq11 w205.heap.size w323 (.bool b386) (.bool b387) (.int .i64 n388) (.int .i64 n389) (.slice a390 l390 c390) (.slice a391 l391 c391) (.slice a392 l392 c392) (.int .i64 n393) (.bool b394) (.bool b395) (.bool b396) (fun w334=>J252 [.pointer (some (Addr.mk w205.heap.size 0 none))] w334))))∧
 (let w335:=w205.alloc (.cells zSq 151);
 ∃ p399,w335.cell? (Addr.add q371 2)=some (.pointer p399)∧
 CQ 106 [.pointer p399,.int .i64 n369] w335 (fun r412 w336=>
 ∃ b400 b401 n402 n403 a404 l404 c404 a405 l405 c405 a406 l406 c406 n407 b408 b409 b410 n411,r412=.tuple #[.agg (gq1 b400 b401 n402 n403 a404 l404 c404 a405 l405 c405 a406 l406 c406 n407 b408 b409 b410),.int .i64 n411]∧
 sq11 w205.heap.size w336 (.bool b400) (.bool b401) (.int .i64 n402) (.int .i64 n403) (.slice a404 l404 c404) (.slice a405 l405 c405) (.slice a406 l406 c406) (.int .i64 n407) (.bool b408) (.bool b409) (.bool b410) (fun w347=>J252 [.pointer (some (Addr.mk w205.heap.size 0 none))] w347)))))∧
 (let w348:=w205.alloc (.cells zSq 151);
 ∃ p413,w348.cell? (Addr.mk w.heap.size 0 none)=some (.pointer p413)∧
 nn p413 (fun q414=>
 ∃ p415,w348.cell? (Addr.add q414 2)=some (.pointer p415)∧
 CQ 106 [.pointer p415,.int .i64 n369] w348 (fun r428 w349=>
 ∃ b416 b417 n418 n419 a420 l420 c420 a421 l421 c421 a422 l422 c422 n423 b424 b425 b426 n427,r428=.tuple #[.agg (gq1 b416 b417 n418 n419 a420 l420 c420 a421 l421 c421 a422 l422 c422 n423 b424 b425 b426),.int .i64 n427]∧
 sq11 w205.heap.size w349 (.bool b416) (.bool b417) (.int .i64 n418) (.int .i64 n419) (.slice a420 l420 c420) (.slice a421 l421 c421) (.slice a422 l422 c422) (.int .i64 n423) (.bool b424) (.bool b425) (.bool b426) (fun w360=>J252 [.pointer (some (Addr.mk w205.heap.size 0 none))] w360)))))∧
 (let w361:=w205.alloc (.cells zSq 151);
 (∃ p429,w361.cell? (Addr.mk w.heap.size 0 none)=some (.pointer p429)∧
 nn p429 (fun q430=>
 (∃ p431,w361.cell? (Addr.add q430 2)=some (.pointer p431)∧
 ∃ n432,w361.cell? (Addr.mk w1.heap.size 1 none)=some (.int .i64 n432)∧
 CQ 106 [.pointer p431,.int .i64 n432] w361 (fun r445 w362=>
 ∃ b433 b434 n435 n436 a437 l437 c437 a438 l438 c438 a439 l439 c439 n440 b441 b442 b443 n444,r445=.tuple #[.agg (gq1 b433 b434 n435 n436 a437 l437 c437 a438 l438 c438 a439 l439 c439 n440 b441 b442 b443),.int .i64 n444]∧
 sq11 w205.heap.size w362 (.bool b433) (.bool b434) (.int .i64 n435) (.int .i64 n436) (.slice a437 l437 c437) (.slice a438 l438 c438) (.slice a439 l439 c439) (.int .i64 n440) (.bool b441) (.bool b442) (.bool b443) (fun w373=>J252 [.pointer (some (Addr.mk w205.heap.size 0 none))] w373)))∧
 (∃ n446,w361.cell? (Addr.mk w1.heap.size 1 none)=some (.int .i64 n446)∧
 ∃ p447,w361.cell? (Addr.add q430 2)=some (.pointer p447)∧
 CQ 106 [.pointer p447,.int .i64 n446] w361 (fun r460 w374=>
 ∃ b448 b449 n450 n451 a452 l452 c452 a453 l453 c453 a454 l454 c454 n455 b456 b457 b458 n459,r460=.tuple #[.agg (gq1 b448 b449 n450 n451 a452 l452 c452 a453 l453 c453 a454 l454 c454 n455 b456 b457 b458),.int .i64 n459]∧
 sq11 w205.heap.size w374 (.bool b448) (.bool b449) (.int .i64 n450) (.int .i64 n451) (.slice a452 l452 c452) (.slice a453 l453 c453) (.slice a454 l454 c454) (.int .i64 n455) (.bool b456) (.bool b457) (.bool b458) (fun w385=>J252 [.pointer (some (Addr.mk w205.heap.size 0 none))] w385)))))∧
 (∃ n461,w361.cell? (Addr.mk w1.heap.size 1 none)=some (.int .i64 n461)∧
 ∃ p462,w361.cell? (Addr.mk w.heap.size 0 none)=some (.pointer p462)∧
 nn p462 (fun q463=>
 ∃ p464,w361.cell? (Addr.add q463 2)=some (.pointer p464)∧
 CQ 106 [.pointer p464,.int .i64 n461] w361 (fun r477 w386=>
 ∃ b465 b466 n467 n468 a469 l469 c469 a470 l470 c470 a471 l471 c471 n472 b473 b474 b475 n476,r477=.tuple #[.agg (gq1 b465 b466 n467 n468 a469 l469 c469 a470 l470 c470 a471 l471 c471 n472 b473 b474 b475),.int .i64 n476]∧
 sq11 w205.heap.size w386 (.bool b465) (.bool b466) (.int .i64 n467) (.int .i64 n468) (.slice a469 l469 c469) (.slice a470 l470 c470) (.slice a471 l471 c471) (.int .i64 n472) (.bool b473) (.bool b474) (.bool b475) (fun w397=>J252 [.pointer (some (Addr.mk w205.heap.size 0 none))] w397))))))∧
 (∀ (_:Env) (p478:Option Addr) (w398:World),J252 [.pointer p478] w398→
 (match (Value.pointer p238) with
 | .pointer (some q479)=>∃ b480 b481 n482 n483 a484 l484 c484 a485 l485 c485 a486 l486 c486 n487 b488 b489 b490,w398.cell? q479=some (.bool b480)∧w398.cell? (Addr.add q479 1)=some (.bool b481)∧w398.cell? (Addr.add q479 2)=some (.int .i64 n482)∧w398.cell? (Addr.add q479 3)=some (.int .i64 n483)∧w398.cell? (Addr.add q479 4)=some (.slice a484 l484 c484)∧w398.cell? (Addr.add q479 5)=some (.slice a485 l485 c485)∧w398.cell? (Addr.add q479 6)=some (.slice a486 l486 c486)∧w398.cell? (Addr.add q479 7)=some (.int .i64 n487)∧w398.cell? (Addr.add q479 8)=some (.bool b488)∧w398.cell? (Addr.add q479 9)=some (.bool b489)∧w398.cell? (Addr.add q479 10)=some (.bool b490)∧ lq8 w398 w1.heap.size fun n491 n492 n493 n494 s495 s496 a497 l497 c497 a498 l498 c498 a499 l499 c499=>∃ (k500:FuncId) (xs501:Array Value) (xs502:Array Value),(v11:Value)=.func (.func k500) xs501 xs502∧bodyB Tryz.prog k500=true∧CQ k500 (Array.toList xs501 ++ ([.agg (gq1 b480 b481 n482 n483 a484 l484 c484 a485 l485 c485 a486 l486 c486 n487 b488 b489 b490),v249,.agg (gq8 n491 n492 n493 n494 s495 s496 a497 l497 c497 a498 l498 c498 a499 l499 c499)] ++ Array.toList xs502)) w398 (fun r519 w399=>∃ b503 b504 n505 n506 a507 l507 c507 a508 l508 c508 a509 l509 c509 n510 b511 b512 b513 n514 n515 n516 a517 l517 c517 a518 l518 c518,r519=.tuple #[.agg (gq1 b503 b504 n505 n506 a507 l507 c507 a508 l508 c508 a509 l509 c509 n510 b511 b512 b513),.agg (gq7 n514 n515 n516 a517 l517 c517 a518 l518 c518)]∧(match (Value.pointer p238) with | .pointer (some q520)=>stC q520 (.bool b503) w399 (fun w400=>stC (Addr.add q520 1) (.bool b504) w400 (fun w401=>stC (Addr.add q520 2) (.int .i64 n505) w401 (fun w402=>stC (Addr.add q520 3) (.int .i64 n506) w402 (fun w403=>stC (Addr.add q520 4) (.slice a507 l507 c507) w403 (fun w404=>stC (Addr.add q520 5) (.slice a508 l508 c508) w404 (fun w405=>stC (Addr.add q520 6) (.slice a509 l509 c509) w405 (fun w406=>stC (Addr.add q520 7) (.int .i64 n510) w406 (fun w407=>stC (Addr.add q520 8) (.bool b511) w407 (fun w408=>stC (Addr.add q520 9) (.bool b512) w408 (fun w409=>stC (Addr.add q520 10) (.bool b513) w409 (fun w410=>sq5 w2.heap.size w410 (.int .i64 n514) (.int .i64 n515) (.int .i64 n516) (.slice a517 l517 c517) (.slice a518 l518 c518) (fun w415=>let w416:=w415.drew; ∃ p521,w416.cell? (Addr.mk w.heap.size 0 none)=some (.pointer p521)∧nn p521 (fun q522=>∃ p523,w416.cell? (Addr.add q522 2)=some (.pointer p523)∧∃ n524,w416.cell? (Addr.mk w1.heap.size 1 none)=some (.int .i64 n524)∧(match (Value.pointer p238) with | .pointer (some q525)=>∃ b526 b527 n528 n529 a530 l530 c530 a531 l531 c531 a532 l532 c532 n533 b534 b535 b536,w416.cell? q525=some (.bool b526)∧w416.cell? (Addr.add q525 1)=some (.bool b527)∧w416.cell? (Addr.add q525 2)=some (.int .i64 n528)∧w416.cell? (Addr.add q525 3)=some (.int .i64 n529)∧w416.cell? (Addr.add q525 4)=some (.slice a530 l530 c530)∧w416.cell? (Addr.add q525 5)=some (.slice a531 l531 c531)∧w416.cell? (Addr.add q525 6)=some (.slice a532 l532 c532)∧w416.cell? (Addr.add q525 7)=some (.int .i64 n533)∧w416.cell? (Addr.add q525 8)=some (.bool b534)∧w416.cell? (Addr.add q525 9)=some (.bool b535)∧w416.cell? (Addr.add q525 10)=some (.bool b536)∧ CQ 109 [.pointer p523,.int .i64 n524,.agg (gq1 b526 b527 n528 n529 a530 l530 c530 a531 l531 c531 a532 l532 c532 n533 b534 b535 b536)] w416 (fun r538 w417=>∃ n537,r538=.int .i64 n537∧lq7 w417 w2.heap.size fun n539 n540 n541 a542 l542 c542 a543 l543 c543=>sq5 w2.heap.size w417 (.int .i64 n539) (.int .i64 n540) (.int .i64 n541) (.slice a542 l542 c542) (.slice a543 l543 c543) (fun w422=>DefR Tryz.prog 108 [.pointer p478,.pointer (some (Addr.mk w.heap.size 0 none)),.pointer (some (Addr.mk w1.heap.size 0 none)),.pointer (some (Addr.mk w2.heap.size 0 none))] w422 (fun w423=>lq7 w423 w2.heap.size fun n544 n545 n546 a547 l547 c547 a548 l548 c548=>Q (.agg (gq7 n544 n545 n546 a547 l547 c547 a548 l548 c548)) w423))) | _=>False)))))))))))))) | _=>False))
 | _=>False))))))
theorem C46 {p1 n2 n3 n4 n5 s6 s7 a8 l8 c8 a9 l9 c9 a10 l10 c10 v11 Q w} (h:L46 p1 n2 n3 n4 n5 s6 s7 a8 l8 c8 a9 l9 c9 a10 l10 c10 v11 Q w):CallR Tryz.prog 46 [.pointer p1,.agg #[.int .i64 n2,.int .i64 n3,.int .i64 n4,.int .i64 n5,.string s6,.string s7,.slice a8 l8 c8,.slice a9 l9 c9,.slice a10 l10 c10],v11] w Q:=
 fun_callsF (A:=A46) mixed Tryz.func46 (c:=(Tryz.f46.body).getD .skip) rfl (by kernel_rfl) (Eq.mp (by kernel_rfl) h)
def A16:Ann:=⟨[],[],[],[],[(1,[0,1,3,4,2,6],5,[7,8,9])],[]⟩
def L16 (n1 n2 n3:Int) (a4:Option Addr) (l4 c4:Nat) (a5:Option Addr) (l5 c5:Nat) (Q:Value→World→Prop) (w:World):Prop:=
 let w1:=w.alloc (.cells (gq7 n1 n2 n3 a4 l4 c4 a5 l5 c5) 37);
 let w2:=w1.alloc (.cells (gq7 0 0 0 none 0 0 none 0 0) 37);
 ∃ (S6:World→Prop),S6 (w2.drew)∧
 let w3:=w2.drew;
 ∃ a7 l7 c7,(∀ wS:World,S6 wS→wS.cell? (Addr.mk w.heap.size 3 none)=some (.slice a7 l7 c7))∧
 ∃ a8 l8 c8,(∀ wS:World,S6 wS→wS.cell? (Addr.mk w.heap.size 4 none)=some (.slice a8 l8 c8))∧
 CQ 47 [.slice a7 l7 c7] w3 (fun r10 w4=>
 ∃ a9 l9 c9,r10=.slice a9 l9 c9∧
 S6 w4∧
 CQ 48 [.slice a8 l8 c8] w4 (fun r12 w5=>
 ∃ a11 l11 c11,r12=.slice a11 l11 c11∧
 stC (Addr.mk w.heap.size 3 none) (.slice a9 l9 c9) w5 (fun w6=>
 stC (Addr.mk w.heap.size 4 none) (.slice a11 l11 c11) w6 (fun w7=>
 lq7 w7 w.heap.size fun n13 n14 n15 a16 l16 c16 a17 l17 c17=>sq5 w1.heap.size w7 (.int .i64 n13) (.int .i64 n14) (.int .i64 n15) (.slice a16 l16 c16) (.slice a17 l17 c17) (fun w12=>lq7 w12 w1.heap.size fun n18 n19 n20 a21 l21 c21 a22 l22 c22=>Q (.agg (gq7 n18 n19 n20 a21 l21 c21 a22 l22 c22)) w12)))))
theorem C16 {n1 n2 n3 a4 l4 c4 a5 l5 c5 Q w} (h:L16 n1 n2 n3 a4 l4 c4 a5 l5 c5 Q w):CallR Tryz.prog 16 [.agg #[.int .i64 n1,.int .i64 n2,.int .i64 n3,.slice a4 l4 c4,.slice a5 l5 c5]] w Q:=
 fC A16 Tryz.func16 rfl (by kernel_rfl) (Eq.mp (by kernel_rfl) h)
def A7:Ann:=⟨[],[(9,[])],[],[],[(6,[1,2,0],3,[4,5,6,7,8]),(9,[0,1,2,3,4,5,6,7,8],9,[10,11,12,13])],[]⟩
def L7 (p1:Option Addr) (n2 n3 n4 n5:Int) (s6 s7:ByteArray) (a8:Option Addr) (l8 c8:Nat) (a9:Option Addr) (l9 c9:Nat) (a10:Option Addr) (l10 c10:Nat) (Q:Value→World→Prop) (w:World):Prop:=
 let w1:=w.alloc (.cells (gq8 n2 n3 n4 n5 s6 s7 a8 l8 c8 a9 l9 c9 a10 l10 c10) 41);
 let w2:=w1.alloc (.cells (gq7 0 0 0 none 0 0 none 0 0) 37);
 CQ 14 [.pointer p1] w2 (fun r12 w3=>
 ∃ b11,r12=.bool b11∧
 cond b11
 (sq5 w1.heap.size w3 (.int .i64 2) (.int .i64 0) (.int .i64 0) (.slice none 0 0) (.slice none 0 0) (fun w8=>lq7 w8 w1.heap.size fun n13 n14 n15 a16 l16 c16 a17 l17 c17=>Q (.agg (gq7 n13 n14 n15 a16 l16 c16 a17 l17 c17)) w8))
 (nn p1 (fun q18=>
 ∃ b19,w3.cell? (Addr.add q18 11)=some (.bool b19)∧
 cond b19
 (sq5 w1.heap.size w3 (.int .i64 192) (.int .i64 0) (.int .i64 0) (.slice none 0 0) (.slice none 0 0) (fun w13=>lq7 w13 w1.heap.size fun n20 n21 n22 a23 l23 c23 a24 l24 c24=>Q (.agg (gq7 n20 n21 n22 a23 l23 c23 a24 l24 c24)) w13))
 (let w14:=w3.alloc (.cells (gq7 0 0 0 none 0 0 none 0 0) 37);
 sq5 w3.heap.size w14 (.int .i64 201) (.int .i64 0) (.int .i64 0) (.slice none 0 0) (.slice none 0 0) (fun w19=>∃ (J25:List Value→World→Prop),
 (∃ (S26:World→Prop),S26 (w19.drew)∧
 let w20:=w19.drew;
 ∃ n27,(∀ wS:World,S26 wS→wS.cell? (Addr.mk w.heap.size 0 none)=some (.int .i64 n27))∧
 CQ 15 [] w20 (fun r29 w21=>
 ∃ (m28:Option Nat),r29=.map m28∧
 S26 w21∧
 ∃ (v30:Value) (b31:Bool) (w22:World),Sem.run Tryz.prog (Instr.lookup 70 (.map m28) (.int .i64 n27) true) w21=.ok ((.tuple #[v30,.bool b31]:Value)) w22∧
 cond b31
 (lq8 w22 w.heap.size fun n32 n33 n34 n35 s36 s37 a38 l38 c38 a39 l39 c39 a40 l40 c40=>∃ (k41:FuncId) (xs42:Array Value) (xs43:Array Value),(v30:Value)=.func (.func k41) xs42 xs43∧bodyB Tryz.prog k41=true∧
 CQ k41 (Array.toList xs42 ++ ([.pointer p1,.agg (gq8 n32 n33 n34 n35 s36 s37 a38 l38 c38 a39 l39 c39 a40 l40 c40)] ++ Array.toList xs43)) w22 (fun r49 w23=>
 ∃ n44 n45 n46 a47 l47 c47 a48 l48 c48,r49=.agg (gq7 n44 n45 n46 a47 l47 c47 a48 l48 c48)∧
 sq5 w3.heap.size w23 (.int .i64 n44) (.int .i64 n45) (.int .i64 n46) (.slice a47 l47 c47) (.slice a48 l48 c48) (fun w28=>J25 [] w28)))
 (J25 [] w22)))∧
 (∀ (_:Env) (w29:World),J25 [] w29→
 ∃ (S50:World→Prop),S50 (w29.drew)∧
 let w30:=w29.drew;
 nn p1 (fun q51=>
 ∃ a52 l52 c52,(∀ wS:World,S50 wS→wS.cell? (Addr.add q51 5)=some (.slice a52 l52 c52))∧
 ∃ n53 n54 n55 a56 l56 c56 a57 l57 c57,(∀ wS:World,S50 wS→wS.cell? (Addr.mk w3.heap.size 0 none)=some (.int .i64 n53)∧wS.cell? (Addr.mk w3.heap.size 1 none)=some (.int .i64 n54)∧wS.cell? (Addr.mk w3.heap.size 2 none)=some (.int .i64 n55)∧wS.cell? (Addr.mk w3.heap.size 3 none)=some (.slice a56 l56 c56)∧wS.cell? (Addr.mk w3.heap.size 4 none)=some (.slice a57 l57 c57)∧True)∧
 CQ 16 [.agg (gq7 n53 n54 n55 a56 l56 c56 a57 l57 c57)] w30 (fun r63 w31=>
 ∃ n58 n59 n60 a61 l61 c61 a62 l62 c62,r63=.agg (gq7 n58 n59 n60 a61 l61 c61 a62 l62 c62)∧
 S50 w31∧
 let w32:=w31.alloc (.cells (gq7 n58 n59 n60 a61 l61 c61 a62 l62 c62) 37);
 S50 w32∧
 ∃ a64 l64 c64 w33,Sem.run Tryz.prog (Builtin.append_ #[45,45] 45 #[.slice a52 l52 c52,.slice (some (Addr.mk w31.heap.size 0 none)) 1 1]) w32=.ok (.slice a64 l64 c64) w33∧
 nn p1 (fun q65=>
 stC (Addr.add q65 5) (.slice a64 l64 c64) w33 (fun w34=>
 ∃ n66,w34.cell? (Addr.mk w3.heap.size 0 none)=some (.int .i64 n66)∧
 cond (n66 == 52)
 (nn p1 (fun q67=>
 stC (Addr.add (Addr.add q67 5) 3) (.bool true) w34 (fun w35=>
 CQ 17 [.pointer p1] w35 (fun r68 w36=>
 r68=.tuple #[]∧
 lq7 w36 w3.heap.size fun n69 n70 n71 a72 l72 c72 a73 l73 c73=>sq5 w1.heap.size w36 (.int .i64 n69) (.int .i64 n70) (.int .i64 n71) (.slice a72 l72 c72) (.slice a73 l73 c73) (fun w41=>lq7 w41 w1.heap.size fun n74 n75 n76 a77 l77 c77 a78 l78 c78=>Q (.agg (gq7 n74 n75 n76 a77 l77 c77 a78 l78 c78)) w41)))))
 (lq7 w34 w3.heap.size fun n79 n80 n81 a82 l82 c82 a83 l83 c83=>sq5 w1.heap.size w34 (.int .i64 n79) (.int .i64 n80) (.int .i64 n81) (.slice a82 l82 c82) (.slice a83 l83 c83) (fun w46=>lq7 w46 w1.heap.size fun n84 n85 n86 a87 l87 c87 a88 l88 c88=>Q (.agg (gq7 n84 n85 n86 a87 l87 c87 a88 l88 c88)) w46))))))))))))
theorem C7 {p1 n2 n3 n4 n5 s6 s7 a8 l8 c8 a9 l9 c9 a10 l10 c10 Q w} (h:L7 p1 n2 n3 n4 n5 s6 s7 a8 l8 c8 a9 l9 c9 a10 l10 c10 Q w):CallR Tryz.prog 7 [.pointer p1,.agg #[.int .i64 n2,.int .i64 n3,.int .i64 n4,.int .i64 n5,.string s6,.string s7,.slice a8 l8 c8,.slice a9 l9 c9,.slice a10 l10 c10]] w Q:=
 fC A7 Tryz.func7 rfl (by kernel_rfl) (Eq.mp (by kernel_rfl) h)
def A71:Ann:=⟨[(6,[(5,.one (.int .i64)),(26,.one (.int .i64))])],[],[],[],[],[]⟩
def L71 (b1 b2 b3 b4 b5 b6 b7 b8:Bool) (Q:Value→World→Prop) (w:World):Prop:=
 let w1:=w.alloc (.cells (gq0 b1 b2 b3 b4 b5 b6 b7 b8) 147);
 lq0 w1 w.heap.size fun b9 b10 b11 b12 b13 b14 b15 b16=>CQ 130 [.agg (gq0 b9 b10 b11 b12 b13 b14 b15 b16)] w1 (fun r18 w2=>
 ∃ n17,r18=.int .i64 n17∧
 cond (n17 != 0)
 (Q (.tuple #[.int .i64 0,.int .i64 n17]) w2)
 (∃ b19,w2.cell? (Addr.mk w.heap.size 0 none)=some (.bool b19)∧
 ∃ b20,w2.cell? (Addr.mk w.heap.size 1 none)=some (.bool b20)∧
 ∃ b21,w2.cell? (Addr.mk w.heap.size 2 none)=some (.bool b21)∧
 ∃ b22,w2.cell? (Addr.mk w.heap.size 3 none)=some (.bool b22)∧
 ∃ b23,w2.cell? (Addr.mk w.heap.size 4 none)=some (.bool b23)∧
 ∃ b24,w2.cell? (Addr.mk w.heap.size 5 none)=some (.bool b24)∧
 ∃ (I25:List Value→World→Prop) (mu26:List Value→World→Nat),
 I25 [.int .i64 0,.int .i64 0] w2∧
 ∀ (_:Env) (n27:Int) (n28:Int) (w3:World),I25 [.int .i64 n27,.int .i64 n28] w3→
 cond (decide (n28< 6))
 ((0≤(n28:Int)∧(n28:Int)< ((6:Nat):Int))∧
 ∃ b29,((gq9 b19 b20 b21 b22 b23 b24):Array Value)[Int.toNat n28]?=some (.bool b29)∧
 cond b29
 (0≤(n28:Int)∧
 inI (n28+1)∧
 I25 [.int .i64 (IntKind.wrap .i64 ↑(BitVec.ofInt (IntKind.bits .i64) n27 ||| BitVec.ofInt (IntKind.bits .i64) (IntKind.wrap .i64 ((1:Int) * 2 ^ (min (Int.toNat n28) (IntKind.bits .i64))))).toNat),.int .i64 (n28+1)] w3∧mu26 [.int .i64 (IntKind.wrap .i64 ↑(BitVec.ofInt (IntKind.bits .i64) n27 ||| BitVec.ofInt (IntKind.bits .i64) (IntKind.wrap .i64 ((1:Int) * 2 ^ (min (Int.toNat n28) (IntKind.bits .i64))))).toNat),.int .i64 (n28+1)] w3< mu26 [.int .i64 n27,.int .i64 n28] w3)
 (inI (n28+1)∧
 I25 [.int .i64 n27,.int .i64 (n28+1)] w3∧mu26 [.int .i64 n27,.int .i64 (n28+1)] w3< mu26 [.int .i64 n27,.int .i64 n28] w3))
 (Q (.tuple #[.int .i64 n27,.int .i64 0]) w3)))
theorem C71 {b1 b2 b3 b4 b5 b6 b7 b8 Q w} (h:L71 b1 b2 b3 b4 b5 b6 b7 b8 Q w):CallR Tryz.prog 71 [.agg #[.bool b1,.bool b2,.bool b3,.bool b4,.bool b5,.bool b6,.bool b7,.bool b8]] w Q:=
 fC A71 Tryz.func71 rfl (by kernel_rfl) (Eq.mp (by kernel_rfl) h)
end Go.Proofs.YteojolihgijdhaaGreatDoor
