/- Part 5 of 21 of the proof of TopFlushed. Conditions: the theorem's: none. -/
import Derived.Test.YteojolihgijdhaaGreatDoorKTopFlushed4
set_option linter.unusedVariables false
set_option maxRecDepth 100000
namespace Go.Proofs.YteojolihgijdhaaGreatDoor
open Go.Lw
def A117:Ann:=⟨[],[],[],[],[],[]⟩
def L117 (n1:Int) (Q:Value→World→Prop) (w:World):Prop:=
 cond (decide (n1< 33))
 (Q (.bool true) w)
 (Q (.bool (decide (n1 > 126))) w)
theorem C117 {n1 Q w} (h:L117 n1 Q w):CallR Tryz.prog 117 [.int .i32 n1] w Q:=
 fC A117 Tryz.func117 rfl (by kernel_rfl) (Eq.mp (by kernel_rfl) h)
def A223:Ann:=⟨[(2,[])],[],[],[],[],[]⟩
def L223 (s1:ByteArray) (v2:Value) (b3:Bool) (Q:Value→World→Prop) (w:World):Prop:=
 ∃ w1,Sem.run Tryz.prog (Instr.range 9 (.string s1)) w=.ok (.pointer (some (Addr.mk w.heap.size 0 none))) w1∧
 ∃ (I4:List Value→World→Prop) (mu5:List Value→World→Nat),
 I4 [] w1∧
 ∀ (_:Env) (w2:World),I4 [] w2→
 (∃ w3,Sem.run Tryz.prog (Instr.next (.pointer (some (Addr.mk w.heap.size 0 none))) true 0) w2=.ok (.tuple #[.bool false]) w3∧
 Q (.int .i64 ((-1))) w3)∨
 (∃ (v6:Value) (v7:Value) (w4:World),Sem.run Tryz.prog (Instr.next (.pointer (some (Addr.mk w.heap.size 0 none))) true 0) w2=.ok (.tuple #[.bool true,v6,v7]) w4∧
 ∃ n8,v6=(.int .i64 n8:Value)∧
 ∃ n9,v7=(.int .i32 n9:Value)∧
 ∃ (k10:FuncId) (xs11:Array Value) (xs12:Array Value),(v2:Value)=.func (.func k10) xs11 xs12∧bodyB Tryz.prog k10=true∧
 CQ k10 (Array.toList xs11 ++ ([.int .i32 n9] ++ Array.toList xs12)) w4 (fun r14 w5=>
 ∃ b13,r14=.bool b13∧
 cond (b13 == b3)
 (Q (.int .i64 n8) w5)
 (I4 [] w5∧mu5 [] w5< mu5 [] w2)))
theorem C223 {s1 v2 b3 Q w} (h:L223 s1 v2 b3 Q w):CallR Tryz.prog 223 [.string s1,v2,.bool b3] w Q:=
 fC A223 Tryz.func223 rfl (by kernel_rfl) (Eq.mp (by kernel_rfl) h)
def A175:Ann:=⟨[],[],[],[],[],[]⟩
def L175 (s1:ByteArray) (v2:Value) (Q:Value→World→Prop) (w:World):Prop:=
 CQ 223 [.string s1,v2,.bool true] w (fun r4 w1=>
 ∃ n3,r4=.int .i64 n3∧
 Q (.int .i64 n3) w1)
theorem C175 {s1 v2 Q w} (h:L175 s1 v2 Q w):CallR Tryz.prog 175 [.string s1,v2] w Q:=
 fC A175 Tryz.func175 rfl (by kernel_rfl) (Eq.mp (by kernel_rfl) h)
def A116:Ann:=⟨[],[],[],[],[],[]⟩
def L116 (s1:ByteArray) (v2:Value) (Q:Value→World→Prop) (w:World):Prop:=
 CQ 175 [.string s1,v2] w (fun r4 w1=>
 ∃ n3,r4=.int .i64 n3∧
 Q (.bool (decide (n3≥0))) w1)
theorem C116 {s1 v2 Q w} (h:L116 s1 v2 Q w):CallR Tryz.prog 116 [.string s1,v2] w Q:=
 fC A116 Tryz.func116 rfl (by kernel_rfl) (Eq.mp (by kernel_rfl) h)
def A55:Ann:=⟨[],[],[],[],[],[]⟩
def L55 (s1:ByteArray) (Q:Value→World→Prop) (w:World):Prop:=
 cond (!(ByteArray.toList s1 == ByteArray.toList (ByteArray.mk #[])))
 (cond (decide ((((ByteArray.size s1:Nat):Int))≤64))
 (CQ 116 [.string s1,.func (.func 117) #[] #[]] w (fun r3 w1=>
 ∃ b2,r3=.bool b2∧
 Q (.bool (!b2)) w1))
 (Q (.bool false) w))
 (Q (.bool false) w)
theorem C55 {s1 Q w} (h:L55 s1 Q w):CallR Tryz.prog 55 [.string s1] w Q:=
 fC A55 Tryz.func55 rfl (by kernel_rfl) (Eq.mp (by kernel_rfl) h)
def A54:Ann:=⟨[],[],[],[],[],[]⟩
def L54 (s1:ByteArray) (p2:Option Addr) (Q:Value→World→Prop) (w:World):Prop:=
 CQ 55 [.string s1] w (fun r4 w1=>
 ∃ b3,r4=.bool b3∧
 cond (!b3)
 (Q (.int .i64 61) w1)
 (nn p2 (fun q5=>
 ∃ (m6:Option Nat),w1.cell? q5=some (.map m6)∧
 ∃ b7 w2,Sem.run Tryz.prog (Instr.lookup 120 (.map m6) (.string s1) false) w1=.ok (.bool b7) w2∧
 cond b7
 (Q (.int .i64 6) w2)
 (nn p2 (fun q8=>
 ∃ (m9:Option Nat),w2.cell? q8=some (.map m9)∧
 ∃ w3,Sem.run Tryz.prog (Instr.mapUpdate 120 (.map m9) (.string s1) (.bool true)) w2=.ok () w3∧
 Q (.int .i64 0) w3)))))
theorem C54 {s1 p2 Q w} (h:L54 s1 p2 Q w):CallR Tryz.prog 54 [.string s1,.pointer p2] w Q:=
 funI_calls (A:=A54) Tryz.func54 (c:=(Tryz.f54.body).getD .skip) rfl (by kernel_rfl) (Eq.mp (by kernel_rfl) h)
def A19:Ann:=⟨[(6,[(28,.one (.int .i64))]),(15,[(47,.one (.int .i64))])],[],[],[],[],[]⟩
def L19 (a1:Option Addr) (l1 c1:Nat) (a2:Option Addr) (l2 c2:Nat) (a3:Option Addr) (l3 c3:Nat) (Q:Value→World→Prop) (w:World):Prop:=
 let w1:=w.alloc (.cells #[.slice a1 l1 c1,.slice a2 l2 c2,.slice a3 l3 c3] 32);
 ∃ a4 l4 c4,w1.cell? (Addr.mk w.heap.size 0 none)=some (.slice a4 l4 c4)∧
 ∃ a5 l5 c5,w1.cell? (Addr.mk w.heap.size 1 none)=some (.slice a5 l5 c5)∧
 inI ((((l4:Nat):Int))+(((l5:Nat):Int)))∧
 cond (decide (((((l4:Nat):Int))+(((l5:Nat):Int))) > 256))
 (Q (.int .i64 3) w1)
 (let w2:=World.alloc w1 (Obj.map #[] 0);
 let w3:=w2.alloc (.cells #[.map none] 120);
 stC (Addr.mk w2.heap.size 0 none) (.map (some w1.heap.size)) w3 (fun w4=>
 ∃ a6 l6 c6,w4.cell? (Addr.mk w.heap.size 0 none)=some (.slice a6 l6 c6)∧
 ∃ (I7:List Value→World→Prop) (mu8:List Value→World→Nat),
 I7 [.int .i64 0] w4∧
 ∀ (_:Env) (n9:Int) (w5:World),I7 [.int .i64 n9] w5→
 cond (decide (n9< (((l6:Nat):Int))))
 ((0≤(n9:Int)∧(n9:Int)< ((l6:Nat):Int))∧
 nn a6 (fun q10=>
 ∃ s11 a12 l12 c12,w5.cell? (Addr.add q10 (Int.toNat n9 * 2))=some (.string s11)∧w5.cell? (Addr.add (Addr.add q10 (Int.toNat n9 * 2)) 1)=some (.slice a12 l12 c12)∧
 let w6:=w5.alloc (.cells #[.string (ByteArray.mk #[]),.slice none 0 0] 52);
 stC (Addr.mk w5.heap.size 0 none) (.string s11) w6 (fun w7=>
 stC (Addr.mk w5.heap.size 1 none) (.slice a12 l12 c12) w7 (fun w8=>
 ∃ s13,w8.cell? (Addr.mk w5.heap.size 0 none)=some (.string s13)∧
 ∃ (k14:FuncId) (xs15:Array Value) (xs16:Array Value),(.func (.func 54) #[] #[.pointer (some (Addr.mk w2.heap.size 0 none))]:Value)=.func (.func k14) xs15 xs16∧bodyB Tryz.prog k14=true∧
 CQ k14 (Array.toList xs15 ++ ([.string s13] ++ Array.toList xs16)) w8 (fun r18 w9=>
 ∃ n17,r18=.int .i64 n17∧
 cond (n17 != 0)
 (Q (.int .i64 n17) w9)
 (∃ a19 l19 c19,w9.cell? (Addr.mk w5.heap.size 1 none)=some (.slice a19 l19 c19)∧
 cond (decide ((((l19:Nat):Int)) > 1048576))
 (Q (.int .i64 5) w9)
 (inI (n9+1)∧
 I7 [.int .i64 (n9+1)] w9∧mu8 [.int .i64 (n9+1)] w9< mu8 [.int .i64 n9] w5)))))))
 (∃ a20 l20 c20,w5.cell? (Addr.mk w.heap.size 1 none)=some (.slice a20 l20 c20)∧
 ∃ (I21:List Value→World→Prop) (mu22:List Value→World→Nat),
 I21 [.int .i64 0] w5∧
 ∀ (_:Env) (n23:Int) (w10:World),I21 [.int .i64 n23] w10→
 cond (decide (n23< (((l20:Nat):Int))))
 ((0≤(n23:Int)∧(n23:Int)< ((l20:Nat):Int))∧
 nn a20 (fun q24=>
 ∃ s25 a26 l26 c26,w10.cell? (Addr.add q24 (Int.toNat n23 * 2))=some (.string s25)∧w10.cell? (Addr.add (Addr.add q24 (Int.toNat n23 * 2)) 1)=some (.slice a26 l26 c26)∧
 let w11:=w10.alloc (.cells #[.string (ByteArray.mk #[]),.slice none 0 0] 65);
 stC (Addr.mk w10.heap.size 0 none) (.string s25) w11 (fun w12=>
 stC (Addr.mk w10.heap.size 1 none) (.slice a26 l26 c26) w12 (fun w13=>
 ∃ s27,w13.cell? (Addr.mk w10.heap.size 0 none)=some (.string s27)∧
 ∃ (k28:FuncId) (xs29:Array Value) (xs30:Array Value),(.func (.func 54) #[] #[.pointer (some (Addr.mk w2.heap.size 0 none))]:Value)=.func (.func k28) xs29 xs30∧bodyB Tryz.prog k28=true∧
 CQ k28 (Array.toList xs29 ++ ([.string s27] ++ Array.toList xs30)) w13 (fun r32 w14=>
 ∃ n31,r32=.int .i64 n31∧
 cond (n31 != 0)
 (Q (.int .i64 n31) w14)
 (∃ a33 l33 c33,w14.cell? (Addr.mk w10.heap.size 1 none)=some (.slice a33 l33 c33)∧
 CQ 22 [.slice a33 l33 c33] w14 (fun r36 w15=>
 ∃ p34 n35,r36=.tuple #[.pointer p34,.int .i64 n35]∧
 cond (n35 != 0)
 (Q (.int .i64 n35) w15)
 (inI (n23+1)∧
 I21 [.int .i64 (n23+1)] w15∧mu22 [.int .i64 (n23+1)] w15< mu22 [.int .i64 n23] w10))))))))
 (∃ a37 l37 c37,w10.cell? (Addr.mk w.heap.size 2 none)=some (.slice a37 l37 c37)∧
 CQ 56 [.slice a37 l37 c37] w10 (fun r40 w16=>
 ∃ n38 n39,r40=.tuple #[.int .i64 n38,.int .i64 n39]∧
 Q (.int .i64 n38) w16)))))
theorem C19 {a1 l1 c1 a2 l2 c2 a3 l3 c3 Q w} (h:L19 a1 l1 c1 a2 l2 c2 a3 l3 c3 Q w):CallR Tryz.prog 19 [.agg #[.slice a1 l1 c1,.slice a2 l2 c2,.slice a3 l3 c3]] w Q:=
 fC A19 Tryz.func19 rfl (by kernel_rfl) (Eq.mp (by kernel_rfl) h)
def A10:Ann:=⟨[(7,[(32,.one (.int .i64))]),(12,[(52,.one (.int .i64))])],[],[],[],[(9,[0,1,2,3,4,5,6,7,8,9,10,11],12,[]),(14,[0,1,2,3,4,5,6,7,8,9,10,11],12,[])],[]⟩
def L10 (a1:Option Addr) (l1 c1:Nat) (a2:Option Addr) (l2 c2:Nat) (a3:Option Addr) (l3 c3:Nat) (Q:Value→World→Prop) (w:World):Prop:=
 let w1:=w.alloc (.cells #[.slice a1 l1 c1,.slice a2 l2 c2,.slice a3 l3 c3] 32);
 lq2 w1 w.heap.size fun a4 l4 c4 a5 l5 c5 a6 l6 c6=>CQ 19 [.agg #[.slice a4 l4 c4,.slice a5 l5 c5,.slice a6 l6 c6]] w1 (fun r8 w2=>
 ∃ n7,r8=.int .i64 n7∧
 cond (n7 != 0)
 (Q (.tuple #[.pointer none,.int .i64 n7]) w2)
 (let w3:=World.alloc w2 (Obj.map #[] 0);
 let w4:=World.alloc w3 (Obj.map #[] 0);
 let w5:=World.alloc w4 (Obj.map #[] 0);
 let w6:=w5.alloc (.cells (gq3 true (some w2.heap.size) (some w3.heap.size) (some w4.heap.size) 1 none 0 0) 81);
 ∃ a9 l9 c9,w6.cell? (Addr.mk w.heap.size 2 none)=some (.slice a9 l9 c9)∧
 CQ 20 [.slice a9 l9 c9] w6 (fun r12 w7=>
 ∃ p10 n11,r12=.tuple #[.pointer p10,.int .i64 n11]∧
 stC (Addr.mk w5.heap.size 5 none) (.pointer p10) w7 (fun w8=>
 ∃ a13 l13 c13,w8.cell? (Addr.mk w.heap.size 0 none)=some (.slice a13 l13 c13)∧
 ∃ (I14:List Value→World→Prop) (mu15:List Value→World→Nat),
 I14 [.int .i64 0] w8∧
 ∀ (_:Env) (n16:Int) (w9:World),I14 [.int .i64 n16] w9→
 cond (decide (n16< (((l13:Nat):Int))))
 ((0≤(n16:Int)∧(n16:Int)< ((l13:Nat):Int))∧
 nn a13 (fun q17=>
 ∃ s18 a19 l19 c19,w9.cell? (Addr.add q17 (Int.toNat n16 * 2))=some (.string s18)∧w9.cell? (Addr.add (Addr.add q17 (Int.toNat n16 * 2)) 1)=some (.slice a19 l19 c19)∧
 let w10:=w9.alloc (.cells #[.string (ByteArray.mk #[]),.slice none 0 0] 52);
 stC (Addr.mk w9.heap.size 0 none) (.string s18) w10 (fun w11=>
 stC (Addr.mk w9.heap.size 1 none) (.slice a19 l19 c19) w11 (fun w12=>
 ∃ (S20:World→Prop),S20 (w12.drew)∧
 let w13:=w12.drew;
 ∃ (m21:Option Nat),(∀ wS:World,S20 wS→wS.cell? (Addr.mk w5.heap.size 1 none)=some (.map m21))∧
 ∃ s22,(∀ wS:World,S20 wS→wS.cell? (Addr.mk w9.heap.size 0 none)=some (.string s22))∧
 ∃ a23 l23 c23,(∀ wS:World,S20 wS→wS.cell? (Addr.mk w9.heap.size 1 none)=some (.slice a23 l23 c23))∧
 CQ 21 [.slice a23 l23 c23] w13 (fun r26 w14=>
 ∃ p24 n25,r26=.tuple #[.pointer p24,.int .i64 n25]∧
 S20 w14∧
 ∃ w15,Sem.run Tryz.prog (Instr.mapUpdate 75 (.map m21) (.string s22) (.pointer p24)) w14=.ok () w15∧
 inI (n16+1)∧
 I14 [.int .i64 (n16+1)] w15∧mu15 [.int .i64 (n16+1)] w15< mu15 [.int .i64 n16] w9)))))
 (∃ a27 l27 c27,w9.cell? (Addr.mk w.heap.size 1 none)=some (.slice a27 l27 c27)∧
 ∃ (I28:List Value→World→Prop) (mu29:List Value→World→Nat),
 I28 [.int .i64 0] w9∧
 ∀ (_:Env) (n30:Int) (w16:World),I28 [.int .i64 n30] w16→
 cond (decide (n30< (((l27:Nat):Int))))
 ((0≤(n30:Int)∧(n30:Int)< ((l27:Nat):Int))∧
 nn a27 (fun q31=>
 ∃ s32 a33 l33 c33,w16.cell? (Addr.add q31 (Int.toNat n30 * 2))=some (.string s32)∧w16.cell? (Addr.add (Addr.add q31 (Int.toNat n30 * 2)) 1)=some (.slice a33 l33 c33)∧
 let w17:=w16.alloc (.cells #[.string (ByteArray.mk #[]),.slice none 0 0] 65);
 stC (Addr.mk w16.heap.size 0 none) (.string s32) w17 (fun w18=>
 stC (Addr.mk w16.heap.size 1 none) (.slice a33 l33 c33) w18 (fun w19=>
 ∃ (S34:World→Prop),S34 (w19.drew)∧
 let w20:=w19.drew;
 ∃ (m35:Option Nat),(∀ wS:World,S34 wS→wS.cell? (Addr.mk w5.heap.size 2 none)=some (.map m35))∧
 ∃ s36,(∀ wS:World,S34 wS→wS.cell? (Addr.mk w16.heap.size 0 none)=some (.string s36))∧
 ∃ a37 l37 c37,(∀ wS:World,S34 wS→wS.cell? (Addr.mk w16.heap.size 1 none)=some (.slice a37 l37 c37))∧
 CQ 22 [.slice a37 l37 c37] w20 (fun r40 w21=>
 ∃ p38 n39,r40=.tuple #[.pointer p38,.int .i64 n39]∧
 S34 w21∧
 ∃ w22,Sem.run Tryz.prog (Instr.mapUpdate 76 (.map m35) (.string s36) (.pointer p38)) w21=.ok () w22∧
 inI (n30+1)∧
 I28 [.int .i64 (n30+1)] w22∧mu29 [.int .i64 (n30+1)] w22< mu29 [.int .i64 n30] w16)))))
 (Q (.tuple #[.pointer (some (Addr.mk w5.heap.size 0 none)),.int .i64 0]) w16))))))
theorem C10 {a1 l1 c1 a2 l2 c2 a3 l3 c3 Q w} (h:L10 a1 l1 c1 a2 l2 c2 a3 l3 c3 Q w):CallR Tryz.prog 10 [.agg #[.slice a1 l1 c1,.slice a2 l2 c2,.slice a3 l3 c3]] w Q:=
 fC A10 Tryz.func10 rfl (by kernel_rfl) (Eq.mp (by kernel_rfl) h)
def A110:Ann:=⟨[],[],[],[],[],[]⟩
def L110 (p1:Option Addr) (Q:Value→World→Prop) (w:World):Prop:=
 cond (Option.isNone p1)
 (Q (.bool true) w)
 (nn p1 (fun q2=>
 ∃ b3,w.cell? q2=some (.bool b3)∧
 Q (.bool (!b3)) w))
theorem C110 {p1 Q w} (h:L110 p1 Q w):CallR Tryz.prog 110 [.pointer p1] w Q:=
 fC A110 Tryz.func110 rfl (by kernel_rfl) (Eq.mp (by kernel_rfl) h)
def A189:Ann:=⟨[],[],[],[],[],[]⟩
def L189 (p1:Option Addr) (t2:TypeId) (v2:Value) (n3:Int) (Q:Value→World→Prop) (w:World):Prop:=
 nn p1 (fun q4=>
 ∃ n5,w.cell? (Addr.add q4 4)=some (.int .i64 n5)∧
 nn p1 (fun q6=>
 ∃ n7,w.cell? (Addr.add q6 4)=some (.int .i64 n7)∧
 inI (n7+1)∧
 nn p1 (fun q8=>
 stC (Addr.add q8 4) (.int .i64 (n7+1)) w (fun w1=>
 nn p1 (fun q9=>
 ∃ (m10:Option Nat),w1.cell? (Addr.add q9 3)=some (.map m10)∧
 let w2:=w1.alloc (.cells #[.iface t2 v2,.int .i64 n3,.int .i64 0,.int .i64 1] 283);
 ∃ w3,Sem.run Tryz.prog (Instr.mapUpdate 77 (.map m10) (.int .i64 n5) (.pointer (some (Addr.mk w1.heap.size 0 none)))) w2=.ok () w3∧
 Q (.int .i64 n5) w3)))))
theorem C189 {p1 t2 v2 n3 Q w} (h:L189 p1 t2 v2 n3 Q w):CallR Tryz.prog 189 [.pointer p1,.iface t2 v2,.int .i64 n3] w Q:=
 fC A189 Tryz.func189 rfl (by kernel_rfl) (Eq.mp (by kernel_rfl) h)
def A188:Ann:=⟨[],[],[],[],[],[]⟩
def L188 (n1:Int) (Q:Value→World→Prop) (w:World):Prop:=
 cond (decide (n1≥0))
 (cond (decide (n1≤63))
 (cond ((IntKind.wrap .i64 ↑(BitVec.ofInt (IntKind.bits .i64) n1 &&& BitVec.ofInt (IntKind.bits .i64) 3).toNat) != 0)
 (cond ((IntKind.wrap .i64 ↑(BitVec.ofInt (IntKind.bits .i64) n1 &&& BitVec.ofInt (IntKind.bits .i64) 2).toNat) != 0)
 (cond ((IntKind.wrap .i64 ↑(BitVec.ofInt (IntKind.bits .i64) n1 &&& BitVec.ofInt (IntKind.bits .i64) 8).toNat) != 0)
 (Q (.bool true) w)
 (Q (.bool ((IntKind.wrap .i64 ↑(BitVec.ofInt (IntKind.bits .i64) n1 &&& BitVec.ofInt (IntKind.bits .i64) 32).toNat) == 0)) w))
 (cond ((IntKind.wrap .i64 ↑(BitVec.ofInt (IntKind.bits .i64) n1 &&& BitVec.ofInt (IntKind.bits .i64) 20).toNat) == 0)
 (cond ((IntKind.wrap .i64 ↑(BitVec.ofInt (IntKind.bits .i64) n1 &&& BitVec.ofInt (IntKind.bits .i64) 8).toNat) != 0)
 (Q (.bool true) w)
 (Q (.bool ((IntKind.wrap .i64 ↑(BitVec.ofInt (IntKind.bits .i64) n1 &&& BitVec.ofInt (IntKind.bits .i64) 32).toNat) == 0)) w))
 (Q (.bool false) w)))
 (Q (.bool false) w))
 (Q (.bool false) w))
 (Q (.bool false) w)
theorem C188 {n1 Q w} (h:L188 n1 Q w):CallR Tryz.prog 188 [.int .i64 n1] w Q:=
 fC A188 Tryz.func188 rfl (by kernel_rfl) (Eq.mp (by kernel_rfl) h)
def A134:Ann:=⟨[],[(20,[(8,.one (.ptr))])],[],[],[(18,[0,1,2,3,5,6,7,8,4],9,[10,11,12])],[]⟩
def L134 (p1:Option Addr) (s2:ByteArray) (n3:Int) (Q:Value→World→Prop) (w:World):Prop:=
 CQ 110 [.pointer p1] w (fun r5 w1=>
 ∃ b4,r5=.bool b4∧
 cond b4
 (Q (.tuple #[.int .i64 0,.int .i64 2]) w1)
 (CQ 55 [.string s2] w1 (fun r7 w2=>
 ∃ b6,r7=.bool b6∧
 cond (!b6)
 (Q (.tuple #[.int .i64 0,.int .i64 61]) w2)
 (CQ 188 [.int .i64 n3] w2 (fun r9 w3=>
 ∃ b8,r9=.bool b8∧
 cond (!b8)
 (Q (.tuple #[.int .i64 0,.int .i64 65]) w3)
 (nn p1 (fun q10=>
 ∃ (m11:Option Nat),w3.cell? (Addr.add q10 3)=some (.map m11)∧
 ∃ n12 w4,Sem.run Tryz.prog (Builtin.len_ #[77] 3 #[.map m11]) w3=.ok (.int .i64 n12) w4∧
 cond (decide (n12≥256))
 (Q (.tuple #[.int .i64 0,.int .i64 3]) w4)
 (nn p1 (fun q13=>
 ∃ (m14:Option Nat),w4.cell? (Addr.add q13 1)=some (.map m14)∧
 ∃ p15 b16 w5,Sem.run Tryz.prog (Instr.lookup 75 (.map m14) (.string s2) true) w4=.ok ((.tuple #[.pointer p15,.bool b16]:Value)) w5∧
 nn p1 (fun q17=>
 ∃ (m18:Option Nat),w5.cell? (Addr.add q17 2)=some (.map m18)∧
 ∃ p19 b20 w6,Sem.run Tryz.prog (Instr.lookup 76 (.map m18) (.string s2) true) w5=.ok ((.tuple #[.pointer p19,.bool b20]:Value)) w6∧
 ∃ (J21:List Value→World→Prop),
 (cond b16
 (cond ((IntKind.wrap .i64 ↑(BitVec.ofInt (IntKind.bits .i64) n3 &&& BitVec.ofInt (IntKind.bits .i64) 32).toNat) != 0)
 (Q (.tuple #[.int .i64 0,.int .i64 63]) w6)
 (J21 [.pointer p15] w6))
 (cond b20
 (cond ((IntKind.wrap .i64 ↑(BitVec.ofInt (IntKind.bits .i64) n3 &&& BitVec.ofInt (IntKind.bits .i64) 32).toNat) != 0)
 (Q (.tuple #[.int .i64 0,.int .i64 63]) w6)
 (J21 [.pointer p15] w6))
 (cond ((IntKind.wrap .i64 ↑(BitVec.ofInt (IntKind.bits .i64) n3 &&& BitVec.ofInt (IntKind.bits .i64) 8).toNat) == 0)
 (Q (.tuple #[.int .i64 0,.int .i64 62]) w6)
 (∃ (S22:World→Prop),S22 (w6.drew)∧
 let w7:=w6.drew;
 nn p1 (fun q23=>
 ∃ (m24:Option Nat),(∀ wS:World,S22 wS→wS.cell? (Addr.add q23 1)=some (.map m24))∧
 nn p1 (fun q25=>
 ∃ (m26:Option Nat),(∀ wS:World,S22 wS→wS.cell? (Addr.add q25 2)=some (.map m26))∧
 ∃ n27 w8,Sem.run Tryz.prog (Builtin.len_ #[75] 3 #[.map m24]) w7=.ok (.int .i64 n27) w8∧
 S22 w8∧
 ∃ n28 w9,Sem.run Tryz.prog (Builtin.len_ #[76] 3 #[.map m26]) w8=.ok (.int .i64 n28) w9∧
 inI (n27+n28)∧
 cond (decide ((n27+n28)≥256))
 (Q (.tuple #[.int .i64 0,.int .i64 3]) w9)
 (CQ 21 [.slice none 0 0] w9 (fun r31 w10=>
 ∃ p29 n30,r31=.tuple #[.pointer p29,.int .i64 n30]∧
 nn p1 (fun q32=>
 ∃ (m33:Option Nat),w10.cell? (Addr.add q32 1)=some (.map m33)∧
 ∃ w11,Sem.run Tryz.prog (Instr.mapUpdate 75 (.map m33) (.string s2) (.pointer p29)) w10=.ok () w11∧
 J21 [.pointer p29] w11)))))))))∧
 (∀ (_:Env) (p34:Option Addr) (w12:World),J21 [.pointer p34] w12→
 cond b20
 (CQ 189 [.pointer p1,.iface 297 (.agg #[.pointer p19]),.int .i64 n3] w12 (fun r36 w13=>
 ∃ n35,r36=.int .i64 n35∧
 Q (.tuple #[.int .i64 n35,.int .i64 0]) w13))
 (cond ((IntKind.wrap .i64 ↑(BitVec.ofInt (IntKind.bits .i64) n3 &&& BitVec.ofInt (IntKind.bits .i64) 16).toNat) != 0)
 (CQ 190 [.pointer p34,.int .i64 0] w12 (fun r38 w14=>
 ∃ n37,r38=.int .i64 n37∧
 CQ 189 [.pointer p1,.iface 299 (.agg #[.pointer p34]),.int .i64 n3] w14 (fun r40 w15=>
 ∃ n39,r40=.int .i64 n39∧
 Q (.tuple #[.int .i64 n39,.int .i64 0]) w15)))
 (CQ 189 [.pointer p1,.iface 299 (.agg #[.pointer p34]),.int .i64 n3] w12 (fun r42 w16=>
 ∃ n41,r42=.int .i64 n41∧
 Q (.tuple #[.int .i64 n41,.int .i64 0]) w16))))))))))))))
theorem C134 {p1 s2 n3 Q w} (h:L134 p1 s2 n3 Q w):CallR Tryz.prog 134 [.pointer p1,.string s2,.int .i64 n3] w Q:=
 fC A134 Tryz.func134 rfl (by kernel_rfl) (Eq.mp (by kernel_rfl) h)
def A173:Ann:=⟨[],[],[],[],[],[]⟩
def L173 (p1:Option Addr) (n2 n3:Int) (Q:Value→World→Prop) (w:World):Prop:=
 CQ 110 [.pointer p1] w (fun r5 w1=>
 ∃ b4,r5=.bool b4∧
 cond b4
 (Q (.tuple #[.pointer none,.int .i64 2]) w1)
 (nn p1 (fun q6=>
 ∃ (m7:Option Nat),w1.cell? (Addr.add q6 3)=some (.map m7)∧
 ∃ p8 b9 w2,Sem.run Tryz.prog (Instr.lookup 77 (.map m7) (.int .i64 n2) true) w1=.ok ((.tuple #[.pointer p8,.bool b9]:Value)) w2∧
 cond (!b9)
 (Q (.tuple #[.pointer none,.int .i64 64]) w2)
 (nn p8 (fun q10=>
 ∃ n11,w2.cell? (Addr.add q10 1)=some (.int .i64 n11)∧
 cond ((IntKind.wrap .i64 ↑(BitVec.ofInt (IntKind.bits .i64) n11 &&& BitVec.ofInt (IntKind.bits .i64) n3).toNat) != n3)
 (Q (.tuple #[.pointer none,.int .i64 65]) w2)
 (Q (.tuple #[.pointer p8,.int .i64 0]) w2))))))
theorem C173 {p1 n2 n3 Q w} (h:L173 p1 n2 n3 Q w):CallR Tryz.prog 173 [.pointer p1,.int .i64 n2,.int .i64 n3] w Q:=
 fC A173 Tryz.func173 rfl (by kernel_rfl) (Eq.mp (by kernel_rfl) h)
def A236:Ann:=⟨[],[],[],[],[],[]⟩
def L236 (p1:Option Addr) (Q:Value→World→Prop) (w:World):Prop:=
 nn p1 (fun q2=>
 ∃ (v3:Value),w.cell? q2=some v3∧
 ∃ p4 b5 w1,Sem.run Tryz.prog (Instr.typeAssert v3 281 317 true) w=.ok ((.tuple #[.agg #[.pointer p4],.bool b5]:Value)) w1∧
 let w2:=w1.alloc (.cells #[.pointer none] 317);
 stC (Addr.mk w1.heap.size 0 none) (.pointer p4) w2 (fun w3=>
 cond b5
 (∃ p6,w3.cell? (Addr.mk w1.heap.size 0 none)=some (.pointer p6)∧
 CQ 255 [.pointer p6] w3 (fun r8 w4=>
 ∃ b7,r8=.bool b7∧
 Q (.bool (!b7)) w4))
 (Q (.bool false) w3)))
theorem C236 {p1 Q w} (h:L236 p1 Q w):CallR Tryz.prog 236 [.pointer p1] w Q:=
 fC A236 Tryz.func236 rfl (by kernel_rfl) (Eq.mp (by kernel_rfl) h)
def A207:Ann:=⟨[],[],[],[(10,[0,1,2,3,4,5,6,7,8,9])],[],[]⟩
def L207 (p1 : Option Addr) (n2 n3 : Int) (Q : Value → World → Prop) (w : World) : Prop :=
 CQ 173 [.pointer p1, .int .i64 n2, .int .i64 1] w (fun r6 w1 =>
 ∃ p4 n5, r6 = .tuple #[.pointer p4, .int .i64 n5] ∧
 cond (n5 != 0)
 (Q (.tuple #[.slice none 0 0, .int .i64 n5]) w1)
 (cond (decide (n3 < 0))
 (Q (.tuple #[.slice none 0 0, .int .i64 4]) w1)
 (cond (decide (n3 > 1048576))
 (Q (.tuple #[.slice none 0 0, .int .i64 4]) w1)
 (cond (n3 == 0)
 (Q (.tuple #[.slice none 0 0, .int .i64 0]) w1)
 (CQ 236 [.pointer p4] w1 (fun r8 w2 =>
 ∃ b7, r8 = .bool b7 ∧
 cond b7
 (Q (.tuple #[.slice none 0 0, .int .i64 52]) w2)
 (let w3 := w2.drew;
 nn p1 (fun q9 =>
 (0 ≤ (0 : Int) ∧ (0 : Int) < ((2 : Nat) : Int)) ∧
 ∃ n10, w3.cell? (Addr.add (Addr.add q9 6) (Int.toNat 0)) = some (.int .i64 n10) ∧
 inI (n10 + 1) ∧
 nn p1 (fun q11 =>
 (0 ≤ (0 : Int) ∧ (0 : Int) < ((2 : Nat) : Int)) ∧
 stC (Addr.add (Addr.add q11 6) (Int.toNat 0)) (.int .i64 (n10 + 1)) w3 (fun w4 =>
 nn p1 (fun q12 =>
 ∃ p13, w4.cell? (Addr.add q12 5) = some (.pointer p13) ∧
 CQ 237 [.pointer p13, .int .i64 n3] w4 (fun r16 w5 =>
 ∃ n14 n15, r16 = .tuple #[.int .i64 n14, .int .i64 n15] ∧
 cond (n15 != 0)
 (Q (.tuple #[.slice none 0 0, .int .i64 n15]) w5)
 (nn p4 (fun q17 =>
 ∃ (v18 : Value), w5.cell? q17 = some v18 ∧
 ∃ (f19 : FuncId) (xs20 : Array Value) (w6 : World), Sem.run Tryz.prog (callMethod v18 "millrace/kern.read" #[.pointer p4, .int .i64 n14]) w5 = .ok (.enter f19 xs20) w6 ∧
 CQ f19 (Array.toList xs20) w6 (fun r22 w7 =>
 ∃ a21 l21 c21, r22 = .slice a21 l21 c21 ∧
 Q (.tuple #[.slice a21 l21 c21, .int .i64 0]) w7)))))))))))))))
theorem C207 {p1 n2 n3 Q w} (h:L207 p1 n2 n3 Q w):CallR Tryz.prog 207 [.pointer p1,.int .i64 n2,.int .i64 n3] w Q:=
 fC A207 Tryz.func207 rfl (by kernel_rfl) (Eq.mp (by kernel_rfl) h)
def A208:Ann:=⟨[],[],[],[(11,[0,1,2,3,4,5,6,7,8,9])],[],[]⟩
def L208 (p1 : Option Addr) (n2 : Int) (a3 : Option Addr) (l3 c3 : Nat) (Q : Value → World → Prop) (w : World) : Prop :=
 CQ 173 [.pointer p1, .int .i64 n2, .int .i64 2] w (fun r6 w1 =>
 ∃ p4 n5, r6 = .tuple #[.pointer p4, .int .i64 n5] ∧
 cond (n5 != 0)
 (Q (.tuple #[.int .i64 0, .int .i64 n5]) w1)
 (cond (decide ((((l3 : Nat) : Int)) > 1048576))
 (Q (.tuple #[.int .i64 0, .int .i64 5]) w1)
 (cond ((((l3 : Nat) : Int)) == 0)
 (Q (.tuple #[.int .i64 0, .int .i64 0]) w1)
 (nn p4 (fun q7 =>
 ∃ (v8 : Value), w1.cell? q7 = some v8 ∧
 ∃ (f9 : FuncId) (xs10 : Array Value) (w2 : World), Sem.run Tryz.prog (callMethod v8 "millrace/kern.room" #[.pointer p4, .int .i64 (((l3 : Nat) : Int))]) w1 = .ok (.enter f9 xs10) w2 ∧
 CQ f9 (Array.toList xs10) w2 (fun r13 w3 =>
 ∃ n11 n12, r13 = .tuple #[.int .i64 n11, .int .i64 n12] ∧
 cond (n12 != 0)
 (Q (.tuple #[.int .i64 0, .int .i64 n12]) w3)
 (let w4 := w3.drew;
 nn p1 (fun q14 =>
 (0 ≤ (1 : Int) ∧ (1 : Int) < ((2 : Nat) : Int)) ∧
 ∃ n15, w4.cell? (Addr.add (Addr.add q14 6) (Int.toNat 1)) = some (.int .i64 n15) ∧
 inI (n15 + 1) ∧
 nn p1 (fun q16 =>
 (0 ≤ (1 : Int) ∧ (1 : Int) < ((2 : Nat) : Int)) ∧
 stC (Addr.add (Addr.add q16 6) (Int.toNat 1)) (.int .i64 (n15 + 1)) w4 (fun w5 =>
 nn p1 (fun q17 =>
 ∃ p18, w5.cell? (Addr.add q17 5) = some (.pointer p18) ∧
 CQ 237 [.pointer p18, .int .i64 (((l3 : Nat) : Int))] w5 (fun r21 w6 =>
 ∃ n19 n20, r21 = .tuple #[.int .i64 n19, .int .i64 n20] ∧
 cond (n20 != 0)
 (Q (.tuple #[.int .i64 0, .int .i64 n20]) w6)
 (nn p4 (fun q22 =>
 ∃ (v23 : Value), w6.cell? q22 = some v23 ∧
 ∃ (f24 : FuncId) (xs25 : Array Value) (w7 : World), Sem.run Tryz.prog (callMethod v23 "millrace/kern.write" #[.pointer p4, .slice a3 l3 c3, .int .i64 (mn n19 n11)]) w6 = .ok (.enter f24 xs25) w7 ∧
 CQ f24 (Array.toList xs25) w7 (fun r27 w8 =>
 ∃ n26, r27 = .int .i64 n26 ∧
 Q (.tuple #[.int .i64 n26, .int .i64 0]) w8)))))))))))))))
theorem C208 {p1 n2 a3 l3 c3 Q w} (h:L208 p1 n2 a3 l3 c3 Q w):CallR Tryz.prog 208 [.pointer p1,.int .i64 n2,.slice a3 l3 c3] w Q:=
 fC A208 Tryz.func208 rfl (by kernel_rfl) (Eq.mp (by kernel_rfl) h)
def A209:Ann:=⟨[],[],[(9,[0,1,2,3,4,5,8,6,7,9,10])],[],[],[]⟩
def L209 (p1:Option Addr) (n2 n3 n4:Int) (Q:Value→World→Prop) (w:World):Prop:=
 CQ 173 [.pointer p1,.int .i64 n2,.int .i64 0] w (fun r7 w1=>
 ∃ p5 n6,r7=.tuple #[.pointer p5,.int .i64 n6]∧
 cond (n6 != 0)
 (Q (.tuple #[.int .i64 0,.int .i64 n6]) w1)
 (nn p5 (fun q8=>
 ∃ (v9:Value),w1.cell? q8=some v9∧
 ∃ p10 b11 w2,Sem.run Tryz.prog (Instr.typeAssert v9 281 299 true) w1=.ok ((.tuple #[.agg #[.pointer p10],.bool b11]:Value)) w2∧
 let w3:=w2.alloc (.cells #[.pointer none] 299);
 stC (Addr.mk w2.heap.size 0 none) (.pointer p10) w3 (fun w4=>
 cond (!b11)
 (Q (.tuple #[.int .i64 0,.int .i64 66]) w4)
 (cond (decide (n4< 0))
 (Q (.tuple #[.int .i64 0,.int .i64 1]) w4)
 (cond (decide (n4 > 2))
 (Q (.tuple #[.int .i64 0,.int .i64 1]) w4)
 (∃ (S12:World→Prop),S12 (w4.drew)∧
 let w5:=w4.drew;
 nn p5 (fun q13=>
 ∃ n14,(∀ wS:World,S12 wS→wS.cell? (Addr.add q13 2)=some (.int .i64 n14))∧
 ∃ p15,(∀ wS:World,S12 wS→wS.cell? (Addr.mk w2.heap.size 0 none)=some (.pointer p15))∧
 CQ 238 [.pointer p15] w5 (fun r17 w6=>
 ∃ n16,r17=.int .i64 n16∧
 S12 w6∧
 (0≤(n4:Int)∧(n4:Int)< ((3:Nat):Int))∧
 ∃ n18,(#[.int .i64 0,.int .i64 n14,.int .i64 n16]:Array Value)[Int.toNat n4]?=some (.int .i64 n18)∧
 inI ((0:Int) - n18)∧
 cond (decide (n3< ((0:Int) - n18)))
 (Q (.tuple #[.int .i64 0,.int .i64 4]) w6)
 (inI ((1048576:Int) - n18)∧
 cond (decide (n3 > ((1048576:Int) - n18)))
 (Q (.tuple #[.int .i64 0,.int .i64 4]) w6)
 (inI (n18+n3)∧
 nn p5 (fun q19=>
 stC (Addr.add q19 2) (.int .i64 (n18+n3)) w6 (fun w7=>
 nn p5 (fun q20=>
 ∃ n21,w7.cell? (Addr.add q20 2)=some (.int .i64 n21)∧
 Q (.tuple #[.int .i64 n21,.int .i64 0]) w7))))))))))))))
theorem C209 {p1 n2 n3 n4 Q w} (h:L209 p1 n2 n3 n4 Q w):CallR Tryz.prog 209 [.pointer p1,.int .i64 n2,.int .i64 n3,.int .i64 n4] w Q:=
 fC A209 Tryz.func209 rfl (by kernel_rfl) (Eq.mp (by kernel_rfl) h)
def A136:Ann:=⟨[],[],[],[],[],[]⟩
def L136 (p1:Option Addr) (n2:Int) (Q:Value→World→Prop) (w:World):Prop:=
 CQ 173 [.pointer p1,.int .i64 n2,.int .i64 0] w (fun r5 w1=>
 ∃ p3 n4,r5=.tuple #[.pointer p3,.int .i64 n4]∧
 cond (n4 != 0)
 (Q (.int .i64 n4) w1)
 (nn p3 (fun q6=>
 ∃ n7,w1.cell? (Addr.add q6 3)=some (.int .i64 n7)∧
 cond (decide (n7≥1024))
 (Q (.int .i64 3) w1)
 (nn p3 (fun q8=>
 ∃ n9,w1.cell? (Addr.add q8 3)=some (.int .i64 n9)∧
 inI (n9+1)∧
 nn p3 (fun q10=>
 stC (Addr.add q10 3) (.int .i64 (n9+1)) w1 (fun w2=>
 Q (.int .i64 0) w2)))))))
theorem C136 {p1 n2 Q w} (h:L136 p1 n2 Q w):CallR Tryz.prog 136 [.pointer p1,.int .i64 n2] w Q:=
 fC A136 Tryz.func136 rfl (by kernel_rfl) (Eq.mp (by kernel_rfl) h)
def A114:Ann:=⟨[],[],[],[],[],[]⟩
def L114 (p1 : Option Addr) (n2 : Int) (Q : Value → World → Prop) (w : World) : Prop :=
 CQ 173 [.pointer p1, .int .i64 n2, .int .i64 0] w (fun r5 w1 =>
 ∃ p3 n4, r5 = .tuple #[.pointer p3, .int .i64 n4] ∧
 cond (n4 != 0)
 (Q (.int .i64 n4) w1)
 (nn p3 (fun q6 =>
 ∃ n7, w1.cell? (Addr.add q6 3) = some (.int .i64 n7) ∧
 inI (n7 - 1) ∧
 nn p3 (fun q8 =>
 stC (Addr.add q8 3) (.int .i64 (n7 - 1)) w1 (fun w2 =>
 nn p3 (fun q9 =>
 ∃ n10, w2.cell? (Addr.add q9 3) = some (.int .i64 n10) ∧
 cond (n10 == 0)
 (nn p1 (fun q11 =>
 ∃ (m12 : Option Nat), w2.cell? (Addr.add q11 3) = some (.map m12) ∧
 ∃ w3, Sem.run Tryz.prog (Builtin.delete_ #[77, 3] 0 #[.map m12, .int .i64 n2]) w2 = .ok ((.tuple #[] : Value)) w3 ∧
 nn p3 (fun q13 =>
 ∃ (v14 : Value), w3.cell? q13 = some v14 ∧
 ∃ (f15 : FuncId) (xs16 : Array Value) (w4 : World), Sem.run Tryz.prog (callMethod v14 "millrace/kern.drop" #[.pointer p3]) w3 = .ok (.enter f15 xs16) w4 ∧
 CQ f15 (Array.toList xs16) w4 (fun r17 w5 =>
 r17 = .tuple #[] ∧
 Q (.int .i64 0) w5))))
 (Q (.int .i64 0) w2)))))))
theorem C114 {p1 n2 Q w} (h:L114 p1 n2 Q w):CallR Tryz.prog 114 [.pointer p1,.int .i64 n2] w Q:=
 fC A114 Tryz.func114 rfl (by kernel_rfl) (Eq.mp (by kernel_rfl) h)
def A137:Ann:=⟨[],[],[],[],[],[]⟩
def L137 (p1 : Option Addr) (n2 : Int) (Q : Value → World → Prop) (w : World) : Prop :=
 CQ 173 [.pointer p1, .int .i64 n2, .int .i64 0] w (fun r5 w1 =>
 ∃ p3 n4, r5 = .tuple #[.pointer p3, .int .i64 n4] ∧
 cond (n4 != 0)
 (Q (.int .i64 0) w1)
 (nn p3 (fun q6 =>
 ∃ (v7 : Value), w1.cell? q6 = some v7 ∧
 ∃ (f8 : FuncId) (xs9 : Array Value) (w2 : World), Sem.run Tryz.prog (callMethod v7 "millrace/kern.kind" #[]) w1 = .ok (.enter f8 xs9) w2 ∧
 CQ f8 (Array.toList xs9) w2 (fun r11 w3 =>
 ∃ n10, r11 = .int .i64 n10 ∧
 Q (.int .i64 n10) w3))))
theorem C137 {p1 n2 Q w} (h:L137 p1 n2 Q w):CallR Tryz.prog 137 [.pointer p1,.int .i64 n2] w Q:=
 fC A137 Tryz.func137 rfl (by kernel_rfl) (Eq.mp (by kernel_rfl) h)
def A152:Ann:=⟨[],[],[],[],[],[]⟩
def L152 (p1:Option Addr) (n2 n3:Int) (Q:Value→World→Prop) (w:World):Prop:=
 let w1:=w.alloc (.cells #[.pointer p1,.int .i64 n2] 232);
 ∃ p4,w1.cell? (Addr.mk w.heap.size 0 none)=some (.pointer p4)∧
 ∃ n5,w1.cell? (Addr.mk w.heap.size 1 none)=some (.int .i64 n5)∧
 CQ 207 [.pointer p4,.int .i64 n5,.int .i64 n3] w1 (fun r8 w2=>
 ∃ a6 l6 c6 n7,r8=.tuple #[.slice a6 l6 c6,.int .i64 n7]∧
 Q (.tuple #[.slice a6 l6 c6,.int .i64 n7]) w2)
theorem C152 {p1 n2 n3 Q w} (h:L152 p1 n2 n3 Q w):CallR Tryz.prog 152 [.agg #[.pointer p1,.int .i64 n2],.int .i64 n3] w Q:=
 fC A152 Tryz.func152 rfl (by kernel_rfl) (Eq.mp (by kernel_rfl) h)
def A153:Ann:=⟨[],[],[],[],[],[]⟩
def L153 (p1:Option Addr) (n2:Int) (a3:Option Addr) (l3 c3:Nat) (Q:Value→World→Prop) (w:World):Prop:=
 let w1:=w.alloc (.cells #[.pointer p1,.int .i64 n2] 232);
 ∃ p4,w1.cell? (Addr.mk w.heap.size 0 none)=some (.pointer p4)∧
 ∃ n5,w1.cell? (Addr.mk w.heap.size 1 none)=some (.int .i64 n5)∧
 CQ 208 [.pointer p4,.int .i64 n5,.slice a3 l3 c3] w1 (fun r8 w2=>
 ∃ n6 n7,r8=.tuple #[.int .i64 n6,.int .i64 n7]∧
 Q (.tuple #[.int .i64 n6,.int .i64 n7]) w2)
theorem C153 {p1 n2 a3 l3 c3 Q w} (h:L153 p1 n2 a3 l3 c3 Q w):CallR Tryz.prog 153 [.agg #[.pointer p1,.int .i64 n2],.slice a3 l3 c3] w Q:=
 fC A153 Tryz.func153 rfl (by kernel_rfl) (Eq.mp (by kernel_rfl) h)
def A378:Ann:=⟨[],[],[],[(1,[0,1,2,3,4,5,6,7,8])],[],[]⟩
def L378 (p1 p2:Option Addr) (Q:Value→World→Prop) (w:World):Prop:=
 let w1:=w.alloc (.cells #[.pointer p1] 317);
 let w2:=w1.drew;
 ∃ p3,w2.cell? (Addr.mk w.heap.size 0 none)=some (.pointer p3)∧
 nn p2 (fun q4=>
 ∃ n5,w2.cell? (Addr.add q4 1)=some (.int .i64 n5)∧
 CQ 383 [.pointer p3,.bool ((IntKind.wrap .i64 ↑(BitVec.ofInt (IntKind.bits .i64) n5 &&& BitVec.ofInt (IntKind.bits .i64) 2).toNat) != 0)] w2 (fun r7 w3=>
 ∃ n6,r7=.int .i64 n6∧
 Q (.tuple #[]) w3))
theorem C378 {p1 p2 Q w} (h:L378 p1 p2 Q w):CallR Tryz.prog 378 [.agg #[.pointer p1],.pointer p2] w Q:=
 fC A378 Tryz.func378 rfl (by kernel_rfl) (Eq.mp (by kernel_rfl) h)
def A379:Ann:=⟨[],[],[],[],[],[]⟩
def L379 (p1:Option Addr) (Q:Value→World→Prop) (w:World):Prop:=
 let w1:=w.alloc (.cells #[.pointer p1] 317);
 Q (.int .i64 3) w1
theorem C379 {p1 Q w} (h:L379 p1 Q w):CallR Tryz.prog 379 [.agg #[.pointer p1]] w Q:=
 fC A379 Tryz.func379 rfl (by kernel_rfl) (Eq.mp (by kernel_rfl) h)
def A380:Ann:=⟨[],[],[],[],[],[]⟩
def L380 (p1 p2:Option Addr) (n3:Int) (Q:Value→World→Prop) (w:World):Prop:=
 let w1:=w.alloc (.cells #[.pointer p1] 317);
 ∃ p4,w1.cell? (Addr.mk w.heap.size 0 none)=some (.pointer p4)∧
 CQ 371 [.pointer p4,.int .i64 n3] w1 (fun r7 w2=>
 ∃ a5 l5 c5 n6,r7=.tuple #[.slice a5 l5 c5,.int .i64 n6]∧
 Q (.slice a5 l5 c5) w2)
theorem C380 {p1 p2 n3 Q w} (h:L380 p1 p2 n3 Q w):CallR Tryz.prog 380 [.agg #[.pointer p1],.pointer p2,.int .i64 n3] w Q:=
 fC A380 Tryz.func380 rfl (by kernel_rfl) (Eq.mp (by kernel_rfl) h)
def A381:Ann:=⟨[],[],[],[],[],[]⟩
def L381 (p1 p2:Option Addr) (n3:Int) (Q:Value→World→Prop) (w:World):Prop:=
 let w1:=w.alloc (.cells #[.pointer p1] 317);
 ∃ p4,w1.cell? (Addr.mk w.heap.size 0 none)=some (.pointer p4)∧
 CQ 384 [.pointer p4] w1 (fun r7 w2=>
 ∃ n5 n6,r7=.tuple #[.int .i64 n5,.int .i64 n6]∧
 cond (n5 == 0)
 (Q (.tuple #[.int .i64 0,.int .i64 53]) w2)
 (∃ p8,w2.cell? (Addr.mk w.heap.size 0 none)=some (.pointer p8)∧
 CQ 385 [.pointer p8,.int .i64 n3] w2 (fun r10 w3=>
 ∃ b9,r10=.bool b9∧
 cond (!b9)
 (Q (.tuple #[.int .i64 0,.int .i64 52]) w3)
 (Q (.tuple #[.int .i64 n3,.int .i64 0]) w3))))
theorem C381 {p1 p2 n3 Q w} (h:L381 p1 p2 n3 Q w):CallR Tryz.prog 381 [.agg #[.pointer p1],.pointer p2,.int .i64 n3] w Q:=
 fC A381 Tryz.func381 rfl (by kernel_rfl) (Eq.mp (by kernel_rfl) h)
def A382:Ann:=⟨[],[],[],[],[],[]⟩
def L382 (p1 p2 a3:Option Addr) (l3 c3:Nat) (n4:Int) (Q:Value→World→Prop) (w:World):Prop:=
 let w1:=w.alloc (.cells #[.pointer p1] 317);
 ∃ p5,w1.cell? (Addr.mk w.heap.size 0 none)=some (.pointer p5)∧
 CQ 372 [.pointer p5,.slice a3 l3 c3,.int .i64 n4] w1 (fun r8 w2=>
 ∃ n6 n7,r8=.tuple #[.int .i64 n6,.int .i64 n7]∧
 Q (.int .i64 n6) w2)
theorem C382 {p1 p2 a3 l3 c3 n4 Q w} (h:L382 p1 p2 a3 l3 c3 n4 Q w):CallR Tryz.prog 382 [.agg #[.pointer p1],.pointer p2,.slice a3 l3 c3,.int .i64 n4] w Q:=
 fC A382 Tryz.func382 rfl (by kernel_rfl) (Eq.mp (by kernel_rfl) h)
def A358:Ann:=⟨[],[],[],[],[],[]⟩
def L358 (p1 p2:Option Addr) (Q:Value→World→Prop) (w:World):Prop:=
 let w1:=w.alloc (.cells #[.pointer p1] 297);
 Q (.tuple #[]) w1
theorem C358 {p1 p2 Q w} (h:L358 p1 p2 Q w):CallR Tryz.prog 358 [.agg #[.pointer p1],.pointer p2] w Q:=
 fC A358 Tryz.func358 rfl (by kernel_rfl) (Eq.mp (by kernel_rfl) h)
def A359:Ann:=⟨[],[],[],[],[],[]⟩
def L359 (p1:Option Addr) (Q:Value→World→Prop) (w:World):Prop:=
 let w1:=w.alloc (.cells #[.pointer p1] 297);
 Q (.int .i64 2) w1
theorem C359 {p1 Q w} (h:L359 p1 Q w):CallR Tryz.prog 359 [.agg #[.pointer p1]] w Q:=
 fC A359 Tryz.func359 rfl (by kernel_rfl) (Eq.mp (by kernel_rfl) h)
def A360:Ann:=⟨[],[],[],[],[],[]⟩
def L360 (p1 p2:Option Addr) (n3:Int) (Q:Value→World→Prop) (w:World):Prop:=
 let w1:=w.alloc (.cells #[.pointer p1] 297);
 ∃ p4,w1.cell? (Addr.mk w.heap.size 0 none)=some (.pointer p4)∧
 CQ 337 [.pointer p4,.int .i64 n3] w1 (fun r7 w2=>
 ∃ a5 l5 c5 n6,r7=.tuple #[.slice a5 l5 c5,.int .i64 n6]∧
 Q (.slice a5 l5 c5) w2)
theorem C360 {p1 p2 n3 Q w} (h:L360 p1 p2 n3 Q w):CallR Tryz.prog 360 [.agg #[.pointer p1],.pointer p2,.int .i64 n3] w Q:=
 fC A360 Tryz.func360 rfl (by kernel_rfl) (Eq.mp (by kernel_rfl) h)
def A361:Ann:=⟨[],[],[],[],[],[]⟩
def L361 (p1 p2:Option Addr) (n3:Int) (Q:Value→World→Prop) (w:World):Prop:=
 let w1:=w.alloc (.cells #[.pointer p1] 297);
 ∃ p4,w1.cell? (Addr.mk w.heap.size 0 none)=some (.pointer p4)∧
 CQ 112 [.pointer p4] w1 (fun r6 w2=>
 ∃ a5 l5 c5,r6=.slice a5 l5 c5∧
 inI ((1048576:Int) - (((l5:Nat):Int)))∧
 cond (decide (((1048576:Int) - (((l5:Nat):Int))) > 0))
 (Q (.tuple #[.int .i64 (mn n3 ((1048576:Int) - (((l5:Nat):Int)))),.int .i64 0]) w2)
 (Q (.tuple #[.int .i64 0,.int .i64 31]) w2))
theorem C361 {p1 p2 n3 Q w} (h:L361 p1 p2 n3 Q w):CallR Tryz.prog 361 [.agg #[.pointer p1],.pointer p2,.int .i64 n3] w Q:=
 fC A361 Tryz.func361 rfl (by kernel_rfl) (Eq.mp (by kernel_rfl) h)
def A362:Ann:=⟨[],[],[],[],[],[]⟩
def L362 (p1 p2 a3:Option Addr) (l3 c3:Nat) (n4:Int) (Q:Value→World→Prop) (w:World):Prop:=
 let w1:=w.alloc (.cells #[.pointer p1] 297);
 (0≤(mn (((l3:Nat):Int)) n4:Int)∧(mn (((l3:Nat):Int)) n4:Int)≤((c3:Nat):Int))∧
 ∃ p5,w1.cell? (Addr.mk w.heap.size 0 none)=some (.pointer p5)∧
 CQ 338 [.pointer p5,.slice a3 (Int.toNat (mn (((l3:Nat):Int)) n4)) c3] w1 (fun r7 w2=>
 ∃ n6,r7=.int .i64 n6∧
 Q (.int .i64 (((Int.toNat (mn (((l3:Nat):Int)) n4):Nat):Int))) w2)
theorem C362 {p1 p2 a3 l3 c3 n4 Q w} (h:L362 p1 p2 a3 l3 c3 n4 Q w):CallR Tryz.prog 362 [.agg #[.pointer p1],.pointer p2,.slice a3 l3 c3,.int .i64 n4] w Q:=
 fC A362 Tryz.func362 rfl (by kernel_rfl) (Eq.mp (by kernel_rfl) h)
def A363:Ann:=⟨[],[],[],[],[],[]⟩
def L363 (p1 p2:Option Addr) (Q:Value→World→Prop) (w:World):Prop:=
 let w1:=w.alloc (.cells #[.pointer p1] 299);
 Q (.tuple #[]) w1
theorem C363 {p1 p2 Q w} (h:L363 p1 p2 Q w):CallR Tryz.prog 363 [.agg #[.pointer p1],.pointer p2] w Q:=
 fC A363 Tryz.func363 rfl (by kernel_rfl) (Eq.mp (by kernel_rfl) h)
def A364:Ann:=⟨[],[],[],[],[],[]⟩
def L364 (p1:Option Addr) (Q:Value→World→Prop) (w:World):Prop:=
 let w1:=w.alloc (.cells #[.pointer p1] 299);
 Q (.int .i64 1) w1
theorem C364 {p1 Q w} (h:L364 p1 Q w):CallR Tryz.prog 364 [.agg #[.pointer p1]] w Q:=
 fC A364 Tryz.func364 rfl (by kernel_rfl) (Eq.mp (by kernel_rfl) h)
def A365:Ann:=⟨[],[],[],[(1,[0,1,2,3,4,5,6,7,8,9,10,11,12])],[],[]⟩
def L365 (p1 p2:Option Addr) (n3:Int) (Q:Value→World→Prop) (w:World):Prop:=
 let w1:=w.alloc (.cells #[.pointer p1] 299);
 let w2:=w1.drew;
 ∃ p4,w2.cell? (Addr.mk w.heap.size 0 none)=some (.pointer p4)∧
 nn p2 (fun q5=>
 ∃ n6,w2.cell? (Addr.add q5 2)=some (.int .i64 n6)∧
 CQ 368 [.pointer p4,.int .i64 n6,.int .i64 n3] w2 (fun r9 w3=>
 ∃ a7 l7 c7 n8,r9=.tuple #[.slice a7 l7 c7,.int .i64 n8]∧
 nn p2 (fun q10=>
 ∃ n11,w3.cell? (Addr.add q10 2)=some (.int .i64 n11)∧
 inI (n11+(((l7:Nat):Int)))∧
 nn p2 (fun q12=>
 stC (Addr.add q12 2) (.int .i64 (n11+(((l7:Nat):Int)))) w3 (fun w4=>
 Q (.slice a7 l7 c7) w4)))))
theorem C365 {p1 p2 n3 Q w} (h:L365 p1 p2 n3 Q w):CallR Tryz.prog 365 [.agg #[.pointer p1],.pointer p2,.int .i64 n3] w Q:=
 fC A365 Tryz.func365 rfl (by kernel_rfl) (Eq.mp (by kernel_rfl) h)
def A366:Ann:=⟨[],[],[],[],[],[]⟩
def L366 (p1 p2:Option Addr) (n3:Int) (Q:Value→World→Prop) (w:World):Prop:=
 let w1:=w.alloc (.cells #[.pointer p1] 299);
 ∃ p4,w1.cell? (Addr.mk w.heap.size 0 none)=some (.pointer p4)∧
 CQ 369 [.agg #[.pointer p4],.pointer p2] w1 (fun r6 w2=>
 ∃ n5,r6=.int .i64 n5∧
 inI ((1048576:Int) - n5)∧
 cond (decide (((1048576:Int) - n5) > 0))
 (Q (.tuple #[.int .i64 (mn n3 ((1048576:Int) - n5)),.int .i64 0]) w2)
 (Q (.tuple #[.int .i64 0,.int .i64 31]) w2))
theorem C366 {p1 p2 n3 Q w} (h:L366 p1 p2 n3 Q w):CallR Tryz.prog 366 [.agg #[.pointer p1],.pointer p2,.int .i64 n3] w Q:=
 fC A366 Tryz.func366 rfl (by kernel_rfl) (Eq.mp (by kernel_rfl) h)
def A367:Ann:=⟨[],[],[],[(3,[0,1,2,3,4,5,6,7])],[],[]⟩
def L367 (p1 p2 a3:Option Addr) (l3 c3:Nat) (n4:Int) (Q:Value→World→Prop) (w:World):Prop:=
 let w1:=w.alloc (.cells #[.pointer p1] 299);
 (0≤(mn (((l3:Nat):Int)) n4:Int)∧(mn (((l3:Nat):Int)) n4:Int)≤((c3:Nat):Int))∧
 ∃ p5,w1.cell? (Addr.mk w.heap.size 0 none)=some (.pointer p5)∧
 CQ 369 [.agg #[.pointer p5],.pointer p2] w1 (fun r7 w2=>
 ∃ n6,r7=.int .i64 n6∧
 nn p2 (fun q8=>
 stC (Addr.add q8 2) (.int .i64 n6) w2 (fun w3=>
 let w4:=w3.drew;
 ∃ p9,w4.cell? (Addr.mk w.heap.size 0 none)=some (.pointer p9)∧
 nn p2 (fun q10=>
 ∃ n11,w4.cell? (Addr.add q10 2)=some (.int .i64 n11)∧
 CQ 370 [.pointer p9,.int .i64 n11,.slice a3 (Int.toNat (mn (((l3:Nat):Int)) n4)) c3] w4 (fun r13 w5=>
 ∃ n12,r13=.int .i64 n12∧
 nn p2 (fun q14=>
 ∃ n15,w5.cell? (Addr.add q14 2)=some (.int .i64 n15)∧
 inI (n15+(((Int.toNat (mn (((l3:Nat):Int)) n4):Nat):Int)))∧
 nn p2 (fun q16=>
 stC (Addr.add q16 2) (.int .i64 (n15+(((Int.toNat (mn (((l3:Nat):Int)) n4):Nat):Int)))) w5 (fun w6=>
 Q (.int .i64 (((Int.toNat (mn (((l3:Nat):Int)) n4):Nat):Int))) w6))))))))
theorem C367 {p1 p2 a3 l3 c3 n4 Q w} (h:L367 p1 p2 a3 l3 c3 n4 Q w):CallR Tryz.prog 367 [.agg #[.pointer p1],.pointer p2,.slice a3 l3 c3,.int .i64 n4] w Q:=
 fC A367 Tryz.func367 rfl (by kernel_rfl) (Eq.mp (by kernel_rfl) h)
def A369:Ann:=⟨[],[],[],[],[],[]⟩
def L369 (p1 p2:Option Addr) (Q:Value→World→Prop) (w:World):Prop:=
 let w1:=w.alloc (.cells #[.pointer p1] 299);
 nn p2 (fun q3=>
 ∃ n4,w1.cell? (Addr.add q3 1)=some (.int .i64 n4)∧
 cond ((IntKind.wrap .i64 ↑(BitVec.ofInt (IntKind.bits .i64) n4 &&& BitVec.ofInt (IntKind.bits .i64) 4).toNat) != 0)
 (∃ p5,w1.cell? (Addr.mk w.heap.size 0 none)=some (.pointer p5)∧
 CQ 238 [.pointer p5] w1 (fun r7 w2=>
 ∃ n6,r7=.int .i64 n6∧
 Q (.int .i64 n6) w2))
 (nn p2 (fun q8=>
 ∃ n9,w1.cell? (Addr.add q8 2)=some (.int .i64 n9)∧
 Q (.int .i64 n9) w1)))
theorem C369 {p1 p2 Q w} (h:L369 p1 p2 Q w):CallR Tryz.prog 369 [.agg #[.pointer p1],.pointer p2] w Q:=
 fC A369 Tryz.func369 rfl (by kernel_rfl) (Eq.mp (by kernel_rfl) h)
def A120:Ann:=⟨[],[],[],[],[],[]⟩
def L120 (n1 n2:Int) (Q:Value→World→Prop) (w:World):Prop:=
 let w1:=w.alloc (.cells #[.int .i64 n1,.int .i64 n2] 127);
 ∃ n3,w1.cell? (Addr.mk w.heap.size 0 none)=some (.int .i64 n3)∧
 cond (n3 == 1)
 (∃ n4,w1.cell? (Addr.mk w.heap.size 1 none)=some (.int .i64 n4)∧
 cond (decide (n4≥1))
 (∃ n5,w1.cell? (Addr.mk w.heap.size 1 none)=some (.int .i64 n5)∧
 Q (.bool (decide (n5≤1048576))) w1)
 (Q (.bool false) w1))
 (cond (n3 == 0)
 (cond (n3 == 0)
 (∃ n6,w1.cell? (Addr.mk w.heap.size 1 none)=some (.int .i64 n6)∧
 Q (.bool (n6 == 0)) w1)
 (Q (.bool false) w1))
 (cond (n3 == 2)
 (cond (n3 == 2)
 (∃ n7,w1.cell? (Addr.mk w.heap.size 1 none)=some (.int .i64 n7)∧
 Q (.bool (n7 == 0)) w1)
 (Q (.bool false) w1))
 (cond (n3 == 3)
 (∃ n8,w1.cell? (Addr.mk w.heap.size 1 none)=some (.int .i64 n8)∧
 Q (.bool (n8 == 0)) w1)
 (Q (.bool false) w1))))
theorem C120 {n1 n2 Q w} (h:L120 n1 n2 Q w):CallR Tryz.prog 120 [.agg #[.int .i64 n1,.int .i64 n2]] w Q:=
 fC A120 Tryz.func120 rfl (by kernel_rfl) (Eq.mp (by kernel_rfl) h)
def A56:Ann:=⟨[],[],[],[],[],[]⟩
def L56 (a1:Option Addr) (l1 c1:Nat) (Q:Value→World→Prop) (w:World):Prop:=
 cond (decide ((((l1:Nat):Int)) > 4096))
 (Q (.tuple #[.int .i64 3,.int .i64 0]) w)
 (CQ 118 [.slice a1 l1 c1,.func (.func 119) #[] #[]] w (fun r3 w1=>
 ∃ n2,r3=.int .i64 n2∧
 cond (decide (n2≥0))
 (Q (.tuple #[.int .i64 21,.int .i64 n2]) w1)
 (Q (.tuple #[.int .i64 0,.int .i64 (((l1:Nat):Int))]) w1)))
theorem C56 {a1 l1 c1 Q w} (h:L56 a1 l1 c1 Q w):CallR Tryz.prog 56 [.slice a1 l1 c1] w Q:=
 fC A56 Tryz.func56 rfl (by kernel_rfl) (Eq.mp (by kernel_rfl) h)
def A119:Ann:=⟨[],[],[],[],[],[]⟩
def L119 (n1 n2:Int) (Q:Value→World→Prop) (w:World):Prop:=
 let w1:=w.alloc (.cells #[.int .i64 n1,.int .i64 n2] 127);
 ∃ n3 n4,w1.cell? (Addr.mk w.heap.size 0 none)=some (.int .i64 n3)∧w1.cell? (Addr.mk w.heap.size 1 none)=some (.int .i64 n4)∧
 CQ 120 [.agg #[.int .i64 n3,.int .i64 n4]] w1 (fun r6 w2=>
 ∃ b5,r6=.bool b5∧
 Q (.bool (!b5)) w2)
theorem C119 {n1 n2 Q w} (h:L119 n1 n2 Q w):CallR Tryz.prog 119 [.agg #[.int .i64 n1,.int .i64 n2]] w Q:=
 fC A119 Tryz.func119 rfl (by kernel_rfl) (Eq.mp (by kernel_rfl) h)
def A20:Ann:=⟨[],[],[],[],[],[]⟩
def L20 (a1:Option Addr) (l1 c1:Nat) (Q:Value→World→Prop) (w:World):Prop:=
 CQ 56 [.slice a1 l1 c1] w (fun r4 w1=>
 ∃ n2 n3,r4=.tuple #[.int .i64 n2,.int .i64 n3]∧
 cond (n2 != 0)
 (Q (.tuple #[.pointer none,.int .i64 n2]) w1)
 (CQ 57 [.slice a1 l1 c1] w1 (fun r6 w2=>
 ∃ a5 l5 c5,r6=.slice a5 l5 c5∧
 let w3:=w2.alloc (.cells #[.bool true,.slice a5 l5 c5] 129);
 Q (.tuple #[.pointer (some (Addr.mk w2.heap.size 0 none)),.int .i64 0]) w3)))
theorem C20 {a1 l1 c1 Q w} (h:L20 a1 l1 c1 Q w):CallR Tryz.prog 20 [.slice a1 l1 c1] w Q:=
 fC A20 Tryz.func20 rfl (by kernel_rfl) (Eq.mp (by kernel_rfl) h)
def A237:Ann:=⟨[],[(8,[])],[],[],[(7,[0,1,2,3,4,5,6,7,8,9,10,11,12,13,14],15,[])],[]⟩
def L237 (p1:Option Addr) (n2:Int) (Q:Value→World→Prop) (w:World):Prop:=
 cond (Option.isNone p1)
 (Q (.tuple #[.int .i64 0,.int .i64 2]) w)
 (nn p1 (fun q3=>
 ∃ b4,w.cell? q3=some (.bool b4)∧
 cond (!b4)
 (Q (.tuple #[.int .i64 0,.int .i64 2]) w)
 (cond (decide (n2< 1))
 (Q (.tuple #[.int .i64 0,.int .i64 4]) w)
 (cond (decide (n2 > 1048576))
 (Q (.tuple #[.int .i64 0,.int .i64 4]) w)
 (let w1:=w.alloc (.cells #[.int .i64 0,.int .i64 0] 127);
 ∃ (J5:List Value→World→Prop),
 (nn p1 (fun q6=>
 ∃ a7 l7 c7,w1.cell? (Addr.add q6 1)=some (.slice a7 l7 c7)∧
 cond (decide ((((l7:Nat):Int)) > 0))
 (∃ (S8:World→Prop),S8 (w1.drew)∧
 let w2:=w1.drew;
 nn p1 (fun q9=>
 ∃ a10 l10 c10,(∀ wS:World,S8 wS→wS.cell? (Addr.add q9 1)=some (.slice a10 l10 c10))∧
 (0≤(0:Int)∧(0:Int)< ((l10:Nat):Int))∧
 nn a10 (fun q11=>
 ∃ n12 n13,(∀ wS:World,S8 wS→wS.cell? (Addr.add q11 (Int.toNat 0 * 2))=some (.int .i64 n12)∧wS.cell? (Addr.add (Addr.add q11 (Int.toNat 0 * 2)) 1)=some (.int .i64 n13)∧True)∧
 nn p1 (fun q14=>
 ∃ a15 l15 c15,(∀ wS:World,S8 wS→wS.cell? (Addr.add q14 1)=some (.slice a15 l15 c15))∧
 (0≤(1:Int)∧(1:Int)≤((l15:Nat):Int))∧
 stC (Addr.mk w.heap.size 0 none) (.int .i64 n12) w2 (fun w3=>
 stC (Addr.mk w.heap.size 1 none) (.int .i64 n13) w3 (fun w4=>
 S8 w4∧
 nn p1 (fun q16=>
 stC (Addr.add q16 1) (.slice (adv a15 (Int.toNat 1) c15 2) (l15 - Int.toNat 1) (c15 - Int.toNat 1)) w4 (fun w5=>
 J5 [] w5))))))))
 (J5 [] w1)))∧
 (∀ (_:Env) (w6:World),J5 [] w6→
 ∃ n17,w6.cell? (Addr.mk w.heap.size 0 none)=some (.int .i64 n17)∧
 cond (n17 == 1)
 (∃ n18,w6.cell? (Addr.mk w.heap.size 1 none)=some (.int .i64 n18)∧
 Q (.tuple #[.int .i64 (mn n2 n18),.int .i64 0]) w6)
 (cond (n17 == 2)
 (Q (.tuple #[.int .i64 0,.int .i64 22]) w6)
 (cond (n17 == 3)
 (Q (.tuple #[.int .i64 0,.int .i64 23]) w6)
 (Q (.tuple #[.int .i64 n2,.int .i64 0]) w6)))))))))
theorem C237 {p1 n2 Q w} (h:L237 p1 n2 Q w):CallR Tryz.prog 237 [.pointer p1,.int .i64 n2] w Q:=
 fC A237 Tryz.func237 rfl (by kernel_rfl) (Eq.mp (by kernel_rfl) h)
def A118:Ann:=⟨[(2,[(8,.one (.int .i64))])],[],[],[],[],[]⟩
def L118 (a1:Option Addr) (l1 c1:Nat) (v2:Value) (Q:Value→World→Prop) (w:World):Prop:=
 ∃ (I3:List Value→World→Prop) (mu4:List Value→World→Nat),
 I3 [.int .i64 0] w∧
 ∀ (_:Env) (n5:Int) (w1:World),I3 [.int .i64 n5] w1→
 cond (decide (n5< (((l1:Nat):Int))))
 ((0≤(n5:Int)∧(n5:Int)< ((l1:Nat):Int))∧
 nn a1 (fun q6=>
 ∃ n7 n8,w1.cell? (Addr.add q6 (Int.toNat n5 * 2))=some (.int .i64 n7)∧w1.cell? (Addr.add (Addr.add q6 (Int.toNat n5 * 2)) 1)=some (.int .i64 n8)∧
 ∃ (k9:FuncId) (xs10:Array Value) (xs11:Array Value),(v2:Value)=.func (.func k9) xs10 xs11∧bodyB Tryz.prog k9=true∧
 CQ k9 (Array.toList xs10 ++ ([.agg #[.int .i64 n7,.int .i64 n8]] ++ Array.toList xs11)) w1 (fun r13 w2=>
 ∃ b12,r13=.bool b12∧
 cond b12
 (Q (.int .i64 n5) w2)
 (inI (n5+1)∧
 I3 [.int .i64 (n5+1)] w2∧mu4 [.int .i64 (n5+1)] w2< mu4 [.int .i64 n5] w1))))
 (Q (.int .i64 ((-1))) w1)
theorem C118 {a1 l1 c1 v2 Q w} (h:L118 a1 l1 c1 v2 Q w):CallR Tryz.prog 118 [.slice a1 l1 c1,v2] w Q:=
 fC A118 Tryz.func118 rfl (by kernel_rfl) (Eq.mp (by kernel_rfl) h)
def A57:Ann:=⟨[],[],[],[],[],[]⟩
def L57 (a1:Option Addr) (l1 c1:Nat) (Q:Value→World→Prop) (w:World):Prop:=
 cond (Option.isNone a1)
 (Q (.slice none 0 0) w)
 (let w1:=w.alloc (.cells #[] 127);
 ∃ a2 l2 c2 w2,Sem.run Tryz.prog (Builtin.append_ #[23,23] 23 #[.slice (some (Addr.mk w.heap.size 0 none)) 0 0,.slice a1 l1 c1]) w1=.ok (.slice a2 l2 c2) w2∧
 Q (.slice a2 l2 c2) w2)
theorem C57 {a1 l1 c1 Q w} (h:L57 a1 l1 c1 Q w):CallR Tryz.prog 57 [.slice a1 l1 c1] w Q:=
 fC A57 Tryz.func57 rfl (by kernel_rfl) (Eq.mp (by kernel_rfl) h)
def A226:Ann:=⟨[(2,[(7,.one (.int .i64))])],[],[],[],[],[]⟩
def L226 (a1:Option Addr) (l1 c1:Nat) (Q:Value→World→Prop) (w:World):Prop:=
 ∃ (I2:List Value→World→Prop) (mu3:List Value→World→Nat),
 I2 [.int .i64 0] w∧
 ∀ (_:Env) (n4:Int) (w1:World),I2 [.int .i64 n4] w1→
 cond (decide (n4< (((l1:Nat):Int))))
 ((0≤(n4:Int)∧(n4:Int)< ((l1:Nat):Int))∧
 nn a1 (fun q5=>
 ∃ n6,w1.cell? (Addr.add q5 (Int.toNat n4))=some (.int .i64 n6)∧
 cond (decide (n6< 0))
 (Q (.bool false) w1)
 (cond (decide (n6 > 1048576))
 (Q (.bool false) w1)
 (inI (n4+1)∧
 I2 [.int .i64 (n4+1)] w1∧mu3 [.int .i64 (n4+1)] w1< mu3 [.int .i64 n4] w1))))
 (Q (.bool true) w1)
theorem C226 {a1 l1 c1 Q w} (h:L226 a1 l1 c1 Q w):CallR Tryz.prog 226 [.slice a1 l1 c1] w Q:=
 fC A226 Tryz.func226 rfl (by kernel_rfl) (Eq.mp (by kernel_rfl) h)
def A227:Ann:=⟨[],[],[],[(1,[0,1,2,3,4,5,6,7,8,9,10,11,12,13,14,15])],[],[]⟩
def L227 (p1:Option Addr) (n2:Int) (Q:Value→World→Prop) (w:World):Prop:=
 nn p1 (fun q3=>
 ∃ a4 l4 c4,w.cell? (Addr.add q3 1)=some (.slice a4 l4 c4)∧
 cond (decide (n2 > (((l4:Nat):Int))))
 (let w1:=w.drew;
 nn p1 (fun q5=>
 ∃ a6 l6 c6,w1.cell? (Addr.add q5 1)=some (.slice a6 l6 c6)∧
 nn p1 (fun q7=>
 ∃ a8 l8 c8,w1.cell? (Addr.add q7 1)=some (.slice a8 l8 c8)∧
 inI (n2 - (((l8:Nat):Int)))∧
 ∃ a9 l9 c9 w2,Sem.run Tryz.prog (Builtin.append_ #[34,3] 34 #[.slice a6 l6 c6,.int .i64 (n2 - (((l8:Nat):Int)))]) w1=.ok (.slice a9 l9 c9) w2∧
 nn p1 (fun q10=>
 stC (Addr.add q10 1) (.slice a9 l9 c9) w2 (fun w3=>
 Q (.tuple #[]) w3)))))
 (Q (.tuple #[]) w))
theorem C227 {p1 n2 Q w} (h:L227 p1 n2 Q w):CallR Tryz.prog 227 [.pointer p1,.int .i64 n2] w Q:=
 fC A227 Tryz.func227 rfl (by kernel_rfl) (Eq.mp (by kernel_rfl) h)
def A21:Ann:=⟨[],[],[],[],[],[]⟩
def L21 (a1:Option Addr) (l1 c1:Nat) (Q:Value→World→Prop) (w:World):Prop:=
 cond (decide ((((l1:Nat):Int)) > 1048576))
 (Q (.tuple #[.pointer none,.int .i64 5]) w)
 (CQ 47 [.slice a1 l1 c1] w (fun r3 w1=>
 ∃ a2 l2 c2,r3=.slice a2 l2 c2∧
 let w2:=w1.alloc (.cells #[.bool true,.slice a2 l2 c2] 131);
 Q (.tuple #[.pointer (some (Addr.mk w1.heap.size 0 none)),.int .i64 0]) w2))
theorem C21 {a1 l1 c1 Q w} (h:L21 a1 l1 c1 Q w):CallR Tryz.prog 21 [.slice a1 l1 c1] w Q:=
 fC A21 Tryz.func21 rfl (by kernel_rfl) (Eq.mp (by kernel_rfl) h)
def A370:Ann:=⟨[],[],[],[],[],[]⟩
def L370 (p1:Option Addr) (n2:Int) (a3:Option Addr) (l3 c3:Nat) (Q:Value→World→Prop) (w:World):Prop:=
 cond (Option.isNone p1)
 (Q (.int .i64 2) w)
 (nn p1 (fun q4=>
 ∃ b5,w.cell? q4=some (.bool b5)∧
 cond (!b5)
 (Q (.int .i64 2) w)
 (let w1:=w.alloc (.cells #[.int .i64 n2] 3);
 CQ 226 [.slice (some (Addr.mk w.heap.size 0 none)) 1 1] w1 (fun r7 w2=>
 ∃ b6,r7=.bool b6∧
 cond (!b6)
 (Q (.int .i64 4) w2)
 (inI ((1048576:Int) - n2)∧
 cond (decide ((((l3:Nat):Int)) > ((1048576:Int) - n2)))
 (Q (.int .i64 31) w2)
 (cond ((((l3:Nat):Int)) == 0)
 (Q (.int .i64 0) w2)
 (inI (n2+(((l3:Nat):Int)))∧
 CQ 227 [.pointer p1,.int .i64 (n2+(((l3:Nat):Int)))] w2 (fun r8 w3=>
 r8=.tuple #[]∧
 nn p1 (fun q9=>
 ∃ a10 l10 c10,w3.cell? (Addr.add q9 1)=some (.slice a10 l10 c10)∧
 (0≤(n2:Int)∧(n2:Int)≤((l10:Nat):Int))∧
 ∃ n11 w4,Sem.run Tryz.prog (Builtin.copy_ #[34,34] 3 #[.slice (adv a10 (Int.toNat n2) c10 1) (l10 - Int.toNat n2) (c10 - Int.toNat n2),.slice a3 l3 c3]) w3=.ok (.int .i64 n11) w4∧
 Q (.int .i64 0) w4)))))))))
theorem C370 {p1 n2 a3 l3 c3 Q w} (h:L370 p1 n2 a3 l3 c3 Q w):CallR Tryz.prog 370 [.pointer p1,.int .i64 n2,.slice a3 l3 c3] w Q:=
 fC A370 Tryz.func370 rfl (by kernel_rfl) (Eq.mp (by kernel_rfl) h)
def A238:Ann:=⟨[],[],[],[],[],[]⟩
def L238 (p1:Option Addr) (Q:Value→World→Prop) (w:World):Prop:=
 cond (Option.isNone p1)
 (Q (.int .i64 0) w)
 (nn p1 (fun q2=>
 ∃ a3 l3 c3,w.cell? (Addr.add q2 1)=some (.slice a3 l3 c3)∧
 Q (.int .i64 (((l3:Nat):Int))) w))
theorem C238 {p1 Q w} (h:L238 p1 Q w):CallR Tryz.prog 238 [.pointer p1] w Q:=
 fC A238 Tryz.func238 rfl (by kernel_rfl) (Eq.mp (by kernel_rfl) h)
def A368:Ann:=⟨[],[],[],[(6,[0,1,2,3,4,5,6,7,8,9,10,11,12,13,14,15,16,17])],[],[]⟩
def L368 (p1:Option Addr) (n2 n3:Int) (Q:Value→World→Prop) (w:World):Prop:=
 cond (Option.isNone p1)
 (Q (.tuple #[.slice none 0 0,.int .i64 2]) w)
 (nn p1 (fun q4=>
 ∃ b5,w.cell? q4=some (.bool b5)∧
 cond (!b5)
 (Q (.tuple #[.slice none 0 0,.int .i64 2]) w)
 (let w1:=w.alloc (.cells #[.int .i64 n2,.int .i64 n3] 3);
 CQ 226 [.slice (some (Addr.mk w.heap.size 0 none)) 2 2] w1 (fun r7 w2=>
 ∃ b6,r7=.bool b6∧
 cond (!b6)
 (Q (.tuple #[.slice none 0 0,.int .i64 4]) w2)
 (nn p1 (fun q8=>
 ∃ a9 l9 c9,w2.cell? (Addr.add q8 1)=some (.slice a9 l9 c9)∧
 let w3:=w2.drew;
 nn p1 (fun q10=>
 ∃ a11 l11 c11,w3.cell? (Addr.add q10 1)=some (.slice a11 l11 c11)∧
 inI ((mn n2 (((l9:Nat):Int)))+n3)∧
 nn p1 (fun q12=>
 ∃ a13 l13 c13,w3.cell? (Addr.add q12 1)=some (.slice a13 l13 c13)∧
 (0≤(mn ((mn n2 (((l9:Nat):Int)))+n3) (((l13:Nat):Int)):Int)∧(mn ((mn n2 (((l9:Nat):Int)))+n3) (((l13:Nat):Int)):Int)≤((c11:Nat):Int))∧
 (0≤(mn n2 (((l9:Nat):Int)):Int)∧(mn n2 (((l9:Nat):Int)):Int)≤((Int.toNat (mn ((mn n2 (((l9:Nat):Int)))+n3) (((l13:Nat):Int))):Nat):Int))∧
 CQ 47 [.slice (adv a11 (Int.toNat (mn n2 (((l9:Nat):Int)))) c11 1) (Int.toNat (mn ((mn n2 (((l9:Nat):Int)))+n3) (((l13:Nat):Int))) - Int.toNat (mn n2 (((l9:Nat):Int)))) (c11 - Int.toNat (mn n2 (((l9:Nat):Int))))] w3 (fun r15 w4=>
 ∃ a14 l14 c14,r15=.slice a14 l14 c14∧
 Q (.tuple #[.slice a14 l14 c14,.int .i64 0]) w4)))))))))
theorem C368 {p1 n2 n3 Q w} (h:L368 p1 n2 n3 Q w):CallR Tryz.prog 368 [.pointer p1,.int .i64 n2,.int .i64 n3] w Q:=
 fC A368 Tryz.func368 rfl (by kernel_rfl) (Eq.mp (by kernel_rfl) h)
def A190:Ann:=⟨[],[],[],[],[],[]⟩
def L190 (p1:Option Addr) (n2:Int) (Q:Value→World→Prop) (w:World):Prop:=
 cond (Option.isNone p1)
 (Q (.int .i64 2) w)
 (nn p1 (fun q3=>
 ∃ b4,w.cell? q3=some (.bool b4)∧
 cond (!b4)
 (Q (.int .i64 2) w)
 (let w1:=w.alloc (.cells #[.int .i64 n2] 3);
 CQ 226 [.slice (some (Addr.mk w.heap.size 0 none)) 1 1] w1 (fun r6 w2=>
 ∃ b5,r6=.bool b5∧
 cond (!b5)
 (Q (.int .i64 4) w2)
 (CQ 227 [.pointer p1,.int .i64 n2] w2 (fun r7 w3=>
 r7=.tuple #[]∧
 nn p1 (fun q8=>
 ∃ a9 l9 c9,w3.cell? (Addr.add q8 1)=some (.slice a9 l9 c9)∧
 (0≤(n2:Int)∧(n2:Int)≤((c9:Nat):Int))∧
 (0≤(n2:Int)∧(n2:Int)≤((Int.toNat n2:Nat):Int))∧
 nn p1 (fun q10=>
 stC (Addr.add q10 1) (.slice a9 (Int.toNat n2) (Int.toNat n2)) w3 (fun w4=>
 Q (.int .i64 0) w4)))))))))
theorem C190 {p1 n2 Q w} (h:L190 p1 n2 Q w):CallR Tryz.prog 190 [.pointer p1,.int .i64 n2] w Q:=
 fC A190 Tryz.func190 rfl (by kernel_rfl) (Eq.mp (by kernel_rfl) h)
def A111:Ann:=⟨[],[],[],[],[],[]⟩
def L111 (p1:Option Addr) (Q:Value→World→Prop) (w:World):Prop:=
 cond (Option.isNone p1)
 (Q (.slice none 0 0) w)
 (nn p1 (fun q2=>
 ∃ a3 l3 c3,w.cell? (Addr.add q2 1)=some (.slice a3 l3 c3)∧
 CQ 47 [.slice a3 l3 c3] w (fun r5 w1=>
 ∃ a4 l4 c4,r5=.slice a4 l4 c4∧
 Q (.slice a4 l4 c4) w1)))
theorem C111 {p1 Q w} (h:L111 p1 Q w):CallR Tryz.prog 111 [.pointer p1] w Q:=
 fC A111 Tryz.func111 rfl (by kernel_rfl) (Eq.mp (by kernel_rfl) h)
def A234:Ann:=⟨[],[],[],[],[],[]⟩
def L234 (p1:Option Addr) (Q:Value→World→Prop) (w:World):Prop:=
 cond (Option.isNone p1)
 (Q (.bool true) w)
 (nn p1 (fun q2=>
 ∃ b3,w.cell? (Addr.add q2 4098)=some (.bool b3)∧
 Q (.bool (!b3)) w))
theorem C234 {p1 Q w} (h:L234 p1 Q w):CallR Tryz.prog 234 [.pointer p1] w Q:=
 fC A234 Tryz.func234 rfl (by kernel_rfl) (Eq.mp (by kernel_rfl) h)
def A373:Ann:=⟨[(3,[(11,.one (.int .i64))])],[],[],[(5,[0,1,2,3,4,5,6,7,8,9,10,11,12,13,14,15])],[],[]⟩
def L373 (p1:Option Addr) (n2:Int) (Q:Value→World→Prop) (w:World):Prop:=
 ∃ a3 l3 c3 w1,Sem.run Tryz.prog (Instr.makeSlice 34 (.int .i64 n2) (.int .i64 n2)) w=.ok (.slice a3 l3 c3) w1∧
 ∃ (I4:List Value→World→Prop) (mu5:List Value→World→Nat),
 I4 [.int .i64 0] w1∧
 ∀ (_:Env) (n6:Int) (w2:World),I4 [.int .i64 n6] w2→
 cond (decide (n6< (((l3:Nat):Int))))
 (let w3:=w2.drew;
 nn p1 (fun q7=>
 ∃ n8,w3.cell? (Addr.add q7 4096)=some (.int .i64 n8)∧
 inI (n8+n6)∧
 (4096:Int)≠0∧
 nn p1 (fun q9=>
 (0≤(Int.tmod (n8+n6) (4096:Int):Int)∧(Int.tmod (n8+n6) (4096:Int):Int)< ((4096:Nat):Int))∧
 ∃ n10,w3.cell? (Addr.add q9 (Int.toNat (Int.tmod (n8+n6) (4096:Int))))=some (.int .u8 n10)∧
 (0≤(n6:Int)∧(n6:Int)< ((l3:Nat):Int))∧
 nn a3 (fun q11=>
 stC (Addr.add q11 (Int.toNat n6)) (.int .u8 n10) w3 (fun w4=>
 inI (n6+1)∧
 I4 [.int .i64 (n6+1)] w4∧mu5 [.int .i64 (n6+1)] w4< mu5 [.int .i64 n6] w2)))))
 (Q (.slice a3 l3 c3) w2)
theorem C373 {p1 n2 Q w} (h:L373 p1 n2 Q w):CallR Tryz.prog 373 [.pointer p1,.int .i64 n2] w Q:=
 fC A373 Tryz.func373 rfl (by kernel_rfl) (Eq.mp (by kernel_rfl) h)
def A374:Ann:=⟨[],[],[],[],[],[]⟩
def L374 (p1:Option Addr) (n2:Int) (Q:Value→World→Prop) (w:World):Prop:=
 nn p1 (fun q3=>
 ∃ n4,w.cell? (Addr.add q3 4096)=some (.int .i64 n4)∧
 inI (n4+n2)∧
 (4096:Int)≠0∧
 nn p1 (fun q5=>
 stC (Addr.add q5 4096) (.int .i64 (Int.tmod (n4+n2) (4096:Int))) w (fun w1=>
 nn p1 (fun q6=>
 ∃ n7,w1.cell? (Addr.add q6 4097)=some (.int .i64 n7)∧
 inI (n7 - n2)∧
 nn p1 (fun q8=>
 stC (Addr.add q8 4097) (.int .i64 (n7 - n2)) w1 (fun w2=>
 Q (.tuple #[]) w2))))))
theorem C374 {p1 n2 Q w} (h:L374 p1 n2 Q w):CallR Tryz.prog 374 [.pointer p1,.int .i64 n2] w Q:=
 fC A374 Tryz.func374 rfl (by kernel_rfl) (Eq.mp (by kernel_rfl) h)
def A376:Ann:=⟨[(1,[(8,.one (.int .i64))])],[],[],[(3,[0,1,2,3,4,5,6,7,8,9,10,11,12,13,14,15])],[],[]⟩
def L376 (p1 a2:Option Addr) (l2 c2:Nat) (Q:Value→World→Prop) (w:World):Prop:=
 ∃ (I3:List Value→World→Prop) (mu4:List Value→World→Nat),
 I3 [.int .i64 0] w∧
 ∀ (_:Env) (n5:Int) (w1:World),I3 [.int .i64 n5] w1→
 cond (decide (n5< (((l2:Nat):Int))))
 ((0≤(n5:Int)∧(n5:Int)< ((l2:Nat):Int))∧
 nn a2 (fun q6=>
 ∃ n7,w1.cell? (Addr.add q6 (Int.toNat n5))=some (.int .u8 n7)∧
 let w2:=w1.drew;
 nn p1 (fun q8=>
 ∃ n9,w2.cell? (Addr.add q8 4096)=some (.int .i64 n9)∧
 nn p1 (fun q10=>
 ∃ n11,w2.cell? (Addr.add q10 4097)=some (.int .i64 n11)∧
 inI (n9+n11)∧
 (4096:Int)≠0∧
 nn p1 (fun q12=>
 (0≤(Int.tmod (n9+n11) (4096:Int):Int)∧(Int.tmod (n9+n11) (4096:Int):Int)< ((4096:Nat):Int))∧
 stC (Addr.add q12 (Int.toNat (Int.tmod (n9+n11) (4096:Int)))) (.int .u8 n7) w2 (fun w3=>
 nn p1 (fun q13=>
 ∃ n14,w3.cell? (Addr.add q13 4097)=some (.int .i64 n14)∧
 inI (n14+1)∧
 nn p1 (fun q15=>
 stC (Addr.add q15 4097) (.int .i64 (n14+1)) w3 (fun w4=>
 inI (n5+1)∧
 I3 [.int .i64 (n5+1)] w4∧mu4 [.int .i64 (n5+1)] w4< mu4 [.int .i64 n5] w1)))))))))
 (Q (.tuple #[]) w1)
theorem C376 {p1 a2 l2 c2 Q w} (h:L376 p1 a2 l2 c2 Q w):CallR Tryz.prog 376 [.pointer p1,.slice a2 l2 c2] w Q:=
 fC A376 Tryz.func376 rfl (by kernel_rfl) (Eq.mp (by kernel_rfl) h)
def A377:Ann:=⟨[],[],[],[],[],[]⟩
def L377 (p1:Option Addr) (Q:Value→World→Prop) (w:World):Prop:=
 nn p1 (fun q2=>
 ∃ n3,w.cell? (Addr.add q2 4097)=some (.int .i64 n3)∧
 inI ((4096:Int) - n3)∧
 Q (.int .i64 ((4096:Int) - n3)) w)
theorem C377 {p1 Q w} (h:L377 p1 Q w):CallR Tryz.prog 377 [.pointer p1] w Q:=
 fC A377 Tryz.func377 rfl (by kernel_rfl) (Eq.mp (by kernel_rfl) h)
def A235:Ann:=⟨[],[],[],[],[],[]⟩
def L235 (b1:Bool) (Q:Value→World→Prop) (w:World):Prop:=
 cond b1
 (Q (.int .i64 1) w)
 (Q (.int .i64 0) w)
theorem C235 {b1 Q w} (h:L235 b1 Q w):CallR Tryz.prog 235 [.bool b1] w Q:=
 fC A235 Tryz.func235 rfl (by kernel_rfl) (Eq.mp (by kernel_rfl) h)
def A375:Ann:=⟨[],[],[],[],[],[]⟩
def L375 (p1:Option Addr) (n2:Int) (Q:Value→World→Prop) (w:World):Prop:=
 cond (decide (n2≤512))
 (nn p1 (fun q3=>
 CQ 377 [.pointer (some q3)] w (fun r5 w1=>
 ∃ n4,r5=.int .i64 n4∧
 cond (decide (n4< n2))
 (Q (.int .i64 0) w1)
 (nn p1 (fun q6=>
 CQ 377 [.pointer (some q6)] w1 (fun r8 w2=>
 ∃ n7,r8=.int .i64 n7∧
 Q (.int .i64 (mn n2 n7)) w2))))))
 (nn p1 (fun q9=>
 CQ 377 [.pointer (some q9)] w (fun r11 w3=>
 ∃ n10,r11=.int .i64 n10∧
 Q (.int .i64 (mn n2 n10)) w3)))
theorem C375 {p1 n2 Q w} (h:L375 p1 n2 Q w):CallR Tryz.prog 375 [.pointer p1,.int .i64 n2] w Q:=
 fC A375 Tryz.func375 rfl (by kernel_rfl) (Eq.mp (by kernel_rfl) h)
def A383:Ann:=⟨[],[],[],[(3,[0,1,3,4,2,5,6,7,8]),(5,[0,1,3,4,8,9,2,5,6,7,10,11])],[],[]⟩
def L383 (p1:Option Addr) (b2:Bool) (Q:Value→World→Prop) (w:World):Prop:=
 CQ 234 [.pointer p1] w (fun r4 w1=>
 ∃ b3,r4=.bool b3∧
 cond b3
 (Q (.int .i64 2) w1)
 (let w2:=w1.drew;
 nn p1 (fun q5=>
 CQ 235 [.bool b2] w2 (fun r7 w3=>
 ∃ n6,r7=.int .i64 n6∧
 (0≤(n6:Int)∧(n6:Int)< ((2:Nat):Int))∧
 ∃ n8,w3.cell? (Addr.add (Addr.add q5 4099) (Int.toNat n6))=some (.int .i64 n8)∧
 cond (n8 == 0)
 (Q (.int .i64 51) w3)
 (let w4:=w3.drew;
 nn p1 (fun q9=>
 nn p1 (fun q10=>
 CQ 235 [.bool b2] w4 (fun r12 w5=>
 ∃ n11,r12=.int .i64 n11∧
 (0≤(n11:Int)∧(n11:Int)< ((2:Nat):Int))∧
 ∃ n13,w5.cell? (Addr.add (Addr.add q9 4099) (Int.toNat n11))=some (.int .i64 n13)∧
 inI (n13 - 1)∧
 (0≤(n11:Int)∧(n11:Int)< ((2:Nat):Int))∧
 stC (Addr.add (Addr.add q10 4099) (Int.toNat n11)) (.int .i64 (n13 - 1)) w5 (fun w6=>
 Q (.int .i64 0) w6)))))))))
theorem C383 {p1 b2 Q w} (h:L383 p1 b2 Q w):CallR Tryz.prog 383 [.pointer p1,.bool b2] w Q:=
 fC A383 Tryz.func383 rfl (by kernel_rfl) (Eq.mp (by kernel_rfl) h)
def A371:Ann:=⟨[],[],[],[],[],[]⟩
def L371 (p1:Option Addr) (n2:Int) (Q:Value→World→Prop) (w:World):Prop:=
 CQ 234 [.pointer p1] w (fun r4 w1=>
 ∃ b3,r4=.bool b3∧
 cond b3
 (Q (.tuple #[.slice none 0 0,.int .i64 2]) w1)
 (cond (decide (n2< 1))
 (Q (.tuple #[.slice none 0 0,.int .i64 4]) w1)
 (cond (decide (n2 > 1048576))
 (Q (.tuple #[.slice none 0 0,.int .i64 4]) w1)
 (nn p1 (fun q5=>
 (0≤(0:Int)∧(0:Int)< ((2:Nat):Int))∧
 ∃ n6,w1.cell? (Addr.add (Addr.add q5 4099) (Int.toNat 0))=some (.int .i64 n6)∧
 cond (n6 == 0)
 (Q (.tuple #[.slice none 0 0,.int .i64 51]) w1)
 (CQ 255 [.pointer p1] w1 (fun r8 w2=>
 ∃ b7,r8=.bool b7∧
 cond (!b7)
 (Q (.tuple #[.slice none 0 0,.int .i64 52]) w2)
 (nn p1 (fun q9=>
 ∃ n10,w2.cell? (Addr.add q9 4097)=some (.int .i64 n10)∧
 nn p1 (fun q11=>
 CQ 373 [.pointer (some q11),.int .i64 (mn n2 n10)] w2 (fun r13 w3=>
 ∃ a12 l12 c12,r13=.slice a12 l12 c12∧
 nn p1 (fun q14=>
 CQ 374 [.pointer (some q14),.int .i64 (mn n2 n10)] w3 (fun r15 w4=>
 r15=.tuple #[]∧
 Q (.tuple #[.slice a12 l12 c12,.int .i64 0]) w4)))))))))))))
theorem C371 {p1 n2 Q w} (h:L371 p1 n2 Q w):CallR Tryz.prog 371 [.pointer p1,.int .i64 n2] w Q:=
 fC A371 Tryz.func371 rfl (by kernel_rfl) (Eq.mp (by kernel_rfl) h)
def A372:Ann:=⟨[],[],[],[(18,[0,1,2,3,4,5,6])],[],[]⟩
def L372 (p1 a2:Option Addr) (l2 c2:Nat) (n3:Int) (Q:Value→World→Prop) (w:World):Prop:=
 CQ 234 [.pointer p1] w (fun r5 w1=>
 ∃ b4,r5=.bool b4∧
 cond b4
 (Q (.tuple #[.int .i64 0,.int .i64 2]) w1)
 (cond (decide ((((l2:Nat):Int)) > 1048576))
 (Q (.tuple #[.int .i64 0,.int .i64 5]) w1)
 (cond (decide (n3< 1))
 (Q (.tuple #[.int .i64 0,.int .i64 4]) w1)
 (cond (decide (n3 > 1048576))
 (Q (.tuple #[.int .i64 0,.int .i64 4]) w1)
 (nn p1 (fun q6=>
 (0≤(1:Int)∧(1:Int)< ((2:Nat):Int))∧
 ∃ n7,w1.cell? (Addr.add (Addr.add q6 4099) (Int.toNat 1))=some (.int .i64 n7)∧
 cond (n7 == 0)
 (Q (.tuple #[.int .i64 0,.int .i64 51]) w1)
 (nn p1 (fun q8=>
 (0≤(0:Int)∧(0:Int)< ((2:Nat):Int))∧
 ∃ n9,w1.cell? (Addr.add (Addr.add q8 4099) (Int.toNat 0))=some (.int .i64 n9)∧
 cond (n9 == 0)
 (Q (.tuple #[.int .i64 0,.int .i64 53]) w1)
 (cond ((((l2:Nat):Int)) == 0)
 (Q (.tuple #[.int .i64 0,.int .i64 0]) w1)
 (CQ 375 [.pointer p1,.int .i64 (((l2:Nat):Int))] w1 (fun r11 w2=>
 ∃ n10,r11=.int .i64 n10∧
 cond (n10 == 0)
 (Q (.tuple #[.int .i64 0,.int .i64 52]) w2)
 (cond (decide ((((l2:Nat):Int)) > 512))
 (let w3:=w2.drew;
 nn p1 (fun q12=>
 (0≤(mn n10 n3:Int)∧(mn n10 n3:Int)≤((c2:Nat):Int))∧
 CQ 376 [.pointer (some q12),.slice a2 (Int.toNat (mn n10 n3)) c2] w3 (fun r13 w4=>
 r13=.tuple #[]∧
 Q (.tuple #[.int .i64 (mn n10 n3),.int .i64 0]) w4)))
 (let w5:=w2.drew;
 nn p1 (fun q14=>
 (0≤(n10:Int)∧(n10:Int)≤((c2:Nat):Int))∧
 CQ 376 [.pointer (some q14),.slice a2 (Int.toNat n10) c2] w5 (fun r15 w6=>
 r15=.tuple #[]∧
 Q (.tuple #[.int .i64 n10,.int .i64 0]) w6)))))))))))))))
theorem C372 {p1 a2 l2 c2 n3 Q w} (h:L372 p1 a2 l2 c2 n3 Q w):CallR Tryz.prog 372 [.pointer p1,.slice a2 l2 c2,.int .i64 n3] w Q:=
 fC A372 Tryz.func372 rfl (by kernel_rfl) (Eq.mp (by kernel_rfl) h)
def A384:Ann:=⟨[],[],[],[],[],[]⟩
def L384 (p1:Option Addr) (Q:Value→World→Prop) (w:World):Prop:=
 CQ 234 [.pointer p1] w (fun r3 w1=>
 ∃ b2,r3=.bool b2∧
 cond b2
 (Q (.tuple #[.int .i64 0,.int .i64 0]) w1)
 (nn p1 (fun q5=>
 (0≤(0:Int)∧(0:Int)< ((2:Nat):Int))∧
 ∃ n6,w1.cell? (Addr.add (Addr.add q5 4099) (Int.toNat 0))=some (.int .i64 n6)∧
 nn p1 (fun q7=>
 (0≤(1:Int)∧(1:Int)< ((2:Nat):Int))∧
 ∃ n8,w1.cell? (Addr.add (Addr.add q7 4099) (Int.toNat 1))=some (.int .i64 n8)∧
 ∀ nd4:Nat,let w2:=World.drewN w1 nd4;
 Q (.tuple #[.int .i64 n6,.int .i64 n8]) w2))))
theorem C384 {p1 Q w} (h:L384 p1 Q w):CallR Tryz.prog 384 [.pointer p1] w Q:=
 fC A384 Tryz.func384 rfl (by kernel_rfl) (Eq.mp (by kernel_rfl) h)
def A255:Ann:=⟨[],[],[],[],[],[]⟩
def L255 (p1:Option Addr) (Q:Value→World→Prop) (w:World):Prop:=
 CQ 234 [.pointer p1] w (fun r3 w1=>
 ∃ b2,r3=.bool b2∧
 cond (!b2)
 (nn p1 (fun q4=>
 (0≤(0:Int)∧(0:Int)< ((2:Nat):Int))∧
 ∃ n5,w1.cell? (Addr.add (Addr.add q4 4099) (Int.toNat 0))=some (.int .i64 n5)∧
 cond (decide (n5 > 0))
 (nn p1 (fun q6=>
 ∃ n7,w1.cell? (Addr.add q6 4097)=some (.int .i64 n7)∧
 cond (decide (n7 > 0))
 (Q (.bool true) w1)
 (nn p1 (fun q8=>
 (0≤(1:Int)∧(1:Int)< ((2:Nat):Int))∧
 ∃ n9,w1.cell? (Addr.add (Addr.add q8 4099) (Int.toNat 1))=some (.int .i64 n9)∧
 Q (.bool (n9 == 0)) w1))))
 (Q (.bool false) w1)))
 (Q (.bool false) w1))
theorem C255 {p1 Q w} (h:L255 p1 Q w):CallR Tryz.prog 255 [.pointer p1] w Q:=
 fC A255 Tryz.func255 rfl (by kernel_rfl) (Eq.mp (by kernel_rfl) h)
def A385:Ann:=⟨[],[],[],[],[],[]⟩
def L385 (p1:Option Addr) (n2:Int) (Q:Value→World→Prop) (w:World):Prop:=
 CQ 234 [.pointer p1] w (fun r4 w1=>
 ∃ b3,r4=.bool b3∧
 cond (!b3)
 (nn p1 (fun q5=>
 (0≤(1:Int)∧(1:Int)< ((2:Nat):Int))∧
 ∃ n6,w1.cell? (Addr.add (Addr.add q5 4099) (Int.toNat 1))=some (.int .i64 n6)∧
 cond (decide (n6 > 0))
 (cond (decide (n2≥1))
 (cond (decide (n2≤1048576))
 (nn p1 (fun q7=>
 (0≤(0:Int)∧(0:Int)< ((2:Nat):Int))∧
 ∃ n8,w1.cell? (Addr.add (Addr.add q7 4099) (Int.toNat 0))=some (.int .i64 n8)∧
 cond (n8 == 0)
 (Q (.bool true) w1)
 (CQ 375 [.pointer p1,.int .i64 n2] w1 (fun r10 w2=>
 ∃ n9,r10=.int .i64 n9∧
 Q (.bool (decide (n9 > 0))) w2))))
 (Q (.bool false) w1))
 (Q (.bool false) w1))
 (Q (.bool false) w1)))
 (Q (.bool false) w1))
theorem C385 {p1 n2 Q w} (h:L385 p1 n2 Q w):CallR Tryz.prog 385 [.pointer p1,.int .i64 n2] w Q:=
 fC A385 Tryz.func385 rfl (by kernel_rfl) (Eq.mp (by kernel_rfl) h)
def A22:Ann:=⟨[(5,[(14,.one (.int .i64))])],[],[],[],[(9,[0,1,2,3,4,5,6,7],8,[9,10,11])],[]⟩
def L22 (a1:Option Addr) (l1 c1:Nat) (Q:Value→World→Prop) (w:World):Prop:=
 cond (decide ((((l1:Nat):Int)) > 256))
 (Q (.tuple #[.pointer none,.int .i64 3]) w)
 (let w1:=w.alloc (.cells #[.bool true,.slice none 0 0,.int .i64 0,.slice none 0 0] 133);
 ∃ (I2:List Value→World→Prop) (mu3:List Value→World→Nat),
 I2 [.int .i64 0] w1∧
 ∀ (_:Env) (n4:Int) (w2:World),I2 [.int .i64 n4] w2→
 cond (decide (n4< (((l1:Nat):Int))))
 ((0≤(n4:Int)∧(n4:Int)< ((l1:Nat):Int))∧
 nn a1 (fun q5=>
 ∃ a6 l6 c6,w2.cell? (Addr.add q5 (Int.toNat n4))=some (.slice a6 l6 c6)∧
 cond (decide ((((l6:Nat):Int)) > 4096))
 (Q (.tuple #[.pointer none,.int .i64 5]) w2)
 (∃ (S7:World→Prop),S7 (w2.drew)∧
 let w3:=w2.drew;
 ∃ a8 l8 c8,(∀ wS:World,S7 wS→wS.cell? (Addr.mk w.heap.size 1 none)=some (.slice a8 l8 c8))∧
 CQ 47 [.slice a6 l6 c6] w3 (fun r10 w4=>
 ∃ a9 l9 c9,r10=.slice a9 l9 c9∧
 S7 w4∧
 let w5:=w4.alloc (.cells #[.slice a9 l9 c9] 34);
 S7 w5∧
 ∃ a11 l11 c11 w6,Sem.run Tryz.prog (Builtin.append_ #[22,22] 22 #[.slice a8 l8 c8,.slice (some (Addr.mk w4.heap.size 0 none)) 1 1]) w5=.ok (.slice a11 l11 c11) w6∧
 stC (Addr.mk w.heap.size 1 none) (.slice a11 l11 c11) w6 (fun w7=>
 inI (n4+1)∧
 I2 [.int .i64 (n4+1)] w7∧mu3 [.int .i64 (n4+1)] w7< mu3 [.int .i64 n4] w2)))))
 (Q (.tuple #[.pointer (some (Addr.mk w.heap.size 0 none)),.int .i64 0]) w2))
theorem C22 {a1 l1 c1 Q w} (h:L22 a1 l1 c1 Q w):CallR Tryz.prog 22 [.slice a1 l1 c1] w Q:=
 fC A22 Tryz.func22 rfl (by kernel_rfl) (Eq.mp (by kernel_rfl) h)
def A337:Ann:=⟨[],[],[],[],[],[]⟩
def L337 (p1:Option Addr) (n2:Int) (Q:Value→World→Prop) (w:World):Prop:=
 cond (Option.isNone p1)
 (Q (.tuple #[.slice none 0 0,.int .i64 2]) w)
 (nn p1 (fun q3=>
 ∃ b4,w.cell? q3=some (.bool b4)∧
 cond (!b4)
 (Q (.tuple #[.slice none 0 0,.int .i64 2]) w)
 (cond (decide (n2< 1))
 (Q (.tuple #[.slice none 0 0,.int .i64 4]) w)
 (cond (decide (n2 > 1048576))
 (Q (.tuple #[.slice none 0 0,.int .i64 4]) w)
 (nn p1 (fun q5=>
 ∃ a6 l6 c6,w.cell? (Addr.add q5 1)=some (.slice a6 l6 c6)∧
 cond ((((l6:Nat):Int)) == 0)
 (Q (.tuple #[.slice none 0 0,.int .i64 0]) w)
 (nn p1 (fun q8=>
 ∃ a9 l9 c9,w.cell? (Addr.add q8 1)=some (.slice a9 l9 c9)∧
 (0≤(0:Int)∧(0:Int)< ((l9:Nat):Int))∧
 nn a9 (fun q10=>
 ∃ a11 l11 c11,w.cell? (Addr.add q10 (Int.toNat 0))=some (.slice a11 l11 c11)∧
 nn p1 (fun q12=>
 ∃ n13,w.cell? (Addr.add q12 2)=some (.int .i64 n13)∧
 (0≤(n13:Int)∧(n13:Int)≤((l11:Nat):Int))∧
 ∀ nd7:Nat,let w1:=World.drewN w nd7;
 (0≤(mn n2 (((l11 - Int.toNat n13:Nat):Int)):Int)∧(mn n2 (((l11 - Int.toNat n13:Nat):Int)):Int)≤((c11 - Int.toNat n13:Nat):Int))∧
 nn p1 (fun q14=>
 ∃ n15,w1.cell? (Addr.add q14 2)=some (.int .i64 n15)∧
 inI (n15+(((Int.toNat (mn n2 (((l11 - Int.toNat n13:Nat):Int))):Nat):Int)))∧
 nn p1 (fun q16=>
 stC (Addr.add q16 2) (.int .i64 (n15+(((Int.toNat (mn n2 (((l11 - Int.toNat n13:Nat):Int))):Nat):Int)))) w1 (fun w2=>
 cond ((((Int.toNat (mn n2 (((l11 - Int.toNat n13:Nat):Int))):Nat):Int)) == (((l11 - Int.toNat n13:Nat):Int)))
 (nn p1 (fun q17=>
 ∃ a18 l18 c18,w2.cell? (Addr.add q17 1)=some (.slice a18 l18 c18)∧
 (0≤(1:Int)∧(1:Int)≤((l18:Nat):Int))∧
 nn p1 (fun q19=>
 stC (Addr.add q19 1) (.slice (adv a18 (Int.toNat 1) c18 1) (l18 - Int.toNat 1) (c18 - Int.toNat 1)) w2 (fun w3=>
 nn p1 (fun q20=>
 stC (Addr.add q20 2) (.int .i64 0) w3 (fun w4=>
 CQ 47 [.slice (adv a11 (Int.toNat n13) c11 1) (Int.toNat (mn n2 (((l11 - Int.toNat n13:Nat):Int)))) (c11 - Int.toNat n13)] w4 (fun r22 w5=>
 ∃ a21 l21 c21,r22=.slice a21 l21 c21∧
 Q (.tuple #[.slice a21 l21 c21,.int .i64 0]) w5)))))))
 (CQ 47 [.slice (adv a11 (Int.toNat n13) c11 1) (Int.toNat (mn n2 (((l11 - Int.toNat n13:Nat):Int)))) (c11 - Int.toNat n13)] w2 (fun r24 w6=>
 ∃ a23 l23 c23,r24=.slice a23 l23 c23∧
 Q (.tuple #[.slice a23 l23 c23,.int .i64 0]) w6)))))))))))))))
theorem C337 {p1 n2 Q w} (h:L337 p1 n2 Q w):CallR Tryz.prog 337 [.pointer p1,.int .i64 n2] w Q:=
 fC A337 Tryz.func337 rfl (by kernel_rfl) (Eq.mp (by kernel_rfl) h)
def A338:Ann:=⟨[],[],[],[],[],[]⟩
def L338 (p1 a2:Option Addr) (l2 c2:Nat) (Q:Value→World→Prop) (w:World):Prop:=
 cond (Option.isNone p1)
 (Q (.int .i64 2) w)
 (nn p1 (fun q3=>
 ∃ b4,w.cell? q3=some (.bool b4)∧
 cond (!b4)
 (Q (.int .i64 2) w)
 (nn p1 (fun q5=>
 ∃ a6 l6 c6,w.cell? (Addr.add q5 3)=some (.slice a6 l6 c6)∧
 inI ((1048576:Int) - (((l6:Nat):Int)))∧
 cond (decide ((((l2:Nat):Int)) > ((1048576:Int) - (((l6:Nat):Int)))))
 (Q (.int .i64 31) w)
 (nn p1 (fun q7=>
 ∃ a8 l8 c8,w.cell? (Addr.add q7 3)=some (.slice a8 l8 c8)∧
 ∃ a9 l9 c9 w1,Sem.run Tryz.prog (Builtin.append_ #[34,34] 34 #[.slice a8 l8 c8,.slice a2 l2 c2]) w=.ok (.slice a9 l9 c9) w1∧
 nn p1 (fun q10=>
 stC (Addr.add q10 3) (.slice a9 l9 c9) w1 (fun w2=>
 Q (.int .i64 0) w2))))))))
theorem C338 {p1 a2 l2 c2 Q w} (h:L338 p1 a2 l2 c2 Q w):CallR Tryz.prog 338 [.pointer p1,.slice a2 l2 c2] w Q:=
 fC A338 Tryz.func338 rfl (by kernel_rfl) (Eq.mp (by kernel_rfl) h)
def A112:Ann:=⟨[],[],[],[],[],[]⟩
def L112 (p1:Option Addr) (Q:Value→World→Prop) (w:World):Prop:=
 cond (Option.isNone p1)
 (Q (.slice none 0 0) w)
 (nn p1 (fun q2=>
 ∃ a3 l3 c3,w.cell? (Addr.add q2 3)=some (.slice a3 l3 c3)∧
 ∃ a4 l4 c4 w1,Sem.run Tryz.prog (Instr.makeSlice 34 (.int .i64 (((l3:Nat):Int))) (.int .i64 (((l3:Nat):Int)))) w=.ok (.slice a4 l4 c4) w1∧
 nn p1 (fun q5=>
 ∃ a6 l6 c6,w1.cell? (Addr.add q5 3)=some (.slice a6 l6 c6)∧
 ∃ n7 w2,Sem.run Tryz.prog (Builtin.copy_ #[34,34] 3 #[.slice a4 l4 c4,.slice a6 l6 c6]) w1=.ok (.int .i64 n7) w2∧
 Q (.slice a4 l4 c4) w2)))
theorem C112 {p1 Q w} (h:L112 p1 Q w):CallR Tryz.prog 112 [.pointer p1] w Q:=
 fC A112 Tryz.func112 rfl (by kernel_rfl) (Eq.mp (by kernel_rfl) h)
end Go.Proofs.YteojolihgijdhaaGreatDoor
