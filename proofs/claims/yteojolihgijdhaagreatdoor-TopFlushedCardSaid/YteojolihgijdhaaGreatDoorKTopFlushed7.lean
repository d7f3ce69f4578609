/- Part 7 of 21 of the proof of TopFlushed. Conditions: the theorem's: none. -/
import Derived.Test.YteojolihgijdhaaGreatDoorKTopFlushed4
set_option linter.unusedVariables false
set_option maxRecDepth 100000
namespace Go.Proofs.YteojolihgijdhaaGreatDoor
open Go.Lw
def A195:Ann:=⟨[],[],[],[],[(8,[0,1,3,4,6,7,2,9,5],8,[10,11,12,13,14])],[]⟩
def L195 (b1 b2:Bool) (n3 n4:Int) (a5:Option Addr) (l5 c5:Nat) (a6:Option Addr) (l6 c6:Nat) (a7:Option Addr) (l7 c7:Nat) (n8:Int) (b9 b10 b11:Bool) (v12:Value) (n13:Int) (Q:Value→World→Prop) (w:World):Prop:=
 let w1:=w.alloc (.cells (gq1 b1 b2 n3 n4 a5 l5 c5 a6 l6 c6 a7 l7 c7 n8 b9 b10 b11) 151);
 let w2:=w1.alloc (.cells zSq 151);
 lq1 w2 w.heap.size fun b14 b15 n16 n17 a18 l18 c18 a19 l19 c19 a20 l20 c20 n21 b22 b23 b24=>CQ 157 [.agg (gq1 b14 b15 n16 n17 a18 l18 c18 a19 l19 c19 a20 l20 c20 n21 b22 b23 b24)] w2 (fun r26 w3=>
 ∃ n25,r26=.int .i64 n25∧
 cond (n25 != 0)
 (∃ (S27:World→Prop),S27 (w3.drew)∧
 let w4:=w3.drew;
 ∃ a28 l28 c28,(∀ wS:World,S27 wS→wS.cell? (Addr.mk w.heap.size 4 none)=some (.slice a28 l28 c28))∧
 ∃ a29 l29 c29,(∀ wS:World,S27 wS→wS.cell? (Addr.mk w.heap.size 5 none)=some (.slice a29 l29 c29))∧
 ∃ a30 l30 c30,(∀ wS:World,S27 wS→wS.cell? (Addr.mk w.heap.size 6 none)=some (.slice a30 l30 c30))∧
 CQ 217 [.slice a28 l28 c28] w4 (fun r32 w5=>
 ∃ a31 l31 c31,r32=.slice a31 l31 c31∧
 S27 w5∧
 CQ 217 [.slice a29 l29 c29] w5 (fun r34 w6=>
 ∃ a33 l33 c33,r34=.slice a33 l33 c33∧
 S27 w6∧
 CQ 217 [.slice a30 l30 c30] w6 (fun r36 w7=>
 ∃ a35 l35 c35,r36=.slice a35 l35 c35∧
 stC (Addr.mk w.heap.size 4 none) (.slice a31 l31 c31) w7 (fun w8=>
 stC (Addr.mk w.heap.size 5 none) (.slice a33 l33 c33) w8 (fun w9=>
 stC (Addr.mk w.heap.size 6 none) (.slice a35 l35 c35) w9 (fun w10=>
 lq1 w10 w.heap.size fun b37 b38 n39 n40 a41 l41 c41 a42 l42 c42 a43 l43 c43 n44 b45 b46 b47=>sq11 w1.heap.size w10 (.bool b37) (.bool b38) (.int .i64 n39) (.int .i64 n40) (.slice a41 l41 c41) (.slice a42 l42 c42) (.slice a43 l43 c43) (.int .i64 n44) (.bool b45) (.bool b46) (.bool b47) (fun w21=>lq1 w21 w1.heap.size fun b48 b49 n50 n51 a52 l52 c52 a53 l53 c53 a54 l54 c54 n55 b56 b57 b58=>Q (.tuple #[.agg (gq1 b48 b49 n50 n51 a52 l52 c52 a53 l53 c53 a54 l54 c54 n55 b56 b57 b58),.int .i64 n25]) w21))))))))
 (∃ b59 w22,Sem.run Tryz.prog (Sem.bind (eqGuard .eql 179 (.tmp 16) (.const (.nilIface)) v12 .nilIface) (fun _=>binOp .eql 179 v12 .nilIface)) w3=.ok (.bool b59) w22∧
 cond b59
 (∃ (S60:World→Prop),S60 (w22.drew)∧
 let w23:=w22.drew;
 ∃ a61 l61 c61,(∀ wS:World,S60 wS→wS.cell? (Addr.mk w.heap.size 4 none)=some (.slice a61 l61 c61))∧
 ∃ a62 l62 c62,(∀ wS:World,S60 wS→wS.cell? (Addr.mk w.heap.size 5 none)=some (.slice a62 l62 c62))∧
 ∃ a63 l63 c63,(∀ wS:World,S60 wS→wS.cell? (Addr.mk w.heap.size 6 none)=some (.slice a63 l63 c63))∧
 CQ 217 [.slice a61 l61 c61] w23 (fun r65 w24=>
 ∃ a64 l64 c64,r65=.slice a64 l64 c64∧
 S60 w24∧
 CQ 217 [.slice a62 l62 c62] w24 (fun r67 w25=>
 ∃ a66 l66 c66,r67=.slice a66 l66 c66∧
 S60 w25∧
 CQ 217 [.slice a63 l63 c63] w25 (fun r69 w26=>
 ∃ a68 l68 c68,r69=.slice a68 l68 c68∧
 stC (Addr.mk w.heap.size 4 none) (.slice a64 l64 c64) w26 (fun w27=>
 stC (Addr.mk w.heap.size 5 none) (.slice a66 l66 c66) w27 (fun w28=>
 stC (Addr.mk w.heap.size 6 none) (.slice a68 l68 c68) w28 (fun w29=>
 lq1 w29 w.heap.size fun b70 b71 n72 n73 a74 l74 c74 a75 l75 c75 a76 l76 c76 n77 b78 b79 b80=>sq11 w1.heap.size w29 (.bool b70) (.bool b71) (.int .i64 n72) (.int .i64 n73) (.slice a74 l74 c74) (.slice a75 l75 c75) (.slice a76 l76 c76) (.int .i64 n77) (.bool b78) (.bool b79) (.bool b80) (fun w40=>lq1 w40 w1.heap.size fun b81 b82 n83 n84 a85 l85 c85 a86 l86 c86 a87 l87 c87 n88 b89 b90 b91=>Q (.tuple #[.agg (gq1 b81 b82 n83 n84 a85 l85 c85 a86 l86 c86 a87 l87 c87 n88 b89 b90 b91),.int .i64 2]) w40))))))))
 (∃ b92,w22.cell? (Addr.mk w.heap.size 10 none)=some (.bool b92)∧
 cond b92
 (∃ (S93:World→Prop),S93 (w22.drew)∧
 let w41:=w22.drew;
 ∃ a94 l94 c94,(∀ wS:World,S93 wS→wS.cell? (Addr.mk w.heap.size 4 none)=some (.slice a94 l94 c94))∧
 ∃ a95 l95 c95,(∀ wS:World,S93 wS→wS.cell? (Addr.mk w.heap.size 5 none)=some (.slice a95 l95 c95))∧
 ∃ a96 l96 c96,(∀ wS:World,S93 wS→wS.cell? (Addr.mk w.heap.size 6 none)=some (.slice a96 l96 c96))∧
 CQ 217 [.slice a94 l94 c94] w41 (fun r98 w42=>
 ∃ a97 l97 c97,r98=.slice a97 l97 c97∧
 S93 w42∧
 CQ 217 [.slice a95 l95 c95] w42 (fun r100 w43=>
 ∃ a99 l99 c99,r100=.slice a99 l99 c99∧
 S93 w43∧
 CQ 217 [.slice a96 l96 c96] w43 (fun r102 w44=>
 ∃ a101 l101 c101,r102=.slice a101 l101 c101∧
 stC (Addr.mk w.heap.size 4 none) (.slice a97 l97 c97) w44 (fun w45=>
 stC (Addr.mk w.heap.size 5 none) (.slice a99 l99 c99) w45 (fun w46=>
 stC (Addr.mk w.heap.size 6 none) (.slice a101 l101 c101) w46 (fun w47=>
 lq1 w47 w.heap.size fun b103 b104 n105 n106 a107 l107 c107 a108 l108 c108 a109 l109 c109 n110 b111 b112 b113=>sq11 w1.heap.size w47 (.bool b103) (.bool b104) (.int .i64 n105) (.int .i64 n106) (.slice a107 l107 c107) (.slice a108 l108 c108) (.slice a109 l109 c109) (.int .i64 n110) (.bool b111) (.bool b112) (.bool b113) (fun w58=>lq1 w58 w1.heap.size fun b114 b115 n116 n117 a118 l118 c118 a119 l119 c119 a120 l120 c120 n121 b122 b123 b124=>Q (.tuple #[.agg (gq1 b114 b115 n116 n117 a118 l118 c118 a119 l119 c119 a120 l120 c120 n121 b122 b123 b124),.int .i64 113]) w58))))))))
 (∃ (S125:World→Prop),S125 (w22.drew)∧
 let w59:=w22.drew;
 ∃ a126 l126 c126,(∀ wS:World,S125 wS→wS.cell? (Addr.mk w.heap.size 4 none)=some (.slice a126 l126 c126))∧
 ∃ a127 l127 c127,(∀ wS:World,S125 wS→wS.cell? (Addr.mk w.heap.size 5 none)=some (.slice a127 l127 c127))∧
 ∃ a128 l128 c128,(∀ wS:World,S125 wS→wS.cell? (Addr.mk w.heap.size 6 none)=some (.slice a128 l128 c128))∧
 CQ 217 [.slice a126 l126 c126] w59 (fun r130 w60=>
 ∃ a129 l129 c129,r130=.slice a129 l129 c129∧
 S125 w60∧
 CQ 217 [.slice a127 l127 c127] w60 (fun r132 w61=>
 ∃ a131 l131 c131,r132=.slice a131 l131 c131∧
 S125 w61∧
 CQ 217 [.slice a128 l128 c128] w61 (fun r134 w62=>
 ∃ a133 l133 c133,r134=.slice a133 l133 c133∧
 stC (Addr.mk w.heap.size 4 none) (.slice a129 l129 c129) w62 (fun w63=>
 stC (Addr.mk w.heap.size 5 none) (.slice a131 l131 c131) w63 (fun w64=>
 stC (Addr.mk w.heap.size 6 none) (.slice a133 l133 c133) w64 (fun w65=>
 lq1 w65 w.heap.size fun b135 b136 n137 n138 a139 l139 c139 a140 l140 c140 a141 l141 c141 n142 b143 b144 b145=>sq11 w1.heap.size w65 (.bool b135) (.bool b136) (.int .i64 n137) (.int .i64 n138) (.slice a139 l139 c139) (.slice a140 l140 c140) (.slice a141 l141 c141) (.int .i64 n142) (.bool b143) (.bool b144) (.bool b145) (fun w76=>lq1 w76 w1.heap.size fun b146 b147 n148 n149 a150 l150 c150 a151 l151 c151 a152 l152 c152 n153 b154 b155 b156=>Q (.tuple #[.agg (gq1 b146 b147 n148 n149 a150 l150 c150 a151 l151 c151 a152 l152 c152 n153 b154 b155 b156),.int .i64 n13]) w76)))))))))))
theorem C195 {b1 b2 n3 n4 a5 l5 c5 a6 l6 c6 a7 l7 c7 n8 b9 b10 b11 v12 n13 Q w} (h:L195 b1 b2 n3 n4 a5 l5 c5 a6 l6 c6 a7 l7 c7 n8 b9 b10 b11 v12 n13 Q w):CallR Tryz.prog 195 [.agg #[.bool b1,.bool b2,.int .i64 n3,.int .i64 n4,.slice a5 l5 c5,.slice a6 l6 c6,.slice a7 l7 c7,.int .i64 n8,.bool b9,.bool b10,.bool b11],v12,.int .i64 n13] w Q:=
 fC A195 Tryz.func195 rfl (by kernel_rfl) (Eq.mp (by kernel_rfl) h)
def A196:Ann:=⟨[],[],[],[],[],[]⟩
def L196 (b1:Bool) (n2:Int) (Q:Value→World→Prop) (w:World):Prop:=
 cond b1
 (Q (.int .i64 n2) w)
 (Q (.int .i64 0) w)
theorem C196 {b1 n2 Q w} (h:L196 b1 n2 Q w):CallR Tryz.prog 196 [.bool b1,.int .i64 n2] w Q:=
 fC A196 Tryz.func196 rfl (by kernel_rfl) (Eq.mp (by kernel_rfl) h)
def A145:Ann:=⟨[(7,[(47,.one (.int .i64))])],[(2,[(9,.one (.ptr)),(10,.one (.int .i64))]),(15,[])],[],[],[],[1]⟩
def L145 (b1 b2:Bool) (n3 n4:Int) (a5:Option Addr) (l5 c5:Nat) (a6:Option Addr) (l6 c6:Nat) (a7:Option Addr) (l7 c7:Nat) (n8:Int) (b9 b10 b11:Bool) (t12:TypeId) (v12:Value) (a13:Option Addr) (l13 c13:Nat) (Q:Value→World→Prop) (w:World):Prop:=
 let w1:=w.alloc (.cells (gq1 b1 b2 n3 n4 a5 l5 c5 a6 l6 c6 a7 l7 c7 n8 b9 b10 b11) 151);
 let w2:=w1.alloc (.cells zSq 151);
 ∃ (J14:List Value→World→Prop),
 (let w3:=w2.drew;
 (lq1 w3 w.heap.size fun b15 b16 n17 n18 a19 l19 c19 a20 l20 c20 a21 l21 c21 n22 b23 b24 b25=>(CQ 196 [.bool (decide ((((l13:Nat):Int)) > 1048576)),.int .i64 5] w3 (fun r27 w4=>
 ∃ n26,r27=.int .i64 n26∧
 (CQ 195 [.agg (gq1 b15 b16 n17 n18 a19 l19 c19 a20 l20 c20 a21 l21 c21 n22 b23 b24 b25),.iface t12 v12,.int .i64 n26] w4 (fun r40 w5=>
 ∃ b28 b29 n30 n31 a32 l32 c32 a33 l33 c33 a34 l34 c34 n35 b36 b37 b38 n39,r40=.tuple #[.agg (gq1 b28 b29 n30 n31 a32 l32 c32 a33 l33 c33 a34 l34 c34 n35 b36 b37 b38),.int .i64 n39]∧
 let w6:=w5.alloc (.cells zSq 151);
 sq11 w5.heap.size w6 (.bool b28) (.bool b29) (.int .i64 n30) (.int .i64 n31) (.slice a32 l32 c32) (.slice a33 l33 c33) (.slice a34 l34 c34) (.int .i64 n35) (.bool b36) (.bool b37) (.bool b38) (fun w17=>J14 [.pointer (some (Addr.mk w5.heap.size 0 none)),.int .i64 n39] w17)))∧
 (let w18:=w4.alloc (.cells zSq 151);
 CQ 195 [.agg (gq1 b15 b16 n17 n18 a19 l19 c19 a20 l20 c20 a21 l21 c21 n22 b23 b24 b25),.iface t12 v12,.int .i64 n26] w18 (fun r53 w19=>
 ∃ b41 b42 n43 n44 a45 l45 c45 a46 l46 c46 a47 l47 c47 n48 b49 b50 b51 n52,r53=.tuple #[.agg (gq1 b41 b42 n43 n44 a45 l45 c45 a46 l46 c46 a47 l47 c47 n48 b49 b50 b51),.int .i64 n52]∧
 sq11 w4.heap.size w19 (.bool b41) (.bool b42) (.int .i64 n43) (.int .i64 n44) (.slice a45 l45 c45) (.slice a46 l46 c46) (.slice a47 l47 c47) (.int .i64 n48) (.bool b49) (.bool b50) (.bool b51) (fun w30=>J14 [.pointer (some (Addr.mk w4.heap.size 0 none)),.int .i64 n52] w30)))))∧
 (let w31:=w3.alloc (.cells zSq 151);
 CQ 196 [.bool (decide ((((l13:Nat):Int)) > 1048576)),.int .i64 5] w31 (fun r55 w32=>
 ∃ n54,r55=.int .i64 n54∧
 CQ 195 [.agg (gq1 b15 b16 n17 n18 a19 l19 c19 a20 l20 c20 a21 l21 c21 n22 b23 b24 b25),.iface t12 v12,.int .i64 n54] w32 (fun r68 w33=>
 ∃ b56 b57 n58 n59 a60 l60 c60 a61 l61 c61 a62 l62 c62 n63 b64 b65 b66 n67,r68=.tuple #[.agg (gq1 b56 b57 n58 n59 a60 l60 c60 a61 l61 c61 a62 l62 c62 n63 b64 b65 b66),.int .i64 n67]∧
 sq11 w3.heap.size w33 (.bool b56) (.bool b57) (.int .i64 n58) (.int .i64 n59) (.slice a60 l60 c60) (.slice a61 l61 c61) (.slice a62 l62 c62) (.int .i64 n63) (.bool b64) (.bool b65) (.bool b66) (fun w44=>J14 [.pointer (some (Addr.mk w3.heap.size 0 none)),.int .i64 n67] w44)))))∧
 (CQ 196 [.bool (decide ((((l13:Nat):Int)) > 1048576)),.int .i64 5] w3 (fun r70 w45=>
 ∃ n69,r70=.int .i64 n69∧
 (lq1 w45 w.heap.size fun b71 b72 n73 n74 a75 l75 c75 a76 l76 c76 a77 l77 c77 n78 b79 b80 b81=>(CQ 195 [.agg (gq1 b71 b72 n73 n74 a75 l75 c75 a76 l76 c76 a77 l77 c77 n78 b79 b80 b81),.iface t12 v12,.int .i64 n69] w45 (fun r94 w46=>
 ∃ b82 b83 n84 n85 a86 l86 c86 a87 l87 c87 a88 l88 c88 n89 b90 b91 b92 n93,r94=.tuple #[.agg (gq1 b82 b83 n84 n85 a86 l86 c86 a87 l87 c87 a88 l88 c88 n89 b90 b91 b92),.int .i64 n93]∧
 let w47:=w46.alloc (.cells zSq 151);
 sq11 w46.heap.size w47 (.bool b82) (.bool b83) (.int .i64 n84) (.int .i64 n85) (.slice a86 l86 c86) (.slice a87 l87 c87) (.slice a88 l88 c88) (.int .i64 n89) (.bool b90) (.bool b91) (.bool b92) (fun w58=>J14 [.pointer (some (Addr.mk w46.heap.size 0 none)),.int .i64 n93] w58)))∧
 (let w59:=w45.alloc (.cells zSq 151);
 CQ 195 [.agg (gq1 b71 b72 n73 n74 a75 l75 c75 a76 l76 c76 a77 l77 c77 n78 b79 b80 b81),.iface t12 v12,.int .i64 n69] w59 (fun r107 w60=>
 ∃ b95 b96 n97 n98 a99 l99 c99 a100 l100 c100 a101 l101 c101 n102 b103 b104 b105 n106,r107=.tuple #[.agg (gq1 b95 b96 n97 n98 a99 l99 c99 a100 l100 c100 a101 l101 c101 n102 b103 b104 b105),.int .i64 n106]∧
 sq11 w45.heap.size w60 (.bool b95) (.bool b96) (.int .i64 n97) (.int .i64 n98) (.slice a99 l99 c99) (.slice a100 l100 c100) (.slice a101 l101 c101) (.int .i64 n102) (.bool b103) (.bool b104) (.bool b105) (fun w71=>J14 [.pointer (some (Addr.mk w45.heap.size 0 none)),.int .i64 n106] w71))))∧
 (let w72:=w45.alloc (.cells zSq 151);
 lq1 w72 w.heap.size fun b108 b109 n110 n111 a112 l112 c112 a113 l113 c113 a114 l114 c114 n115 b116 b117 b118=>CQ 195 [.agg (gq1 b108 b109 n110 n111 a112 l112 c112 a113 l113 c113 a114 l114 c114 n115 b116 b117 b118),.iface t12 v12,.int .i64 n69] w72 (fun r131 w73=>
 ∃ b119 b120 n121 n122 a123 l123 c123 a124 l124 c124 a125 l125 c125 n126 b127 b128 b129 n130,r131=.tuple #[.agg (gq1 b119 b120 n121 n122 a123 l123 c123 a124 l124 c124 a125 l125 c125 n126 b127 b128 b129),.int .i64 n130]∧
 sq11 w45.heap.size w73 (.bool b119) (.bool b120) (.int .i64 n121) (.int .i64 n122) (.slice a123 l123 c123) (.slice a124 l124 c124) (.slice a125 l125 c125) (.int .i64 n126) (.bool b127) (.bool b128) (.bool b129) (fun w84=>J14 [.pointer (some (Addr.mk w45.heap.size 0 none)),.int .i64 n130] w84)))))∧
 (let w85:=w3.alloc (.cells zSq 151);
 (lq1 w85 w.heap.size fun b132 b133 n134 n135 a136 l136 c136 a137 l137 c137 a138 l138 c138 n139 b140 b141 b142=>CQ 196 [.bool (decide ((((l13:Nat):Int)) > 1048576)),.int .i64 5] w85 (fun r144 w86=>
 ∃ n143,r144=.int .i64 n143∧
 CQ 195 [.agg (gq1 b132 b133 n134 n135 a136 l136 c136 a137 l137 c137 a138 l138 c138 n139 b140 b141 b142),.iface t12 v12,.int .i64 n143] w86 (fun r157 w87=>
 ∃ b145 b146 n147 n148 a149 l149 c149 a150 l150 c150 a151 l151 c151 n152 b153 b154 b155 n156,r157=.tuple #[.agg (gq1 b145 b146 n147 n148 a149 l149 c149 a150 l150 c150 a151 l151 c151 n152 b153 b154 b155),.int .i64 n156]∧
 sq11 w3.heap.size w87 (.bool b145) (.bool b146) (.int .i64 n147) (.int .i64 n148) (.slice a149 l149 c149) (.slice a150 l150 c150) (.slice a151 l151 c151) (.int .i64 n152) (.bool b153) (.bool b154) (.bool b155) (fun w98=>J14 [.pointer (some (Addr.mk w3.heap.size 0 none)),.int .i64 n156] w98))))∧
 (CQ 196 [.bool (decide ((((l13:Nat):Int)) > 1048576)),.int .i64 5] w85 (fun r159 w99=>
 ∃ n158,r159=.int .i64 n158∧
 lq1 w99 w.heap.size fun b160 b161 n162 n163 a164 l164 c164 a165 l165 c165 a166 l166 c166 n167 b168 b169 b170=>CQ 195 [.agg (gq1 b160 b161 n162 n163 a164 l164 c164 a165 l165 c165 a166 l166 c166 n167 b168 b169 b170),.iface t12 v12,.int .i64 n158] w99 (fun r183 w100=>
 ∃ b171 b172 n173 n174 a175 l175 c175 a176 l176 c176 a177 l177 c177 n178 b179 b180 b181 n182,r183=.tuple #[.agg (gq1 b171 b172 n173 n174 a175 l175 c175 a176 l176 c176 a177 l177 c177 n178 b179 b180 b181),.int .i64 n182]∧
 sq11 w3.heap.size w100 (.bool b171) (.bool b172) (.int .i64 n173) (.int .i64 n174) (.slice a175 l175 c175) (.slice a176 l176 c176) (.slice a177 l177 c177) (.int .i64 n178) (.bool b179) (.bool b180) (.bool b181) (fun w111=>J14 [.pointer (some (Addr.mk w3.heap.size 0 none)),.int .i64 n182] w111))))))∧
 (∀ (_:Env) (p184:Option Addr) (n185:Int) (w112:World),J14 [.pointer p184,.int .i64 n185] w112→
 cond (n185 != 0)
 ((match (Value.pointer p184) with
 | .pointer (some q186)=>∃ b187 b188 n189 n190 a191 l191 c191 a192 l192 c192 a193 l193 c193 n194 b195 b196 b197,w112.cell? q186=some (.bool b187)∧w112.cell? (Addr.add q186 1)=some (.bool b188)∧w112.cell? (Addr.add q186 2)=some (.int .i64 n189)∧w112.cell? (Addr.add q186 3)=some (.int .i64 n190)∧w112.cell? (Addr.add q186 4)=some (.slice a191 l191 c191)∧w112.cell? (Addr.add q186 5)=some (.slice a192 l192 c192)∧w112.cell? (Addr.add q186 6)=some (.slice a193 l193 c193)∧w112.cell? (Addr.add q186 7)=some (.int .i64 n194)∧w112.cell? (Addr.add q186 8)=some (.bool b195)∧w112.cell? (Addr.add q186 9)=some (.bool b196)∧w112.cell? (Addr.add q186 10)=some (.bool b197)∧ sq11 w1.heap.size w112 (.bool b187) (.bool b188) (.int .i64 n189) (.int .i64 n190) (.slice a191 l191 c191) (.slice a192 l192 c192) (.slice a193 l193 c193) (.int .i64 n194) (.bool b195) (.bool b196) (.bool b197) (fun w123=>lq1 w123 w1.heap.size fun b198 b199 n200 n201 a202 l202 c202 a203 l203 c203 a204 l204 c204 n205 b206 b207 b208=>Q (.tuple #[.agg (gq1 b198 b199 n200 n201 a202 l202 c202 a203 l203 c203 a204 l204 c204 n205 b206 b207 b208),.int .i64 0,.int .i64 n185]) w123)
 | _=>False))
 (cond ((((l13:Nat):Int)) == 0)
 ((match (Value.pointer p184) with
 | .pointer (some q209)=>∃ b210 b211 n212 n213 a214 l214 c214 a215 l215 c215 a216 l216 c216 n217 b218 b219 b220,w112.cell? q209=some (.bool b210)∧w112.cell? (Addr.add q209 1)=some (.bool b211)∧w112.cell? (Addr.add q209 2)=some (.int .i64 n212)∧w112.cell? (Addr.add q209 3)=some (.int .i64 n213)∧w112.cell? (Addr.add q209 4)=some (.slice a214 l214 c214)∧w112.cell? (Addr.add q209 5)=some (.slice a215 l215 c215)∧w112.cell? (Addr.add q209 6)=some (.slice a216 l216 c216)∧w112.cell? (Addr.add q209 7)=some (.int .i64 n217)∧w112.cell? (Addr.add q209 8)=some (.bool b218)∧w112.cell? (Addr.add q209 9)=some (.bool b219)∧w112.cell? (Addr.add q209 10)=some (.bool b220)∧ sq11 w1.heap.size w112 (.bool b210) (.bool b211) (.int .i64 n212) (.int .i64 n213) (.slice a214 l214 c214) (.slice a215 l215 c215) (.slice a216 l216 c216) (.int .i64 n217) (.bool b218) (.bool b219) (.bool b220) (fun w134=>lq1 w134 w1.heap.size fun b221 b222 n223 n224 a225 l225 c225 a226 l226 c226 a227 l227 c227 n228 b229 b230 b231=>Q (.tuple #[.agg (gq1 b221 b222 n223 n224 a225 l225 c225 a226 l226 c226 a227 l227 c227 n228 b229 b230 b231),.int .i64 0,.int .i64 n185]) w134)
 | _=>False))
 ((match (Value.pointer p184) with
 | .pointer (some q232)=>∃ n233,w112.cell? (Addr.add q232 2)=some (.int .i64 n233)∧cond (n233 == 1) ((match (Value.pointer p184) with | .pointer (some q234)=>∃ b235 b236 n237 n238 a239 l239 c239 a240 l240 c240 a241 l241 c241 n242 b243 b244 b245,w112.cell? q234=some (.bool b235)∧w112.cell? (Addr.add q234 1)=some (.bool b236)∧w112.cell? (Addr.add q234 2)=some (.int .i64 n237)∧w112.cell? (Addr.add q234 3)=some (.int .i64 n238)∧w112.cell? (Addr.add q234 4)=some (.slice a239 l239 c239)∧w112.cell? (Addr.add q234 5)=some (.slice a240 l240 c240)∧w112.cell? (Addr.add q234 6)=some (.slice a241 l241 c241)∧w112.cell? (Addr.add q234 7)=some (.int .i64 n242)∧w112.cell? (Addr.add q234 8)=some (.bool b243)∧w112.cell? (Addr.add q234 9)=some (.bool b244)∧w112.cell? (Addr.add q234 10)=some (.bool b245)∧ CQ 197 [.agg (gq1 b235 b236 n237 n238 a239 l239 c239 a240 l240 c240 a241 l241 c241 n242 b243 b244 b245),.iface t12 v12,.slice a13 l13 c13] w112 (fun r259 w135=>∃ b246 b247 n248 n249 a250 l250 c250 a251 l251 c251 a252 l252 c252 n253 b254 b255 b256 n257 n258,r259=.tuple #[.agg (gq1 b246 b247 n248 n249 a250 l250 c250 a251 l251 c251 a252 l252 c252 n253 b254 b255 b256),.int .i64 n257,.int .i64 n258]∧sq11 w1.heap.size w135 (.bool b246) (.bool b247) (.int .i64 n248) (.int .i64 n249) (.slice a250 l250 c250) (.slice a251 l251 c251) (.slice a252 l252 c252) (.int .i64 n253) (.bool b254) (.bool b255) (.bool b256) (fun w146=>lq1 w146 w1.heap.size fun b260 b261 n262 n263 a264 l264 c264 a265 l265 c265 a266 l266 c266 n267 b268 b269 b270=>Q (.tuple #[.agg (gq1 b260 b261 n262 n263 a264 l264 c264 a265 l265 c265 a266 l266 c266 n267 b268 b269 b270),.int .i64 n257,.int .i64 n258]) w146)) | _=>False)) (∃ (I271:List Value→World→Prop) (mu272:List Value→World→Nat),I271 [.int .i64 0] w112∧∀ (_:Env) (n273:Int) (w147:World),I271 [.int .i64 n273] w147→cond (decide (n273< (((l13:Nat):Int)))) ((0≤(n273:Int)∧(n273:Int)< ((l13:Nat):Int))∧nn a13 (fun q274=>∃ n275,w147.cell? (Addr.add q274 (Int.toNat n273))=some (.int .u8 n275)∧∃ (J276:List Value→World→Prop),((match (Value.pointer p184) with | .pointer (some q277)=>∃ a278 l278 c278,w147.cell? (Addr.add q277 4)=some (.slice a278 l278 c278)∧(match (Value.pointer p184) with | .pointer (some q279)=>∃ n280,w147.cell? (Addr.add q279 3)=some (.int .i64 n280)∧cond ((((l278:Nat):Int)) == n280) ((match (Value.pointer p184) with | .pointer (some q281)=>∃ n282,w147.cell? (Addr.add q281 7)=some (.int .i64 n282)∧(match (Value.pointer p184) with | .pointer (some q283)=>∃ b284 b285 n286 n287 a288 l288 c288 a289 l289 c289 a290 l290 c290 n291 b292 b293 b294,w147.cell? q283=some (.bool b284)∧w147.cell? (Addr.add q283 1)=some (.bool b285)∧w147.cell? (Addr.add q283 2)=some (.int .i64 n286)∧w147.cell? (Addr.add q283 3)=some (.int .i64 n287)∧w147.cell? (Addr.add q283 4)=some (.slice a288 l288 c288)∧w147.cell? (Addr.add q283 5)=some (.slice a289 l289 c289)∧w147.cell? (Addr.add q283 6)=some (.slice a290 l290 c290)∧w147.cell? (Addr.add q283 7)=some (.int .i64 n291)∧w147.cell? (Addr.add q283 8)=some (.bool b292)∧w147.cell? (Addr.add q283 9)=some (.bool b293)∧w147.cell? (Addr.add q283 10)=some (.bool b294)∧ CQ 198 [.agg (gq1 b284 b285 n286 n287 a288 l288 c288 a289 l289 c289 a290 l290 c290 n291 b292 b293 b294),.iface t12 v12] w147 (fun r307 w148=>∃ b295 b296 n297 n298 a299 l299 c299 a300 l300 c300 a301 l301 c301 n302 b303 b304 b305 n306,r307=.tuple #[.agg (gq1 b295 b296 n297 n298 a299 l299 c299 a300 l300 c300 a301 l301 c301 n302 b303 b304 b305),.int .i64 n306]∧(match (Value.pointer p184) with | .pointer (some q308)=>stC q308 (.bool b295) w148 (fun w149=>stC (Addr.add q308 1) (.bool b296) w149 (fun w150=>stC (Addr.add q308 2) (.int .i64 n297) w150 (fun w151=>stC (Addr.add q308 3) (.int .i64 n298) w151 (fun w152=>stC (Addr.add q308 4) (.slice a299 l299 c299) w152 (fun w153=>stC (Addr.add q308 5) (.slice a300 l300 c300) w153 (fun w154=>stC (Addr.add q308 6) (.slice a301 l301 c301) w154 (fun w155=>stC (Addr.add q308 7) (.int .i64 n302) w155 (fun w156=>stC (Addr.add q308 8) (.bool b303) w156 (fun w157=>stC (Addr.add q308 9) (.bool b304) w157 (fun w158=>stC (Addr.add q308 10) (.bool b305) w158 (fun w159=>(match (Value.pointer p184) with | .pointer (some q309)=>stC (Addr.add q309 7) (.int .i64 n282) w159 (fun w160=>cond (n306 != 0) ((match (Value.pointer p184) with | .pointer (some q310)=>∃ b311 b312 n313 n314 a315 l315 c315 a316 l316 c316 a317 l317 c317 n318 b319 b320 b321,w160.cell? q310=some (.bool b311)∧w160.cell? (Addr.add q310 1)=some (.bool b312)∧w160.cell? (Addr.add q310 2)=some (.int .i64 n313)∧w160.cell? (Addr.add q310 3)=some (.int .i64 n314)∧w160.cell? (Addr.add q310 4)=some (.slice a315 l315 c315)∧w160.cell? (Addr.add q310 5)=some (.slice a316 l316 c316)∧w160.cell? (Addr.add q310 6)=some (.slice a317 l317 c317)∧w160.cell? (Addr.add q310 7)=some (.int .i64 n318)∧w160.cell? (Addr.add q310 8)=some (.bool b319)∧w160.cell? (Addr.add q310 9)=some (.bool b320)∧w160.cell? (Addr.add q310 10)=some (.bool b321)∧ sq11 w1.heap.size w160 (.bool b311) (.bool b312) (.int .i64 n313) (.int .i64 n314) (.slice a315 l315 c315) (.slice a316 l316 c316) (.slice a317 l317 c317) (.int .i64 n318) (.bool b319) (.bool b320) (.bool b321) (fun w171=>lq1 w171 w1.heap.size fun b322 b323 n324 n325 a326 l326 c326 a327 l327 c327 a328 l328 c328 n329 b330 b331 b332=>Q (.tuple #[.agg (gq1 b322 b323 n324 n325 a326 l326 c326 a327 l327 c327 a328 l328 c328 n329 b330 b331 b332),.int .i64 n273,.int .i64 n306]) w171) | _=>False)) (J276 [] w160)) | _=>False)))))))))))) | _=>False)) | _=>False) | _=>False)) (J276 [] w147) | _=>False) | _=>False))∧(∀ (_:Env) (w172:World),J276 [] w172→(match (Value.pointer p184) with | .pointer (some q333)=>∃ b334 b335 n336 n337 a338 l338 c338 a339 l339 c339 a340 l340 c340 n341 b342 b343 b344,w172.cell? q333=some (.bool b334)∧w172.cell? (Addr.add q333 1)=some (.bool b335)∧w172.cell? (Addr.add q333 2)=some (.int .i64 n336)∧w172.cell? (Addr.add q333 3)=some (.int .i64 n337)∧w172.cell? (Addr.add q333 4)=some (.slice a338 l338 c338)∧w172.cell? (Addr.add q333 5)=some (.slice a339 l339 c339)∧w172.cell? (Addr.add q333 6)=some (.slice a340 l340 c340)∧w172.cell? (Addr.add q333 7)=some (.int .i64 n341)∧w172.cell? (Addr.add q333 8)=some (.bool b342)∧w172.cell? (Addr.add q333 9)=some (.bool b343)∧w172.cell? (Addr.add q333 10)=some (.bool b344)∧ CQ 199 [.agg (gq1 b334 b335 n336 n337 a338 l338 c338 a339 l339 c339 a340 l340 c340 n341 b342 b343 b344),.iface t12 v12,.int .u8 n275] w172 (fun r357 w173=>∃ b345 b346 n347 n348 a349 l349 c349 a350 l350 c350 a351 l351 c351 n352 b353 b354 b355 n356,r357=.tuple #[.agg (gq1 b345 b346 n347 n348 a349 l349 c349 a350 l350 c350 a351 l351 c351 n352 b353 b354 b355),.int .i64 n356]∧let w174:=w173.alloc (.cells zSq 151); sq11 w173.heap.size w174 (.bool b345) (.bool b346) (.int .i64 n347) (.int .i64 n348) (.slice a349 l349 c349) (.slice a350 l350 c350) (.slice a351 l351 c351) (.int .i64 n352) (.bool b353) (.bool b354) (.bool b355) (fun w185=>cond (n356 != 0) (∃ n358,w185.cell? (Addr.mk w173.heap.size 7 none)=some (.int .i64 n358)∧cond (n358 != 2) (lq1 w185 w173.heap.size fun b359 b360 n361 n362 a363 l363 c363 a364 l364 c364 a365 l365 c365 n366 b367 b368 b369=>sq11 w1.heap.size w185 (.bool b359) (.bool b360) (.int .i64 n361) (.int .i64 n362) (.slice a363 l363 c363) (.slice a364 l364 c364) (.slice a365 l365 c365) (.int .i64 n366) (.bool b367) (.bool b368) (.bool b369) (fun w196=>lq1 w196 w1.heap.size fun b370 b371 n372 n373 a374 l374 c374 a375 l375 c375 a376 l376 c376 n377 b378 b379 b380=>Q (.tuple #[.agg (gq1 b370 b371 n372 n373 a374 l374 c374 a375 l375 c375 a376 l376 c376 n377 b378 b379 b380),.int .i64 n273,.int .i64 n356]) w196)) (lq1 w185 w173.heap.size fun b381 b382 n383 n384 a385 l385 c385 a386 l386 c386 a387 l387 c387 n388 b389 b390 b391=>(match (Value.pointer p184) with | .pointer (some q392)=>stC q392 (.bool b381) w185 (fun w197=>stC (Addr.add q392 1) (.bool b382) w197 (fun w198=>stC (Addr.add q392 2) (.int .i64 n383) w198 (fun w199=>stC (Addr.add q392 3) (.int .i64 n384) w199 (fun w200=>stC (Addr.add q392 4) (.slice a385 l385 c385) w200 (fun w201=>stC (Addr.add q392 5) (.slice a386 l386 c386) w201 (fun w202=>stC (Addr.add q392 6) (.slice a387 l387 c387) w202 (fun w203=>stC (Addr.add q392 7) (.int .i64 n388) w203 (fun w204=>stC (Addr.add q392 8) (.bool b389) w204 (fun w205=>stC (Addr.add q392 9) (.bool b390) w205 (fun w206=>stC (Addr.add q392 10) (.bool b391) w206 (fun w207=>cond (n356 != 0) ((match (Value.pointer p184) with | .pointer (some q393)=>∃ b394 b395 n396 n397 a398 l398 c398 a399 l399 c399 a400 l400 c400 n401 b402 b403 b404,w207.cell? q393=some (.bool b394)∧w207.cell? (Addr.add q393 1)=some (.bool b395)∧w207.cell? (Addr.add q393 2)=some (.int .i64 n396)∧w207.cell? (Addr.add q393 3)=some (.int .i64 n397)∧w207.cell? (Addr.add q393 4)=some (.slice a398 l398 c398)∧w207.cell? (Addr.add q393 5)=some (.slice a399 l399 c399)∧w207.cell? (Addr.add q393 6)=some (.slice a400 l400 c400)∧w207.cell? (Addr.add q393 7)=some (.int .i64 n401)∧w207.cell? (Addr.add q393 8)=some (.bool b402)∧w207.cell? (Addr.add q393 9)=some (.bool b403)∧w207.cell? (Addr.add q393 10)=some (.bool b404)∧ inI (n273+1)∧sq11 w1.heap.size w207 (.bool b394) (.bool b395) (.int .i64 n396) (.int .i64 n397) (.slice a398 l398 c398) (.slice a399 l399 c399) (.slice a400 l400 c400) (.int .i64 n401) (.bool b402) (.bool b403) (.bool b404) (fun w218=>lq1 w218 w1.heap.size fun b405 b406 n407 n408 a409 l409 c409 a410 l410 c410 a411 l411 c411 n412 b413 b414 b415=>Q (.tuple #[.agg (gq1 b405 b406 n407 n408 a409 l409 c409 a410 l410 c410 a411 l411 c411 n412 b413 b414 b415),.int .i64 (n273+1),.int .i64 n356]) w218) | _=>False)) (inI (n273+1)∧I271 [.int .i64 (n273+1)] w207∧mu272 [.int .i64 (n273+1)] w207< mu272 [.int .i64 n273] w147)))))))))))) | _=>False))) (lq1 w185 w173.heap.size fun b416 b417 n418 n419 a420 l420 c420 a421 l421 c421 a422 l422 c422 n423 b424 b425 b426=>(match (Value.pointer p184) with | .pointer (some q427)=>stC q427 (.bool b416) w185 (fun w219=>stC (Addr.add q427 1) (.bool b417) w219 (fun w220=>stC (Addr.add q427 2) (.int .i64 n418) w220 (fun w221=>stC (Addr.add q427 3) (.int .i64 n419) w221 (fun w222=>stC (Addr.add q427 4) (.slice a420 l420 c420) w222 (fun w223=>stC (Addr.add q427 5) (.slice a421 l421 c421) w223 (fun w224=>stC (Addr.add q427 6) (.slice a422 l422 c422) w224 (fun w225=>stC (Addr.add q427 7) (.int .i64 n423) w225 (fun w226=>stC (Addr.add q427 8) (.bool b424) w226 (fun w227=>stC (Addr.add q427 9) (.bool b425) w227 (fun w228=>stC (Addr.add q427 10) (.bool b426) w228 (fun w229=>cond (n356 != 0) ((match (Value.pointer p184) with | .pointer (some q428)=>∃ b429 b430 n431 n432 a433 l433 c433 a434 l434 c434 a435 l435 c435 n436 b437 b438 b439,w229.cell? q428=some (.bool b429)∧w229.cell? (Addr.add q428 1)=some (.bool b430)∧w229.cell? (Addr.add q428 2)=some (.int .i64 n431)∧w229.cell? (Addr.add q428 3)=some (.int .i64 n432)∧w229.cell? (Addr.add q428 4)=some (.slice a433 l433 c433)∧w229.cell? (Addr.add q428 5)=some (.slice a434 l434 c434)∧w229.cell? (Addr.add q428 6)=some (.slice a435 l435 c435)∧w229.cell? (Addr.add q428 7)=some (.int .i64 n436)∧w229.cell? (Addr.add q428 8)=some (.bool b437)∧w229.cell? (Addr.add q428 9)=some (.bool b438)∧w229.cell? (Addr.add q428 10)=some (.bool b439)∧ inI (n273+1)∧sq11 w1.heap.size w229 (.bool b429) (.bool b430) (.int .i64 n431) (.int .i64 n432) (.slice a433 l433 c433) (.slice a434 l434 c434) (.slice a435 l435 c435) (.int .i64 n436) (.bool b437) (.bool b438) (.bool b439) (fun w240=>lq1 w240 w1.heap.size fun b440 b441 n442 n443 a444 l444 c444 a445 l445 c445 a446 l446 c446 n447 b448 b449 b450=>Q (.tuple #[.agg (gq1 b440 b441 n442 n443 a444 l444 c444 a445 l445 c445 a446 l446 c446 n447 b448 b449 b450),.int .i64 (n273+1),.int .i64 n356]) w240) | _=>False)) (inI (n273+1)∧I271 [.int .i64 (n273+1)] w229∧mu272 [.int .i64 (n273+1)] w229< mu272 [.int .i64 n273] w147)))))))))))) | _=>False)))) | _=>False)))) ((match (Value.pointer p184) with | .pointer (some q451)=>∃ b452 b453 n454 n455 a456 l456 c456 a457 l457 c457 a458 l458 c458 n459 b460 b461 b462,w147.cell? q451=some (.bool b452)∧w147.cell? (Addr.add q451 1)=some (.bool b453)∧w147.cell? (Addr.add q451 2)=some (.int .i64 n454)∧w147.cell? (Addr.add q451 3)=some (.int .i64 n455)∧w147.cell? (Addr.add q451 4)=some (.slice a456 l456 c456)∧w147.cell? (Addr.add q451 5)=some (.slice a457 l457 c457)∧w147.cell? (Addr.add q451 6)=some (.slice a458 l458 c458)∧w147.cell? (Addr.add q451 7)=some (.int .i64 n459)∧w147.cell? (Addr.add q451 8)=some (.bool b460)∧w147.cell? (Addr.add q451 9)=some (.bool b461)∧w147.cell? (Addr.add q451 10)=some (.bool b462)∧ sq11 w1.heap.size w147 (.bool b452) (.bool b453) (.int .i64 n454) (.int .i64 n455) (.slice a456 l456 c456) (.slice a457 l457 c457) (.slice a458 l458 c458) (.int .i64 n459) (.bool b460) (.bool b461) (.bool b462) (fun w251=>lq1 w251 w1.heap.size fun b463 b464 n465 n466 a467 l467 c467 a468 l468 c468 a469 l469 c469 n470 b471 b472 b473=>Q (.tuple #[.agg (gq1 b463 b464 n465 n466 a467 l467 c467 a468 l468 c468 a469 l469 c469 n470 b471 b472 b473),.int .i64 (((l13:Nat):Int)),.int .i64 0]) w251) | _=>False)))
 | _=>False))))
theorem C145 {b1 b2 n3 n4 a5 l5 c5 a6 l6 c6 a7 l7 c7 n8 b9 b10 b11 t12 v12 a13 l13 c13 Q w} (h:L145 b1 b2 n3 n4 a5 l5 c5 a6 l6 c6 a7 l7 c7 n8 b9 b10 b11 t12 v12 a13 l13 c13 Q w):CallR Tryz.prog 145 [.agg #[.bool b1,.bool b2,.int .i64 n3,.int .i64 n4,.slice a5 l5 c5,.slice a6 l6 c6,.slice a7 l7 c7,.int .i64 n8,.bool b9,.bool b10,.bool b11],.iface t12 v12,.slice a13 l13 c13] w Q:=
 fC A145 Tryz.func145 rfl (by kernel_rfl) (Eq.mp (by kernel_rfl) h)
def A197:Ann:=⟨[],[(2,[(9,.one (.ptr)),(10,.one (.int .i64))])],[],[],[],[1]⟩
def L197 (b1 b2:Bool) (n3 n4:Int) (a5:Option Addr) (l5 c5:Nat) (a6:Option Addr) (l6 c6:Nat) (a7:Option Addr) (l7 c7:Nat) (n8:Int) (b9 b10 b11:Bool) (t12:TypeId) (v12:Value) (a13:Option Addr) (l13 c13:Nat) (Q:Value→World→Prop) (w:World):Prop:=
 let w1:=w.alloc (.cells (gq1 b1 b2 n3 n4 a5 l5 c5 a6 l6 c6 a7 l7 c7 n8 b9 b10 b11) 151);
 let w2:=w1.alloc (.cells zSq 151);
 ∃ (J14:List Value→World→Prop),
 (let w3:=w2.drew;
 (0≤(0:Int)∧(0:Int)< ((l13:Nat):Int))∧
 nn a13 (fun q15=>
 (lq1 w3 w.heap.size fun b16 b17 n18 n19 a20 l20 c20 a21 l21 c21 a22 l22 c22 n23 b24 b25 b26=>(∃ n27,w3.cell? (Addr.add q15 (Int.toNat 0))=some (.int .u8 n27)∧
 (CQ 199 [.agg (gq1 b16 b17 n18 n19 a20 l20 c20 a21 l21 c21 a22 l22 c22 n23 b24 b25 b26),.iface 347 (.agg #[.iface t12 v12]),.int .u8 n27] w3 (fun r40 w4=>
 ∃ b28 b29 n30 n31 a32 l32 c32 a33 l33 c33 a34 l34 c34 n35 b36 b37 b38 n39,r40=.tuple #[.agg (gq1 b28 b29 n30 n31 a32 l32 c32 a33 l33 c33 a34 l34 c34 n35 b36 b37 b38),.int .i64 n39]∧
 let w5:=w4.alloc (.cells zSq 151);
 sq11 w4.heap.size w5 (.bool b28) (.bool b29) (.int .i64 n30) (.int .i64 n31) (.slice a32 l32 c32) (.slice a33 l33 c33) (.slice a34 l34 c34) (.int .i64 n35) (.bool b36) (.bool b37) (.bool b38) (fun w16=>J14 [.pointer (some (Addr.mk w4.heap.size 0 none)),.int .i64 n39] w16)))∧
 (let w17:=w3.alloc (.cells zSq 151);
 CQ 199 [.agg (gq1 b16 b17 n18 n19 a20 l20 c20 a21 l21 c21 a22 l22 c22 n23 b24 b25 b26),.iface 347 (.agg #[.iface t12 v12]),.int .u8 n27] w17 (fun r53 w18=>
 ∃ b41 b42 n43 n44 a45 l45 c45 a46 l46 c46 a47 l47 c47 n48 b49 b50 b51 n52,r53=.tuple #[.agg (gq1 b41 b42 n43 n44 a45 l45 c45 a46 l46 c46 a47 l47 c47 n48 b49 b50 b51),.int .i64 n52]∧
 sq11 w3.heap.size w18 (.bool b41) (.bool b42) (.int .i64 n43) (.int .i64 n44) (.slice a45 l45 c45) (.slice a46 l46 c46) (.slice a47 l47 c47) (.int .i64 n48) (.bool b49) (.bool b50) (.bool b51) (fun w29=>J14 [.pointer (some (Addr.mk w3.heap.size 0 none)),.int .i64 n52] w29))))∧
 (let w30:=w3.alloc (.cells zSq 151);
 ∃ n54,w30.cell? (Addr.add q15 (Int.toNat 0))=some (.int .u8 n54)∧
 CQ 199 [.agg (gq1 b16 b17 n18 n19 a20 l20 c20 a21 l21 c21 a22 l22 c22 n23 b24 b25 b26),.iface 347 (.agg #[.iface t12 v12]),.int .u8 n54] w30 (fun r67 w31=>
 ∃ b55 b56 n57 n58 a59 l59 c59 a60 l60 c60 a61 l61 c61 n62 b63 b64 b65 n66,r67=.tuple #[.agg (gq1 b55 b56 n57 n58 a59 l59 c59 a60 l60 c60 a61 l61 c61 n62 b63 b64 b65),.int .i64 n66]∧
 sq11 w3.heap.size w31 (.bool b55) (.bool b56) (.int .i64 n57) (.int .i64 n58) (.slice a59 l59 c59) (.slice a60 l60 c60) (.slice a61 l61 c61) (.int .i64 n62) (.bool b63) (.bool b64) (.bool b65) (fun w42=>J14 [.pointer (some (Addr.mk w3.heap.size 0 none)),.int .i64 n66] w42))))∧
 (∃ n68,w3.cell? (Addr.add q15 (Int.toNat 0))=some (.int .u8 n68)∧
 (lq1 w3 w.heap.size fun b69 b70 n71 n72 a73 l73 c73 a74 l74 c74 a75 l75 c75 n76 b77 b78 b79=>(CQ 199 [.agg (gq1 b69 b70 n71 n72 a73 l73 c73 a74 l74 c74 a75 l75 c75 n76 b77 b78 b79),.iface 347 (.agg #[.iface t12 v12]),.int .u8 n68] w3 (fun r92 w43=>
 ∃ b80 b81 n82 n83 a84 l84 c84 a85 l85 c85 a86 l86 c86 n87 b88 b89 b90 n91,r92=.tuple #[.agg (gq1 b80 b81 n82 n83 a84 l84 c84 a85 l85 c85 a86 l86 c86 n87 b88 b89 b90),.int .i64 n91]∧
 let w44:=w43.alloc (.cells zSq 151);
 sq11 w43.heap.size w44 (.bool b80) (.bool b81) (.int .i64 n82) (.int .i64 n83) (.slice a84 l84 c84) (.slice a85 l85 c85) (.slice a86 l86 c86) (.int .i64 n87) (.bool b88) (.bool b89) (.bool b90) (fun w55=>J14 [.pointer (some (Addr.mk w43.heap.size 0 none)),.int .i64 n91] w55)))∧
 (let w56:=w3.alloc (.cells zSq 151);
 CQ 199 [.agg (gq1 b69 b70 n71 n72 a73 l73 c73 a74 l74 c74 a75 l75 c75 n76 b77 b78 b79),.iface 347 (.agg #[.iface t12 v12]),.int .u8 n68] w56 (fun r105 w57=>
 ∃ b93 b94 n95 n96 a97 l97 c97 a98 l98 c98 a99 l99 c99 n100 b101 b102 b103 n104,r105=.tuple #[.agg (gq1 b93 b94 n95 n96 a97 l97 c97 a98 l98 c98 a99 l99 c99 n100 b101 b102 b103),.int .i64 n104]∧
 sq11 w3.heap.size w57 (.bool b93) (.bool b94) (.int .i64 n95) (.int .i64 n96) (.slice a97 l97 c97) (.slice a98 l98 c98) (.slice a99 l99 c99) (.int .i64 n100) (.bool b101) (.bool b102) (.bool b103) (fun w68=>J14 [.pointer (some (Addr.mk w3.heap.size 0 none)),.int .i64 n104] w68))))∧
 (let w69:=w3.alloc (.cells zSq 151);
 lq1 w69 w.heap.size fun b106 b107 n108 n109 a110 l110 c110 a111 l111 c111 a112 l112 c112 n113 b114 b115 b116=>CQ 199 [.agg (gq1 b106 b107 n108 n109 a110 l110 c110 a111 l111 c111 a112 l112 c112 n113 b114 b115 b116),.iface 347 (.agg #[.iface t12 v12]),.int .u8 n68] w69 (fun r129 w70=>
 ∃ b117 b118 n119 n120 a121 l121 c121 a122 l122 c122 a123 l123 c123 n124 b125 b126 b127 n128,r129=.tuple #[.agg (gq1 b117 b118 n119 n120 a121 l121 c121 a122 l122 c122 a123 l123 c123 n124 b125 b126 b127),.int .i64 n128]∧
 sq11 w3.heap.size w70 (.bool b117) (.bool b118) (.int .i64 n119) (.int .i64 n120) (.slice a121 l121 c121) (.slice a122 l122 c122) (.slice a123 l123 c123) (.int .i64 n124) (.bool b125) (.bool b126) (.bool b127) (fun w81=>J14 [.pointer (some (Addr.mk w3.heap.size 0 none)),.int .i64 n128] w81))))∧
 (let w82:=w3.alloc (.cells zSq 151);
 (lq1 w82 w.heap.size fun b130 b131 n132 n133 a134 l134 c134 a135 l135 c135 a136 l136 c136 n137 b138 b139 b140=>∃ n141,w82.cell? (Addr.add q15 (Int.toNat 0))=some (.int .u8 n141)∧
 CQ 199 [.agg (gq1 b130 b131 n132 n133 a134 l134 c134 a135 l135 c135 a136 l136 c136 n137 b138 b139 b140),.iface 347 (.agg #[.iface t12 v12]),.int .u8 n141] w82 (fun r154 w83=>
 ∃ b142 b143 n144 n145 a146 l146 c146 a147 l147 c147 a148 l148 c148 n149 b150 b151 b152 n153,r154=.tuple #[.agg (gq1 b142 b143 n144 n145 a146 l146 c146 a147 l147 c147 a148 l148 c148 n149 b150 b151 b152),.int .i64 n153]∧
 sq11 w3.heap.size w83 (.bool b142) (.bool b143) (.int .i64 n144) (.int .i64 n145) (.slice a146 l146 c146) (.slice a147 l147 c147) (.slice a148 l148 c148) (.int .i64 n149) (.bool b150) (.bool b151) (.bool b152) (fun w94=>J14 [.pointer (some (Addr.mk w3.heap.size 0 none)),.int .i64 n153] w94)))∧
 (∃ n155,w82.cell? (Addr.add q15 (Int.toNat 0))=some (.int .u8 n155)∧
 lq1 w82 w.heap.size fun b156 b157 n158 n159 a160 l160 c160 a161 l161 c161 a162 l162 c162 n163 b164 b165 b166=>CQ 199 [.agg (gq1 b156 b157 n158 n159 a160 l160 c160 a161 l161 c161 a162 l162 c162 n163 b164 b165 b166),.iface 347 (.agg #[.iface t12 v12]),.int .u8 n155] w82 (fun r179 w95=>
 ∃ b167 b168 n169 n170 a171 l171 c171 a172 l172 c172 a173 l173 c173 n174 b175 b176 b177 n178,r179=.tuple #[.agg (gq1 b167 b168 n169 n170 a171 l171 c171 a172 l172 c172 a173 l173 c173 n174 b175 b176 b177),.int .i64 n178]∧
 sq11 w3.heap.size w95 (.bool b167) (.bool b168) (.int .i64 n169) (.int .i64 n170) (.slice a171 l171 c171) (.slice a172 l172 c172) (.slice a173 l173 c173) (.int .i64 n174) (.bool b175) (.bool b176) (.bool b177) (fun w106=>J14 [.pointer (some (Addr.mk w3.heap.size 0 none)),.int .i64 n178] w106))))))∧
 (∀ (_:Env) (p180:Option Addr) (n181:Int) (w107:World),J14 [.pointer p180,.int .i64 n181] w107→
 cond (n181 != 52)
 ((match (Value.pointer p180) with
 | .pointer (some q182)=>∃ b183 b184 n185 n186 a187 l187 c187 a188 l188 c188 a189 l189 c189 n190 b191 b192 b193,w107.cell? q182=some (.bool b183)∧w107.cell? (Addr.add q182 1)=some (.bool b184)∧w107.cell? (Addr.add q182 2)=some (.int .i64 n185)∧w107.cell? (Addr.add q182 3)=some (.int .i64 n186)∧w107.cell? (Addr.add q182 4)=some (.slice a187 l187 c187)∧w107.cell? (Addr.add q182 5)=some (.slice a188 l188 c188)∧w107.cell? (Addr.add q182 6)=some (.slice a189 l189 c189)∧w107.cell? (Addr.add q182 7)=some (.int .i64 n190)∧w107.cell? (Addr.add q182 8)=some (.bool b191)∧w107.cell? (Addr.add q182 9)=some (.bool b192)∧w107.cell? (Addr.add q182 10)=some (.bool b193)∧ sq11 w1.heap.size w107 (.bool b183) (.bool b184) (.int .i64 n185) (.int .i64 n186) (.slice a187 l187 c187) (.slice a188 l188 c188) (.slice a189 l189 c189) (.int .i64 n190) (.bool b191) (.bool b192) (.bool b193) (fun w118=>lq1 w118 w1.heap.size fun b194 b195 n196 n197 a198 l198 c198 a199 l199 c199 a200 l200 c200 n201 b202 b203 b204=>Q (.tuple #[.agg (gq1 b194 b195 n196 n197 a198 l198 c198 a199 l199 c199 a200 l200 c200 n201 b202 b203 b204),.int .i64 0,.int .i64 n181]) w118)
 | _=>False))
 (CQ 228 [.iface t12 v12,.slice a13 l13 c13] w107 (fun r207 w119=>
 ∃ n205 n206,r207=.tuple #[.int .i64 n205,.int .i64 n206]∧
 (match (Value.pointer p180) with
 | .pointer (some q208)=>∃ b209,w119.cell? (Addr.add q208 9)=some (.bool b209)∧cond b209 ((match (Value.pointer p180) with | .pointer (some q210)=>stC (Addr.add q210 9) (.bool true) w119 (fun w120=>(match (Value.pointer p180) with | .pointer (some q211)=>∃ b212 b213 n214 n215 a216 l216 c216 a217 l217 c217 a218 l218 c218 n219 b220 b221 b222,w120.cell? q211=some (.bool b212)∧w120.cell? (Addr.add q211 1)=some (.bool b213)∧w120.cell? (Addr.add q211 2)=some (.int .i64 n214)∧w120.cell? (Addr.add q211 3)=some (.int .i64 n215)∧w120.cell? (Addr.add q211 4)=some (.slice a216 l216 c216)∧w120.cell? (Addr.add q211 5)=some (.slice a217 l217 c217)∧w120.cell? (Addr.add q211 6)=some (.slice a218 l218 c218)∧w120.cell? (Addr.add q211 7)=some (.int .i64 n219)∧w120.cell? (Addr.add q211 8)=some (.bool b220)∧w120.cell? (Addr.add q211 9)=some (.bool b221)∧w120.cell? (Addr.add q211 10)=some (.bool b222)∧ sq11 w1.heap.size w120 (.bool b212) (.bool b213) (.int .i64 n214) (.int .i64 n215) (.slice a216 l216 c216) (.slice a217 l217 c217) (.slice a218 l218 c218) (.int .i64 n219) (.bool b220) (.bool b221) (.bool b222) (fun w131=>lq1 w131 w1.heap.size fun b223 b224 n225 n226 a227 l227 c227 a228 l228 c228 a229 l229 c229 n230 b231 b232 b233=>Q (.tuple #[.agg (gq1 b223 b224 n225 n226 a227 l227 c227 a228 l228 c228 a229 l229 c229 n230 b231 b232 b233),.int .i64 n205,.int .i64 n206]) w131) | _=>False)) | _=>False)) (cond (n206 != 0) ((match (Value.pointer p180) with | .pointer (some q234)=>stC (Addr.add q234 9) (.bool (n206 != 52)) w119 (fun w132=>(match (Value.pointer p180) with | .pointer (some q235)=>∃ b236 b237 n238 n239 a240 l240 c240 a241 l241 c241 a242 l242 c242 n243 b244 b245 b246,w132.cell? q235=some (.bool b236)∧w132.cell? (Addr.add q235 1)=some (.bool b237)∧w132.cell? (Addr.add q235 2)=some (.int .i64 n238)∧w132.cell? (Addr.add q235 3)=some (.int .i64 n239)∧w132.cell? (Addr.add q235 4)=some (.slice a240 l240 c240)∧w132.cell? (Addr.add q235 5)=some (.slice a241 l241 c241)∧w132.cell? (Addr.add q235 6)=some (.slice a242 l242 c242)∧w132.cell? (Addr.add q235 7)=some (.int .i64 n243)∧w132.cell? (Addr.add q235 8)=some (.bool b244)∧w132.cell? (Addr.add q235 9)=some (.bool b245)∧w132.cell? (Addr.add q235 10)=some (.bool b246)∧ sq11 w1.heap.size w132 (.bool b236) (.bool b237) (.int .i64 n238) (.int .i64 n239) (.slice a240 l240 c240) (.slice a241 l241 c241) (.slice a242 l242 c242) (.int .i64 n243) (.bool b244) (.bool b245) (.bool b246) (fun w143=>lq1 w143 w1.heap.size fun b247 b248 n249 n250 a251 l251 c251 a252 l252 c252 a253 l253 c253 n254 b255 b256 b257=>Q (.tuple #[.agg (gq1 b247 b248 n249 n250 a251 l251 c251 a252 l252 c252 a253 l253 c253 n254 b255 b256 b257),.int .i64 n205,.int .i64 n206]) w143) | _=>False)) | _=>False)) ((match (Value.pointer p180) with | .pointer (some q258)=>stC (Addr.add q258 9) (.bool false) w119 (fun w144=>(match (Value.pointer p180) with | .pointer (some q259)=>∃ b260 b261 n262 n263 a264 l264 c264 a265 l265 c265 a266 l266 c266 n267 b268 b269 b270,w144.cell? q259=some (.bool b260)∧w144.cell? (Addr.add q259 1)=some (.bool b261)∧w144.cell? (Addr.add q259 2)=some (.int .i64 n262)∧w144.cell? (Addr.add q259 3)=some (.int .i64 n263)∧w144.cell? (Addr.add q259 4)=some (.slice a264 l264 c264)∧w144.cell? (Addr.add q259 5)=some (.slice a265 l265 c265)∧w144.cell? (Addr.add q259 6)=some (.slice a266 l266 c266)∧w144.cell? (Addr.add q259 7)=some (.int .i64 n267)∧w144.cell? (Addr.add q259 8)=some (.bool b268)∧w144.cell? (Addr.add q259 9)=some (.bool b269)∧w144.cell? (Addr.add q259 10)=some (.bool b270)∧ sq11 w1.heap.size w144 (.bool b260) (.bool b261) (.int .i64 n262) (.int .i64 n263) (.slice a264 l264 c264) (.slice a265 l265 c265) (.slice a266 l266 c266) (.int .i64 n267) (.bool b268) (.bool b269) (.bool b270) (fun w155=>lq1 w155 w1.heap.size fun b271 b272 n273 n274 a275 l275 c275 a276 l276 c276 a277 l277 c277 n278 b279 b280 b281=>Q (.tuple #[.agg (gq1 b271 b272 n273 n274 a275 l275 c275 a276 l276 c276 a277 l277 c277 n278 b279 b280 b281),.int .i64 n205,.int .i64 n206]) w155) | _=>False)) | _=>False)))
 | _=>False))))
theorem C197 {b1 b2 n3 n4 a5 l5 c5 a6 l6 c6 a7 l7 c7 n8 b9 b10 b11 t12 v12 a13 l13 c13 Q w} (h:L197 b1 b2 n3 n4 a5 l5 c5 a6 l6 c6 a7 l7 c7 n8 b9 b10 b11 t12 v12 a13 l13 c13 Q w):CallR Tryz.prog 197 [.agg #[.bool b1,.bool b2,.int .i64 n3,.int .i64 n4,.slice a5 l5 c5,.slice a6 l6 c6,.slice a7 l7 c7,.int .i64 n8,.bool b9,.bool b10,.bool b11],.iface t12 v12,.slice a13 l13 c13] w Q:=
 fC A197 Tryz.func197 rfl (by kernel_rfl) (Eq.mp (by kernel_rfl) h)
def A241:Ann:=⟨[],[],[],[],[],[]⟩
def L241 (n1 n2:Int) (Q:Value→World→Prop) (w:World):Prop:=
 cond (decide (n1< 0))
 (Q (.tuple #[.int .i64 0,.int .i64 4]) w)
 (cond (decide (n2< 0))
 (Q (.tuple #[.int .i64 0,.int .i64 4]) w)
 (CQ 256 [.int .u64 (IntKind.wrap .u64 n1),.int .u64 (IntKind.wrap .u64 n2)] w (fun r5 w1=>
 ∃ n3 n4,r5=.tuple #[.int .u64 n3,.int .u64 n4]∧
 cond (decide (n3 > 0))
 (Q (.tuple #[.int .i64 0,.int .i64 4]) w1)
 (cond (decide (n4 > 1048576))
 (Q (.tuple #[.int .i64 0,.int .i64 4]) w1)
 (Q (.tuple #[.int .i64 (IntKind.wrap .i64 n4),.int .i64 0]) w1)))))
theorem C241 {n1 n2 Q w} (h:L241 n1 n2 Q w):CallR Tryz.prog 241 [.int .i64 n1,.int .i64 n2] w Q:=
 fC A241 Tryz.func241 rfl (by kernel_rfl) (Eq.mp (by kernel_rfl) h)
def A256:Ann:=⟨[],[],[],[],[],[]⟩
def L256 (n1 n2:Int) (Q:Value→World→Prop) (w:World):Prop:=
 0≤(32:Int)∧
 0≤(32:Int)∧
 0≤(32:Int)∧
 0≤(32:Int)∧
 0≤(32:Int)∧
 Q (.tuple #[.int .u64 (IntKind.wrap .u64 ((IntKind.wrap .u64 ((IntKind.wrap .u64 ((Int.fdiv n1 (2 ^ (min (Int.toNat 32) (IntKind.bits .u64)))) * (Int.fdiv n2 (2 ^ (min (Int.toNat 32) (IntKind.bits .u64))))))+(Int.fdiv (IntKind.wrap .u64 ((IntKind.wrap .u64 ((Int.fdiv n1 (2 ^ (min (Int.toNat 32) (IntKind.bits .u64)))) * (IntKind.wrap .u64 ↑(BitVec.ofInt (IntKind.bits .u64) n2 &&& BitVec.ofInt (IntKind.bits .u64) 4294967295).toNat)))+(Int.fdiv (IntKind.wrap .u64 ((IntKind.wrap .u64 ↑(BitVec.ofInt (IntKind.bits .u64) n1 &&& BitVec.ofInt (IntKind.bits .u64) 4294967295).toNat) * (IntKind.wrap .u64 ↑(BitVec.ofInt (IntKind.bits .u64) n2 &&& BitVec.ofInt (IntKind.bits .u64) 4294967295).toNat))) (2 ^ (min (Int.toNat 32) (IntKind.bits .u64)))))) (2 ^ (min (Int.toNat 32) (IntKind.bits .u64))))))+(Int.fdiv (IntKind.wrap .u64 ((IntKind.wrap .u64 ↑(BitVec.ofInt (IntKind.bits .u64) (IntKind.wrap .u64 ((IntKind.wrap .u64 ((Int.fdiv n1 (2 ^ (min (Int.toNat 32) (IntKind.bits .u64)))) * (IntKind.wrap .u64 ↑(BitVec.ofInt (IntKind.bits .u64) n2 &&& BitVec.ofInt (IntKind.bits .u64) 4294967295).toNat)))+(Int.fdiv (IntKind.wrap .u64 ((IntKind.wrap .u64 ↑(BitVec.ofInt (IntKind.bits .u64) n1 &&& BitVec.ofInt (IntKind.bits .u64) 4294967295).toNat) * (IntKind.wrap .u64 ↑(BitVec.ofInt (IntKind.bits .u64) n2 &&& BitVec.ofInt (IntKind.bits .u64) 4294967295).toNat))) (2 ^ (min (Int.toNat 32) (IntKind.bits .u64)))))) &&& BitVec.ofInt (IntKind.bits .u64) 4294967295).toNat)+(IntKind.wrap .u64 ((IntKind.wrap .u64 ↑(BitVec.ofInt (IntKind.bits .u64) n1 &&& BitVec.ofInt (IntKind.bits .u64) 4294967295).toNat) * (Int.fdiv n2 (2 ^ (min (Int.toNat 32) (IntKind.bits .u64)))))))) (2 ^ (min (Int.toNat 32) (IntKind.bits .u64)))))),.int .u64 (IntKind.wrap .u64 (n1 * n2))]) w
theorem C256 {n1 n2 Q w} (h:L256 n1 n2 Q w):CallR Tryz.prog 256 [.int .u64 n1,.int .u64 n2] w Q:=
 fC A256 Tryz.func256 rfl (by kernel_rfl) (Eq.mp (by kernel_rfl) h)
def A216:Ann:=⟨[],[],[],[],[(2,[0,1,3,4,6,7,2,9,5],8,[10,11,12,13,14])],[]⟩
def L216 (b1 b2:Bool) (n3 n4:Int) (a5:Option Addr) (l5 c5:Nat) (a6:Option Addr) (l6 c6:Nat) (a7:Option Addr) (l7 c7:Nat) (n8:Int) (b9 b10 b11:Bool) (v12:Value) (n13 n14:Int) (Q:Value→World→Prop) (w:World):Prop:=
 let w1:=w.alloc (.cells (gq1 b1 b2 n3 n4 a5 l5 c5 a6 l6 c6 a7 l7 c7 n8 b9 b10 b11) 151);
 let w2:=w1.alloc (.cells zSq 151);
 lq1 w2 w.heap.size fun b15 b16 n17 n18 a19 l19 c19 a20 l20 c20 a21 l21 c21 n22 b23 b24 b25=>let w3:=w2.alloc (.cells zSq 151);
 sq11 w2.heap.size w3 (.bool b15) (.bool b16) (.int .i64 n17) (.int .i64 n18) (.slice a19 l19 c19) (.slice a20 l20 c20) (.slice a21 l21 c21) (.int .i64 n22) (.bool b23) (.bool b24) (.bool b25) (fun w14=>∃ (S26:World→Prop),S26 (w14.drew)∧
 let w15:=w14.drew;
 ∃ a27 l27 c27,(∀ wS:World,S26 wS→wS.cell? (Addr.mk w.heap.size 4 none)=some (.slice a27 l27 c27))∧
 ∃ a28 l28 c28,(∀ wS:World,S26 wS→wS.cell? (Addr.mk w.heap.size 5 none)=some (.slice a28 l28 c28))∧
 ∃ a29 l29 c29,(∀ wS:World,S26 wS→wS.cell? (Addr.mk w.heap.size 6 none)=some (.slice a29 l29 c29))∧
 CQ 217 [.slice a27 l27 c27] w15 (fun r31 w16=>
 ∃ a30 l30 c30,r31=.slice a30 l30 c30∧
 S26 w16∧
 CQ 217 [.slice a28 l28 c28] w16 (fun r33 w17=>
 ∃ a32 l32 c32,r33=.slice a32 l32 c32∧
 S26 w17∧
 CQ 217 [.slice a29 l29 c29] w17 (fun r35 w18=>
 ∃ a34 l34 c34,r35=.slice a34 l34 c34∧
 stC (Addr.mk w2.heap.size 4 none) (.slice a30 l30 c30) w18 (fun w19=>
 stC (Addr.mk w2.heap.size 5 none) (.slice a32 l32 c32) w19 (fun w20=>
 stC (Addr.mk w2.heap.size 6 none) (.slice a34 l34 c34) w20 (fun w21=>
 lq1 w21 w.heap.size fun b36 b37 n38 n39 a40 l40 c40 a41 l41 c41 a42 l42 c42 n43 b44 b45 b46=>CQ 157 [.agg (gq1 b36 b37 n38 n39 a40 l40 c40 a41 l41 c41 a42 l42 c42 n43 b44 b45 b46)] w21 (fun r48 w22=>
 ∃ n47,r48=.int .i64 n47∧
 cond (n47 != 0)
 (lq1 w22 w2.heap.size fun b49 b50 n51 n52 a53 l53 c53 a54 l54 c54 a55 l55 c55 n56 b57 b58 b59=>sq11 w1.heap.size w22 (.bool b49) (.bool b50) (.int .i64 n51) (.int .i64 n52) (.slice a53 l53 c53) (.slice a54 l54 c54) (.slice a55 l55 c55) (.int .i64 n56) (.bool b57) (.bool b58) (.bool b59) (fun w33=>lq1 w33 w1.heap.size fun b60 b61 n62 n63 a64 l64 c64 a65 l65 c65 a66 l66 c66 n67 b68 b69 b70=>Q (.tuple #[.agg (gq1 b60 b61 n62 n63 a64 l64 c64 a65 l65 c65 a66 l66 c66 n67 b68 b69 b70),.int .i64 0,.int .i64 n47]) w33))
 (∃ b71 w34,Sem.run Tryz.prog (Sem.bind (eqGuard .eql 179 (.tmp 35) (.const (.nilIface)) v12 .nilIface) (fun _=>binOp .eql 179 v12 .nilIface)) w22=.ok (.bool b71) w34∧
 cond b71
 (lq1 w34 w2.heap.size fun b72 b73 n74 n75 a76 l76 c76 a77 l77 c77 a78 l78 c78 n79 b80 b81 b82=>sq11 w1.heap.size w34 (.bool b72) (.bool b73) (.int .i64 n74) (.int .i64 n75) (.slice a76 l76 c76) (.slice a77 l77 c77) (.slice a78 l78 c78) (.int .i64 n79) (.bool b80) (.bool b81) (.bool b82) (fun w45=>lq1 w45 w1.heap.size fun b83 b84 n85 n86 a87 l87 c87 a88 l88 c88 a89 l89 c89 n90 b91 b92 b93=>Q (.tuple #[.agg (gq1 b83 b84 n85 n86 a87 l87 c87 a88 l88 c88 a89 l89 c89 n90 b91 b92 b93),.int .i64 0,.int .i64 2]) w45))
 (∃ b94,w34.cell? (Addr.mk w.heap.size 10 none)=some (.bool b94)∧
 cond b94
 (lq1 w34 w2.heap.size fun b95 b96 n97 n98 a99 l99 c99 a100 l100 c100 a101 l101 c101 n102 b103 b104 b105=>sq11 w1.heap.size w34 (.bool b95) (.bool b96) (.int .i64 n97) (.int .i64 n98) (.slice a99 l99 c99) (.slice a100 l100 c100) (.slice a101 l101 c101) (.int .i64 n102) (.bool b103) (.bool b104) (.bool b105) (fun w56=>lq1 w56 w1.heap.size fun b106 b107 n108 n109 a110 l110 c110 a111 l111 c111 a112 l112 c112 n113 b114 b115 b116=>Q (.tuple #[.agg (gq1 b106 b107 n108 n109 a110 l110 c110 a111 l111 c111 a112 l112 c112 n113 b114 b115 b116),.int .i64 0,.int .i64 113]) w56))
 (CQ 241 [.int .i64 n13,.int .i64 n14] w34 (fun r119 w57=>
 ∃ n117 n118,r119=.tuple #[.int .i64 n117,.int .i64 n118]∧
 lq1 w57 w2.heap.size fun b120 b121 n122 n123 a124 l124 c124 a125 l125 c125 a126 l126 c126 n127 b128 b129 b130=>sq11 w1.heap.size w57 (.bool b120) (.bool b121) (.int .i64 n122) (.int .i64 n123) (.slice a124 l124 c124) (.slice a125 l125 c125) (.slice a126 l126 c126) (.int .i64 n127) (.bool b128) (.bool b129) (.bool b130) (fun w68=>lq1 w68 w1.heap.size fun b131 b132 n133 n134 a135 l135 c135 a136 l136 c136 a137 l137 c137 n138 b139 b140 b141=>Q (.tuple #[.agg (gq1 b131 b132 n133 n134 a135 l135 c135 a136 l136 c136 a137 l137 c137 n138 b139 b140 b141),.int .i64 n117,.int .i64 n118]) w68)))))))))))))
theorem C216 {b1 b2 n3 n4 a5 l5 c5 a6 l6 c6 a7 l7 c7 n8 b9 b10 b11 v12 n13 n14 Q w} (h:L216 b1 b2 n3 n4 a5 l5 c5 a6 l6 c6 a7 l7 c7 n8 b9 b10 b11 v12 n13 n14 Q w):CallR Tryz.prog 216 [.agg #[.bool b1,.bool b2,.int .i64 n3,.int .i64 n4,.slice a5 l5 c5,.slice a6 l6 c6,.slice a7 l7 c7,.int .i64 n8,.bool b9,.bool b10,.bool b11],v12,.int .i64 n13,.int .i64 n14] w Q:=
 fC A216 Tryz.func216 rfl (by kernel_rfl) (Eq.mp (by kernel_rfl) h)
def A164:Ann:=⟨[(6,[(14,.one (.int .i64)),(15,.one (.slice)),(35,.one (.int .i64))])],[],[],[(12,[0,1,2,3,4,5,6,7,8,9,10])],[],[]⟩
def L164 (b1 b2:Bool) (n3 n4:Int) (a5:Option Addr) (l5 c5:Nat) (a6:Option Addr) (l6 c6:Nat) (a7:Option Addr) (l7 c7:Nat) (n8:Int) (b9 b10 b11:Bool) (v12:Value) (n13 n14:Int) (Q:Value→World→Prop) (w:World):Prop:=
 let w1:=w.alloc (.cells (gq1 b1 b2 n3 n4 a5 l5 c5 a6 l6 c6 a7 l7 c7 n8 b9 b10 b11) 151);
 let w2:=w1.alloc (.cells zSq 151);
 lq1 w2 w.heap.size fun b15 b16 n17 n18 a19 l19 c19 a20 l20 c20 a21 l21 c21 n22 b23 b24 b25=>CQ 216 [.agg (gq1 b15 b16 n17 n18 a19 l19 c19 a20 l20 c20 a21 l21 c21 n22 b23 b24 b25),v12,.int .i64 n13,.int .i64 n14] w2 (fun r39 w3=>
 ∃ b26 b27 n28 n29 a30 l30 c30 a31 l31 c31 a32 l32 c32 n33 b34 b35 b36 n37 n38,r39=.tuple #[.agg (gq1 b26 b27 n28 n29 a30 l30 c30 a31 l31 c31 a32 l32 c32 n33 b34 b35 b36),.int .i64 n37,.int .i64 n38]∧
 let w4:=w3.alloc (.cells zSq 151);
 sq11 w3.heap.size w4 (.bool b26) (.bool b27) (.int .i64 n28) (.int .i64 n29) (.slice a30 l30 c30) (.slice a31 l31 c31) (.slice a32 l32 c32) (.int .i64 n33) (.bool b34) (.bool b35) (.bool b36) (fun w15=>cond (n38 != 0)
 (lq1 w15 w3.heap.size fun b40 b41 n42 n43 a44 l44 c44 a45 l45 c45 a46 l46 c46 n47 b48 b49 b50=>sq11 w1.heap.size w15 (.bool b40) (.bool b41) (.int .i64 n42) (.int .i64 n43) (.slice a44 l44 c44) (.slice a45 l45 c45) (.slice a46 l46 c46) (.int .i64 n47) (.bool b48) (.bool b49) (.bool b50) (fun w26=>lq1 w26 w1.heap.size fun b51 b52 n53 n54 a55 l55 c55 a56 l56 c56 a57 l57 c57 n58 b59 b60 b61=>Q (.tuple #[.agg (gq1 b51 b52 n53 n54 a55 l55 c55 a56 l56 c56 a57 l57 c57 n58 b59 b60 b61),.slice none 0 0,.int .i64 0,.int .i64 n38]) w26))
 (cond (n37 == 0)
 (lq1 w15 w3.heap.size fun b62 b63 n64 n65 a66 l66 c66 a67 l67 c67 a68 l68 c68 n69 b70 b71 b72=>sq11 w1.heap.size w15 (.bool b62) (.bool b63) (.int .i64 n64) (.int .i64 n65) (.slice a66 l66 c66) (.slice a67 l67 c67) (.slice a68 l68 c68) (.int .i64 n69) (.bool b70) (.bool b71) (.bool b72) (fun w37=>lq1 w37 w1.heap.size fun b73 b74 n75 n76 a77 l77 c77 a78 l78 c78 a79 l79 c79 n80 b81 b82 b83=>Q (.tuple #[.agg (gq1 b73 b74 n75 n76 a77 l77 c77 a78 l78 c78 a79 l79 c79 n80 b81 b82 b83),.slice none 0 0,.int .i64 0,.int .i64 n38]) w37))
 (∃ (I84:List Value→World→Prop) (mu85:List Value→World→Nat),
 I84 [.int .i64 n38,.slice none 0 0,.int .i64 0] w15∧
 ∀ (_:Env) (n86:Int) (a87:Option Addr) (l87:Nat) (c87:Nat) (n88:Int) (w38:World),I84 [.int .i64 n86,.slice a87 l87 c87,.int .i64 n88] w38→
 cond (decide (n88< n37))
 (lq1 w38 w3.heap.size fun b89 b90 n91 n92 a93 l93 c93 a94 l94 c94 a95 l95 c95 n96 b97 b98 b99=>CQ 202 [.agg (gq1 b89 b90 n91 n92 a93 l93 c93 a94 l94 c94 a95 l95 c95 n96 b97 b98 b99),v12] w38 (fun r113 w39=>
 ∃ b100 b101 n102 n103 a104 l104 c104 a105 l105 c105 a106 l106 c106 n107 b108 b109 b110 n111 n112,r113=.tuple #[.agg (gq1 b100 b101 n102 n103 a104 l104 c104 a105 l105 c105 a106 l106 c106 n107 b108 b109 b110),.int .u8 n111,.int .i64 n112]∧
 sq11 w3.heap.size w39 (.bool b100) (.bool b101) (.int .i64 n102) (.int .i64 n103) (.slice a104 l104 c104) (.slice a105 l105 c105) (.slice a106 l106 c106) (.int .i64 n107) (.bool b108) (.bool b109) (.bool b110) (fun w50=>cond (n112 != 0)
 (let w51:=w50.drew;
 lq1 w51 w3.heap.size fun b114 b115 n116 n117 a118 l118 c118 a119 l119 c119 a120 l120 c120 n121 b122 b123 b124=>n13≠0∧
 inI (Int.tdiv (((l87:Nat):Int)) n13)∧
 sq11 w1.heap.size w51 (.bool b114) (.bool b115) (.int .i64 n116) (.int .i64 n117) (.slice a118 l118 c118) (.slice a119 l119 c119) (.slice a120 l120 c120) (.int .i64 n121) (.bool b122) (.bool b123) (.bool b124) (fun w62=>lq1 w62 w1.heap.size fun b125 b126 n127 n128 a129 l129 c129 a130 l130 c130 a131 l131 c131 n132 b133 b134 b135=>Q (.tuple #[.agg (gq1 b125 b126 n127 n128 a129 l129 c129 a130 l130 c130 a131 l131 c131 n132 b133 b134 b135),.slice a87 l87 c87,.int .i64 (Int.tdiv (((l87:Nat):Int)) n13),.int .i64 n112]) w62))
 (let w63:=w50.alloc (.cells #[.int .u8 n111] 5);
 ∃ a136 l136 c136 w64,Sem.run Tryz.prog (Builtin.append_ #[34,34] 34 #[.slice a87 l87 c87,.slice (some (Addr.mk w50.heap.size 0 none)) 1 1]) w63=.ok (.slice a136 l136 c136) w64∧
 inI (n88+1)∧
 I84 [.int .i64 n112,.slice a136 l136 c136,.int .i64 (n88+1)] w64∧mu85 [.int .i64 n112,.slice a136 l136 c136,.int .i64 (n88+1)] w64< mu85 [.int .i64 n86,.slice a87 l87 c87,.int .i64 n88] w38))))
 (let w65:=w38.drew;
 lq1 w65 w3.heap.size fun b137 b138 n139 n140 a141 l141 c141 a142 l142 c142 a143 l143 c143 n144 b145 b146 b147=>n13≠0∧
 inI (Int.tdiv (((l87:Nat):Int)) n13)∧
 sq11 w1.heap.size w65 (.bool b137) (.bool b138) (.int .i64 n139) (.int .i64 n140) (.slice a141 l141 c141) (.slice a142 l142 c142) (.slice a143 l143 c143) (.int .i64 n144) (.bool b145) (.bool b146) (.bool b147) (fun w76=>lq1 w76 w1.heap.size fun b148 b149 n150 n151 a152 l152 c152 a153 l153 c153 a154 l154 c154 n155 b156 b157 b158=>Q (.tuple #[.agg (gq1 b148 b149 n150 n151 a152 l152 c152 a153 l153 c153 a154 l154 c154 n155 b156 b157 b158),.slice a87 l87 c87,.int .i64 (Int.tdiv (((l87:Nat):Int)) n13),.int .i64 n86]) w76))))))
theorem C164 {b1 b2 n3 n4 a5 l5 c5 a6 l6 c6 a7 l7 c7 n8 b9 b10 b11 v12 n13 n14 Q w} (h:L164 b1 b2 n3 n4 a5 l5 c5 a6 l6 c6 a7 l7 c7 n8 b9 b10 b11 v12 n13 n14 Q w):CallR Tryz.prog 164 [.agg #[.bool b1,.bool b2,.int .i64 n3,.int .i64 n4,.slice a5 l5 c5,.slice a6 l6 c6,.slice a7 l7 c7,.int .i64 n8,.bool b9,.bool b10,.bool b11],v12,.int .i64 n13,.int .i64 n14] w Q:=
 fC A164 Tryz.func164 rfl (by kernel_rfl) (Eq.mp (by kernel_rfl) h)
def A214:Ann:=⟨[(3,[(17,.one (.int .i64))])],[],[],[],[],[]⟩
def L214 (b1 b2:Bool) (n3 n4:Int) (a5:Option Addr) (l5 c5:Nat) (a6:Option Addr) (l6 c6:Nat) (a7:Option Addr) (l7 c7:Nat) (n8:Int) (b9 b10 b11:Bool) (v12:Value) (b13:Bool) (Q:Value→World→Prop) (w:World):Prop:=
 let w1:=w.alloc (.cells (gq1 b1 b2 n3 n4 a5 l5 c5 a6 l6 c6 a7 l7 c7 n8 b9 b10 b11) 151);
 let w2:=w1.alloc (.cells zSq 151);
 lq1 w2 w.heap.size fun b14 b15 n16 n17 a18 l18 c18 a19 l19 c19 a20 l20 c20 n21 b22 b23 b24=>let w3:=w2.alloc (.cells zSq 151);
 sq11 w2.heap.size w3 (.bool b14) (.bool b15) (.int .i64 n16) (.int .i64 n17) (.slice a18 l18 c18) (.slice a19 l19 c19) (.slice a20 l20 c20) (.int .i64 n21) (.bool b22) (.bool b23) (.bool b24) (fun w14=>∃ (I25:List Value→World→Prop) (mu26:List Value→World→Nat),
 I25 [.int .i64 0] w14∧
 ∀ (_:Env) (n27:Int) (w15:World),I25 [.int .i64 n27] w15→
 cond (decide (n27< 3))
 ((0≤(n27:Int)∧(n27:Int)< ((3:Nat):Int))∧
 ∃ p28,(#[.pointer (some (Addr.mk w2.heap.size 4 none)),.pointer (some (Addr.mk w2.heap.size 5 none)),.pointer (some (Addr.mk w2.heap.size 6 none))]:Array Value)[Int.toNat n27]?=some (.pointer p28)∧
 nn p28 (fun q29=>
 ∃ a30 l30 c30,w15.cell? q29=some (.slice a30 l30 c30)∧
 CQ 217 [.slice a30 l30 c30] w15 (fun r32 w16=>
 ∃ a31 l31 c31,r32=.slice a31 l31 c31∧
 nn p28 (fun q33=>
 stC q33 (.slice a31 l31 c31) w16 (fun w17=>
 inI (n27+1)∧
 I25 [.int .i64 (n27+1)] w17∧mu26 [.int .i64 (n27+1)] w17< mu26 [.int .i64 n27] w15)))))
 (lq1 w15 w.heap.size fun b34 b35 n36 n37 a38 l38 c38 a39 l39 c39 a40 l40 c40 n41 b42 b43 b44=>CQ 157 [.agg (gq1 b34 b35 n36 n37 a38 l38 c38 a39 l39 c39 a40 l40 c40 n41 b42 b43 b44)] w15 (fun r46 w18=>
 ∃ n45,r46=.int .i64 n45∧
 cond (n45 != 0)
 (lq1 w18 w2.heap.size fun b47 b48 n49 n50 a51 l51 c51 a52 l52 c52 a53 l53 c53 n54 b55 b56 b57=>sq11 w1.heap.size w18 (.bool b47) (.bool b48) (.int .i64 n49) (.int .i64 n50) (.slice a51 l51 c51) (.slice a52 l52 c52) (.slice a53 l53 c53) (.int .i64 n54) (.bool b55) (.bool b56) (.bool b57) (fun w29=>lq1 w29 w1.heap.size fun b58 b59 n60 n61 a62 l62 c62 a63 l63 c63 a64 l64 c64 n65 b66 b67 b68=>Q (.tuple #[.agg (gq1 b58 b59 n60 n61 a62 l62 c62 a63 l63 c63 a64 l64 c64 n65 b66 b67 b68),.int .i64 n45]) w29))
 (∃ b69 w30,Sem.run Tryz.prog (Sem.bind (eqGuard .eql 179 (.tmp 35) (.const (.nilIface)) v12 .nilIface) (fun _=>binOp .eql 179 v12 .nilIface)) w18=.ok (.bool b69) w30∧
 cond b69
 (lq1 w30 w2.heap.size fun b70 b71 n72 n73 a74 l74 c74 a75 l75 c75 a76 l76 c76 n77 b78 b79 b80=>sq11 w1.heap.size w30 (.bool b70) (.bool b71) (.int .i64 n72) (.int .i64 n73) (.slice a74 l74 c74) (.slice a75 l75 c75) (.slice a76 l76 c76) (.int .i64 n77) (.bool b78) (.bool b79) (.bool b80) (fun w41=>lq1 w41 w1.heap.size fun b81 b82 n83 n84 a85 l85 c85 a86 l86 c86 a87 l87 c87 n88 b89 b90 b91=>Q (.tuple #[.agg (gq1 b81 b82 n83 n84 a85 l85 c85 a86 l86 c86 a87 l87 c87 n88 b89 b90 b91),.int .i64 2]) w41))
 (∃ b92,w30.cell? (Addr.mk w.heap.size 10 none)=some (.bool b92)∧
 cond b92
 (lq1 w30 w2.heap.size fun b93 b94 n95 n96 a97 l97 c97 a98 l98 c98 a99 l99 c99 n100 b101 b102 b103=>sq11 w1.heap.size w30 (.bool b93) (.bool b94) (.int .i64 n95) (.int .i64 n96) (.slice a97 l97 c97) (.slice a98 l98 c98) (.slice a99 l99 c99) (.int .i64 n100) (.bool b101) (.bool b102) (.bool b103) (fun w52=>lq1 w52 w1.heap.size fun b104 b105 n106 n107 a108 l108 c108 a109 l109 c109 a110 l110 c110 n111 b112 b113 b114=>Q (.tuple #[.agg (gq1 b104 b105 n106 n107 a108 l108 c108 a109 l109 c109 a110 l110 c110 n111 b112 b113 b114),.int .i64 113]) w52))
 (cond b13
 (lq1 w30 w2.heap.size fun b115 b116 n117 n118 a119 l119 c119 a120 l120 c120 a121 l121 c121 n122 b123 b124 b125=>sq11 w1.heap.size w30 (.bool b115) (.bool b116) (.int .i64 n117) (.int .i64 n118) (.slice a119 l119 c119) (.slice a120 l120 c120) (.slice a121 l121 c121) (.int .i64 n122) (.bool b123) (.bool b124) (.bool b125) (fun w63=>lq1 w63 w1.heap.size fun b126 b127 n128 n129 a130 l130 c130 a131 l131 c131 a132 l132 c132 n133 b134 b135 b136=>Q (.tuple #[.agg (gq1 b126 b127 n128 n129 a130 l130 c130 a131 l131 c131 a132 l132 c132 n133 b134 b135 b136),.int .i64 1]) w63))
 (∃ a137 l137 c137,w30.cell? (Addr.mk w.heap.size 4 none)=some (.slice a137 l137 c137)∧
 cond ((((l137:Nat):Int)) == 0)
 (lq1 w30 w2.heap.size fun b138 b139 n140 n141 a142 l142 c142 a143 l143 c143 a144 l144 c144 n145 b146 b147 b148=>sq11 w1.heap.size w30 (.bool b138) (.bool b139) (.int .i64 n140) (.int .i64 n141) (.slice a142 l142 c142) (.slice a143 l143 c143) (.slice a144 l144 c144) (.int .i64 n145) (.bool b146) (.bool b147) (.bool b148) (fun w74=>lq1 w74 w1.heap.size fun b149 b150 n151 n152 a153 l153 c153 a154 l154 c154 a155 l155 c155 n156 b157 b158 b159=>Q (.tuple #[.agg (gq1 b149 b150 n151 n152 a153 l153 c153 a154 l154 c154 a155 l155 c155 n156 b157 b158 b159),.int .i64 0]) w74))
 (lq1 w30 w.heap.size fun b160 b161 n162 n163 a164 l164 c164 a165 l165 c165 a166 l166 c166 n167 b168 b169 b170=>CQ 198 [.agg (gq1 b160 b161 n162 n163 a164 l164 c164 a165 l165 c165 a166 l166 c166 n167 b168 b169 b170),v12] w30 (fun r183 w75=>
 ∃ b171 b172 n173 n174 a175 l175 c175 a176 l176 c176 a177 l177 c177 n178 b179 b180 b181 n182,r183=.tuple #[.agg (gq1 b171 b172 n173 n174 a175 l175 c175 a176 l176 c176 a177 l177 c177 n178 b179 b180 b181),.int .i64 n182]∧
 sq11 w2.heap.size w75 (.bool b171) (.bool b172) (.int .i64 n173) (.int .i64 n174) (.slice a175 l175 c175) (.slice a176 l176 c176) (.slice a177 l177 c177) (.int .i64 n178) (.bool b179) (.bool b180) (.bool b181) (fun w86=>∃ n184,w86.cell? (Addr.mk w.heap.size 7 none)=some (.int .i64 n184)∧
 stC (Addr.mk w2.heap.size 7 none) (.int .i64 n184) w86 (fun w87=>
 lq1 w87 w2.heap.size fun b185 b186 n187 n188 a189 l189 c189 a190 l190 c190 a191 l191 c191 n192 b193 b194 b195=>sq11 w1.heap.size w87 (.bool b185) (.bool b186) (.int .i64 n187) (.int .i64 n188) (.slice a189 l189 c189) (.slice a190 l190 c190) (.slice a191 l191 c191) (.int .i64 n192) (.bool b193) (.bool b194) (.bool b195) (fun w98=>lq1 w98 w1.heap.size fun b196 b197 n198 n199 a200 l200 c200 a201 l201 c201 a202 l202 c202 n203 b204 b205 b206=>Q (.tuple #[.agg (gq1 b196 b197 n198 n199 a200 l200 c200 a201 l201 c201 a202 l202 c202 n203 b204 b205 b206),.int .i64 n182]) w98))))))))))))
theorem C214 {b1 b2 n3 n4 a5 l5 c5 a6 l6 c6 a7 l7 c7 n8 b9 b10 b11 v12 b13 Q w} (h:L214 b1 b2 n3 n4 a5 l5 c5 a6 l6 c6 a7 l7 c7 n8 b9 b10 b11 v12 b13 Q w):CallR Tryz.prog 214 [.agg #[.bool b1,.bool b2,.int .i64 n3,.int .i64 n4,.slice a5 l5 c5,.slice a6 l6 c6,.slice a7 l7 c7,.int .i64 n8,.bool b9,.bool b10,.bool b11],v12,.bool b13] w Q:=
 fC A214 Tryz.func214 rfl (by kernel_rfl) (Eq.mp (by kernel_rfl) h)
def A215:Ann:=⟨[],[],[],[],[],[]⟩
def L215 (b1 b2 : Bool) (n3 n4 : Int) (a5 : Option Addr) (l5 c5 : Nat) (a6 : Option Addr) (l6 c6 : Nat) (a7 : Option Addr) (l7 c7 : Nat) (n8 : Int) (b9 b10 b11 : Bool) (v12 : Value) (Q : Value → World → Prop) (w : World) : Prop :=
 let w1 := w.alloc (.cells (gq1 b1 b2 n3 n4 a5 l5 c5 a6 l6 c6 a7 l7 c7 n8 b9 b10 b11) 151);
 ∃ (f13 : FuncId) (xs14 : Array Value) (w2 : World), Sem.run Tryz.prog (callMethod v12 "Seek" #[.int .i64 0, .int .i64 1]) w1 = .ok (.enter f13 xs14) w2 ∧
 CQ f13 (Array.toList xs14) w2 (fun r17 w3 =>
 ∃ n15 n16, r17 = .tuple #[.int .i64 n15, .int .i64 n16] ∧
 cond (n16 != 0)
 (Q (.tuple #[.int .i64 0, .int .i64 n16]) w3)
 (∃ a18 l18 c18, w3.cell? (Addr.mk w.heap.size 5 none) = some (.slice a18 l18 c18) ∧
 inI (n15 - (((l18 : Nat) : Int))) ∧
 ∃ a19 l19 c19, w3.cell? (Addr.mk w.heap.size 6 none) = some (.slice a19 l19 c19) ∧
 inI ((n15 - (((l18 : Nat) : Int))) - (((l19 : Nat) : Int))) ∧
 Q (.tuple #[.int .i64 ((n15 - (((l18 : Nat) : Int))) - (((l19 : Nat) : Int))), .int .i64 0]) w3))
theorem C215 {b1 b2 n3 n4 a5 l5 c5 a6 l6 c6 a7 l7 c7 n8 b9 b10 b11 v12 Q w} (h:L215 b1 b2 n3 n4 a5 l5 c5 a6 l6 c6 a7 l7 c7 n8 b9 b10 b11 v12 Q w):CallR Tryz.prog 215 [.agg #[.bool b1,.bool b2,.int .i64 n3,.int .i64 n4,.slice a5 l5 c5,.slice a6 l6 c6,.slice a7 l7 c7,.int .i64 n8,.bool b9,.bool b10,.bool b11],v12] w Q:=
 fC A215 Tryz.func215 rfl (by kernel_rfl) (Eq.mp (by kernel_rfl) h)
def A161:Ann:=⟨[],[],[],[],[],[]⟩
def L161 (b1 b2:Bool) (n3 n4:Int) (a5:Option Addr) (l5 c5:Nat) (a6:Option Addr) (l6 c6:Nat) (a7:Option Addr) (l7 c7:Nat) (n8:Int) (b9 b10 b11:Bool) (v12:Value) (Q:Value→World→Prop) (w:World):Prop:=
 let w1:=w.alloc (.cells (gq1 b1 b2 n3 n4 a5 l5 c5 a6 l6 c6 a7 l7 c7 n8 b9 b10 b11) 151);
 let w2:=w1.alloc (.cells zSq 151);
 lq1 w2 w.heap.size fun b13 b14 n15 n16 a17 l17 c17 a18 l18 c18 a19 l19 c19 n20 b21 b22 b23=>CQ 214 [.agg (gq1 b13 b14 n15 n16 a17 l17 c17 a18 l18 c18 a19 l19 c19 n20 b21 b22 b23),v12,.bool false] w2 (fun r36 w3=>
 ∃ b24 b25 n26 n27 a28 l28 c28 a29 l29 c29 a30 l30 c30 n31 b32 b33 b34 n35,r36=.tuple #[.agg (gq1 b24 b25 n26 n27 a28 l28 c28 a29 l29 c29 a30 l30 c30 n31 b32 b33 b34),.int .i64 n35]∧
 let w4:=w3.alloc (.cells zSq 151);
 sq11 w3.heap.size w4 (.bool b24) (.bool b25) (.int .i64 n26) (.int .i64 n27) (.slice a28 l28 c28) (.slice a29 l29 c29) (.slice a30 l30 c30) (.int .i64 n31) (.bool b32) (.bool b33) (.bool b34) (fun w15=>cond (n35 != 0)
 (lq1 w15 w3.heap.size fun b37 b38 n39 n40 a41 l41 c41 a42 l42 c42 a43 l43 c43 n44 b45 b46 b47=>sq11 w1.heap.size w15 (.bool b37) (.bool b38) (.int .i64 n39) (.int .i64 n40) (.slice a41 l41 c41) (.slice a42 l42 c42) (.slice a43 l43 c43) (.int .i64 n44) (.bool b45) (.bool b46) (.bool b47) (fun w26=>lq1 w26 w1.heap.size fun b48 b49 n50 n51 a52 l52 c52 a53 l53 c53 a54 l54 c54 n55 b56 b57 b58=>Q (.tuple #[.agg (gq1 b48 b49 n50 n51 a52 l52 c52 a53 l53 c53 a54 l54 c54 n55 b56 b57 b58),.int .i64 0,.int .i64 n35]) w26))
 (lq1 w15 w3.heap.size fun b59 b60 n61 n62 a63 l63 c63 a64 l64 c64 a65 l65 c65 n66 b67 b68 b69=>CQ 215 [.agg (gq1 b59 b60 n61 n62 a63 l63 c63 a64 l64 c64 a65 l65 c65 n66 b67 b68 b69),v12] w15 (fun r72 w27=>
 ∃ n70 n71,r72=.tuple #[.int .i64 n70,.int .i64 n71]∧
 cond (n71 != 0)
 (lq1 w27 w3.heap.size fun b73 b74 n75 n76 a77 l77 c77 a78 l78 c78 a79 l79 c79 n80 b81 b82 b83=>sq11 w1.heap.size w27 (.bool b73) (.bool b74) (.int .i64 n75) (.int .i64 n76) (.slice a77 l77 c77) (.slice a78 l78 c78) (.slice a79 l79 c79) (.int .i64 n80) (.bool b81) (.bool b82) (.bool b83) (fun w38=>lq1 w38 w1.heap.size fun b84 b85 n86 n87 a88 l88 c88 a89 l89 c89 a90 l90 c90 n91 b92 b93 b94=>Q (.tuple #[.agg (gq1 b84 b85 n86 n87 a88 l88 c88 a89 l89 c89 a90 l90 c90 n91 b92 b93 b94),.int .i64 0,.int .i64 n71]) w38))
 (cond (decide (n70< 0))
 (lq1 w27 w3.heap.size fun b95 b96 n97 n98 a99 l99 c99 a100 l100 c100 a101 l101 c101 n102 b103 b104 b105=>sq11 w1.heap.size w27 (.bool b95) (.bool b96) (.int .i64 n97) (.int .i64 n98) (.slice a99 l99 c99) (.slice a100 l100 c100) (.slice a101 l101 c101) (.int .i64 n102) (.bool b103) (.bool b104) (.bool b105) (fun w49=>lq1 w49 w1.heap.size fun b106 b107 n108 n109 a110 l110 c110 a111 l111 c111 a112 l112 c112 n113 b114 b115 b116=>Q (.tuple #[.agg (gq1 b106 b107 n108 n109 a110 l110 c110 a111 l111 c111 a112 l112 c112 n113 b114 b115 b116),.int .i64 0,.int .i64 4]) w49))
 (lq1 w27 w3.heap.size fun b117 b118 n119 n120 a121 l121 c121 a122 l122 c122 a123 l123 c123 n124 b125 b126 b127=>sq11 w1.heap.size w27 (.bool b117) (.bool b118) (.int .i64 n119) (.int .i64 n120) (.slice a121 l121 c121) (.slice a122 l122 c122) (.slice a123 l123 c123) (.int .i64 n124) (.bool b125) (.bool b126) (.bool b127) (fun w60=>lq1 w60 w1.heap.size fun b128 b129 n130 n131 a132 l132 c132 a133 l133 c133 a134 l134 c134 n135 b136 b137 b138=>Q (.tuple #[.agg (gq1 b128 b129 n130 n131 a132 l132 c132 a133 l133 c133 a134 l134 c134 n135 b136 b137 b138),.int .i64 n70,.int .i64 0]) w60)))))))
theorem C161 {b1 b2 n3 n4 a5 l5 c5 a6 l6 c6 a7 l7 c7 n8 b9 b10 b11 v12 Q w} (h:L161 b1 b2 n3 n4 a5 l5 c5 a6 l6 c6 a7 l7 c7 n8 b9 b10 b11 v12 Q w):CallR Tryz.prog 161 [.agg #[.bool b1,.bool b2,.int .i64 n3,.int .i64 n4,.slice a5 l5 c5,.slice a6 l6 c6,.slice a7 l7 c7,.int .i64 n8,.bool b9,.bool b10,.bool b11],v12] w Q:=
 fC A161 Tryz.func161 rfl (by kernel_rfl) (Eq.mp (by kernel_rfl) h)
def A162:Ann:=⟨[],[(11,[(2,.one (.int .i64)),(3,.one (.int .i64))])],[],[],[],[]⟩
def L162 (b1 b2 : Bool) (n3 n4 : Int) (a5 : Option Addr) (l5 c5 : Nat) (a6 : Option Addr) (l6 c6 : Nat) (a7 : Option Addr) (l7 c7 : Nat) (n8 : Int) (b9 b10 b11 : Bool) (v12 : Value) (n13 n14 : Int) (Q : Value → World → Prop) (w : World) : Prop :=
 let w1 := w.alloc (.cells (gq1 b1 b2 n3 n4 a5 l5 c5 a6 l6 c6 a7 l7 c7 n8 b9 b10 b11) 151);
 let w2 := w1.alloc (.cells zSq 151);
 lq1 w2 w.heap.size fun b15 b16 n17 n18 a19 l19 c19 a20 l20 c20 a21 l21 c21 n22 b23 b24 b25 => cond (decide (n14 < 0))
 (CQ 214 [.agg (gq1 b15 b16 n17 n18 a19 l19 c19 a20 l20 c20 a21 l21 c21 n22 b23 b24 b25), v12, .bool true] w2 (fun r38 w3 =>
 ∃ b26 b27 n28 n29 a30 l30 c30 a31 l31 c31 a32 l32 c32 n33 b34 b35 b36 n37, r38 = .tuple #[.agg (gq1 b26 b27 n28 n29 a30 l30 c30 a31 l31 c31 a32 l32 c32 n33 b34 b35 b36), .int .i64 n37] ∧
 let w4 := w3.alloc (.cells zSq 151);
 sq11 w3.heap.size w4 (.bool b26) (.bool b27) (.int .i64 n28) (.int .i64 n29) (.slice a30 l30 c30) (.slice a31 l31 c31) (.slice a32 l32 c32) (.int .i64 n33) (.bool b34) (.bool b35) (.bool b36) (fun w15 => cond (n37 != 0)
 (lq1 w15 w3.heap.size fun b39 b40 n41 n42 a43 l43 c43 a44 l44 c44 a45 l45 c45 n46 b47 b48 b49 => sq11 w1.heap.size w15 (.bool b39) (.bool b40) (.int .i64 n41) (.int .i64 n42) (.slice a43 l43 c43) (.slice a44 l44 c44) (.slice a45 l45 c45) (.int .i64 n46) (.bool b47) (.bool b48) (.bool b49) (fun w26 => lq1 w26 w1.heap.size fun b50 b51 n52 n53 a54 l54 c54 a55 l55 c55 a56 l56 c56 n57 b58 b59 b60 => Q (.tuple #[.agg (gq1 b50 b51 n52 n53 a54 l54 c54 a55 l55 c55 a56 l56 c56 n57 b58 b59 b60), .int .i64 0, .int .i64 n37]) w26))
 (∃ (J61 : List Value → World → Prop),
 (cond (n14 == 1)
 (lq1 w15 w3.heap.size fun b62 b63 n64 n65 a66 l66 c66 a67 l67 c67 a68 l68 c68 n69 b70 b71 b72 => CQ 215 [.agg (gq1 b62 b63 n64 n65 a66 l66 c66 a67 l67 c67 a68 l68 c68 n69 b70 b71 b72), v12] w15 (fun r75 w27 =>
 ∃ n73 n74, r75 = .tuple #[.int .i64 n73, .int .i64 n74] ∧
 cond (n74 != 0)
 (lq1 w27 w3.heap.size fun b76 b77 n78 n79 a80 l80 c80 a81 l81 c81 a82 l82 c82 n83 b84 b85 b86 => sq11 w1.heap.size w27 (.bool b76) (.bool b77) (.int .i64 n78) (.int .i64 n79) (.slice a80 l80 c80) (.slice a81 l81 c81) (.slice a82 l82 c82) (.int .i64 n83) (.bool b84) (.bool b85) (.bool b86) (fun w38 => lq1 w38 w1.heap.size fun b87 b88 n89 n90 a91 l91 c91 a92 l92 c92 a93 l93 c93 n94 b95 b96 b97 => Q (.tuple #[.agg (gq1 b87 b88 n89 n90 a91 l91 c91 a92 l92 c92 a93 l93 c93 n94 b95 b96 b97), .int .i64 0, .int .i64 n74]) w38))
 (inI ((0 : Int) - n73) ∧
 cond (decide (n13 < ((0 : Int) - n73)))
 (lq1 w27 w3.heap.size fun b98 b99 n100 n101 a102 l102 c102 a103 l103 c103 a104 l104 c104 n105 b106 b107 b108 => sq11 w1.heap.size w27 (.bool b98) (.bool b99) (.int .i64 n100) (.int .i64 n101) (.slice a102 l102 c102) (.slice a103 l103 c103) (.slice a104 l104 c104) (.int .i64 n105) (.bool b106) (.bool b107) (.bool b108) (fun w49 => lq1 w49 w1.heap.size fun b109 b110 n111 n112 a113 l113 c113 a114 l114 c114 a115 l115 c115 n116 b117 b118 b119 => Q (.tuple #[.agg (gq1 b109 b110 n111 n112 a113 l113 c113 a114 l114 c114 a115 l115 c115 n116 b117 b118 b119), .int .i64 0, .int .i64 4]) w49))
 (inI ((1048576 : Int) - n73) ∧
 cond (decide (n13 > ((1048576 : Int) - n73)))
 (lq1 w27 w3.heap.size fun b120 b121 n122 n123 a124 l124 c124 a125 l125 c125 a126 l126 c126 n127 b128 b129 b130 => sq11 w1.heap.size w27 (.bool b120) (.bool b121) (.int .i64 n122) (.int .i64 n123) (.slice a124 l124 c124) (.slice a125 l125 c125) (.slice a126 l126 c126) (.int .i64 n127) (.bool b128) (.bool b129) (.bool b130) (fun w60 => lq1 w60 w1.heap.size fun b131 b132 n133 n134 a135 l135 c135 a136 l136 c136 a137 l137 c137 n138 b139 b140 b141 => Q (.tuple #[.agg (gq1 b131 b132 n133 n134 a135 l135 c135 a136 l136 c136 a137 l137 c137 n138 b139 b140 b141), .int .i64 0, .int .i64 4]) w60))
 (inI (n73 + n13) ∧
 J61 [.int .i64 (n73 + n13), .int .i64 0] w27)))))
 (J61 [.int .i64 n13, .int .i64 n14] w15)) ∧
 (∀ (_ : Env) (n142 : Int) (n143 : Int) (w61 : World), J61 [.int .i64 n142, .int .i64 n143] w61 →
 ∃ (f144 : FuncId) (xs145 : Array Value) (w62 : World), Sem.run Tryz.prog (callMethod v12 "Seek" #[.int .i64 n142, .int .i64 n143]) w61 = .ok (.enter f144 xs145) w62 ∧
 CQ f144 (Array.toList xs145) w62 (fun r148 w63 =>
 ∃ n146 n147, r148 = .tuple #[.int .i64 n146, .int .i64 n147] ∧
 cond (n147 != 0)
 (lq1 w63 w3.heap.size fun b149 b150 n151 n152 a153 l153 c153 a154 l154 c154 a155 l155 c155 n156 b157 b158 b159 => sq11 w1.heap.size w63 (.bool b149) (.bool b150) (.int .i64 n151) (.int .i64 n152) (.slice a153 l153 c153) (.slice a154 l154 c154) (.slice a155 l155 c155) (.int .i64 n156) (.bool b157) (.bool b158) (.bool b159) (fun w74 => lq1 w74 w1.heap.size fun b160 b161 n162 n163 a164 l164 c164 a165 l165 c165 a166 l166 c166 n167 b168 b169 b170 => Q (.tuple #[.agg (gq1 b160 b161 n162 n163 a164 l164 c164 a165 l165 c165 a166 l166 c166 n167 b168 b169 b170), .int .i64 0, .int .i64 n147]) w74))
 (stC (Addr.mk w3.heap.size 4 none) (.slice none 0 0) w63 (fun w75 =>
 stC (Addr.mk w3.heap.size 5 none) (.slice none 0 0) w75 (fun w76 =>
 stC (Addr.mk w3.heap.size 6 none) (.slice none 0 0) w76 (fun w77 =>
 stC (Addr.mk w3.heap.size 8 none) (.bool false) w77 (fun w78 =>
 stC (Addr.mk w3.heap.size 7 none) (.int .i64 0) w78 (fun w79 =>
 lq1 w79 w3.heap.size fun b171 b172 n173 n174 a175 l175 c175 a176 l176 c176 a177 l177 c177 n178 b179 b180 b181 => sq11 w1.heap.size w79 (.bool b171) (.bool b172) (.int .i64 n173) (.int .i64 n174) (.slice a175 l175 c175) (.slice a176 l176 c176) (.slice a177 l177 c177) (.int .i64 n178) (.bool b179) (.bool b180) (.bool b181) (fun w90 => lq1 w90 w1.heap.size fun b182 b183 n184 n185 a186 l186 c186 a187 l187 c187 a188 l188 c188 n189 b190 b191 b192 => Q (.tuple #[.agg (gq1 b182 b183 n184 n185 a186 l186 c186 a187 l187 c187 a188 l188 c188 n189 b190 b191 b192), .int .i64 n146, .int .i64 0]) w90)))))))))))))
 (CQ 214 [.agg (gq1 b15 b16 n17 n18 a19 l19 c19 a20 l20 c20 a21 l21 c21 n22 b23 b24 b25), v12, .bool (decide (n14 > 2))] w2 (fun r205 w91 =>
 ∃ b193 b194 n195 n196 a197 l197 c197 a198 l198 c198 a199 l199 c199 n200 b201 b202 b203 n204, r205 = .tuple #[.agg (gq1 b193 b194 n195 n196 a197 l197 c197 a198 l198 c198 a199 l199 c199 n200 b201 b202 b203), .int .i64 n204] ∧
 let w92 := w91.alloc (.cells zSq 151);
 sq11 w91.heap.size w92 (.bool b193) (.bool b194) (.int .i64 n195) (.int .i64 n196) (.slice a197 l197 c197) (.slice a198 l198 c198) (.slice a199 l199 c199) (.int .i64 n200) (.bool b201) (.bool b202) (.bool b203) (fun w103 => cond (n204 != 0)
 (lq1 w103 w91.heap.size fun b206 b207 n208 n209 a210 l210 c210 a211 l211 c211 a212 l212 c212 n213 b214 b215 b216 => sq11 w1.heap.size w103 (.bool b206) (.bool b207) (.int .i64 n208) (.int .i64 n209) (.slice a210 l210 c210) (.slice a211 l211 c211) (.slice a212 l212 c212) (.int .i64 n213) (.bool b214) (.bool b215) (.bool b216) (fun w114 => lq1 w114 w1.heap.size fun b217 b218 n219 n220 a221 l221 c221 a222 l222 c222 a223 l223 c223 n224 b225 b226 b227 => Q (.tuple #[.agg (gq1 b217 b218 n219 n220 a221 l221 c221 a222 l222 c222 a223 l223 c223 n224 b225 b226 b227), .int .i64 0, .int .i64 n204]) w114))
 (∃ (J228 : List Value → World → Prop),
 (cond (n14 == 1)
 (lq1 w103 w91.heap.size fun b229 b230 n231 n232 a233 l233 c233 a234 l234 c234 a235 l235 c235 n236 b237 b238 b239 => CQ 215 [.agg (gq1 b229 b230 n231 n232 a233 l233 c233 a234 l234 c234 a235 l235 c235 n236 b237 b238 b239), v12] w103 (fun r242 w115 =>
 ∃ n240 n241, r242 = .tuple #[.int .i64 n240, .int .i64 n241] ∧
 cond (n241 != 0)
 (lq1 w115 w91.heap.size fun b243 b244 n245 n246 a247 l247 c247 a248 l248 c248 a249 l249 c249 n250 b251 b252 b253 => sq11 w1.heap.size w115 (.bool b243) (.bool b244) (.int .i64 n245) (.int .i64 n246) (.slice a247 l247 c247) (.slice a248 l248 c248) (.slice a249 l249 c249) (.int .i64 n250) (.bool b251) (.bool b252) (.bool b253) (fun w126 => lq1 w126 w1.heap.size fun b254 b255 n256 n257 a258 l258 c258 a259 l259 c259 a260 l260 c260 n261 b262 b263 b264 => Q (.tuple #[.agg (gq1 b254 b255 n256 n257 a258 l258 c258 a259 l259 c259 a260 l260 c260 n261 b262 b263 b264), .int .i64 0, .int .i64 n241]) w126))
 (inI ((0 : Int) - n240) ∧
 cond (decide (n13 < ((0 : Int) - n240)))
 (lq1 w115 w91.heap.size fun b265 b266 n267 n268 a269 l269 c269 a270 l270 c270 a271 l271 c271 n272 b273 b274 b275 => sq11 w1.heap.size w115 (.bool b265) (.bool b266) (.int .i64 n267) (.int .i64 n268) (.slice a269 l269 c269) (.slice a270 l270 c270) (.slice a271 l271 c271) (.int .i64 n272) (.bool b273) (.bool b274) (.bool b275) (fun w137 => lq1 w137 w1.heap.size fun b276 b277 n278 n279 a280 l280 c280 a281 l281 c281 a282 l282 c282 n283 b284 b285 b286 => Q (.tuple #[.agg (gq1 b276 b277 n278 n279 a280 l280 c280 a281 l281 c281 a282 l282 c282 n283 b284 b285 b286), .int .i64 0, .int .i64 4]) w137))
 (inI ((1048576 : Int) - n240) ∧
 cond (decide (n13 > ((1048576 : Int) - n240)))
 (lq1 w115 w91.heap.size fun b287 b288 n289 n290 a291 l291 c291 a292 l292 c292 a293 l293 c293 n294 b295 b296 b297 => sq11 w1.heap.size w115 (.bool b287) (.bool b288) (.int .i64 n289) (.int .i64 n290) (.slice a291 l291 c291) (.slice a292 l292 c292) (.slice a293 l293 c293) (.int .i64 n294) (.bool b295) (.bool b296) (.bool b297) (fun w148 => lq1 w148 w1.heap.size fun b298 b299 n300 n301 a302 l302 c302 a303 l303 c303 a304 l304 c304 n305 b306 b307 b308 => Q (.tuple #[.agg (gq1 b298 b299 n300 n301 a302 l302 c302 a303 l303 c303 a304 l304 c304 n305 b306 b307 b308), .int .i64 0, .int .i64 4]) w148))
 (inI (n240 + n13) ∧
 J228 [.int .i64 (n240 + n13), .int .i64 0] w115)))))
 (J228 [.int .i64 n13, .int .i64 n14] w103)) ∧
 (∀ (_ : Env) (n309 : Int) (n310 : Int) (w149 : World), J228 [.int .i64 n309, .int .i64 n310] w149 →
 ∃ (f311 : FuncId) (xs312 : Array Value) (w150 : World), Sem.run Tryz.prog (callMethod v12 "Seek" #[.int .i64 n309, .int .i64 n310]) w149 = .ok (.enter f311 xs312) w150 ∧
 CQ f311 (Array.toList xs312) w150 (fun r315 w151 =>
 ∃ n313 n314, r315 = .tuple #[.int .i64 n313, .int .i64 n314] ∧
 cond (n314 != 0)
 (lq1 w151 w91.heap.size fun b316 b317 n318 n319 a320 l320 c320 a321 l321 c321 a322 l322 c322 n323 b324 b325 b326 => sq11 w1.heap.size w151 (.bool b316) (.bool b317) (.int .i64 n318) (.int .i64 n319) (.slice a320 l320 c320) (.slice a321 l321 c321) (.slice a322 l322 c322) (.int .i64 n323) (.bool b324) (.bool b325) (.bool b326) (fun w162 => lq1 w162 w1.heap.size fun b327 b328 n329 n330 a331 l331 c331 a332 l332 c332 a333 l333 c333 n334 b335 b336 b337 => Q (.tuple #[.agg (gq1 b327 b328 n329 n330 a331 l331 c331 a332 l332 c332 a333 l333 c333 n334 b335 b336 b337), .int .i64 0, .int .i64 n314]) w162))
 (stC (Addr.mk w91.heap.size 4 none) (.slice none 0 0) w151 (fun w163 =>
 stC (Addr.mk w91.heap.size 5 none) (.slice none 0 0) w163 (fun w164 =>
 stC (Addr.mk w91.heap.size 6 none) (.slice none 0 0) w164 (fun w165 =>
 stC (Addr.mk w91.heap.size 8 none) (.bool false) w165 (fun w166 =>
 stC (Addr.mk w91.heap.size 7 none) (.int .i64 0) w166 (fun w167 =>
 lq1 w167 w91.heap.size fun b338 b339 n340 n341 a342 l342 c342 a343 l343 c343 a344 l344 c344 n345 b346 b347 b348 => sq11 w1.heap.size w167 (.bool b338) (.bool b339) (.int .i64 n340) (.int .i64 n341) (.slice a342 l342 c342) (.slice a343 l343 c343) (.slice a344 l344 c344) (.int .i64 n345) (.bool b346) (.bool b347) (.bool b348) (fun w178 => lq1 w178 w1.heap.size fun b349 b350 n351 n352 a353 l353 c353 a354 l354 c354 a355 l355 c355 n356 b357 b358 b359 => Q (.tuple #[.agg (gq1 b349 b350 n351 n352 a353 l353 c353 a354 l354 c354 a355 l355 c355 n356 b357 b358 b359), .int .i64 n313, .int .i64 0]) w178)))))))))))))
theorem C162 {b1 b2 n3 n4 a5 l5 c5 a6 l6 c6 a7 l7 c7 n8 b9 b10 b11 v12 n13 n14 Q w} (h:L162 b1 b2 n3 n4 a5 l5 c5 a6 l6 c6 a7 l7 c7 n8 b9 b10 b11 v12 n13 n14 Q w):CallR Tryz.prog 162 [.agg #[.bool b1,.bool b2,.int .i64 n3,.int .i64 n4,.slice a5 l5 c5,.slice a6 l6 c6,.slice a7 l7 c7,.int .i64 n8,.bool b9,.bool b10,.bool b11],v12,.int .i64 n13,.int .i64 n14] w Q:=
 fC A162 Tryz.func162 rfl (by kernel_rfl) (Eq.mp (by kernel_rfl) h)
def A187:Ann:=⟨[],[],[],[],[],[]⟩
def L187 (p1:Option Addr) (Q:Value→World→Prop) (w:World):Prop:=
 let w1:=w.alloc (.cells #[.pointer p1] 56);
 Q (.func (.func 225) #[] #[.pointer (some (Addr.mk w.heap.size 0 none))]) w1
theorem C187 {p1 Q w} (h:L187 p1 Q w):CallR Tryz.prog 187 [.pointer p1] w Q:=
 fC A187 Tryz.func187 rfl (by kernel_rfl) (Eq.mp (by kernel_rfl) h)
def A225:Ann:=⟨[(1,[(9,.one (.int .i64))])],[],[],[],[],[]⟩
def L225 (v1:Value) (p2:Option Addr) (Q:Value→World→Prop) (w:World):Prop:=
 nn p2 (fun q3=>
 ∃ p4,w.cell? q3=some (.pointer p4)∧
 nn p4 (fun q5=>
 ∃ (vs6:List Value),vs6.length=128∧(∀ i v,vs6[i]?=some v→w.cell? (Addr.add (Addr.add q5 1) i)=some v)∧
 ∃ (I7:List Value→World→Prop) (mu8:List Value→World→Nat),
 I7 [.int .i64 0] w∧
 ∀ (_:Env) (n9:Int) (w1:World),I7 [.int .i64 n9] w1→
 cond (decide (n9< 64))
 ((0≤(n9:Int)∧(n9:Int)< ((64:Nat):Int))∧
 ∃ n10 b11,List.take 2 (List.drop (Int.toNat n9 * 2) (Array.toList (vs6).toArray))=[.int .i64 n10,.bool b11]∧
 let w2:=w1.alloc (.cells #[.int .i64 0,.bool false] 91);
 stC (Addr.mk w1.heap.size 0 none) (.int .i64 n10) w2 (fun w3=>
 stC (Addr.mk w1.heap.size 1 none) (.bool b11) w3 (fun w4=>
 ∃ n12,w4.cell? (Addr.mk w1.heap.size 0 none)=some (.int .i64 n12)∧
 cond (n12 == 0)
 (∃ l13,v1=.func (.yield l13) #[] #[]∧YieldR Tryz.prog l13 [.int .i64 n9] w4 (fun (b14:Bool) (w5:World)=>
 cond (!b14)
 (Q (.tuple #[]) w5)
 (inI (n9+1)∧
 I7 [.int .i64 (n9+1)] w5∧mu8 [.int .i64 (n9+1)] w5< mu8 [.int .i64 n9] w1)))
 (inI (n9+1)∧
 I7 [.int .i64 (n9+1)] w4∧mu8 [.int .i64 (n9+1)] w4< mu8 [.int .i64 n9] w1))))
 (Q (.tuple #[]) w1)))
theorem C225 {v1 p2 Q w} (h:L225 v1 p2 Q w):CallR Tryz.prog 225 [v1,.pointer p2] w Q:=
 funI_calls (A:=A225) Tryz.func225 (c:=(Tryz.f225.body).getD .skip) rfl (by kernel_rfl) (Eq.mp (by kernel_rfl) h)
def A133:Ann:=⟨[],[],[],[],[],[]⟩
def L133 (p1:Option Addr) (n2:Int) (Q:Value→World→Prop) (w:World):Prop:=
 let w1:=w.alloc (.cells #[.int .i64 n2] 3);
 let w2:=w1.alloc (.cells #[.slice none 0 0] 39);
 let w3:=w2.alloc (.cells #[.slice none 0 0] 39);
 CQ 187 [.pointer p1] w3 (fun r4 w4=>
 ∃ (v3:Value),r4=v3∧
 ∃ (gf8:FuncId) (lb9:Array Value) (xs10:List (List Value)) (Kp11 T12:Nat→Prop) (I13 Ix14:Nat→World→Prop),
 v3=.func (.func gf8) #[] lb9∧bodyB Tryz.prog gf8=true∧IterOK Tryz.prog gf8 (Array.toList lb9) xs10 Kp11 w4∧(∀ z,Kp11 z→z< w4.heap.size)∧(∀ z,T12 z→¬ Kp11 z∧z≠w4.heap.size∧z≠w4.heap.size+1)∧
 Steady w4.heap.size I13∧Steady w4.heap.size Ix14∧I13 0 w4∧
 (∀ (i6:Nat) (x7:List Value) (w5:World),xs10[i6]?=some x7→I13 i6 w5→w4.heap.size+2≤w5.heap.size→List.length x7=1∧∃ n5,x7=[.int .i64 n5]∧
 w5=w5∧∀ (w6:World),Kept (fun z=>z=w4.heap.size+1) w5 w6→
 ∃ a15 l15 c15,w6.cell? (Addr.mk w2.heap.size 0 none)=some (.slice a15 l15 c15)∧
 let w10:=w6.alloc (.cells #[.int .i64 n5] 3);
 ∃ a16 l16 c16 w11,Sem.run Tryz.prog (Builtin.append_ #[39,39] 39 #[.slice a15 l15 c15,.slice (some (Addr.mk w6.heap.size 0 none)) 1 1]) w10=.ok (.slice a16 l16 c16) w11∧
 stC (Addr.mk w2.heap.size 0 none) (.slice a16 l16 c16) w11 (fun w12=>
 ∃ a17 l17 c17,w12.cell? (Addr.mk w2.heap.size 0 none)=some (.slice a17 l17 c17)∧
 ∃ n18,w12.cell? (Addr.mk w.heap.size 0 none)=some (.int .i64 n18)∧
 cond ((((l17:Nat):Int)) == n18)
 (∃ a19 l19 c19,w12.cell? (Addr.mk w2.heap.size 0 none)=some (.slice a19 l19 c19)∧
 stC (Addr.mk w1.heap.size 0 none) (.slice a19 l19 c19) w12 (fun w13=>
 Kept T12 w6 w13∧Ix14 i6 w13))
 (Kept T12 w6 w12∧I13 (i6+1) w12)))∧
 (∀ (w7:World),I13 (List.length xs10) w7→
 stC (Addr.mk w1.heap.size 0 none) (.slice none 0 0) w7 (fun w14=>
 Kept (fun z=>z≠w4.heap.size) w7 w14∧∀ (w8:World),Kept (fun z=>z=w4.heap.size) w14 w8→
 ∃ a20 l20 c20,w8.cell? (Addr.mk w1.heap.size 0 none)=some (.slice a20 l20 c20)∧
 Q (.slice a20 l20 c20) w8))∧
 (∀ (i6:Nat) (w7:World),Ix14 i6 w7→∀ (w9:World),Kept (fun z=>z=w4.heap.size) w7 w9→
 ∃ a21 l21 c21,w9.cell? (Addr.mk w1.heap.size 0 none)=some (.slice a21 l21 c21)∧
 Q (.slice a21 l21 c21) w9))
theorem C133 {p1 n2 Q w} (h:L133 p1 n2 Q w):CallR Tryz.prog 133 [.pointer p1,.int .i64 n2] w Q:=
 funRF (A:=A133) (shs:=[.one (.int .i64)]) mixed Tryz.func133 (c:=(Tryz.f133.body).getD .skip) rfl (by kernel_rfl) (Eq.mp (by kernel_rfl) h)
def A11:Ann:=⟨[],[],[],[],[],[]⟩
def L11 (p1:Option Addr) (Q:Value→World→Prop) (w:World):Prop:=
 let w1:=w.alloc (.cells (gq5 p1 0 false 0 false 0 false 0 false 0 false 0 false 0 false 0 false 0 false 0 false 0 false 0 false 0 false 0 false 0 false 0 false 0 false 0 false 0 false 0 false 0 false 0 false 0 false 0 false 0 false 0 false 0 false 0 false 0 false 0 false 0 false 0 false 0 false 0 false 0 false 0 false 0 false 0 false 0 false 0 false 0 false 0 false 0 false 0 false 0 false 0 false 0 false 0 false 0 false 0 false 0 false 0 false 0 false 0 false 0 false 0 false 0 false 0 false 0 false 0 false 0 false 0 false 0 false 0 false) 94);
 Q (.pointer (some (Addr.mk w.heap.size 0 none))) w1
theorem C11 {p1 Q w} (h:L11 p1 Q w):CallR Tryz.prog 11 [.pointer p1] w Q:=
 fC A11 Tryz.func11 rfl (by kernel_rfl) (Eq.mp (by kernel_rfl) h)
def A132:Ann:=⟨[],[],[],[],[],[]⟩
def L132 (p1:Option Addr) (Q:Value→World→Prop) (w:World):Prop:=
 cond (Option.isNone p1)
 (Q (.bool true) w)
 (nn p1 (fun q2=>
 ∃ p3,w.cell? q2=some (.pointer p3)∧
 Q (.bool (Option.isNone p3)) w))
theorem C132 {p1 Q w} (h:L132 p1 Q w):CallR Tryz.prog 132 [.pointer p1] w Q:=
 fC A132 Tryz.func132 rfl (by kernel_rfl) (Eq.mp (by kernel_rfl) h)
def A135:Ann:=⟨[],[],[],[],[],[]⟩
def L135 (p1:Option Addr) (n2:Int) (Q:Value→World→Prop) (w:World):Prop:=
 CQ 132 [.pointer p1] w (fun r4 w1=>
 ∃ b3,r4=.bool b3∧
 cond b3
 (Q (.tuple #[.pointer none,.int .i64 2]) w1)
 (cond (decide (n2< 0))
 (Q (.tuple #[.pointer none,.int .i64 71]) w1)
 (cond (decide (n2≥64))
 (Q (.tuple #[.pointer none,.int .i64 71]) w1)
 (nn p1 (fun q5=>
 (0≤(n2:Int)∧(n2:Int)< ((64:Nat):Int))∧
 ∃ n6,w1.cell? (Addr.add (Addr.add q5 1) (Int.toNat n2 * 2))=some (.int .i64 n6)∧
 cond (n6 == 0)
 (Q (.tuple #[.pointer none,.int .i64 71]) w1)
 (nn p1 (fun q7=>
 (0≤(n2:Int)∧(n2:Int)< ((64:Nat):Int))∧
 Q (.tuple #[.pointer (some (Addr.add (Addr.add q7 1) (Int.toNat n2 * 2))),.int .i64 0]) w1)))))))
theorem C135 {p1 n2 Q w} (h:L135 p1 n2 Q w):CallR Tryz.prog 135 [.pointer p1,.int .i64 n2] w Q:=
 fC A135 Tryz.func135 rfl (by kernel_rfl) (Eq.mp (by kernel_rfl) h)
def A72:Ann:=⟨[],[],[],[(9,[0,1,2,3,4,5,6,7,8,9])],[],[]⟩
def L72 (p1:Option Addr) (s2:ByteArray) (n3:Int) (Q:Value→World→Prop) (w:World):Prop:=
 CQ 132 [.pointer p1] w (fun r5 w1=>
 ∃ b4,r5=.bool b4∧
 cond b4
 (Q (.tuple #[.int .i64 0,.int .i64 2]) w1)
 (CQ 133 [.pointer p1,.int .i64 1] w1 (fun r7 w2=>
 ∃ a6 l6 c6,r7=.slice a6 l6 c6∧
 cond (Option.isNone a6)
 (Q (.tuple #[.int .i64 0,.int .i64 31]) w2)
 (nn p1 (fun q8=>
 ∃ p9,w2.cell? q8=some (.pointer p9)∧
 CQ 134 [.pointer p9,.string s2,.int .i64 n3] w2 (fun r12 w3=>
 ∃ n10 n11,r12=.tuple #[.int .i64 n10,.int .i64 n11]∧
 cond (n11 != 0)
 (Q (.tuple #[.int .i64 0,.int .i64 n11]) w3)
 (let w4:=w3.drew;
 (0≤(0:Int)∧(0:Int)< ((l6:Nat):Int))∧
 nn a6 (fun q13=>
 ∃ n14,w4.cell? (Addr.add q13 (Int.toNat 0))=some (.int .i64 n14)∧
 nn p1 (fun q15=>
 (0≤(n14:Int)∧(n14:Int)< ((64:Nat):Int))∧
 stC (Addr.add (Addr.add q15 1) (Int.toNat n14 * 2)) (.int .i64 n10) w4 (fun w5=>
 stC (Addr.add (Addr.add (Addr.add q15 1) (Int.toNat n14 * 2)) 1) (.bool false) w5 (fun w6=>
 (0≤(0:Int)∧(0:Int)< ((l6:Nat):Int))∧
 nn a6 (fun q16=>
 ∃ n17,w6.cell? (Addr.add q16 (Int.toNat 0))=some (.int .i64 n17)∧
 Q (.tuple #[.int .i64 n17,.int .i64 0]) w6))))))))))))
theorem C72 {p1 s2 n3 Q w} (h:L72 p1 s2 n3 Q w):CallR Tryz.prog 72 [.pointer p1,.string s2,.int .i64 n3] w Q:=
 fC A72 Tryz.func72 rfl (by kernel_rfl) (Eq.mp (by kernel_rfl) h)
def A76:Ann:=⟨[],[],[],[(4,[0,1,2,3,4,5,6,7,8])],[],[]⟩
def L76 (p1:Option Addr) (n2:Int) (Q:Value→World→Prop) (w:World):Prop:=
 CQ 135 [.pointer p1,.int .i64 n2] w (fun r5 w1=>
 ∃ p3 n4,r5=.tuple #[.pointer p3,.int .i64 n4]∧
 cond (n4 != 0)
 (Q (.int .i64 n4) w1)
 (let w2:=w1.drew;
 nn p1 (fun q6=>
 ∃ p7,w2.cell? q6=some (.pointer p7)∧
 nn p3 (fun q8=>
 ∃ n9,w2.cell? q8=some (.int .i64 n9)∧
 CQ 114 [.pointer p7,.int .i64 n9] w2 (fun r11 w3=>
 ∃ n10,r11=.int .i64 n10∧
 nn p3 (fun q12=>
 stC q12 (.int .i64 0) w3 (fun w4=>
 stC (Addr.add q12 1) (.bool false) w4 (fun w5=>
 Q (.int .i64 0) w5))))))))
theorem C76 {p1 n2 Q w} (h:L76 p1 n2 Q w):CallR Tryz.prog 76 [.pointer p1,.int .i64 n2] w Q:=
 fC A76 Tryz.func76 rfl (by kernel_rfl) (Eq.mp (by kernel_rfl) h)
def A73:Ann:=⟨[],[],[],[],[],[]⟩
def L73 (p1:Option Addr) (n2:Int) (b3:Bool) (Q:Value→World→Prop) (w:World):Prop:=
 CQ 135 [.pointer p1,.int .i64 n2] w (fun r6 w1=>
 ∃ p4 n5,r6=.tuple #[.pointer p4,.int .i64 n5]∧
 cond (n5 == 0)
 (nn p4 (fun q7=>
 stC (Addr.add q7 1) (.bool b3) w1 (fun w2=>
 Q (.int .i64 n5) w2)))
 (Q (.int .i64 n5) w1))
theorem C73 {p1 n2 b3 Q w} (h:L73 p1 n2 b3 Q w):CallR Tryz.prog 73 [.pointer p1,.int .i64 n2,.bool b3] w Q:=
 fC A73 Tryz.func73 rfl (by kernel_rfl) (Eq.mp (by kernel_rfl) h)
def A74:Ann:=⟨[],[],[],[],[],[]⟩
def L74 (p1:Option Addr) (n2:Int) (Q:Value→World→Prop) (w:World):Prop:=
 CQ 135 [.pointer p1,.int .i64 n2] w (fun r5 w1=>
 ∃ p3 n4,r5=.tuple #[.pointer p3,.int .i64 n4]∧
 cond (n4 != 0)
 (Q (.tuple #[.int .i64 0,.int .i64 n4]) w1)
 (nn p3 (fun q6=>
 ∃ n7,w1.cell? q6=some (.int .i64 n7)∧
 Q (.tuple #[.int .i64 n7,.int .i64 0]) w1)))
theorem C74 {p1 n2 Q w} (h:L74 p1 n2 Q w):CallR Tryz.prog 74 [.pointer p1,.int .i64 n2] w Q:=
 fC A74 Tryz.func74 rfl (by kernel_rfl) (Eq.mp (by kernel_rfl) h)
def A115:Ann:=⟨[(1,[(7,.one (.int .i64))])],[],[],[],[],[]⟩
def L115 (p1:Option Addr) (Q:Value→World→Prop) (w:World):Prop:=
 CQ 174 [.pointer p1] w (fun r3 w1=>
 ∃ a2 l2 c2,r3=.slice a2 l2 c2∧
 ∃ (I4:List Value→World→Prop) (mu5:List Value→World→Nat),
 I4 [.int .i64 0] w1∧
 ∀ (_:Env) (n6:Int) (w2:World),I4 [.int .i64 n6] w2→
 cond (decide (n6< (((l2:Nat):Int))))
 ((0≤(n6:Int)∧(n6:Int)< ((l2:Nat):Int))∧
 nn a2 (fun q7=>
 ∃ n8,w2.cell? (Addr.add q7 (Int.toNat n6))=some (.int .i64 n8)∧
 CQ 76 [.pointer p1,.int .i64 n8] w2 (fun r10 w3=>
 ∃ n9,r10=.int .i64 n9∧
 inI (n6+1)∧
 I4 [.int .i64 (n6+1)] w3∧mu5 [.int .i64 (n6+1)] w3< mu5 [.int .i64 n6] w2)))
 (Q (.tuple #[]) w2))
theorem C115 {p1 Q w} (h:L115 p1 Q w):CallR Tryz.prog 115 [.pointer p1] w Q:=
 fC A115 Tryz.func115 rfl (by kernel_rfl) (Eq.mp (by kernel_rfl) h)
def A174:Ann:=⟨[(5,[(3,.one (.slice)),(12,.one (.int .i64))])],[],[],[],[],[]⟩
def L174 (p1:Option Addr) (Q:Value→World→Prop) (w:World):Prop:=
 CQ 132 [.pointer p1] w (fun r3 w1=>
 ∃ b2,r3=.bool b2∧
 cond b2
 (Q (.slice none 0 0) w1)
 (nn p1 (fun q4=>
 ∃ (vs5:List Value),vs5.length=128∧(∀ i v,vs5[i]?=some v→w1.cell? (Addr.add (Addr.add q4 1) i)=some v)∧
 ∃ (I6:List Value→World→Prop) (mu7:List Value→World→Nat),
 I6 [.slice none 0 0,.int .i64 0] w1∧
 ∀ (_:Env) (a8:Option Addr) (l8:Nat) (c8:Nat) (n9:Int) (w2:World),I6 [.slice a8 l8 c8,.int .i64 n9] w2→
 cond (decide (n9< 64))
 ((0≤(n9:Int)∧(n9:Int)< ((64:Nat):Int))∧
 ∃ n10 b11,List.take 2 (List.drop (Int.toNat n9 * 2) (Array.toList (vs5).toArray))=[.int .i64 n10,.bool b11]∧
 let w3:=w2.alloc (.cells #[.int .i64 0,.bool false] 91);
 stC (Addr.mk w2.heap.size 0 none) (.int .i64 n10) w3 (fun w4=>
 stC (Addr.mk w2.heap.size 1 none) (.bool b11) w4 (fun w5=>
 ∃ n12,w5.cell? (Addr.mk w2.heap.size 0 none)=some (.int .i64 n12)∧
 cond (n12 != 0)
 (let w6:=w5.alloc (.cells #[.int .i64 n9] 3);
 ∃ a13 l13 c13 w7,Sem.run Tryz.prog (Builtin.append_ #[39,39] 39 #[.slice a8 l8 c8,.slice (some (Addr.mk w5.heap.size 0 none)) 1 1]) w6=.ok (.slice a13 l13 c13) w7∧
 inI (n9+1)∧
 I6 [.slice a13 l13 c13,.int .i64 (n9+1)] w7∧mu7 [.slice a13 l13 c13,.int .i64 (n9+1)] w7< mu7 [.slice a8 l8 c8,.int .i64 n9] w2)
 (inI (n9+1)∧
 I6 [.slice a8 l8 c8,.int .i64 (n9+1)] w5∧mu7 [.slice a8 l8 c8,.int .i64 (n9+1)] w5< mu7 [.slice a8 l8 c8,.int .i64 n9] w2))))
 (Q (.slice a8 l8 c8) w2))))
theorem C174 {p1 Q w} (h:L174 p1 Q w):CallR Tryz.prog 174 [.pointer p1] w Q:=
 fC A174 Tryz.func174 rfl (by kernel_rfl) (Eq.mp (by kernel_rfl) h)
end Go.Proofs.YteojolihgijdhaaGreatDoor
