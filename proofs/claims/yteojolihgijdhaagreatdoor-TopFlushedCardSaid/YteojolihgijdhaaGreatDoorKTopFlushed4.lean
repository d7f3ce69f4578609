/- Part 4 of 21 of the proof of TopFlushed. Conditions: the theorem's: none. -/
import Derived.Test.YteojolihgijdhaaGreatDoorKTopFlushed3
set_option linter.unusedVariables false
set_option maxRecDepth 100000
namespace Go.Proofs.YteojolihgijdhaaGreatDoor
open Go.Lw
theorem mixed0:Tryz.prog.follows .mixedOrders=true:=by kernel_rfl
theorem fC (A:Ann) {k:FuncId} {fn:Func} {args:List Value} {w:World} {Q:Value→World→Prop} (hf:Tryz.prog.funcs[k]?=some fn) (hb:fn.body=some (fn.body.getD .skip)) (hn:(Nat.ble args.length fn.ntmps && fits fn.ntmps (fn.body.getD .skip))=true) (h:sem Tryz.prog A (fn.body.getD .skip) (funQ Tryz.prog fn.results.toList Q) (env0 args) w):CallR Tryz.prog k args w Q:=
 fun_calls mixed0 hf hb hn h
abbrev CQ:=CallR Tryz.prog
abbrev gq9 (x0:Bool) (x1:Bool) (x2:Bool) (x3:Bool) (x4:Bool) (x5:Bool):Array Value:=#[.bool x0,.bool x1,.bool x2,.bool x3,.bool x4,.bool x5]
abbrev gq0 (x0:Bool) (x1:Bool) (x2:Bool) (x3:Bool) (x4:Bool) (x5:Bool) (x6:Bool) (x7:Bool):Array Value:=#[.bool x0,.bool x1,.bool x2,.bool x3,.bool x4,.bool x5,.bool x6,.bool x7]
abbrev gq1 (x0:Bool) (x1:Bool) (x2:Int) (x3:Int) (x4:Option Addr) (x5:Nat) (x6:Nat) (x7:Option Addr) (x8:Nat) (x9:Nat) (x10:Option Addr) (x11:Nat) (x12:Nat) (x13:Int) (x14:Bool) (x15:Bool) (x16:Bool):Array Value:=#[.bool x0,.bool x1,.int .i64 x2,.int .i64 x3,.slice x4 x5 x6,.slice x7 x8 x9,.slice x10 x11 x12,.int .i64 x13,.bool x14,.bool x15,.bool x16]
abbrev gq3 (x0:Bool) (x1:Option Nat) (x2:Option Nat) (x3:Option Nat) (x4:Int) (x5:Option Addr) (x6:Int) (x7:Int):Array Value:=#[.bool x0,.map x1,.map x2,.map x3,.int .i64 x4,.pointer x5,.int .i64 x6,.int .i64 x7]
abbrev gq4 (x0:Bool) (x1:Option Addr) (x2:Nat) (x3:Nat) (x4:Int) (x5:Option Addr) (x6:Nat) (x7:Nat) (x8:Bool):Array Value:=#[.bool x0,.slice x1 x2 x3,.int .i64 x4,.slice x5 x6 x7,.bool x8]
abbrev gq8 (x0:Int) (x1:Int) (x2:Int) (x3:Int) (x4:ByteArray) (x5:ByteArray) (x6:Option Addr) (x7:Nat) (x8:Nat) (x9:Option Addr) (x10:Nat) (x11:Nat) (x12:Option Addr) (x13:Nat) (x14:Nat):Array Value:=#[.int .i64 x0,.int .i64 x1,.int .i64 x2,.int .i64 x3,.string x4,.string x5,.slice x6 x7 x8,.slice x9 x10 x11,.slice x12 x13 x14]
abbrev gq7 (x0:Int) (x1:Int) (x2:Int) (x3:Option Addr) (x4:Nat) (x5:Nat) (x6:Option Addr) (x7:Nat) (x8:Nat):Array Value:=#[.int .i64 x0,.int .i64 x1,.int .i64 x2,.slice x3 x4 x5,.slice x6 x7 x8]
abbrev gq5 (x0:Option Addr) (x1:Int) (x2:Bool) (x3:Int) (x4:Bool) (x5:Int) (x6:Bool) (x7:Int) (x8:Bool) (x9:Int) (x10:Bool) (x11:Int) (x12:Bool) (x13:Int) (x14:Bool) (x15:Int) (x16:Bool) (x17:Int) (x18:Bool) (x19:Int) (x20:Bool) (x21:Int) (x22:Bool) (x23:Int) (x24:Bool) (x25:Int) (x26:Bool) (x27:Int) (x28:Bool) (x29:Int) (x30:Bool) (x31:Int) (x32:Bool) (x33:Int) (x34:Bool) (x35:Int) (x36:Bool) (x37:Int) (x38:Bool) (x39:Int) (x40:Bool) (x41:Int) (x42:Bool) (x43:Int) (x44:Bool) (x45:Int) (x46:Bool) (x47:Int) (x48:Bool) (x49:Int) (x50:Bool) (x51:Int) (x52:Bool) (x53:Int) (x54:Bool) (x55:Int) (x56:Bool) (x57:Int) (x58:Bool) (x59:Int) (x60:Bool) (x61:Int) (x62:Bool) (x63:Int) (x64:Bool) (x65:Int) (x66:Bool) (x67:Int) (x68:Bool) (x69:Int) (x70:Bool) (x71:Int) (x72:Bool) (x73:Int) (x74:Bool) (x75:Int) (x76:Bool) (x77:Int) (x78:Bool) (x79:Int) (x80:Bool) (x81:Int) (x82:Bool) (x83:Int) (x84:Bool) (x85:Int) (x86:Bool) (x87:Int) (x88:Bool) (x89:Int) (x90:Bool) (x91:Int) (x92:Bool) (x93:Int) (x94:Bool) (x95:Int) (x96:Bool) (x97:Int) (x98:Bool) (x99:Int) (x100:Bool) (x101:Int) (x102:Bool) (x103:Int) (x104:Bool) (x105:Int) (x106:Bool) (x107:Int) (x108:Bool) (x109:Int) (x110:Bool) (x111:Int) (x112:Bool) (x113:Int) (x114:Bool) (x115:Int) (x116:Bool) (x117:Int) (x118:Bool) (x119:Int) (x120:Bool) (x121:Int) (x122:Bool) (x123:Int) (x124:Bool) (x125:Int) (x126:Bool) (x127:Int) (x128:Bool):Array Value:=#[.pointer x0,.int .i64 x1,.bool x2,.int .i64 x3,.bool x4,.int .i64 x5,.bool x6,.int .i64 x7,.bool x8,.int .i64 x9,.bool x10,.int .i64 x11,.bool x12,.int .i64 x13,.bool x14,.int .i64 x15,.bool x16,.int .i64 x17,.bool x18,.int .i64 x19,.bool x20,.int .i64 x21,.bool x22,.int .i64 x23,.bool x24,.int .i64 x25,.bool x26,.int .i64 x27,.bool x28,.int .i64 x29,.bool x30,.int .i64 x31,.bool x32,.int .i64 x33,.bool x34,.int .i64 x35,.bool x36,.int .i64 x37,.bool x38,.int .i64 x39,.bool x40,.int .i64 x41,.bool x42,.int .i64 x43,.bool x44,.int .i64 x45,.bool x46,.int .i64 x47,.bool x48,.int .i64 x49,.bool x50,.int .i64 x51,.bool x52,.int .i64 x53,.bool x54,.int .i64 x55,.bool x56,.int .i64 x57,.bool x58,.int .i64 x59,.bool x60,.int .i64 x61,.bool x62,.int .i64 x63,.bool x64,.int .i64 x65,.bool x66,.int .i64 x67,.bool x68,.int .i64 x69,.bool x70,.int .i64 x71,.bool x72,.int .i64 x73,.bool x74,.int .i64 x75,.bool x76,.int .i64 x77,.bool x78,.int .i64 x79,.bool x80,.int .i64 x81,.bool x82,.int .i64 x83,.bool x84,.int .i64 x85,.bool x86,.int .i64 x87,.bool x88,.int .i64 x89,.bool x90,.int .i64 x91,.bool x92,.int .i64 x93,.bool x94,.int .i64 x95,.bool x96,.int .i64 x97,.bool x98,.int .i64 x99,.bool x100,.int .i64 x101,.bool x102,.int .i64 x103,.bool x104,.int .i64 x105,.bool x106,.int .i64 x107,.bool x108,.int .i64 x109,.bool x110,.int .i64 x111,.bool x112,.int .i64 x113,.bool x114,.int .i64 x115,.bool x116,.int .i64 x117,.bool x118,.int .i64 x119,.bool x120,.int .i64 x121,.bool x122,.int .i64 x123,.bool x124,.int .i64 x125,.bool x126,.int .i64 x127,.bool x128]
abbrev gq6 (x0:Option Addr) (x1:Option Addr) (x2:Option Addr) (x3:Option Nat) (x4:Option Addr) (x5:Nat) (x6:Nat) (x7:Option Addr) (x8:Nat) (x9:Nat) (x10:Int) (x11:Option Addr) (x12:Nat) (x13:Nat) (x14:Bool) (x15:Option Addr) (x16:Nat) (x17:Nat) (x18:Option Addr) (x19:Nat) (x20:Nat) (x21:Bool):Array Value:=#[.pointer x0,.pointer x1,.pointer x2,.map x3,.slice x4 x5 x6,.slice x7 x8 x9,.int .i64 x10,.slice x11 x12 x13,.bool x14,.slice x15 x16 x17,.slice x18 x19 x20,.bool x21]
abbrev gq10 (x0:Option Addr) (x1:Nat) (x2:Nat) (x3:Int) (x4:Option Addr) (x5:Nat) (x6:Nat) (x7:Bool) (x8:Option Addr) (x9:Nat) (x10:Nat) (x11:Option Addr) (x12:Nat) (x13:Nat):Array Value:=#[.slice x0 x1 x2,.int .i64 x3,.slice x4 x5 x6,.bool x7,.slice x8 x9 x10,.slice x11 x12 x13]
abbrev lq0 (w:World) (g:Nat) (K:Bool→Bool→Bool→Bool→Bool→Bool→Bool→Bool→Prop):Prop:=∃ (x0:Bool) (x1:Bool) (x2:Bool) (x3:Bool) (x4:Bool) (x5:Bool) (x6:Bool) (x7:Bool),w.cell? (Addr.mk g 0 none)=some ((.bool x0:Value))∧w.cell? (Addr.mk g 1 none)=some ((.bool x1:Value))∧w.cell? (Addr.mk g 2 none)=some ((.bool x2:Value))∧w.cell? (Addr.mk g 3 none)=some ((.bool x3:Value))∧w.cell? (Addr.mk g 4 none)=some ((.bool x4:Value))∧w.cell? (Addr.mk g 5 none)=some ((.bool x5:Value))∧w.cell? (Addr.mk g 6 none)=some ((.bool x6:Value))∧w.cell? (Addr.mk g 7 none)=some ((.bool x7:Value))∧K x0 x1 x2 x3 x4 x5 x6 x7
abbrev lq1 (w:World) (g:Nat) (K:Bool→Bool→Int→Int→Option Addr→Nat→Nat→Option Addr→Nat→Nat→Option Addr→Nat→Nat→Int→Bool→Bool→Bool→Prop):Prop:=∃ (x0:Bool) (x1:Bool) (x2:Int) (x3:Int) (x4:Option Addr) (x5:Nat) (x6:Nat) (x7:Option Addr) (x8:Nat) (x9:Nat) (x10:Option Addr) (x11:Nat) (x12:Nat) (x13:Int) (x14:Bool) (x15:Bool) (x16:Bool),w.cell? (Addr.mk g 0 none)=some ((.bool x0:Value))∧w.cell? (Addr.mk g 1 none)=some ((.bool x1:Value))∧w.cell? (Addr.mk g 2 none)=some ((.int .i64 x2:Value))∧w.cell? (Addr.mk g 3 none)=some ((.int .i64 x3:Value))∧w.cell? (Addr.mk g 4 none)=some ((.slice x4 x5 x6:Value))∧w.cell? (Addr.mk g 5 none)=some ((.slice x7 x8 x9:Value))∧w.cell? (Addr.mk g 6 none)=some ((.slice x10 x11 x12:Value))∧w.cell? (Addr.mk g 7 none)=some ((.int .i64 x13:Value))∧w.cell? (Addr.mk g 8 none)=some ((.bool x14:Value))∧w.cell? (Addr.mk g 9 none)=some ((.bool x15:Value))∧w.cell? (Addr.mk g 10 none)=some ((.bool x16:Value))∧K x0 x1 x2 x3 x4 x5 x6 x7 x8 x9 x10 x11 x12 x13 x14 x15 x16
abbrev lq8 (w:World) (g:Nat) (K:Int→Int→Int→Int→ByteArray→ByteArray→Option Addr→Nat→Nat→Option Addr→Nat→Nat→Option Addr→Nat→Nat→Prop):Prop:=∃ (x0:Int) (x1:Int) (x2:Int) (x3:Int) (x4:ByteArray) (x5:ByteArray) (x6:Option Addr) (x7:Nat) (x8:Nat) (x9:Option Addr) (x10:Nat) (x11:Nat) (x12:Option Addr) (x13:Nat) (x14:Nat),w.cell? (Addr.mk g 0 none)=some ((.int .i64 x0:Value))∧w.cell? (Addr.mk g 1 none)=some ((.int .i64 x1:Value))∧w.cell? (Addr.mk g 2 none)=some ((.int .i64 x2:Value))∧w.cell? (Addr.mk g 3 none)=some ((.int .i64 x3:Value))∧w.cell? (Addr.mk g 4 none)=some ((.string x4:Value))∧w.cell? (Addr.mk g 5 none)=some ((.string x5:Value))∧w.cell? (Addr.mk g 6 none)=some ((.slice x6 x7 x8:Value))∧w.cell? (Addr.mk g 7 none)=some ((.slice x9 x10 x11:Value))∧w.cell? (Addr.mk g 8 none)=some ((.slice x12 x13 x14:Value))∧K x0 x1 x2 x3 x4 x5 x6 x7 x8 x9 x10 x11 x12 x13 x14
abbrev lq7 (w:World) (g:Nat) (K:Int→Int→Int→Option Addr→Nat→Nat→Option Addr→Nat→Nat→Prop):Prop:=∃ (x0:Int) (x1:Int) (x2:Int) (x3:Option Addr) (x4:Nat) (x5:Nat) (x6:Option Addr) (x7:Nat) (x8:Nat),w.cell? (Addr.mk g 0 none)=some ((.int .i64 x0:Value))∧w.cell? (Addr.mk g 1 none)=some ((.int .i64 x1:Value))∧w.cell? (Addr.mk g 2 none)=some ((.int .i64 x2:Value))∧w.cell? (Addr.mk g 3 none)=some ((.slice x3 x4 x5:Value))∧w.cell? (Addr.mk g 4 none)=some ((.slice x6 x7 x8:Value))∧K x0 x1 x2 x3 x4 x5 x6 x7 x8
abbrev lq10 (w:World) (g:Nat) (K:Option Addr→Nat→Nat→Int→Option Addr→Nat→Nat→Bool→Option Addr→Nat→Nat→Option Addr→Nat→Nat→Prop):Prop:=∃ (x0:Option Addr) (x1:Nat) (x2:Nat) (x3:Int) (x4:Option Addr) (x5:Nat) (x6:Nat) (x7:Bool) (x8:Option Addr) (x9:Nat) (x10:Nat) (x11:Option Addr) (x12:Nat) (x13:Nat),w.cell? (Addr.mk g 0 none)=some ((.slice x0 x1 x2:Value))∧w.cell? (Addr.mk g 1 none)=some ((.int .i64 x3:Value))∧w.cell? (Addr.mk g 2 none)=some ((.slice x4 x5 x6:Value))∧w.cell? (Addr.mk g 3 none)=some ((.bool x7:Value))∧w.cell? (Addr.mk g 4 none)=some ((.slice x8 x9 x10:Value))∧w.cell? (Addr.mk g 5 none)=some ((.slice x11 x12 x13:Value))∧K x0 x1 x2 x3 x4 x5 x6 x7 x8 x9 x10 x11 x12 x13
abbrev lq2 (w:World) (g:Nat) (K:Option Addr→Nat→Nat→Option Addr→Nat→Nat→Option Addr→Nat→Nat→Prop):Prop:=∃ (x0:Option Addr) (x1:Nat) (x2:Nat) (x3:Option Addr) (x4:Nat) (x5:Nat) (x6:Option Addr) (x7:Nat) (x8:Nat),w.cell? (Addr.mk g 0 none)=some ((.slice x0 x1 x2:Value))∧w.cell? (Addr.mk g 1 none)=some ((.slice x3 x4 x5:Value))∧w.cell? (Addr.mk g 2 none)=some ((.slice x6 x7 x8:Value))∧K x0 x1 x2 x3 x4 x5 x6 x7 x8
abbrev sq11 (g:Nat) (w:World) (v0 v1 v2 v3 v4 v5 v6 v7 v8 v9 v10:Value) (K:World→Prop):Prop:=stC (Addr.mk g 0 none) v0 w (fun w1=>stC (Addr.mk g 1 none) v1 w1 (fun w2=>stC (Addr.mk g 2 none) v2 w2 (fun w3=>stC (Addr.mk g 3 none) v3 w3 (fun w4=>stC (Addr.mk g 4 none) v4 w4 (fun w5=>stC (Addr.mk g 5 none) v5 w5 (fun w6=>stC (Addr.mk g 6 none) v6 w6 (fun w7=>stC (Addr.mk g 7 none) v7 w7 (fun w8=>stC (Addr.mk g 8 none) v8 w8 (fun w9=>stC (Addr.mk g 9 none) v9 w9 (fun w10=>stC (Addr.mk g 10 none) v10 w10 K))))))))))
abbrev sq5 (g:Nat) (w:World) (v0 v1 v2 v3 v4:Value) (K:World→Prop):Prop:=stC (Addr.mk g 0 none) v0 w (fun w1=>stC (Addr.mk g 1 none) v1 w1 (fun w2=>stC (Addr.mk g 2 none) v2 w2 (fun w3=>stC (Addr.mk g 3 none) v3 w3 (fun w4=>stC (Addr.mk g 4 none) v4 w4 K))))
abbrev sq6 (g:Nat) (w:World) (v0 v1 v2 v3 v4 v5:Value) (K:World→Prop):Prop:=stC (Addr.mk g 0 none) v0 w (fun w1=>stC (Addr.mk g 1 none) v1 w1 (fun w2=>stC (Addr.mk g 2 none) v2 w2 (fun w3=>stC (Addr.mk g 3 none) v3 w3 (fun w4=>stC (Addr.mk g 4 none) v4 w4 (fun w5=>stC (Addr.mk g 5 none) v5 w5 K)))))
abbrev sq8 (g:Nat) (w:World) (v0 v1 v2 v3 v4 v5 v6 v7:Value) (K:World→Prop):Prop:=stC (Addr.mk g 0 none) v0 w (fun w1=>stC (Addr.mk g 1 none) v1 w1 (fun w2=>stC (Addr.mk g 2 none) v2 w2 (fun w3=>stC (Addr.mk g 3 none) v3 w3 (fun w4=>stC (Addr.mk g 4 none) v4 w4 (fun w5=>stC (Addr.mk g 5 none) v5 w5 (fun w6=>stC (Addr.mk g 6 none) v6 w6 (fun w7=>stC (Addr.mk g 7 none) v7 w7 K)))))))
abbrev sq9 (g:Nat) (w:World) (v0 v1 v2 v3 v4 v5 v6 v7 v8:Value) (K:World→Prop):Prop:=stC (Addr.mk g 0 none) v0 w (fun w1=>stC (Addr.mk g 1 none) v1 w1 (fun w2=>stC (Addr.mk g 2 none) v2 w2 (fun w3=>stC (Addr.mk g 3 none) v3 w3 (fun w4=>stC (Addr.mk g 4 none) v4 w4 (fun w5=>stC (Addr.mk g 5 none) v5 w5 (fun w6=>stC (Addr.mk g 6 none) v6 w6 (fun w7=>stC (Addr.mk g 7 none) v7 w7 (fun w8=>stC (Addr.mk g 8 none) v8 w8 K))))))))
abbrev zSq:Array Value:=#[.bool false,.bool false,.int .i64 0,.int .i64 0,.slice none 0 0,.slice none 0 0,.slice none 0 0,.int .i64 0,.bool false,.bool false,.bool false]
theorem mixed:Tryz.prog.follows .mixedOrders=true:=by kernel_rfl
def A47:Ann:=⟨[],[],[],[],[],[]⟩
def L47 (a1:Option Addr) (l1 c1:Nat) (Q:Value→World→Prop) (w:World):Prop:=
 cond (Option.isNone a1)
 (Q (.slice none 0 0) w)
 (let w1:=w.alloc (.cells #[] 5);
 ∃ a2 l2 c2 w2,Sem.run Tryz.prog (Builtin.append_ #[34,34] 34 #[.slice (some (Addr.mk w.heap.size 0 none)) 0 0,.slice a1 l1 c1]) w1=.ok (.slice a2 l2 c2) w2∧
 Q (.slice a2 l2 c2) w2)
theorem C47 {a1 l1 c1 Q w} (h:L47 a1 l1 c1 Q w):CallR Tryz.prog 47 [.slice a1 l1 c1] w Q:=
 fC A47 Tryz.func47 rfl (by kernel_rfl) (Eq.mp (by kernel_rfl) h)
def A8:Ann:=⟨[(4,[(5,.one (.int .i64))])],[],[],[],[],[]⟩
def L8 (a1:Option Addr) (l1 c1:Nat) (a2:Option Addr) (l2 c2:Nat) (Q:Value→World→Prop) (w:World):Prop:=
 cond ((((l1:Nat):Int)) != (((l2:Nat):Int)))
 (Q (.bool false) w)
 (∃ (I3:List Value→World→Prop) (mu4:List Value→World→Nat),
 I3 [.int .i64 0] w∧
 ∀ (_:Env) (n5:Int) (w1:World),I3 [.int .i64 n5] w1→
 cond (decide (n5< (((l1:Nat):Int))))
 ((0≤(n5:Int)∧(n5:Int)< ((l1:Nat):Int))∧
 nn a1 (fun q7=>
 ∃ n8,w1.cell? (Addr.add q7 (Int.toNat n5))=some (.int .u8 n8)∧
 (0≤(n5:Int)∧(n5:Int)< ((l2:Nat):Int))∧
 nn a2 (fun q9=>
 ∃ n10,w1.cell? (Addr.add q9 (Int.toNat n5))=some (.int .u8 n10)∧
 ∀ nd6:Nat,let w2:=World.drewN w1 nd6;
 cond (n8 != n10)
 (Q (.bool false) w2)
 (inI (n5+1)∧
 I3 [.int .i64 (n5+1)] w2∧mu4 [.int .i64 (n5+1)] w2< mu4 [.int .i64 n5] w1))))
 (Q (.bool true) w1))
theorem C8 {a1 l1 c1 a2 l2 c2 Q w} (h:L8 a1 l1 c1 a2 l2 c2 Q w):CallR Tryz.prog 8 [.slice a1 l1 c1,.slice a2 l2 c2] w Q:=
 fC A8 Tryz.func8 rfl (by kernel_rfl) (Eq.mp (by kernel_rfl) h)
def A127:Ann:=⟨[],[],[],[],[],[]⟩
def L127 (n1:Int) (Q:Value→World→Prop) (w:World):Prop:=
 let w1:=w.alloc (.cells (gq0 false false false false false false false false) 147);
 cond (n1 == 114)
 (sq8 w.heap.size w1 (.bool true) (.bool false) (.bool false) (.bool false) (.bool false) (.bool false) (.bool false) (.bool false) (fun w9=>lq0 w9 w.heap.size fun b2 b3 b4 b5 b6 b7 b8 b9=>Q (.tuple #[.agg (gq0 b2 b3 b4 b5 b6 b7 b8 b9),.bool true]) w9))
 (cond (n1 == 119)
 (sq8 w.heap.size w1 (.bool false) (.bool true) (.bool false) (.bool true) (.bool true) (.bool false) (.bool false) (.bool false) (fun w17=>lq0 w17 w.heap.size fun b10 b11 b12 b13 b14 b15 b16 b17=>Q (.tuple #[.agg (gq0 b10 b11 b12 b13 b14 b15 b16 b17),.bool true]) w17))
 (cond (n1 == 97)
 (sq8 w.heap.size w1 (.bool false) (.bool true) (.bool true) (.bool true) (.bool false) (.bool false) (.bool false) (.bool false) (fun w25=>lq0 w25 w.heap.size fun b18 b19 b20 b21 b22 b23 b24 b25=>Q (.tuple #[.agg (gq0 b18 b19 b20 b21 b22 b23 b24 b25),.bool true]) w25))
 (sq8 w.heap.size w1 (.bool false) (.bool false) (.bool false) (.bool false) (.bool false) (.bool false) (.bool false) (.bool false) (fun w33=>lq0 w33 w.heap.size fun b26 b27 b28 b29 b30 b31 b32 b33=>Q (.tuple #[.agg (gq0 b26 b27 b28 b29 b30 b31 b32 b33),.bool false]) w33))))
theorem C127 {n1 Q w} (h:L127 n1 Q w):CallR Tryz.prog 127 [.int .u8 n1] w Q:=
 fC A127 Tryz.func127 rfl (by kernel_rfl) (Eq.mp (by kernel_rfl) h)
def A128:Ann:=⟨[],[],[],[],[],[]⟩
def L128 (Q:Value→World→Prop) (w:World):Prop:=
 let w1:=w.alloc (.cells #[.int .u8 43,.func (.func 177) #[] #[],.func (.func 178) #[] #[],.int .u8 98,.func (.func 179) #[] #[],.func (.func 180) #[] #[],.int .u8 120,.func (.func 181) #[] #[],.func (.func 182) #[] #[],.int .u8 101,.func (.func 183) #[] #[],.func (.func 184) #[] #[]] 222);
 Q (.slice (some (Addr.mk w.heap.size 0 none)) 4 4) w1
theorem C128 {Q w} (h:L128 Q w):CallR Tryz.prog 128 [] w Q:=
 fC A128 Tryz.func128 rfl (by kernel_rfl) (Eq.mp (by kernel_rfl) h)
def A177:Ann:=⟨[],[],[],[],[],[]⟩
def L177 (b1 b2 b3 b4 b5 b6 b7 b8:Bool) (Q:Value→World→Prop) (w:World):Prop:=
 let w1:=w.alloc (.cells (gq0 b1 b2 b3 b4 b5 b6 b7 b8) 147);
 ∃ b9,w1.cell? (Addr.mk w.heap.size 0 none)=some (.bool b9)∧
 cond b9
 (∃ b10,w1.cell? (Addr.mk w.heap.size 1 none)=some (.bool b10)∧
 Q (.bool b10) w1)
 (Q (.bool false) w1)
theorem C177 {b1 b2 b3 b4 b5 b6 b7 b8 Q w} (h:L177 b1 b2 b3 b4 b5 b6 b7 b8 Q w):CallR Tryz.prog 177 [.agg #[.bool b1,.bool b2,.bool b3,.bool b4,.bool b5,.bool b6,.bool b7,.bool b8]] w Q:=
 fC A177 Tryz.func177 rfl (by kernel_rfl) (Eq.mp (by kernel_rfl) h)
def A178:Ann:=⟨[],[],[],[],[],[]⟩
def L178 (p1:Option Addr) (Q:Value→World→Prop) (w:World):Prop:=
 nn p1 (fun q2=>
 stC q2 (.bool true) w (fun w1=>
 nn p1 (fun q3=>
 stC (Addr.add q3 1) (.bool true) w1 (fun w2=>
 Q (.tuple #[]) w2))))
theorem C178 {p1 Q w} (h:L178 p1 Q w):CallR Tryz.prog 178 [.pointer p1] w Q:=
 fC A178 Tryz.func178 rfl (by kernel_rfl) (Eq.mp (by kernel_rfl) h)
def A179:Ann:=⟨[],[],[],[],[],[]⟩
def L179 (b1 b2 b3 b4 b5 b6 b7 b8:Bool) (Q:Value→World→Prop) (w:World):Prop:=
 let w1:=w.alloc (.cells (gq0 b1 b2 b3 b4 b5 b6 b7 b8) 147);
 ∃ b9,w1.cell? (Addr.mk w.heap.size 6 none)=some (.bool b9)∧
 Q (.bool b9) w1
theorem C179 {b1 b2 b3 b4 b5 b6 b7 b8 Q w} (h:L179 b1 b2 b3 b4 b5 b6 b7 b8 Q w):CallR Tryz.prog 179 [.agg #[.bool b1,.bool b2,.bool b3,.bool b4,.bool b5,.bool b6,.bool b7,.bool b8]] w Q:=
 fC A179 Tryz.func179 rfl (by kernel_rfl) (Eq.mp (by kernel_rfl) h)
def A180:Ann:=⟨[],[],[],[],[],[]⟩
def L180 (p1:Option Addr) (Q:Value→World→Prop) (w:World):Prop:=
 nn p1 (fun q2=>
 stC (Addr.add q2 6) (.bool true) w (fun w1=>
 Q (.tuple #[]) w1))
theorem C180 {p1 Q w} (h:L180 p1 Q w):CallR Tryz.prog 180 [.pointer p1] w Q:=
 fC A180 Tryz.func180 rfl (by kernel_rfl) (Eq.mp (by kernel_rfl) h)
def A181:Ann:=⟨[],[],[],[],[],[]⟩
def L181 (b1 b2 b3 b4 b5 b6 b7 b8:Bool) (Q:Value→World→Prop) (w:World):Prop:=
 let w1:=w.alloc (.cells (gq0 b1 b2 b3 b4 b5 b6 b7 b8) 147);
 ∃ b9,w1.cell? (Addr.mk w.heap.size 5 none)=some (.bool b9)∧
 Q (.bool b9) w1
theorem C181 {b1 b2 b3 b4 b5 b6 b7 b8 Q w} (h:L181 b1 b2 b3 b4 b5 b6 b7 b8 Q w):CallR Tryz.prog 181 [.agg #[.bool b1,.bool b2,.bool b3,.bool b4,.bool b5,.bool b6,.bool b7,.bool b8]] w Q:=
 fC A181 Tryz.func181 rfl (by kernel_rfl) (Eq.mp (by kernel_rfl) h)
def A182:Ann:=⟨[],[],[],[],[],[]⟩
def L182 (p1:Option Addr) (Q:Value→World→Prop) (w:World):Prop:=
 nn p1 (fun q2=>
 stC (Addr.add q2 5) (.bool true) w (fun w1=>
 Q (.tuple #[]) w1))
theorem C182 {p1 Q w} (h:L182 p1 Q w):CallR Tryz.prog 182 [.pointer p1] w Q:=
 fC A182 Tryz.func182 rfl (by kernel_rfl) (Eq.mp (by kernel_rfl) h)
def A183:Ann:=⟨[],[],[],[],[],[]⟩
def L183 (b1 b2 b3 b4 b5 b6 b7 b8:Bool) (Q:Value→World→Prop) (w:World):Prop:=
 let w1:=w.alloc (.cells (gq0 b1 b2 b3 b4 b5 b6 b7 b8) 147);
 ∃ b9,w1.cell? (Addr.mk w.heap.size 7 none)=some (.bool b9)∧
 Q (.bool b9) w1
theorem C183 {b1 b2 b3 b4 b5 b6 b7 b8 Q w} (h:L183 b1 b2 b3 b4 b5 b6 b7 b8 Q w):CallR Tryz.prog 183 [.agg #[.bool b1,.bool b2,.bool b3,.bool b4,.bool b5,.bool b6,.bool b7,.bool b8]] w Q:=
 fC A183 Tryz.func183 rfl (by kernel_rfl) (Eq.mp (by kernel_rfl) h)
def A184:Ann:=⟨[],[],[],[],[],[]⟩
def L184 (p1:Option Addr) (Q:Value→World→Prop) (w:World):Prop:=
 nn p1 (fun q2=>
 stC (Addr.add q2 7) (.bool true) w (fun w1=>
 Q (.tuple #[]) w1))
theorem C184 {p1 Q w} (h:L184 p1 Q w):CallR Tryz.prog 184 [.pointer p1] w Q:=
 fC A184 Tryz.func184 rfl (by kernel_rfl) (Eq.mp (by kernel_rfl) h)
def A185:Ann:=⟨[],[],[],[],[],[]⟩
def L185 (s1:ByteArray) (n2:Int) (Q:Value→World→Prop) (w:World):Prop:=
 ∃ n3 w1,Sem.run Tryz.prog (callFunc 224 #[.string s1,.int .u8 n2]) w=.ok (.value (.int .i64 n3)) w1∧
 Q (.int .i64 n3) w1
theorem C185 {s1 n2 Q w} (h:L185 s1 n2 Q w):CallR Tryz.prog 185 [.string s1,.int .u8 n2] w Q:=
 fC A185 Tryz.func185 rfl (by kernel_rfl) (Eq.mp (by kernel_rfl) h)
def A129:Ann:=⟨[],[],[],[],[],[]⟩
def L129 (s1:ByteArray) (n2:Int) (Q:Value→World→Prop) (w:World):Prop:=
 CQ 185 [.string s1,.int .u8 n2] w (fun r4 w1=>
 ∃ n3,r4=.int .i64 n3∧
 Q (.int .i64 n3) w1)
theorem C129 {s1 n2 Q w} (h:L129 s1 n2 Q w):CallR Tryz.prog 129 [.string s1,.int .u8 n2] w Q:=
 fC A129 Tryz.func129 rfl (by kernel_rfl) (Eq.mp (by kernel_rfl) h)
def A69:Ann:=⟨[(7,[(7,.one (.int .i64))]),(10,[(30,.one (.int .i64))])],[],[],[(12,[0,1,2,3,4,5,6,7,8,9,10,11,12,13,14,15,16,17,18,19,20,21,22,23,24])],[],[]⟩
def L69 (s1:ByteArray) (Q:Value→World→Prop) (w:World):Prop:=
 let w1:=w.alloc (.cells (gq0 false false false false false false false false) 147);
 cond (ByteArray.toList s1 == ByteArray.toList (ByteArray.mk #[]))
 (sq8 w.heap.size w1 (.bool false) (.bool false) (.bool false) (.bool false) (.bool false) (.bool false) (.bool false) (.bool false) (fun w9=>lq0 w9 w.heap.size fun b2 b3 b4 b5 b6 b7 b8 b9=>Q (.tuple #[.agg (gq0 b2 b3 b4 b5 b6 b7 b8 b9),.int .i64 91,.int .i64 0]) w9))
 ((0≤(0:Int)∧(0:Int)< ((ByteArray.size s1:Nat):Int))∧
 CQ 127 [.int .u8 (byteAt s1 0)] w1 (fun r19 w10=>
 ∃ b10 b11 b12 b13 b14 b15 b16 b17 b18,r19=.tuple #[.agg (gq0 b10 b11 b12 b13 b14 b15 b16 b17),.bool b18]∧
 let w11:=w10.alloc (.cells (gq0 false false false false false false false false) 147);
 sq8 w10.heap.size w11 (.bool b10) (.bool b11) (.bool b12) (.bool b13) (.bool b14) (.bool b15) (.bool b16) (.bool b17) (fun w19=>cond (!b18)
 (sq8 w.heap.size w19 (.bool false) (.bool false) (.bool false) (.bool false) (.bool false) (.bool false) (.bool false) (.bool false) (fun w27=>lq0 w27 w.heap.size fun b20 b21 b22 b23 b24 b25 b26 b27=>Q (.tuple #[.agg (gq0 b20 b21 b22 b23 b24 b25 b26 b27),.int .i64 91,.int .i64 0]) w27))
 (∃ (I28:List Value→World→Prop) (mu29:List Value→World→Nat),
 I28 [.int .i64 1] w19∧
 ∀ (_:Env) (n30:Int) (w28:World),I28 [.int .i64 n30] w28→
 cond (decide (n30< (((ByteArray.size s1:Nat):Int))))
 (CQ 128 [] w28 (fun r32 w29=>
 ∃ a31 l31 c31,r32=.slice a31 l31 c31∧
 ∃ (I33:List Value→World→Prop) (mu34:List Value→World→Nat),
 I33 [.int .i64 0] w29∧
 ∀ (_:Env) (n35:Int) (w30:World),I33 [.int .i64 n35] w30→
 cond (decide (n35< (((l31:Nat):Int))))
 ((0≤(n35:Int)∧(n35:Int)< ((l31:Nat):Int))∧
 nn a31 (fun q36=>
 ∃ (n37:Int) (v38:Value) (v39:Value),w30.cell? (Addr.add q36 (Int.toNat n35 * 3))=some (.int .u8 n37)∧w30.cell? (Addr.add (Addr.add q36 (Int.toNat n35 * 3)) 1)=some v38∧w30.cell? (Addr.add (Addr.add q36 (Int.toNat n35 * 3)) 2)=some v39∧
 let w31:=w30.alloc (.cells #[.int .u8 0,.nilFunc,.nilFunc] 222);
 stC (Addr.mk w30.heap.size 0 none) (.int .u8 n37) w31 (fun w32=>
 oneC v38 (stC (Addr.mk w30.heap.size 1 none) v38 w32 (fun w33=>
 oneC v39 (stC (Addr.mk w30.heap.size 2 none) v39 w33 (fun w34=>
 let w35:=w34.drew;
 ∃ n40,w35.cell? (Addr.mk w30.heap.size 0 none)=some (.int .u8 n40)∧
 (0≤(n30:Int)∧(n30:Int)< ((ByteArray.size s1:Nat):Int))∧
 cond (n40 == (byteAt s1 n30))
 ((0≤(n30:Int)∧(n30:Int)≤((ByteArray.size s1:Nat):Int))∧
 (0≤(1:Int)∧(1:Int)≤((Int.toNat n30:Nat):Int))∧
 ∃ n41,w35.cell? (Addr.mk w30.heap.size 0 none)=some (.int .u8 n41)∧
 CQ 129 [.string (ByteArray.extract s1 (Int.toNat 1) (Int.toNat n30)),.int .u8 n41] w35 (fun r43 w36=>
 ∃ n42,r43=.int .i64 n42∧
 cond (decide (n42< 0))
 (∃ n44,w36.cell? (Addr.mk w30.heap.size 0 none)=some (.int .u8 n44)∧
 cond (n44 != 120)
 (∃ (v45:Value),w36.cell? (Addr.mk w30.heap.size 2 none)=some v45∧
 ∃ (k46:FuncId) (xs47:Array Value) (xs48:Array Value),(v45:Value)=.func (.func k46) xs47 xs48∧bodyB Tryz.prog k46=true∧
 CQ k46 (Array.toList xs47 ++ ([.pointer (some (Addr.mk w10.heap.size 0 none))] ++ Array.toList xs48)) w36 (fun r49 w37=>
 r49=.tuple #[]∧
 inI (n30+1)∧
 I28 [.int .i64 (n30+1)] w37∧mu29 [.int .i64 (n30+1)] w37< mu29 [.int .i64 n30] w28))
 ((0≤(0:Int)∧(0:Int)< ((ByteArray.size s1:Nat):Int))∧
 cond ((byteAt s1 0) == 119)
 (∃ (v50:Value),w36.cell? (Addr.mk w30.heap.size 2 none)=some v50∧
 ∃ (k51:FuncId) (xs52:Array Value) (xs53:Array Value),(v50:Value)=.func (.func k51) xs52 xs53∧bodyB Tryz.prog k51=true∧
 CQ k51 (Array.toList xs52 ++ ([.pointer (some (Addr.mk w10.heap.size 0 none))] ++ Array.toList xs53)) w36 (fun r54 w38=>
 r54=.tuple #[]∧
 inI (n30+1)∧
 I28 [.int .i64 (n30+1)] w38∧mu29 [.int .i64 (n30+1)] w38< mu29 [.int .i64 n30] w28))
 (inI (n35+1)∧
 I33 [.int .i64 (n35+1)] w36∧mu34 [.int .i64 (n35+1)] w36< mu34 [.int .i64 n35] w30)))
 (inI (n35+1)∧
 I33 [.int .i64 (n35+1)] w36∧mu34 [.int .i64 (n35+1)] w36< mu34 [.int .i64 n35] w30)))
 (inI (n35+1)∧
 I33 [.int .i64 (n35+1)] w35∧mu34 [.int .i64 (n35+1)] w35< mu34 [.int .i64 n35] w30))))))))
 (sq8 w.heap.size w30 (.bool false) (.bool false) (.bool false) (.bool false) (.bool false) (.bool false) (.bool false) (.bool false) (fun w46=>lq0 w46 w.heap.size fun b55 b56 b57 b58 b59 b60 b61 b62=>Q (.tuple #[.agg (gq0 b55 b56 b57 b58 b59 b60 b61 b62),.int .i64 91,.int .i64 n30]) w46))))
 (lq0 w28 w10.heap.size fun b63 b64 b65 b66 b67 b68 b69 b70=>sq8 w.heap.size w28 (.bool b63) (.bool b64) (.bool b65) (.bool b66) (.bool b67) (.bool b68) (.bool b69) (.bool b70) (fun w54=>lq0 w54 w.heap.size fun b71 b72 b73 b74 b75 b76 b77 b78=>Q (.tuple #[.agg (gq0 b71 b72 b73 b74 b75 b76 b77 b78),.int .i64 0,.int .i64 (((ByteArray.size s1:Nat):Int))]) w54))))))
theorem C69 {s1 Q w} (h:L69 s1 Q w):CallR Tryz.prog 69 [.string s1] w Q:=
 fC A69 Tryz.func69 rfl (by kernel_rfl) (Eq.mp (by kernel_rfl) h)
def A186:Ann:=⟨[(2,[]),(6,[(6,.one (.str)),(20,.one (.int .i64))])],[],[],[],[],[]⟩
def L186 (b1 b2 b3 b4 b5 b6 b7 b8:Bool) (Q:Value→World→Prop) (w:World):Prop:=
 let w1:=w.alloc (.cells (gq0 b1 b2 b3 b4 b5 b6 b7 b8) 147);
 ∃ w2,Sem.run Tryz.prog (Instr.range 9 (.string (ByteArray.mk #[114,119,97]))) w1=.ok (.pointer (some (Addr.mk w1.heap.size 0 none))) w2∧
 ∃ (I9:List Value→World→Prop) (mu10:List Value→World→Nat),
 I9 [] w2∧
 ∀ (_:Env) (w3:World),I9 [] w3→
 (∃ w4,Sem.run Tryz.prog (Instr.next (.pointer (some (Addr.mk w1.heap.size 0 none))) true 0) w3=.ok (.tuple #[.bool false]) w4∧
 Q (.tuple #[.string (ByteArray.mk #[]),.int .i64 91]) w4)∨
 (∃ (v11:Value) (v12:Value) (w5:World),Sem.run Tryz.prog (Instr.next (.pointer (some (Addr.mk w1.heap.size 0 none))) true 0) w3=.ok (.tuple #[.bool true,v11,v12]) w5∧
 ∃ n13,v12=(.int .i32 n13:Value)∧
 CQ 128 [] w5 (fun r15 w6=>
 ∃ a14 l14 c14,r15=.slice a14 l14 c14∧
 ∃ (I16:List Value→World→Prop) (mu17:List Value→World→Nat),
 I16 [.string (Utf8.encode n13),.int .i64 0] w6∧
 ∀ (_:Env) (s18:ByteArray) (n19:Int) (w7:World),I16 [.string s18,.int .i64 n19] w7→
 cond (decide (n19< (((l14:Nat):Int))))
 ((0≤(n19:Int)∧(n19:Int)< ((l14:Nat):Int))∧
 nn a14 (fun q20=>
 ∃ (n21:Int) (v22:Value) (v23:Value),w7.cell? (Addr.add q20 (Int.toNat n19 * 3))=some (.int .u8 n21)∧w7.cell? (Addr.add (Addr.add q20 (Int.toNat n19 * 3)) 1)=some v22∧w7.cell? (Addr.add (Addr.add q20 (Int.toNat n19 * 3)) 2)=some v23∧
 let w8:=w7.alloc (.cells #[.int .u8 0,.nilFunc,.nilFunc] 222);
 stC (Addr.mk w7.heap.size 0 none) (.int .u8 n21) w8 (fun w9=>
 oneC v22 (stC (Addr.mk w7.heap.size 1 none) v22 w9 (fun w10=>
 oneC v23 (stC (Addr.mk w7.heap.size 2 none) v23 w10 (fun w11=>
 ∃ (v24:Value),w11.cell? (Addr.mk w7.heap.size 1 none)=some v24∧
 lq0 w11 w.heap.size fun b25 b26 b27 b28 b29 b30 b31 b32=>∃ (k33:FuncId) (xs34:Array Value) (xs35:Array Value),(v24:Value)=.func (.func k33) xs34 xs35∧bodyB Tryz.prog k33=true∧
 CQ k33 (Array.toList xs34 ++ ([.agg (gq0 b25 b26 b27 b28 b29 b30 b31 b32)] ++ Array.toList xs35)) w11 (fun r37 w12=>
 ∃ b36,r37=.bool b36∧
 cond b36
 (∃ n38,w12.cell? (Addr.mk w7.heap.size 0 none)=some (.int .u8 n38)∧
 ByteArray.size s18+ByteArray.size (Utf8.encode (IntKind.wrap .i32 n38))≤9223372036854775807∧
 inI (n19+1)∧
 I16 [.string (s18 ++ (Utf8.encode (IntKind.wrap .i32 n38))),.int .i64 (n19+1)] w12∧mu17 [.string (s18 ++ (Utf8.encode (IntKind.wrap .i32 n38))),.int .i64 (n19+1)] w12< mu17 [.string s18,.int .i64 n19] w7)
 (inI (n19+1)∧
 I16 [.string s18,.int .i64 (n19+1)] w12∧mu17 [.string s18,.int .i64 (n19+1)] w12< mu17 [.string s18,.int .i64 n19] w7)))))))))
 (CQ 69 [.string s18] w7 (fun r49 w13=>
 ∃ b39 b40 b41 b42 b43 b44 b45 b46 n47 n48,r49=.tuple #[.agg (gq0 b39 b40 b41 b42 b43 b44 b45 b46),.int .i64 n47,.int .i64 n48]∧
 let w14:=w13.alloc (.cells (gq0 false false false false false false false false) 147);
 sq8 w13.heap.size w14 (.bool b39) (.bool b40) (.bool b41) (.bool b42) (.bool b43) (.bool b44) (.bool b45) (.bool b46) (fun w22=>cond (n47 == 0)
 (lq0 w22 w13.heap.size fun b50 b51 b52 b53 b54 b55 b56 b57=>lq0 w22 w.heap.size fun b58 b59 b60 b61 b62 b63 b64 b65=>∃ b66 w23,Sem.run Tryz.prog (Sem.bind (eqGuard .eql 147 (.tmp 44) (.tmp 45) (.agg (gq0 b50 b51 b52 b53 b54 b55 b56 b57)) (.agg (gq0 b58 b59 b60 b61 b62 b63 b64 b65))) (fun _=>binOp .eql 147 (.agg (gq0 b50 b51 b52 b53 b54 b55 b56 b57)) (.agg (gq0 b58 b59 b60 b61 b62 b63 b64 b65)))) w22=.ok (.bool b66) w23∧
 cond b66
 (Q (.tuple #[.string s18,.int .i64 0]) w23)
 (I9 [] w23∧mu10 [] w23< mu10 [] w3))
 (I9 [] w22∧mu10 [] w22< mu10 [] w3))))))
theorem C186 {b1 b2 b3 b4 b5 b6 b7 b8 Q w} (h:L186 b1 b2 b3 b4 b5 b6 b7 b8 Q w):CallR Tryz.prog 186 [.agg #[.bool b1,.bool b2,.bool b3,.bool b4,.bool b5,.bool b6,.bool b7,.bool b8]] w Q:=
 fC A186 Tryz.func186 rfl (by kernel_rfl) (Eq.mp (by kernel_rfl) h)
def A130:Ann:=⟨[],[],[],[],[],[]⟩
def L130 (b1 b2 b3 b4 b5 b6 b7 b8:Bool) (Q:Value→World→Prop) (w:World):Prop:=
 let w1:=w.alloc (.cells (gq0 b1 b2 b3 b4 b5 b6 b7 b8) 147);
 lq0 w1 w.heap.size fun b9 b10 b11 b12 b13 b14 b15 b16=>CQ 186 [.agg (gq0 b9 b10 b11 b12 b13 b14 b15 b16)] w1 (fun r19 w2=>
 ∃ s17 n18,r19=.tuple #[.string s17,.int .i64 n18]∧
 Q (.int .i64 n18) w2)
theorem C130 {b1 b2 b3 b4 b5 b6 b7 b8 Q w} (h:L130 b1 b2 b3 b4 b5 b6 b7 b8 Q w):CallR Tryz.prog 130 [.agg #[.bool b1,.bool b2,.bool b3,.bool b4,.bool b5,.bool b6,.bool b7,.bool b8]] w Q:=
 fC A130 Tryz.func130 rfl (by kernel_rfl) (Eq.mp (by kernel_rfl) h)
def A217:Ann:=⟨[],[],[],[],[],[]⟩
def L217 (a1:Option Addr) (l1 c1:Nat) (Q:Value→World→Prop) (w:World):Prop:=
 cond (Option.isNone a1)
 (Q (.slice none 0 0) w)
 (let w1:=w.alloc (.cells #[] 5);
 ∃ a2 l2 c2 w2,Sem.run Tryz.prog (Builtin.append_ #[34,34] 34 #[.slice (some (Addr.mk w.heap.size 0 none)) 0 0,.slice a1 l1 c1]) w1=.ok (.slice a2 l2 c2) w2∧
 Q (.slice a2 l2 c2) w2)
theorem C217 {a1 l1 c1 Q w} (h:L217 a1 l1 c1 Q w):CallR Tryz.prog 217 [.slice a1 l1 c1] w Q:=
 fC A217 Tryz.func217 rfl (by kernel_rfl) (Eq.mp (by kernel_rfl) h)
def A131:Ann:=⟨[],[],[],[],[],[]⟩
def L131 (n1 n2:Int) (Q:Value→World→Prop) (w:World):Prop:=
 cond (decide (n1< 1))
 (Q (.int .i64 1) w)
 (cond (decide (n1 > 3))
 (Q (.int .i64 1) w)
 (cond (decide (n2< 1))
 (Q (.int .i64 4) w)
 (cond (decide (n2 > 65536))
 (Q (.int .i64 4) w)
 (Q (.int .i64 0) w))))
theorem C131 {n1 n2 Q w} (h:L131 n1 n2 Q w):CallR Tryz.prog 131 [.int .i64 n1,.int .i64 n2] w Q:=
 fC A131 Tryz.func131 rfl (by kernel_rfl) (Eq.mp (by kernel_rfl) h)
def A157:Ann:=⟨[],[],[],[],[],[]⟩
def L157 (b1 b2:Bool) (n3 n4:Int) (a5:Option Addr) (l5 c5:Nat) (a6:Option Addr) (l6 c6:Nat) (a7:Option Addr) (l7 c7:Nat) (n8:Int) (b9 b10 b11:Bool) (Q:Value→World→Prop) (w:World):Prop:=
 let w1:=w.alloc (.cells (gq1 b1 b2 n3 n4 a5 l5 c5 a6 l6 c6 a7 l7 c7 n8 b9 b10 b11) 151);
 ∃ a12 l12 c12,w1.cell? (Addr.mk w.heap.size 5 none)=some (.slice a12 l12 c12)∧
 ∃ a13 l13 c13,w1.cell? (Addr.mk w.heap.size 6 none)=some (.slice a13 l13 c13)∧
 inI ((((l12:Nat):Int))+(((l13:Nat):Int)))∧
 ∃ n14,w1.cell? (Addr.mk w.heap.size 2 none)=some (.int .i64 n14)∧
 ∃ n15,w1.cell? (Addr.mk w.heap.size 3 none)=some (.int .i64 n15)∧
 CQ 131 [.int .i64 n14,.int .i64 n15] w1 (fun r17 w2=>
 ∃ n16,r17=.int .i64 n16∧
 cond (n16 == 0)
 (∃ a18 l18 c18,w2.cell? (Addr.mk w.heap.size 4 none)=some (.slice a18 l18 c18)∧
 ∃ n19,w2.cell? (Addr.mk w.heap.size 3 none)=some (.int .i64 n19)∧
 cond (decide ((((l18:Nat):Int))≤n19))
 (∃ n20,w2.cell? (Addr.mk w.heap.size 2 none)=some (.int .i64 n20)∧
 cond (n20 != 1)
 (∃ a21 l21 c21,w2.cell? (Addr.mk w.heap.size 5 none)=some (.slice a21 l21 c21)∧
 cond (decide ((((l21:Nat):Int))≤65536))
 (∃ a22 l22 c22,w2.cell? (Addr.mk w.heap.size 6 none)=some (.slice a22 l22 c22)∧
 cond (decide ((((l22:Nat):Int))≤8))
 (∃ b23,w2.cell? (Addr.mk w.heap.size 10 none)=some (.bool b23)∧
 cond (!b23)
 (∃ n24,w2.cell? (Addr.mk w.heap.size 7 none)=some (.int .i64 n24)∧
 cond (n24 == 0)
 (∃ a25 l25 c25,w2.cell? (Addr.mk w.heap.size 4 none)=some (.slice a25 l25 c25)∧
 inI ((((l25:Nat):Int))+((((l12:Nat):Int))+(((l13:Nat):Int))))∧
 cond (!(((((l25:Nat):Int))+((((l12:Nat):Int))+(((l13:Nat):Int)))) == 0))
 (Q (.int .i64 51) w2)
 (Q (.int .i64 0) w2))
 (cond (n24 == 1)
 (∃ b26,w2.cell? (Addr.mk w.heap.size 0 none)=some (.bool b26)∧
 cond b26
 (∃ a27 l27 c27,w2.cell? (Addr.mk w.heap.size 4 none)=some (.slice a27 l27 c27)∧
 cond (!((((l27:Nat):Int)) == 0))
 (Q (.int .i64 51) w2)
 (Q (.int .i64 0) w2))
 (Q (.int .i64 51) w2))
 (cond (n24 == 2)
 (∃ b28,w2.cell? (Addr.mk w.heap.size 1 none)=some (.bool b28)∧
 cond b28
 (cond (!(((((l12:Nat):Int))+(((l13:Nat):Int))) == 0))
 (Q (.int .i64 51) w2)
 (Q (.int .i64 0) w2))
 (Q (.int .i64 51) w2))
 (Q (.int .i64 51) w2))))
 (∃ n29,w2.cell? (Addr.mk w.heap.size 7 none)=some (.int .i64 n29)∧
 ∃ n30,w2.cell? (Addr.mk w.heap.size 7 none)=some (.int .i64 n30)∧
 cond (n30 == 0)
 (cond (n29 == 0)
 (∃ a31 l31 c31,w2.cell? (Addr.mk w.heap.size 4 none)=some (.slice a31 l31 c31)∧
 inI ((((l31:Nat):Int))+((((l12:Nat):Int))+(((l13:Nat):Int))))∧
 cond (!(((((l31:Nat):Int))+((((l12:Nat):Int))+(((l13:Nat):Int)))) == 0))
 (Q (.int .i64 51) w2)
 (Q (.int .i64 0) w2))
 (Q (.int .i64 51) w2))
 (cond (n30 == 1)
 (cond (n29 == 0)
 (∃ b32,w2.cell? (Addr.mk w.heap.size 0 none)=some (.bool b32)∧
 cond b32
 (∃ a33 l33 c33,w2.cell? (Addr.mk w.heap.size 4 none)=some (.slice a33 l33 c33)∧
 cond (!((((l33:Nat):Int)) == 0))
 (Q (.int .i64 51) w2)
 (Q (.int .i64 0) w2))
 (Q (.int .i64 51) w2))
 (Q (.int .i64 51) w2))
 (cond (n30 == 2)
 (cond (n29 == 0)
 (∃ b34,w2.cell? (Addr.mk w.heap.size 1 none)=some (.bool b34)∧
 cond b34
 (cond (!(((((l12:Nat):Int))+(((l13:Nat):Int))) == 0))
 (Q (.int .i64 51) w2)
 (Q (.int .i64 0) w2))
 (Q (.int .i64 51) w2))
 (Q (.int .i64 51) w2))
 (Q (.int .i64 51) w2)))))
 (∃ n35,w2.cell? (Addr.mk w.heap.size 7 none)=some (.int .i64 n35)∧
 cond (n35 == 0)
 (Q (.int .i64 51) w2)
 (cond (n35 == 1)
 (Q (.int .i64 51) w2)
 (cond (n35 == 2)
 (Q (.int .i64 51) w2)
 (Q (.int .i64 51) w2)))))
 (∃ n36,w2.cell? (Addr.mk w.heap.size 7 none)=some (.int .i64 n36)∧
 cond (n36 == 0)
 (Q (.int .i64 51) w2)
 (cond (n36 == 1)
 (Q (.int .i64 51) w2)
 (cond (n36 == 2)
 (Q (.int .i64 51) w2)
 (Q (.int .i64 51) w2)))))
 (∃ a37 l37 c37,w2.cell? (Addr.mk w.heap.size 4 none)=some (.slice a37 l37 c37)∧
 cond ((((l37:Nat):Int)) == 0)
 (∃ a38 l38 c38,w2.cell? (Addr.mk w.heap.size 5 none)=some (.slice a38 l38 c38)∧
 cond (decide ((((l38:Nat):Int))≤65536))
 (∃ a39 l39 c39,w2.cell? (Addr.mk w.heap.size 6 none)=some (.slice a39 l39 c39)∧
 cond (decide ((((l39:Nat):Int))≤8))
 (∃ b40,w2.cell? (Addr.mk w.heap.size 10 none)=some (.bool b40)∧
 cond (!b40)
 (∃ n41,w2.cell? (Addr.mk w.heap.size 7 none)=some (.int .i64 n41)∧
 cond (n41 == 0)
 (∃ a42 l42 c42,w2.cell? (Addr.mk w.heap.size 4 none)=some (.slice a42 l42 c42)∧
 inI ((((l42:Nat):Int))+((((l12:Nat):Int))+(((l13:Nat):Int))))∧
 cond (!(((((l42:Nat):Int))+((((l12:Nat):Int))+(((l13:Nat):Int)))) == 0))
 (Q (.int .i64 51) w2)
 (Q (.int .i64 0) w2))
 (cond (n41 == 1)
 (∃ b43,w2.cell? (Addr.mk w.heap.size 0 none)=some (.bool b43)∧
 cond b43
 (∃ a44 l44 c44,w2.cell? (Addr.mk w.heap.size 4 none)=some (.slice a44 l44 c44)∧
 cond (!((((l44:Nat):Int)) == 0))
 (Q (.int .i64 51) w2)
 (Q (.int .i64 0) w2))
 (Q (.int .i64 51) w2))
 (cond (n41 == 2)
 (∃ b45,w2.cell? (Addr.mk w.heap.size 1 none)=some (.bool b45)∧
 cond b45
 (cond (!(((((l12:Nat):Int))+(((l13:Nat):Int))) == 0))
 (Q (.int .i64 51) w2)
 (Q (.int .i64 0) w2))
 (Q (.int .i64 51) w2))
 (Q (.int .i64 51) w2))))
 (∃ n46,w2.cell? (Addr.mk w.heap.size 7 none)=some (.int .i64 n46)∧
 ∃ n47,w2.cell? (Addr.mk w.heap.size 7 none)=some (.int .i64 n47)∧
 cond (n47 == 0)
 (cond (n46 == 0)
 (∃ a48 l48 c48,w2.cell? (Addr.mk w.heap.size 4 none)=some (.slice a48 l48 c48)∧
 inI ((((l48:Nat):Int))+((((l12:Nat):Int))+(((l13:Nat):Int))))∧
 cond (!(((((l48:Nat):Int))+((((l12:Nat):Int))+(((l13:Nat):Int)))) == 0))
 (Q (.int .i64 51) w2)
 (Q (.int .i64 0) w2))
 (Q (.int .i64 51) w2))
 (cond (n47 == 1)
 (cond (n46 == 0)
 (∃ b49,w2.cell? (Addr.mk w.heap.size 0 none)=some (.bool b49)∧
 cond b49
 (∃ a50 l50 c50,w2.cell? (Addr.mk w.heap.size 4 none)=some (.slice a50 l50 c50)∧
 cond (!((((l50:Nat):Int)) == 0))
 (Q (.int .i64 51) w2)
 (Q (.int .i64 0) w2))
 (Q (.int .i64 51) w2))
 (Q (.int .i64 51) w2))
 (cond (n47 == 2)
 (cond (n46 == 0)
 (∃ b51,w2.cell? (Addr.mk w.heap.size 1 none)=some (.bool b51)∧
 cond b51
 (cond (!(((((l12:Nat):Int))+(((l13:Nat):Int))) == 0))
 (Q (.int .i64 51) w2)
 (Q (.int .i64 0) w2))
 (Q (.int .i64 51) w2))
 (Q (.int .i64 51) w2))
 (Q (.int .i64 51) w2)))))
 (∃ n52,w2.cell? (Addr.mk w.heap.size 7 none)=some (.int .i64 n52)∧
 cond (n52 == 0)
 (Q (.int .i64 51) w2)
 (cond (n52 == 1)
 (Q (.int .i64 51) w2)
 (cond (n52 == 2)
 (Q (.int .i64 51) w2)
 (Q (.int .i64 51) w2)))))
 (∃ n53,w2.cell? (Addr.mk w.heap.size 7 none)=some (.int .i64 n53)∧
 cond (n53 == 0)
 (Q (.int .i64 51) w2)
 (cond (n53 == 1)
 (Q (.int .i64 51) w2)
 (cond (n53 == 2)
 (Q (.int .i64 51) w2)
 (Q (.int .i64 51) w2)))))
 (∃ n54,w2.cell? (Addr.mk w.heap.size 7 none)=some (.int .i64 n54)∧
 cond (n54 == 0)
 (Q (.int .i64 51) w2)
 (cond (n54 == 1)
 (Q (.int .i64 51) w2)
 (cond (n54 == 2)
 (Q (.int .i64 51) w2)
 (Q (.int .i64 51) w2))))))
 (∃ n55,w2.cell? (Addr.mk w.heap.size 7 none)=some (.int .i64 n55)∧
 cond (n55 == 0)
 (Q (.int .i64 51) w2)
 (cond (n55 == 1)
 (Q (.int .i64 51) w2)
 (cond (n55 == 2)
 (Q (.int .i64 51) w2)
 (Q (.int .i64 51) w2)))))
 (∃ n56,w2.cell? (Addr.mk w.heap.size 7 none)=some (.int .i64 n56)∧
 cond (n56 == 0)
 (Q (.int .i64 51) w2)
 (cond (n56 == 1)
 (Q (.int .i64 51) w2)
 (cond (n56 == 2)
 (Q (.int .i64 51) w2)
 (Q (.int .i64 51) w2)))))
theorem C157 {b1 b2 n3 n4 a5 l5 c5 a6 l6 c6 a7 l7 c7 n8 b9 b10 b11 Q w} (h:L157 b1 b2 n3 n4 a5 l5 c5 a6 l6 c6 a7 l7 c7 n8 b9 b10 b11 Q w):CallR Tryz.prog 157 [.agg #[.bool b1,.bool b2,.int .i64 n3,.int .i64 n4,.slice a5 l5 c5,.slice a6 l6 c6,.slice a7 l7 c7,.int .i64 n8,.bool b9,.bool b10,.bool b11]] w Q:=
 fC A157 Tryz.func157 rfl (by kernel_rfl) (Eq.mp (by kernel_rfl) h)
def A70:Ann:=⟨[],[],[],[],[],[]⟩
def L70 (b1 b2 b3 b4 b5 b6 b7 b8:Bool) (n9 n10:Int) (Q:Value→World→Prop) (w:World):Prop:=
 let w1:=w.alloc (.cells (gq0 b1 b2 b3 b4 b5 b6 b7 b8) 147);
 let w2:=w1.alloc (.cells zSq 151);
 lq0 w2 w.heap.size fun b11 b12 b13 b14 b15 b16 b17 b18=>CQ 130 [.agg (gq0 b11 b12 b13 b14 b15 b16 b17 b18)] w2 (fun r20 w3=>
 ∃ n19,r20=.int .i64 n19∧
 cond (n19 != 0)
 (sq11 w1.heap.size w3 (.bool false) (.bool false) (.int .i64 0) (.int .i64 0) (.slice none 0 0) (.slice none 0 0) (.slice none 0 0) (.int .i64 0) (.bool false) (.bool false) (.bool false) (fun w14=>lq1 w14 w1.heap.size fun b21 b22 n23 n24 a25 l25 c25 a26 l26 c26 a27 l27 c27 n28 b29 b30 b31=>Q (.tuple #[.agg (gq1 b21 b22 n23 n24 a25 l25 c25 a26 l26 c26 a27 l27 c27 n28 b29 b30 b31),.int .i64 n19]) w14))
 (CQ 131 [.int .i64 n9,.int .i64 n10] w3 (fun r33 w15=>
 ∃ n32,r33=.int .i64 n32∧
 cond (n32 != 0)
 (sq11 w1.heap.size w15 (.bool false) (.bool false) (.int .i64 0) (.int .i64 0) (.slice none 0 0) (.slice none 0 0) (.slice none 0 0) (.int .i64 0) (.bool false) (.bool false) (.bool false) (fun w26=>lq1 w26 w1.heap.size fun b34 b35 n36 n37 a38 l38 c38 a39 l39 c39 a40 l40 c40 n41 b42 b43 b44=>Q (.tuple #[.agg (gq1 b34 b35 n36 n37 a38 l38 c38 a39 l39 c39 a40 l40 c40 n41 b42 b43 b44),.int .i64 n32]) w26))
 (∃ b45,w15.cell? (Addr.mk w.heap.size 0 none)=some (.bool b45)∧
 ∃ b46,w15.cell? (Addr.mk w.heap.size 1 none)=some (.bool b46)∧
 sq11 w1.heap.size w15 (.bool b45) (.bool b46) (.int .i64 n9) (.int .i64 n10) (.slice none 0 0) (.slice none 0 0) (.slice none 0 0) (.int .i64 0) (.bool false) (.bool false) (.bool false) (fun w37=>lq1 w37 w1.heap.size fun b47 b48 n49 n50 a51 l51 c51 a52 l52 c52 a53 l53 c53 n54 b55 b56 b57=>Q (.tuple #[.agg (gq1 b47 b48 n49 n50 a51 l51 c51 a52 l52 c52 a53 l53 c53 n54 b55 b56 b57),.int .i64 0]) w37)))))
theorem C70 {b1 b2 b3 b4 b5 b6 b7 b8 n9 n10 Q w} (h:L70 b1 b2 b3 b4 b5 b6 b7 b8 n9 n10 Q w):CallR Tryz.prog 70 [.agg #[.bool b1,.bool b2,.bool b3,.bool b4,.bool b5,.bool b6,.bool b7,.bool b8],.int .i64 n9,.int .i64 n10] w Q:=
 fC A70 Tryz.func70 rfl (by kernel_rfl) (Eq.mp (by kernel_rfl) h)
def A192:Ann:=⟨[],[],[],[],[(2,[0,1,2,3,4,6,7,9,10,5,8],11,[12,13,14,15,16,17,18,19,20,21,22,23])],[]⟩
def L192 (b1 b2:Bool) (n3 n4:Int) (a5:Option Addr) (l5 c5:Nat) (a6:Option Addr) (l6 c6:Nat) (a7:Option Addr) (l7 c7:Nat) (n8:Int) (b9 b10 b11:Bool) (t12:TypeId) (v12:Value) (Q:Value→World→Prop) (w:World):Prop:=
 let w1:=w.alloc (.cells (gq1 b1 b2 n3 n4 a5 l5 c5 a6 l6 c6 a7 l7 c7 n8 b9 b10 b11) 151);
 lq1 w1 w.heap.size fun b13 b14 n15 n16 a17 l17 c17 a18 l18 c18 a19 l19 c19 n20 b21 b22 b23=>let w2:=w1.alloc (.cells #[.bool b13,.bool b14,.int .i64 n15,.int .i64 n16,.slice a17 l17 c17,.slice a18 l18 c18,.slice a19 l19 c19,.int .i64 n20,.bool b21,.bool b22,.bool b23,.iface t12 v12] 305);
 ∃ (S24:World→Prop),S24 (w2.drew)∧
 let w3:=w2.drew;
 ∃ a25 l25 c25,(∀ wS:World,S24 wS→wS.cell? (Addr.mk w.heap.size 4 none)=some (.slice a25 l25 c25))∧
 ∃ a26 l26 c26,(∀ wS:World,S24 wS→wS.cell? (Addr.mk w.heap.size 5 none)=some (.slice a26 l26 c26))∧
 ∃ a27 l27 c27,(∀ wS:World,S24 wS→wS.cell? (Addr.mk w.heap.size 6 none)=some (.slice a27 l27 c27))∧
 CQ 47 [.slice a25 l25 c25] w3 (fun r29 w4=>
 ∃ a28 l28 c28,r29=.slice a28 l28 c28∧
 S24 w4∧
 CQ 47 [.slice a26 l26 c26] w4 (fun r31 w5=>
 ∃ a30 l30 c30,r31=.slice a30 l30 c30∧
 S24 w5∧
 CQ 47 [.slice a27 l27 c27] w5 (fun r33 w6=>
 ∃ a32 l32 c32,r33=.slice a32 l32 c32∧
 stC (Addr.mk w1.heap.size 4 none) (.slice a28 l28 c28) w6 (fun w7=>
 stC (Addr.mk w1.heap.size 5 none) (.slice a30 l30 c30) w7 (fun w8=>
 stC (Addr.mk w1.heap.size 6 none) (.slice a32 l32 c32) w8 (fun w9=>
 lq1 w9 w.heap.size fun b34 b35 n36 n37 a38 l38 c38 a39 l39 c39 a40 l40 c40 n41 b42 b43 b44=>CQ 157 [.agg (gq1 b34 b35 n36 n37 a38 l38 c38 a39 l39 c39 a40 l40 c40 n41 b42 b43 b44)] w9 (fun r46 w10=>
 ∃ n45,r46=.int .i64 n45∧
 cond (n45 != 0)
 (Q (.tuple #[.pointer (some (Addr.mk w1.heap.size 0 none)),.int .i64 n45]) w10)
 (∃ b47 w11,Sem.run Tryz.prog (Sem.bind (eqGuard .eql 179 (.tmp 41) (.const (.nilIface)) (.iface t12 v12) .nilIface) (fun _=>binOp .eql 179 (.iface t12 v12) .nilIface)) w10=.ok (.bool b47) w11∧
 cond b47
 (Q (.tuple #[.pointer (some (Addr.mk w1.heap.size 0 none)),.int .i64 2]) w11)
 (∃ b48,w11.cell? (Addr.mk w.heap.size 10 none)=some (.bool b48)∧
 cond b48
 (Q (.tuple #[.pointer (some (Addr.mk w1.heap.size 0 none)),.int .i64 113]) w11)
 (Q (.tuple #[.pointer (some (Addr.mk w1.heap.size 0 none)),.int .i64 0]) w11))))))))))
theorem C192 {b1 b2 n3 n4 a5 l5 c5 a6 l6 c6 a7 l7 c7 n8 b9 b10 b11 t12 v12 Q w} (h:L192 b1 b2 n3 n4 a5 l5 c5 a6 l6 c6 a7 l7 c7 n8 b9 b10 b11 t12 v12 Q w):CallR Tryz.prog 192 [.agg #[.bool b1,.bool b2,.int .i64 n3,.int .i64 n4,.slice a5 l5 c5,.slice a6 l6 c6,.slice a7 l7 c7,.int .i64 n8,.bool b9,.bool b10,.bool b11],.iface t12 v12] w Q:=
 fC A192 Tryz.func192 rfl (by kernel_rfl) (Eq.mp (by kernel_rfl) h)
def A229:Ann:=⟨[],[],[],[],[],[]⟩
def L229 (p1:Option Addr) (n2:Int) (Q:Value→World→Prop) (w:World):Prop:=
 nn p1 (fun q3=>
 ∃ b4,w.cell? (Addr.add q3 9)=some (.bool b4)∧
 cond b4
 (nn p1 (fun q5=>
 stC (Addr.add q5 9) (.bool true) w (fun w1=>
 Q (.int .i64 n2) w1)))
 (cond (n2 != 0)
 (nn p1 (fun q6=>
 stC (Addr.add q6 9) (.bool (n2 != 52)) w (fun w2=>
 Q (.int .i64 n2) w2)))
 (nn p1 (fun q7=>
 stC (Addr.add q7 9) (.bool false) w (fun w3=>
 Q (.int .i64 n2) w3)))))
theorem C229 {p1 n2 Q w} (h:L229 p1 n2 Q w):CallR Tryz.prog 229 [.pointer p1,.int .i64 n2] w Q:=
 fC A229 Tryz.func229 rfl (by kernel_rfl) (Eq.mp (by kernel_rfl) h)
def A193:Ann:=⟨[],[],[],[(1,[0,1,2,3,4,5,6,7,8,9,10,11,12,13,14])],[],[]⟩
def L193 (p1:Option Addr) (Q:Value→World→Prop) (w:World):Prop:=
 let w1:=w.drew;
 nn p1 (fun q2=>
 ∃ (v3:Value),w1.cell? (Addr.add q2 11)=some v3∧
 nn p1 (fun q4=>
 ∃ a5 l5 c5,w1.cell? (Addr.add q4 4)=some (.slice a5 l5 c5)∧
 CQ 228 [v3,.slice a5 l5 c5] w1 (fun r8 w2=>
 ∃ n6 n7,r8=.tuple #[.int .i64 n6,.int .i64 n7]∧
 nn p1 (fun q9=>
 ∃ a10 l10 c10,w2.cell? (Addr.add q9 4)=some (.slice a10 l10 c10)∧
 (0≤(n6:Int)∧(n6:Int)≤((l10:Nat):Int))∧
 nn p1 (fun q11=>
 stC (Addr.add q11 4) (.slice (adv a10 (Int.toNat n6) c10 1) (l10 - Int.toNat n6) (c10 - Int.toNat n6)) w2 (fun w3=>
 CQ 229 [.pointer p1,.int .i64 n7] w3 (fun r13 w4=>
 ∃ n12,r13=.int .i64 n12∧
 Q (.int .i64 n12) w4)))))))
theorem C193 {p1 Q w} (h:L193 p1 Q w):CallR Tryz.prog 193 [.pointer p1] w Q:=
 fC A193 Tryz.func193 rfl (by kernel_rfl) (Eq.mp (by kernel_rfl) h)
def A253:Ann:=⟨[],[],[],[],[],[]⟩
def L253 (p1:Option Addr) (Q:Value→World→Prop) (w:World):Prop:=
 nn p1 (fun q2=>
 ∃ b3,w.cell? (Addr.add q2 1)=some (.bool b3)∧
 cond (!b3)
 (Q (.int .i64 65) w)
 (nn p1 (fun q5=>
 ∃ n6,w.cell? (Addr.add q5 7)=some (.int .i64 n6)∧
 cond (n6 == 1)
 (nn p1 (fun q7=>
 ∃ b8,w.cell? (Addr.add q7 8)=some (.bool b8)∧
 cond (!b8)
 (∀ nd4:Nat,let w1:=World.drewN w nd4;
 Q (.int .i64 112) w1)
 (nn p1 (fun q9=>
 ∃ a10 l10 c10,w.cell? (Addr.add q9 5)=some (.slice a10 l10 c10)∧
 nn p1 (fun q11=>
 ∃ a12 l12 c12,w.cell? (Addr.add q11 6)=some (.slice a12 l12 c12)∧
 inI ((((l10:Nat):Int))+(((l12:Nat):Int)))∧
 ∀ nd4:Nat,let w1:=World.drewN w nd4;
 cond (decide (((((l10:Nat):Int))+(((l12:Nat):Int))) > 0))
 (Q (.int .i64 112) w1)
 (nn p1 (fun q13=>
 stC (Addr.add q13 7) (.int .i64 2) w1 (fun w2=>
 Q (.int .i64 0) w2))))))))
 (∀ nd4:Nat,let w1:=World.drewN w nd4;
 nn p1 (fun q14=>
 stC (Addr.add q14 7) (.int .i64 2) w1 (fun w3=>
 Q (.int .i64 0) w3))))))
theorem C253 {p1 Q w} (h:L253 p1 Q w):CallR Tryz.prog 253 [.pointer p1] w Q:=
 fC A253 Tryz.func253 rfl (by kernel_rfl) (Eq.mp (by kernel_rfl) h)
def A230:Ann:=⟨[],[(11,[])],[],[],[],[]⟩
def L230 (p1:Option Addr) (n2:Int) (Q:Value→World→Prop) (w:World):Prop:=
 CQ 253 [.pointer p1] w (fun r4 w1=>
 ∃ n3,r4=.int .i64 n3∧
 cond (n3 != 0)
 (Q (.int .i64 n3) w1)
 (nn p1 (fun q5=>
 ∃ n6,w1.cell? (Addr.add q5 2)=some (.int .i64 n6)∧
 cond (n6 == 1)
 (nn p1 (fun q7=>
 ∃ (v8:Value),w1.cell? (Addr.add q7 11)=some v8∧
 let w2:=w1.alloc (.cells #[.int .u8 n2] 5);
 CQ 228 [v8,.slice (some (Addr.mk w1.heap.size 0 none)) 1 1] w2 (fun r11 w3=>
 ∃ n9 n10,r11=.tuple #[.int .i64 n9,.int .i64 n10]∧
 CQ 229 [.pointer p1,.int .i64 n10] w3 (fun r13 w4=>
 ∃ n12,r13=.int .i64 n12∧
 Q (.int .i64 n12) w4))))
 (∃ (J14:List Value→World→Prop),
 (nn p1 (fun q16=>
 ∃ a17 l17 c17,w1.cell? (Addr.add q16 4)=some (.slice a17 l17 c17)∧
 nn p1 (fun q18=>
 ∃ n19,w1.cell? (Addr.add q18 3)=some (.int .i64 n19)∧
 ∀ nd15:Nat,let w5:=World.drewN w1 nd15;
 cond ((((l17:Nat):Int)) == n19)
 (CQ 193 [.pointer p1] w5 (fun r21 w6=>
 ∃ n20,r21=.int .i64 n20∧
 cond (n20 != 0)
 (Q (.int .i64 n20) w6)
 (J14 [] w6)))
 (J14 [] w5))))∧
 (∀ (_:Env) (w7:World),J14 [] w7→
 nn p1 (fun q22=>
 ∃ a23 l23 c23,w7.cell? (Addr.add q22 4)=some (.slice a23 l23 c23)∧
 let w8:=w7.alloc (.cells #[.int .u8 n2] 5);
 ∃ a24 l24 c24 w9,Sem.run Tryz.prog (Builtin.append_ #[34,34] 34 #[.slice a23 l23 c23,.slice (some (Addr.mk w7.heap.size 0 none)) 1 1]) w8=.ok (.slice a24 l24 c24) w9∧
 nn p1 (fun q25=>
 stC (Addr.add q25 4) (.slice a24 l24 c24) w9 (fun w10=>
 nn p1 (fun q27=>
 ∃ a28 l28 c28,w10.cell? (Addr.add q27 4)=some (.slice a28 l28 c28)∧
 nn p1 (fun q29=>
 ∃ n30,w10.cell? (Addr.add q29 3)=some (.int .i64 n30)∧
 cond ((((l28:Nat):Int)) == n30)
 (∀ nd26:Nat,let w11:=World.drewN w10 nd26;
 CQ 193 [.pointer p1] w11 (fun r32 w12=>
 ∃ n31,r32=.int .i64 n31∧
 Q (.int .i64 n31) w12))
 (nn p1 (fun q33=>
 ∃ n34,w10.cell? (Addr.add q33 2)=some (.int .i64 n34)∧
 cond (n34 == 2)
 (∀ nd26:Nat,let w11:=World.drewN w10 nd26;
 cond (n2 == 10)
 (CQ 193 [.pointer p1] w11 (fun r36 w13=>
 ∃ n35,r36=.int .i64 n35∧
 Q (.int .i64 n35) w13))
 (Q (.int .i64 0) w11))
 (∀ nd26:Nat,let w11:=World.drewN w10 nd26;
 Q (.int .i64 0) w11)))))))))))))
theorem C230 {p1 n2 Q w} (h:L230 p1 n2 Q w):CallR Tryz.prog 230 [.pointer p1,.int .u8 n2] w Q:=
 fC A230 Tryz.func230 rfl (by kernel_rfl) (Eq.mp (by kernel_rfl) h)
def A254:Ann:=⟨[],[(6,[(3,.one (.int .i64))])],[],[],[],[]⟩
def L254 (p1:Option Addr) (Q:Value→World→Prop) (w:World):Prop:=
 nn p1 (fun q2=>
 ∃ b3,w.cell? (Addr.add q2 8)=some (.bool b3)∧
 cond b3
 (Q (.int .i64 111) w)
 (nn p1 (fun q4=>
 ∃ n5,w.cell? (Addr.add q4 3)=some (.int .i64 n5)∧
 ∃ (J6:List Value→World→Prop),
 (nn p1 (fun q7=>
 ∃ n8,w.cell? (Addr.add q7 2)=some (.int .i64 n8)∧
 cond (n8 == 1)
 (J6 [.int .i64 1] w)
 (J6 [.int .i64 n5] w)))∧
 (∀ (_:Env) (n9:Int) (w1:World),J6 [.int .i64 n9] w1→
 nn p1 (fun q10=>
 ∃ (v11:Value),w1.cell? (Addr.add q10 11)=some v11∧
 CQ 275 [v11,.int .i64 n9] w1 (fun r14 w2=>
 ∃ a12 l12 c12 n13,r14=.tuple #[.slice a12 l12 c12,.int .i64 n13]∧
 cond (n13 == 0)
 (cond ((((l12:Nat):Int)) == 0)
 (nn p1 (fun q15=>
 stC (Addr.add q15 8) (.bool true) w2 (fun w3=>
 Q (.int .i64 111) w3)))
 (nn p1 (fun q16=>
 ∃ a17 l17 c17,w2.cell? (Addr.add q16 5)=some (.slice a17 l17 c17)∧
 ∃ a18 l18 c18 w4,Sem.run Tryz.prog (Builtin.append_ #[34,34] 34 #[.slice a17 l17 c17,.slice a12 l12 c12]) w2=.ok (.slice a18 l18 c18) w4∧
 nn p1 (fun q19=>
 stC (Addr.add q19 5) (.slice a18 l18 c18) w4 (fun w5=>
 CQ 229 [.pointer p1,.int .i64 n13] w5 (fun r21 w6=>
 ∃ n20,r21=.int .i64 n20∧
 Q (.int .i64 n20) w6))))))
 (nn p1 (fun q22=>
 ∃ a23 l23 c23,w2.cell? (Addr.add q22 5)=some (.slice a23 l23 c23)∧
 ∃ a24 l24 c24 w7,Sem.run Tryz.prog (Builtin.append_ #[34,34] 34 #[.slice a23 l23 c23,.slice a12 l12 c12]) w2=.ok (.slice a24 l24 c24) w7∧
 nn p1 (fun q25=>
 stC (Addr.add q25 5) (.slice a24 l24 c24) w7 (fun w8=>
 CQ 229 [.pointer p1,.int .i64 n13] w8 (fun r27 w9=>
 ∃ n26,r27=.int .i64 n26∧
 Q (.int .i64 n26) w9)))))))))))
theorem C254 {p1 Q w} (h:L254 p1 Q w):CallR Tryz.prog 254 [.pointer p1] w Q:=
 fC A254 Tryz.func254 rfl (by kernel_rfl) (Eq.mp (by kernel_rfl) h)
def A233:Ann:=⟨[],[],[],[],[],[]⟩
def L233 (p1:Option Addr) (Q:Value→World→Prop) (w:World):Prop:=
 nn p1 (fun q2=>
 ∃ b3,w.cell? q2=some (.bool b3)∧
 cond (!b3)
 (Q (.tuple #[.int .u8 0,.int .i64 65]) w)
 (nn p1 (fun q4=>
 ∃ n5,w.cell? (Addr.add q4 7)=some (.int .i64 n5)∧
 cond (n5 == 2)
 (Q (.tuple #[.int .u8 0,.int .i64 112]) w)
 (nn p1 (fun q6=>
 stC (Addr.add q6 7) (.int .i64 1) w (fun w1=>
 nn p1 (fun q7=>
 ∃ a8 l8 c8,w1.cell? (Addr.add q7 6)=some (.slice a8 l8 c8)∧
 cond (decide ((((l8:Nat):Int)) > 0))
 (nn p1 (fun q9=>
 ∃ a10 l10 c10,w1.cell? (Addr.add q9 6)=some (.slice a10 l10 c10)∧
 inI ((((l8:Nat):Int)) - 1)∧
 (0≤((((l8:Nat):Int)) - 1:Int)∧((((l8:Nat):Int)) - 1:Int)< ((l10:Nat):Int))∧
 nn a10 (fun q11=>
 ∃ n12,w1.cell? (Addr.add q11 (Int.toNat ((((l8:Nat):Int)) - 1)))=some (.int .u8 n12)∧
 nn p1 (fun q13=>
 ∃ a14 l14 c14,w1.cell? (Addr.add q13 6)=some (.slice a14 l14 c14)∧
 inI ((((l8:Nat):Int)) - 1)∧
 (0≤((((l8:Nat):Int)) - 1:Int)∧((((l8:Nat):Int)) - 1:Int)≤((c14:Nat):Int))∧
 nn p1 (fun q15=>
 stC (Addr.add q15 6) (.slice a14 (Int.toNat ((((l8:Nat):Int)) - 1)) c14) w1 (fun w2=>
 Q (.tuple #[.int .u8 n12,.int .i64 0]) w2))))))
 (nn p1 (fun q16=>
 ∃ a17 l17 c17,w1.cell? (Addr.add q16 5)=some (.slice a17 l17 c17)∧
 cond ((((l17:Nat):Int)) == 0)
 (CQ 254 [.pointer p1] w1 (fun r19 w3=>
 ∃ n18,r19=.int .i64 n18∧
 cond (n18 != 0)
 (Q (.tuple #[.int .u8 0,.int .i64 n18]) w3)
 (nn p1 (fun q20=>
 ∃ a21 l21 c21,w3.cell? (Addr.add q20 5)=some (.slice a21 l21 c21)∧
 (0≤(0:Int)∧(0:Int)< ((l21:Nat):Int))∧
 nn a21 (fun q22=>
 ∃ n23,w3.cell? (Addr.add q22 (Int.toNat 0))=some (.int .u8 n23)∧
 nn p1 (fun q24=>
 ∃ a25 l25 c25,w3.cell? (Addr.add q24 5)=some (.slice a25 l25 c25)∧
 (0≤(1:Int)∧(1:Int)≤((l25:Nat):Int))∧
 nn p1 (fun q26=>
 stC (Addr.add q26 5) (.slice (adv a25 (Int.toNat 1) c25 1) (l25 - Int.toNat 1) (c25 - Int.toNat 1)) w3 (fun w4=>
 Q (.tuple #[.int .u8 n23,.int .i64 0]) w4))))))))
 (nn p1 (fun q27=>
 ∃ a28 l28 c28,w1.cell? (Addr.add q27 5)=some (.slice a28 l28 c28)∧
 (0≤(0:Int)∧(0:Int)< ((l28:Nat):Int))∧
 nn a28 (fun q29=>
 ∃ n30,w1.cell? (Addr.add q29 (Int.toNat 0))=some (.int .u8 n30)∧
 nn p1 (fun q31=>
 ∃ a32 l32 c32,w1.cell? (Addr.add q31 5)=some (.slice a32 l32 c32)∧
 (0≤(1:Int)∧(1:Int)≤((l32:Nat):Int))∧
 nn p1 (fun q33=>
 stC (Addr.add q33 5) (.slice (adv a32 (Int.toNat 1) c32 1) (l32 - Int.toNat 1) (c32 - Int.toNat 1)) w1 (fun w5=>
 Q (.tuple #[.int .u8 n30,.int .i64 0]) w5)))))))))))))))
theorem C233 {p1 Q w} (h:L233 p1 Q w):CallR Tryz.prog 233 [.pointer p1] w Q:=
 fC A233 Tryz.func233 rfl (by kernel_rfl) (Eq.mp (by kernel_rfl) h)
def A199:Ann:=⟨[],[],[],[],[],[]⟩
def L199 (b1 b2:Bool) (n3 n4:Int) (a5:Option Addr) (l5 c5:Nat) (a6:Option Addr) (l6 c6:Nat) (a7:Option Addr) (l7 c7:Nat) (n8:Int) (b9 b10 b11:Bool) (v12:Value) (n13:Int) (Q:Value→World→Prop) (w:World):Prop:=
 let w1:=w.alloc (.cells (gq1 b1 b2 n3 n4 a5 l5 c5 a6 l6 c6 a7 l7 c7 n8 b9 b10 b11) 151);
 let w2:=w1.alloc (.cells zSq 151);
 lq1 w2 w.heap.size fun b14 b15 n16 n17 a18 l18 c18 a19 l19 c19 a20 l20 c20 n21 b22 b23 b24=>CQ 192 [.agg (gq1 b14 b15 n16 n17 a18 l18 c18 a19 l19 c19 a20 l20 c20 n21 b22 b23 b24),v12] w2 (fun r27 w3=>
 ∃ p25 n26,r27=.tuple #[.pointer p25,.int .i64 n26]∧
 cond (n26 == 0)
 (CQ 230 [.pointer p25,.int .u8 n13] w3 (fun r29 w4=>
 ∃ n28,r29=.int .i64 n28∧
 nn p25 (fun q30=>
 ∃ b31 b32 n33 n34 a35 l35 c35 a36 l36 c36 a37 l37 c37 n38 b39 b40 b41,w4.cell? q30=some (.bool b31)∧w4.cell? (Addr.add q30 1)=some (.bool b32)∧w4.cell? (Addr.add q30 2)=some (.int .i64 n33)∧w4.cell? (Addr.add q30 3)=some (.int .i64 n34)∧w4.cell? (Addr.add q30 4)=some (.slice a35 l35 c35)∧w4.cell? (Addr.add q30 5)=some (.slice a36 l36 c36)∧w4.cell? (Addr.add q30 6)=some (.slice a37 l37 c37)∧w4.cell? (Addr.add q30 7)=some (.int .i64 n38)∧w4.cell? (Addr.add q30 8)=some (.bool b39)∧w4.cell? (Addr.add q30 9)=some (.bool b40)∧w4.cell? (Addr.add q30 10)=some (.bool b41)∧
 sq11 w1.heap.size w4 (.bool b31) (.bool b32) (.int .i64 n33) (.int .i64 n34) (.slice a35 l35 c35) (.slice a36 l36 c36) (.slice a37 l37 c37) (.int .i64 n38) (.bool b39) (.bool b40) (.bool b41) (fun w15=>lq1 w15 w1.heap.size fun b42 b43 n44 n45 a46 l46 c46 a47 l47 c47 a48 l48 c48 n49 b50 b51 b52=>Q (.tuple #[.agg (gq1 b42 b43 n44 n45 a46 l46 c46 a47 l47 c47 a48 l48 c48 n49 b50 b51 b52),.int .i64 n28]) w15))))
 (nn p25 (fun q53=>
 ∃ b54 b55 n56 n57 a58 l58 c58 a59 l59 c59 a60 l60 c60 n61 b62 b63 b64,w3.cell? q53=some (.bool b54)∧w3.cell? (Addr.add q53 1)=some (.bool b55)∧w3.cell? (Addr.add q53 2)=some (.int .i64 n56)∧w3.cell? (Addr.add q53 3)=some (.int .i64 n57)∧w3.cell? (Addr.add q53 4)=some (.slice a58 l58 c58)∧w3.cell? (Addr.add q53 5)=some (.slice a59 l59 c59)∧w3.cell? (Addr.add q53 6)=some (.slice a60 l60 c60)∧w3.cell? (Addr.add q53 7)=some (.int .i64 n61)∧w3.cell? (Addr.add q53 8)=some (.bool b62)∧w3.cell? (Addr.add q53 9)=some (.bool b63)∧w3.cell? (Addr.add q53 10)=some (.bool b64)∧
 sq11 w1.heap.size w3 (.bool b54) (.bool b55) (.int .i64 n56) (.int .i64 n57) (.slice a58 l58 c58) (.slice a59 l59 c59) (.slice a60 l60 c60) (.int .i64 n61) (.bool b62) (.bool b63) (.bool b64) (fun w26=>lq1 w26 w1.heap.size fun b65 b66 n67 n68 a69 l69 c69 a70 l70 c70 a71 l71 c71 n72 b73 b74 b75=>Q (.tuple #[.agg (gq1 b65 b66 n67 n68 a69 l69 c69 a70 l70 c70 a71 l71 c71 n72 b73 b74 b75),.int .i64 n26]) w26))))
theorem C199 {b1 b2 n3 n4 a5 l5 c5 a6 l6 c6 a7 l7 c7 n8 b9 b10 b11 v12 n13 Q w} (h:L199 b1 b2 n3 n4 a5 l5 c5 a6 l6 c6 a7 l7 c7 n8 b9 b10 b11 v12 n13 Q w):CallR Tryz.prog 199 [.agg #[.bool b1,.bool b2,.int .i64 n3,.int .i64 n4,.slice a5 l5 c5,.slice a6 l6 c6,.slice a7 l7 c7,.int .i64 n8,.bool b9,.bool b10,.bool b11],v12,.int .u8 n13] w Q:=
 fC A199 Tryz.func199 rfl (by kernel_rfl) (Eq.mp (by kernel_rfl) h)
def A202:Ann:=⟨[],[],[],[],[],[]⟩
def L202 (b1 b2:Bool) (n3 n4:Int) (a5:Option Addr) (l5 c5:Nat) (a6:Option Addr) (l6 c6:Nat) (a7:Option Addr) (l7 c7:Nat) (n8:Int) (b9 b10 b11:Bool) (v12:Value) (Q:Value→World→Prop) (w:World):Prop:=
 let w1:=w.alloc (.cells (gq1 b1 b2 n3 n4 a5 l5 c5 a6 l6 c6 a7 l7 c7 n8 b9 b10 b11) 151);
 let w2:=w1.alloc (.cells zSq 151);
 lq1 w2 w.heap.size fun b13 b14 n15 n16 a17 l17 c17 a18 l18 c18 a19 l19 c19 n20 b21 b22 b23=>CQ 192 [.agg (gq1 b13 b14 n15 n16 a17 l17 c17 a18 l18 c18 a19 l19 c19 n20 b21 b22 b23),v12] w2 (fun r26 w3=>
 ∃ p24 n25,r26=.tuple #[.pointer p24,.int .i64 n25]∧
 cond (n25 != 0)
 (nn p24 (fun q27=>
 ∃ b28 b29 n30 n31 a32 l32 c32 a33 l33 c33 a34 l34 c34 n35 b36 b37 b38,w3.cell? q27=some (.bool b28)∧w3.cell? (Addr.add q27 1)=some (.bool b29)∧w3.cell? (Addr.add q27 2)=some (.int .i64 n30)∧w3.cell? (Addr.add q27 3)=some (.int .i64 n31)∧w3.cell? (Addr.add q27 4)=some (.slice a32 l32 c32)∧w3.cell? (Addr.add q27 5)=some (.slice a33 l33 c33)∧w3.cell? (Addr.add q27 6)=some (.slice a34 l34 c34)∧w3.cell? (Addr.add q27 7)=some (.int .i64 n35)∧w3.cell? (Addr.add q27 8)=some (.bool b36)∧w3.cell? (Addr.add q27 9)=some (.bool b37)∧w3.cell? (Addr.add q27 10)=some (.bool b38)∧
 sq11 w1.heap.size w3 (.bool b28) (.bool b29) (.int .i64 n30) (.int .i64 n31) (.slice a32 l32 c32) (.slice a33 l33 c33) (.slice a34 l34 c34) (.int .i64 n35) (.bool b36) (.bool b37) (.bool b38) (fun w14=>lq1 w14 w1.heap.size fun b39 b40 n41 n42 a43 l43 c43 a44 l44 c44 a45 l45 c45 n46 b47 b48 b49=>Q (.tuple #[.agg (gq1 b39 b40 n41 n42 a43 l43 c43 a44 l44 c44 a45 l45 c45 n46 b47 b48 b49),.int .u8 0,.int .i64 n25]) w14)))
 (CQ 233 [.pointer p24] w3 (fun r52 w15=>
 ∃ n50 n51,r52=.tuple #[.int .u8 n50,.int .i64 n51]∧
 nn p24 (fun q53=>
 ∃ b54 b55 n56 n57 a58 l58 c58 a59 l59 c59 a60 l60 c60 n61 b62 b63 b64,w15.cell? q53=some (.bool b54)∧w15.cell? (Addr.add q53 1)=some (.bool b55)∧w15.cell? (Addr.add q53 2)=some (.int .i64 n56)∧w15.cell? (Addr.add q53 3)=some (.int .i64 n57)∧w15.cell? (Addr.add q53 4)=some (.slice a58 l58 c58)∧w15.cell? (Addr.add q53 5)=some (.slice a59 l59 c59)∧w15.cell? (Addr.add q53 6)=some (.slice a60 l60 c60)∧w15.cell? (Addr.add q53 7)=some (.int .i64 n61)∧w15.cell? (Addr.add q53 8)=some (.bool b62)∧w15.cell? (Addr.add q53 9)=some (.bool b63)∧w15.cell? (Addr.add q53 10)=some (.bool b64)∧
 sq11 w1.heap.size w15 (.bool b54) (.bool b55) (.int .i64 n56) (.int .i64 n57) (.slice a58 l58 c58) (.slice a59 l59 c59) (.slice a60 l60 c60) (.int .i64 n61) (.bool b62) (.bool b63) (.bool b64) (fun w26=>lq1 w26 w1.heap.size fun b65 b66 n67 n68 a69 l69 c69 a70 l70 c70 a71 l71 c71 n72 b73 b74 b75=>Q (.tuple #[.agg (gq1 b65 b66 n67 n68 a69 l69 c69 a70 l70 c70 a71 l71 c71 n72 b73 b74 b75),.int .u8 n50,.int .i64 n51]) w26)))))
theorem C202 {b1 b2 n3 n4 a5 l5 c5 a6 l6 c6 a7 l7 c7 n8 b9 b10 b11 v12 Q w} (h:L202 b1 b2 n3 n4 a5 l5 c5 a6 l6 c6 a7 l7 c7 n8 b9 b10 b11 v12 Q w):CallR Tryz.prog 202 [.agg #[.bool b1,.bool b2,.int .i64 n3,.int .i64 n4,.slice a5 l5 c5,.slice a6 l6 c6,.slice a7 l7 c7,.int .i64 n8,.bool b9,.bool b10,.bool b11],v12] w Q:=
 fC A202 Tryz.func202 rfl (by kernel_rfl) (Eq.mp (by kernel_rfl) h)
def A198:Ann:=⟨[],[],[],[],[],[]⟩
def L198 (b1 b2:Bool) (n3 n4:Int) (a5:Option Addr) (l5 c5:Nat) (a6:Option Addr) (l6 c6:Nat) (a7:Option Addr) (l7 c7:Nat) (n8:Int) (b9 b10 b11:Bool) (v12:Value) (Q:Value→World→Prop) (w:World):Prop:=
 let w1:=w.alloc (.cells (gq1 b1 b2 n3 n4 a5 l5 c5 a6 l6 c6 a7 l7 c7 n8 b9 b10 b11) 151);
 let w2:=w1.alloc (.cells zSq 151);
 lq1 w2 w.heap.size fun b13 b14 n15 n16 a17 l17 c17 a18 l18 c18 a19 l19 c19 n20 b21 b22 b23=>CQ 192 [.agg (gq1 b13 b14 n15 n16 a17 l17 c17 a18 l18 c18 a19 l19 c19 n20 b21 b22 b23),v12] w2 (fun r26 w3=>
 ∃ p24 n25,r26=.tuple #[.pointer p24,.int .i64 n25]∧
 cond (n25 == 0)
 (nn p24 (fun q27=>
 ∃ n28,w3.cell? (Addr.add q27 7)=some (.int .i64 n28)∧
 cond (n28 == 2)
 (CQ 193 [.pointer p24] w3 (fun r30 w4=>
 ∃ n29,r30=.int .i64 n29∧
 cond (n29 == 0)
 (nn p24 (fun q31=>
 stC (Addr.add q31 7) (.int .i64 0) w4 (fun w5=>
 nn p24 (fun q32=>
 ∃ b33 b34 n35 n36 a37 l37 c37 a38 l38 c38 a39 l39 c39 n40 b41 b42 b43,w5.cell? q32=some (.bool b33)∧w5.cell? (Addr.add q32 1)=some (.bool b34)∧w5.cell? (Addr.add q32 2)=some (.int .i64 n35)∧w5.cell? (Addr.add q32 3)=some (.int .i64 n36)∧w5.cell? (Addr.add q32 4)=some (.slice a37 l37 c37)∧w5.cell? (Addr.add q32 5)=some (.slice a38 l38 c38)∧w5.cell? (Addr.add q32 6)=some (.slice a39 l39 c39)∧w5.cell? (Addr.add q32 7)=some (.int .i64 n40)∧w5.cell? (Addr.add q32 8)=some (.bool b41)∧w5.cell? (Addr.add q32 9)=some (.bool b42)∧w5.cell? (Addr.add q32 10)=some (.bool b43)∧
 sq11 w1.heap.size w5 (.bool b33) (.bool b34) (.int .i64 n35) (.int .i64 n36) (.slice a37 l37 c37) (.slice a38 l38 c38) (.slice a39 l39 c39) (.int .i64 n40) (.bool b41) (.bool b42) (.bool b43) (fun w16=>lq1 w16 w1.heap.size fun b44 b45 n46 n47 a48 l48 c48 a49 l49 c49 a50 l50 c50 n51 b52 b53 b54=>Q (.tuple #[.agg (gq1 b44 b45 n46 n47 a48 l48 c48 a49 l49 c49 a50 l50 c50 n51 b52 b53 b54),.int .i64 n29]) w16)))))
 (nn p24 (fun q55=>
 ∃ b56 b57 n58 n59 a60 l60 c60 a61 l61 c61 a62 l62 c62 n63 b64 b65 b66,w4.cell? q55=some (.bool b56)∧w4.cell? (Addr.add q55 1)=some (.bool b57)∧w4.cell? (Addr.add q55 2)=some (.int .i64 n58)∧w4.cell? (Addr.add q55 3)=some (.int .i64 n59)∧w4.cell? (Addr.add q55 4)=some (.slice a60 l60 c60)∧w4.cell? (Addr.add q55 5)=some (.slice a61 l61 c61)∧w4.cell? (Addr.add q55 6)=some (.slice a62 l62 c62)∧w4.cell? (Addr.add q55 7)=some (.int .i64 n63)∧w4.cell? (Addr.add q55 8)=some (.bool b64)∧w4.cell? (Addr.add q55 9)=some (.bool b65)∧w4.cell? (Addr.add q55 10)=some (.bool b66)∧
 sq11 w1.heap.size w4 (.bool b56) (.bool b57) (.int .i64 n58) (.int .i64 n59) (.slice a60 l60 c60) (.slice a61 l61 c61) (.slice a62 l62 c62) (.int .i64 n63) (.bool b64) (.bool b65) (.bool b66) (fun w27=>lq1 w27 w1.heap.size fun b67 b68 n69 n70 a71 l71 c71 a72 l72 c72 a73 l73 c73 n74 b75 b76 b77=>Q (.tuple #[.agg (gq1 b67 b68 n69 n70 a71 l71 c71 a72 l72 c72 a73 l73 c73 n74 b75 b76 b77),.int .i64 n29]) w27)))))
 (nn p24 (fun q78=>
 ∃ b79 b80 n81 n82 a83 l83 c83 a84 l84 c84 a85 l85 c85 n86 b87 b88 b89,w3.cell? q78=some (.bool b79)∧w3.cell? (Addr.add q78 1)=some (.bool b80)∧w3.cell? (Addr.add q78 2)=some (.int .i64 n81)∧w3.cell? (Addr.add q78 3)=some (.int .i64 n82)∧w3.cell? (Addr.add q78 4)=some (.slice a83 l83 c83)∧w3.cell? (Addr.add q78 5)=some (.slice a84 l84 c84)∧w3.cell? (Addr.add q78 6)=some (.slice a85 l85 c85)∧w3.cell? (Addr.add q78 7)=some (.int .i64 n86)∧w3.cell? (Addr.add q78 8)=some (.bool b87)∧w3.cell? (Addr.add q78 9)=some (.bool b88)∧w3.cell? (Addr.add q78 10)=some (.bool b89)∧
 sq11 w1.heap.size w3 (.bool b79) (.bool b80) (.int .i64 n81) (.int .i64 n82) (.slice a83 l83 c83) (.slice a84 l84 c84) (.slice a85 l85 c85) (.int .i64 n86) (.bool b87) (.bool b88) (.bool b89) (fun w38=>lq1 w38 w1.heap.size fun b90 b91 n92 n93 a94 l94 c94 a95 l95 c95 a96 l96 c96 n97 b98 b99 b100=>Q (.tuple #[.agg (gq1 b90 b91 n92 n93 a94 l94 c94 a95 l95 c95 a96 l96 c96 n97 b98 b99 b100),.int .i64 n25]) w38)))))
 (nn p24 (fun q101=>
 ∃ b102 b103 n104 n105 a106 l106 c106 a107 l107 c107 a108 l108 c108 n109 b110 b111 b112,w3.cell? q101=some (.bool b102)∧w3.cell? (Addr.add q101 1)=some (.bool b103)∧w3.cell? (Addr.add q101 2)=some (.int .i64 n104)∧w3.cell? (Addr.add q101 3)=some (.int .i64 n105)∧w3.cell? (Addr.add q101 4)=some (.slice a106 l106 c106)∧w3.cell? (Addr.add q101 5)=some (.slice a107 l107 c107)∧w3.cell? (Addr.add q101 6)=some (.slice a108 l108 c108)∧w3.cell? (Addr.add q101 7)=some (.int .i64 n109)∧w3.cell? (Addr.add q101 8)=some (.bool b110)∧w3.cell? (Addr.add q101 9)=some (.bool b111)∧w3.cell? (Addr.add q101 10)=some (.bool b112)∧
 sq11 w1.heap.size w3 (.bool b102) (.bool b103) (.int .i64 n104) (.int .i64 n105) (.slice a106 l106 c106) (.slice a107 l107 c107) (.slice a108 l108 c108) (.int .i64 n109) (.bool b110) (.bool b111) (.bool b112) (fun w49=>lq1 w49 w1.heap.size fun b113 b114 n115 n116 a117 l117 c117 a118 l118 c118 a119 l119 c119 n120 b121 b122 b123=>Q (.tuple #[.agg (gq1 b113 b114 n115 n116 a117 l117 c117 a118 l118 c118 a119 l119 c119 n120 b121 b122 b123),.int .i64 n25]) w49))))
theorem C198 {b1 b2 n3 n4 a5 l5 c5 a6 l6 c6 a7 l7 c7 n8 b9 b10 b11 v12 Q w} (h:L198 b1 b2 n3 n4 a5 l5 c5 a6 l6 c6 a7 l7 c7 n8 b9 b10 b11 v12 Q w):CallR Tryz.prog 198 [.agg #[.bool b1,.bool b2,.int .i64 n3,.int .i64 n4,.slice a5 l5 c5,.slice a6 l6 c6,.slice a7 l7 c7,.int .i64 n8,.bool b9,.bool b10,.bool b11],v12] w Q:=
 fC A198 Tryz.func198 rfl (by kernel_rfl) (Eq.mp (by kernel_rfl) h)
def A141:Ann:=⟨[],[],[],[],[],[]⟩
def L141 (b1 b2:Bool) (n3 n4:Int) (a5:Option Addr) (l5 c5:Nat) (a6:Option Addr) (l6 c6:Nat) (a7:Option Addr) (l7 c7:Nat) (n8:Int) (b9 b10 b11:Bool) (v12:Value) (Q:Value→World→Prop) (w:World):Prop:=
 let w1:=w.alloc (.cells (gq1 b1 b2 n3 n4 a5 l5 c5 a6 l6 c6 a7 l7 c7 n8 b9 b10 b11) 151);
 let w2:=w1.alloc (.cells zSq 151);
 lq1 w2 w.heap.size fun b13 b14 n15 n16 a17 l17 c17 a18 l18 c18 a19 l19 c19 n20 b21 b22 b23=>CQ 192 [.agg (gq1 b13 b14 n15 n16 a17 l17 c17 a18 l18 c18 a19 l19 c19 n20 b21 b22 b23),v12] w2 (fun r26 w3=>
 ∃ p24 n25,r26=.tuple #[.pointer p24,.int .i64 n25]∧
 cond (n25 != 0)
 (nn p24 (fun q27=>
 ∃ b28 b29 n30 n31 a32 l32 c32 a33 l33 c33 a34 l34 c34 n35 b36 b37 b38,w3.cell? q27=some (.bool b28)∧w3.cell? (Addr.add q27 1)=some (.bool b29)∧w3.cell? (Addr.add q27 2)=some (.int .i64 n30)∧w3.cell? (Addr.add q27 3)=some (.int .i64 n31)∧w3.cell? (Addr.add q27 4)=some (.slice a32 l32 c32)∧w3.cell? (Addr.add q27 5)=some (.slice a33 l33 c33)∧w3.cell? (Addr.add q27 6)=some (.slice a34 l34 c34)∧w3.cell? (Addr.add q27 7)=some (.int .i64 n35)∧w3.cell? (Addr.add q27 8)=some (.bool b36)∧w3.cell? (Addr.add q27 9)=some (.bool b37)∧w3.cell? (Addr.add q27 10)=some (.bool b38)∧
 sq11 w1.heap.size w3 (.bool b28) (.bool b29) (.int .i64 n30) (.int .i64 n31) (.slice a32 l32 c32) (.slice a33 l33 c33) (.slice a34 l34 c34) (.int .i64 n35) (.bool b36) (.bool b37) (.bool b38) (fun w14=>lq1 w14 w1.heap.size fun b39 b40 n41 n42 a43 l43 c43 a44 l44 c44 a45 l45 c45 n46 b47 b48 b49=>Q (.tuple #[.agg (gq1 b39 b40 n41 n42 a43 l43 c43 a44 l44 c44 a45 l45 c45 n46 b47 b48 b49),.int .i64 n25]) w14)))
 (CQ 193 [.pointer p24] w3 (fun r51 w15=>
 ∃ n50,r51=.int .i64 n50∧
 nn p24 (fun q52=>
 stC (Addr.add q52 4) (.slice none 0 0) w15 (fun w16=>
 nn p24 (fun q53=>
 stC (Addr.add q53 5) (.slice none 0 0) w16 (fun w17=>
 nn p24 (fun q54=>
 stC (Addr.add q54 6) (.slice none 0 0) w17 (fun w18=>
 nn p24 (fun q55=>
 stC (Addr.add q55 7) (.int .i64 0) w18 (fun w19=>
 nn p24 (fun q56=>
 stC (Addr.add q56 10) (.bool true) w19 (fun w20=>
 nn p24 (fun q57=>
 ∃ b58 b59 n60 n61 a62 l62 c62 a63 l63 c63 a64 l64 c64 n65 b66 b67 b68,w20.cell? q57=some (.bool b58)∧w20.cell? (Addr.add q57 1)=some (.bool b59)∧w20.cell? (Addr.add q57 2)=some (.int .i64 n60)∧w20.cell? (Addr.add q57 3)=some (.int .i64 n61)∧w20.cell? (Addr.add q57 4)=some (.slice a62 l62 c62)∧w20.cell? (Addr.add q57 5)=some (.slice a63 l63 c63)∧w20.cell? (Addr.add q57 6)=some (.slice a64 l64 c64)∧w20.cell? (Addr.add q57 7)=some (.int .i64 n65)∧w20.cell? (Addr.add q57 8)=some (.bool b66)∧w20.cell? (Addr.add q57 9)=some (.bool b67)∧w20.cell? (Addr.add q57 10)=some (.bool b68)∧
 sq11 w1.heap.size w20 (.bool b58) (.bool b59) (.int .i64 n60) (.int .i64 n61) (.slice a62 l62 c62) (.slice a63 l63 c63) (.slice a64 l64 c64) (.int .i64 n65) (.bool b66) (.bool b67) (.bool b68) (fun w31=>lq1 w31 w1.heap.size fun b69 b70 n71 n72 a73 l73 c73 a74 l74 c74 a75 l75 c75 n76 b77 b78 b79=>Q (.tuple #[.agg (gq1 b69 b70 n71 n72 a73 l73 c73 a74 l74 c74 a75 l75 c75 n76 b77 b78 b79),.int .i64 n50]) w31)))))))))))))))
theorem C141 {b1 b2 n3 n4 a5 l5 c5 a6 l6 c6 a7 l7 c7 n8 b9 b10 b11 v12 Q w} (h:L141 b1 b2 n3 n4 a5 l5 c5 a6 l6 c6 a7 l7 c7 n8 b9 b10 b11 v12 Q w):CallR Tryz.prog 141 [.agg #[.bool b1,.bool b2,.int .i64 n3,.int .i64 n4,.slice a5 l5 c5,.slice a6 l6 c6,.slice a7 l7 c7,.int .i64 n8,.bool b9,.bool b10,.bool b11],v12] w Q:=
 fC A141 Tryz.func141 rfl (by kernel_rfl) (Eq.mp (by kernel_rfl) h)
def A392:Ann:=⟨[],[],[],[],[],[]⟩
def L392 (v1:Value) (a2:Option Addr) (l2 c2:Nat) (Q:Value→World→Prop) (w:World):Prop:=
 let w1:=w.alloc (.cells #[v1] 347);
 Q (.tuple #[.int .i64 0,.int .i64 52]) w1
theorem C392 {v1 a2 l2 c2 Q w} (h:L392 v1 a2 l2 c2 Q w):CallR Tryz.prog 392 [.agg #[v1],.slice a2 l2 c2] w Q:=
 fC A392 Tryz.func392 rfl (by kernel_rfl) (Eq.mp (by kernel_rfl) h)
def A275:Ann:=⟨[(6,[])],[],[],[],[],[]⟩
def L275 (v1 : Value) (n2 : Int) (Q : Value → World → Prop) (w : World) : Prop :=
 ∃ b3 w1, Sem.run Tryz.prog (Sem.bind (eqGuard .eql 179 (.tmp 9) (.const (.nilIface)) v1 .nilIface) (fun _ => binOp .eql 179 v1 .nilIface)) w = .ok (.bool b3) w1 ∧
 cond b3
 (Q (.tuple #[.slice none 0 0, .int .i64 2]) w1)
 (cond (decide (n2 < 1))
 (Q (.tuple #[.slice none 0 0, .int .i64 4]) w1)
 (cond (decide (n2 > 1048576))
 (Q (.tuple #[.slice none 0 0, .int .i64 4]) w1)
 (let w2 := w1.alloc (.cells #[.int .i64 0] 384);
 ∃ (I4 : List Value → World → Prop) (mu5 : List Value → World → Nat),
 I4 [] w2 ∧
 ∀ (_ : Env) (w3 : World), I4 [] w3 →
 ∃ (f6 : FuncId) (xs7 : Array Value) (w4 : World), Sem.run Tryz.prog (callMethod v1 "Read" #[.int .i64 n2]) w3 = .ok (.enter f6 xs7) w4 ∧
 CQ f6 (Array.toList xs7) w4 (fun r10 w5 =>
 ∃ a8 l8 c8 n9, r10 = .tuple #[.slice a8 l8 c8, .int .i64 n9] ∧
 CQ 251 [.int .i64 n9] w5 (fun r12 w6 =>
 ∃ b11, r12 = .bool b11 ∧
 cond b11
 (CQ 252 [.pointer (some (Addr.mk w1.heap.size 0 none))] w6 (fun r14 w7 =>
 ∃ b13, r14 = .bool b13 ∧
 cond b13
 (Q (.tuple #[.slice none 0 0, .int .i64 81]) w7)
 (I4 [] w7 ∧ mu5 [] w7 < mu5 [] w3)))
 (cond (n9 != 0)
 (Q (.tuple #[.slice none 0 0, .int .i64 n9]) w6)
 (cond (decide ((((l8 : Nat) : Int)) > n2))
 (Q (.tuple #[.slice none 0 0, .int .i64 82]) w6)
 (Q (.tuple #[.slice a8 l8 c8, .int .i64 0]) w6))))))))
theorem C275 {v1 n2 Q w} (h:L275 v1 n2 Q w):CallR Tryz.prog 275 [v1,.int .i64 n2] w Q:=
 fC A275 Tryz.func275 rfl (by kernel_rfl) (Eq.mp (by kernel_rfl) h)
def A252:Ann:=⟨[],[],[],[],[],[]⟩
def L252 (p1:Option Addr) (Q:Value→World→Prop) (w:World):Prop:=
 nn p1 (fun q2=>
 ∃ n3,w.cell? q2=some (.int .i64 n3)∧
 inI (n3+1)∧
 nn p1 (fun q4=>
 stC q4 (.int .i64 (n3+1)) w (fun w1=>
 nn p1 (fun q5=>
 ∃ n6,w1.cell? q5=some (.int .i64 n6)∧
 Q (.bool (decide (n6≥8192))) w1))))
theorem C252 {p1 Q w} (h:L252 p1 Q w):CallR Tryz.prog 252 [.pointer p1] w Q:=
 fC A252 Tryz.func252 rfl (by kernel_rfl) (Eq.mp (by kernel_rfl) h)
def A251:Ann:=⟨[],[],[],[],[],[]⟩
def L251 (n1:Int) (Q:Value→World→Prop) (w:World):Prop:=
 cond (n1 == 22)
 (Q (.bool true) w)
 (Q (.bool (n1 == 23)) w)
theorem C251 {n1 Q w} (h:L251 n1 Q w):CallR Tryz.prog 251 [.int .i64 n1] w Q:=
 fC A251 Tryz.func251 rfl (by kernel_rfl) (Eq.mp (by kernel_rfl) h)
def A228:Ann:=⟨[(7,[(7,.one (.slice))])],[(13,[(39,.one (.bool))])],[],[(8,[0,2,4,5,6,1,3,7,8,9,10,11,12])],[],[]⟩
def L228 (v1 : Value) (a2 : Option Addr) (l2 c2 : Nat) (Q : Value → World → Prop) (w : World) : Prop :=
 ∃ b3 w1, Sem.run Tryz.prog (Sem.bind (eqGuard .eql 179 (.tmp 11) (.const (.nilIface)) v1 .nilIface) (fun _ => binOp .eql 179 v1 .nilIface)) w = .ok (.bool b3) w1 ∧
 cond b3
 (Q (.tuple #[.int .i64 0, .int .i64 2]) w1)
 (cond (decide ((((l2 : Nat) : Int)) > 1048576))
 (Q (.tuple #[.int .i64 0, .int .i64 5]) w1)
 (let w2 := w1.alloc (.cells #[.int .i64 0] 384);
 ∃ (I4 : List Value → World → Prop) (mu5 : List Value → World → Nat),
 I4 [.slice a2 l2 c2] w2 ∧
 ∀ (_ : Env) (a6 : Option Addr) (l6 : Nat) (c6 : Nat) (w3 : World), I4 [.slice a6 l6 c6] w3 →
 cond (decide ((((l6 : Nat) : Int)) > 0))
 (let w4 := w3.drew;
 nilM Tryz.prog v1 "Write" ∧
 let w5 := w4.alloc (.cells #[] 5);
 ∃ a7 l7 c7 w6, Sem.run Tryz.prog (Builtin.append_ #[34, 34] 34 #[.slice (some (Addr.mk w4.heap.size 0 none)) 0 0, .slice a6 l6 c6]) w5 = .ok (.slice a7 l7 c7) w6 ∧
 ∃ (f8 : FuncId) (xs9 : Array Value) (w7 : World), Sem.run Tryz.prog (callMethod v1 "Write" #[.slice a7 l7 c7]) w6 = .ok (.enter f8 xs9) w7 ∧
 CQ f8 (Array.toList xs9) w7 (fun r12 w8 =>
 ∃ n10 n11, r12 = .tuple #[.int .i64 n10, .int .i64 n11] ∧
 inI ((((l2 : Nat) : Int)) - (((l6 : Nat) : Int))) ∧
 ∃ (J13 : List Value → World → Prop),
 (CQ 251 [.int .i64 n11] w8 (fun r15 w9 =>
 ∃ b14, r15 = .bool b14 ∧
 cond b14
 (J13 [.bool b14] w9)
 (cond (n11 == 0)
 (J13 [.bool (n10 == 0)] w9)
 (J13 [.bool false] w9)))) ∧
 (∀ (_ : Env) (b16 : Bool) (w10 : World), J13 [.bool b16] w10 →
 cond b16
 (CQ 252 [.pointer (some (Addr.mk w1.heap.size 0 none))] w10 (fun r18 w11 =>
 ∃ b17, r18 = .bool b17 ∧
 cond b17
 (Q (.tuple #[.int .i64 ((((l2 : Nat) : Int)) - (((l6 : Nat) : Int))), .int .i64 81]) w11)
 (I4 [.slice a6 l6 c6] w11 ∧ mu5 [.slice a6 l6 c6] w11 < mu5 [.slice a6 l6 c6] w3)))
 (cond (n11 != 0)
 (Q (.tuple #[.int .i64 ((((l2 : Nat) : Int)) - (((l6 : Nat) : Int))), .int .i64 n11]) w10)
 (cond (decide (n10 < 0))
 (Q (.tuple #[.int .i64 ((((l2 : Nat) : Int)) - (((l6 : Nat) : Int))), .int .i64 82]) w10)
 (cond (decide (n10 > (((l6 : Nat) : Int))))
 (Q (.tuple #[.int .i64 ((((l2 : Nat) : Int)) - (((l6 : Nat) : Int))), .int .i64 82]) w10)
 ((0 ≤ (n10 : Int) ∧ (n10 : Int) ≤ ((l6 : Nat) : Int)) ∧
 stC (Addr.mk w1.heap.size 0 none) (.int .i64 0) w10 (fun w12 =>
 I4 [.slice (adv a6 (Int.toNat n10) c6 1) (l6 - Int.toNat n10) (c6 - Int.toNat n10)] w12 ∧ mu5 [.slice (adv a6 (Int.toNat n10) c6 1) (l6 - Int.toNat n10) (c6 - Int.toNat n10)] w12 < mu5 [.slice a6 l6 c6] w3))))))))
 (Q (.tuple #[.int .i64 (((l2 : Nat) : Int)), .int .i64 0]) w3)))
theorem C228 {v1 a2 l2 c2 Q w} (h:L228 v1 a2 l2 c2 Q w):CallR Tryz.prog 228 [v1,.slice a2 l2 c2] w Q:=
 fC A228 Tryz.func228 rfl (by kernel_rfl) (Eq.mp (by kernel_rfl) h)
def A49:Ann:=⟨[(5,[(3,.one (.slice))]),(11,[(5,.one (.slice)),(27,.one (.int .i64))])],[],[],[],[],[]⟩
def L49 (p1:Option Addr) (Q:Value→World→Prop) (w:World):Prop:=
 CQ 110 [.pointer p1] w (fun r3 w1=>
 ∃ b2,r3=.bool b2∧
 cond b2
 (Q (.slice none 0 0) w1)
 (nn p1 (fun q4=>
 ∃ (m5:Option Nat),w1.cell? (Addr.add q4 1)=some (.map m5)∧
 ∃ w2,Sem.run Tryz.prog (Instr.range 75 (.map m5)) w1=.ok (.pointer (some (Addr.mk w1.heap.size 0 none))) w2∧
 ∃ (I6:List Value→World→Prop) (mu7:List Value→World→Nat),
 I6 [.slice none 0 0] w2∧
 ∀ (_:Env) (a8:Option Addr) (l8:Nat) (c8:Nat) (w3:World),I6 [.slice a8 l8 c8] w3→
 (∃ w4,Sem.run Tryz.prog (Instr.next (.pointer (some (Addr.mk w1.heap.size 0 none))) false 0) w3=.ok (.tuple #[.bool false]) w4∧
 CQ 13 [.slice a8 l8 c8] w4 (fun r11 w6=>
 r11=.tuple #[]∧
 ∃ (I12:List Value→World→Prop) (mu13:List Value→World→Nat),
 I12 [.slice none 0 0,.int .i64 0] w6∧
 ∀ (_:Env) (a14:Option Addr) (l14:Nat) (c14:Nat) (n15:Int) (w7:World),I12 [.slice a14 l14 c14,.int .i64 n15] w7→
 cond (decide (n15< (((l8:Nat):Int))))
 ((0≤(n15:Int)∧(n15:Int)< ((l8:Nat):Int))∧
 nn a8 (fun q16=>
 ∃ s17,w7.cell? (Addr.add q16 (Int.toNat n15))=some (.string s17)∧
 nn p1 (fun q18=>
 ∃ (m19:Option Nat),w7.cell? (Addr.add q18 1)=some (.map m19)∧
 ∃ p20 w8,Sem.run Tryz.prog (Instr.lookup 75 (.map m19) (.string s17) false) w7=.ok (.pointer p20) w8∧
 CQ 111 [.pointer p20] w8 (fun r22 w9=>
 ∃ a21 l21 c21,r22=.slice a21 l21 c21∧
 let w10:=w9.alloc (.cells #[.string s17,.slice a21 l21 c21] 52);
 ∃ a23 l23 c23 w11,Sem.run Tryz.prog (Builtin.append_ #[29,29] 29 #[.slice a14 l14 c14,.slice (some (Addr.mk w9.heap.size 0 none)) 1 1]) w10=.ok (.slice a23 l23 c23) w11∧
 inI (n15+1)∧
 I12 [.slice a23 l23 c23,.int .i64 (n15+1)] w11∧mu13 [.slice a23 l23 c23,.int .i64 (n15+1)] w11< mu13 [.slice a14 l14 c14,.int .i64 n15] w7))))
 (Q (.slice a14 l14 c14) w7)))∨
 (∃ (v9:Value) (v10:Value) (w5:World),Sem.run Tryz.prog (Instr.next (.pointer (some (Addr.mk w1.heap.size 0 none))) false 0) w3=.ok (.tuple #[.bool true,v9,v10]) w5∧
 ((∃ (s24:ByteArray) (v25:Value) (w12:World),Sem.run Tryz.prog (Instr.entry (.pointer (some (Addr.mk w1.heap.size 0 none)))) w5=.ok (.tuple #[.string s24,v25]) w12∧
 let w14:=w12.alloc (.cells #[.string s24] 9);
 ∃ a28 l28 c28 w15,Sem.run Tryz.prog (Builtin.append_ #[61,61] 61 #[.slice a8 l8 c8,.slice (some (Addr.mk w12.heap.size 0 none)) 1 1]) w14=.ok (.slice a28 l28 c28) w15∧
 I6 [.slice a28 l28 c28] w15∧mu7 [.slice a28 l28 c28] w15< mu7 [.slice a8 l8 c8] w3)∨
 (∃ (n26:Int) (v27:Value) (w13:World),Sem.run Tryz.prog (Instr.entry (.pointer (some (Addr.mk w1.heap.size 0 none)))) w5=.ok (.tuple #[.int .i64 n26,v27]) w13∧
 let w16:=w13.alloc (.cells #[.int .i64 n26] 9);
 ∃ a29 l29 c29 w17,Sem.run Tryz.prog (Builtin.append_ #[61,61] 61 #[.slice a8 l8 c8,.slice (some (Addr.mk w13.heap.size 0 none)) 1 1]) w16=.ok (.slice a29 l29 c29) w17∧
 I6 [.slice a29 l29 c29] w17∧mu7 [.slice a29 l29 c29] w17< mu7 [.slice a8 l8 c8] w3))))))
theorem C49 {p1 Q w} (h:L49 p1 Q w):CallR Tryz.prog 49 [.pointer p1] w Q:=
 fC A49 Tryz.func49 rfl (by kernel_rfl) (Eq.mp (by kernel_rfl) h)
def A154:Ann:=⟨[],[],[],[],[],[]⟩
def L154 (p1:Option Addr) (n2 n3 n4:Int) (Q:Value→World→Prop) (w:World):Prop:=
 let w1:=w.alloc (.cells #[.pointer p1,.int .i64 n2] 232);
 ∃ p5,w1.cell? (Addr.mk w.heap.size 0 none)=some (.pointer p5)∧
 ∃ n6,w1.cell? (Addr.mk w.heap.size 1 none)=some (.int .i64 n6)∧
 CQ 209 [.pointer p5,.int .i64 n6,.int .i64 n3,.int .i64 n4] w1 (fun r9 w2=>
 ∃ n7 n8,r9=.tuple #[.int .i64 n7,.int .i64 n8]∧
 Q (.tuple #[.int .i64 n7,.int .i64 n8]) w2)
theorem C154 {p1 n2 n3 n4 Q w} (h:L154 p1 n2 n3 n4 Q w):CallR Tryz.prog 154 [.agg #[.pointer p1,.int .i64 n2],.int .i64 n3,.int .i64 n4] w Q:=
 fC A154 Tryz.func154 rfl (by kernel_rfl) (Eq.mp (by kernel_rfl) h)
def A13:Ann:=⟨[],[],[],[],[],[]⟩
def L13 (a1:Option Addr) (l1 c1:Nat) (Q:Value→World→Prop) (w:World):Prop:=
 CQ 24 [.int .u64 (IntKind.wrap .u64 (((l1:Nat):Int)))] w (fun r3 w1=>
 ∃ n2,r3=.int .i64 n2∧
 CQ 23 [.slice a1 l1 c1,.int .i64 0,.int .i64 (((l1:Nat):Int)),.int .i64 n2] w1 (fun r4 w2=>
 r4=.tuple #[]∧
 Q (.tuple #[]) w2))
theorem C13 {a1 l1 c1 Q w} (h:L13 a1 l1 c1 Q w):CallR Tryz.prog 13 [.slice a1 l1 c1] w Q:=
 fC A13 Tryz.func13 rfl (by kernel_rfl) (Eq.mp (by kernel_rfl) h)
def A23:Ann:=⟨[(2,[(1,.one (.int .i64)),(2,.one (.int .i64)),(3,.one (.int .i64)),(8,.one (.bool)),(9,.one (.bool))])],[(10,[(3,.one (.int .i64))]),(15,[(11,.one (.int .i64)),(12,.one (.int .i64))]),(17,[])],[],[(17,[0,1,2,3,4,5,6,7,8,9,10,11,12,13,14])],[],[]⟩
def L23 (a1:Option Addr) (l1 c1:Nat) (n2 n3 n4:Int) (Q:Value→World→Prop) (w:World):Prop:=
 ∃ (I5:List Value→World→Prop) (mu6:List Value→World→Nat),
 I5 [.int .i64 n2,.int .i64 n3,.int .i64 n4,.bool true,.bool true] w∧
 ∀ (_:Env) (n7:Int) (n8:Int) (n9:Int) (b10:Bool) (b11:Bool) (w1:World),I5 [.int .i64 n7,.int .i64 n8,.int .i64 n9,.bool b10,.bool b11] w1→
 inI (n8 - n7)∧
 cond (decide ((n8 - n7)≤12))
 (CQ 58 [.slice a1 l1 c1,.int .i64 n7,.int .i64 n8] w1 (fun r12 w2=>
 r12=.tuple #[]∧
 Q (.tuple #[]) w2))
 (cond (n9 == 0)
 (CQ 59 [.slice a1 l1 c1,.int .i64 n7,.int .i64 n8] w1 (fun r13 w3=>
 r13=.tuple #[]∧
 Q (.tuple #[]) w3))
 (∃ (J14:List Value→World→Prop),
 (cond (!b10)
 (CQ 60 [.slice a1 l1 c1,.int .i64 n7,.int .i64 n8] w1 (fun r15 w4=>
 r15=.tuple #[]∧
 inI (n9 - 1)∧
 J14 [.int .i64 (n9 - 1)] w4))
 (J14 [.int .i64 n9] w1))∧
 (∀ (_:Env) (n16:Int) (w5:World),J14 [.int .i64 n16] w5→
 CQ 61 [.slice a1 l1 c1,.int .i64 n7,.int .i64 n8] w5 (fun r19 w6=>
 ∃ n17 n18,r19=.tuple #[.int .i64 n17,.int .i64 n18]∧
 ∃ (J20:List Value→World→Prop),
 (cond (n18 == 2)
 (CQ 62 [.slice a1 l1 c1,.int .i64 n7,.int .i64 n8] w6 (fun r21 w7=>
 r21=.tuple #[]∧
 inI (n8 - 1)∧
 inI (n17 - n7)∧
 inI ((n8 - 1) - (n17 - n7))∧
 J20 [.int .i64 ((n8 - 1) - (n17 - n7)),.int .i64 1] w7))
 (J20 [.int .i64 n17,.int .i64 n18] w6))∧
 (∀ (_:Env) (n22:Int) (n23:Int) (w8:World),J20 [.int .i64 n22,.int .i64 n23] w8→
 ∃ (J24:List Value→World→Prop),
 (cond b10
 (cond b11
 (cond (n23 == 1)
 (CQ 63 [.slice a1 l1 c1,.int .i64 n7,.int .i64 n8] w8 (fun r26 w9=>
 ∃ b25,r26=.bool b25∧
 cond b25
 (Q (.tuple #[]) w9)
 (J24 [] w9)))
 (J24 [] w8))
 (J24 [] w8))
 (J24 [] w8))∧
 (∀ (_:Env) (w10:World),J24 [] w10→
 let w11:=w10.drew;
 cond (decide (n7 > 0))
 (inI (n7 - 1)∧
 (0≤(n7 - 1:Int)∧(n7 - 1:Int)< ((l1:Nat):Int))∧
 nn a1 (fun q27=>
 ∃ s28,w11.cell? (Addr.add q27 (Int.toNat (n7 - 1)))=some (.string s28)∧
 (0≤(n22:Int)∧(n22:Int)< ((l1:Nat):Int))∧
 nn a1 (fun q29=>
 ∃ s30,w11.cell? (Addr.add q29 (Int.toNat n22))=some (.string s30)∧
 CQ 64 [.string s28,.string s30] w11 (fun r32 w12=>
 ∃ b31,r32=.bool b31∧
 cond (!b31)
 (CQ 65 [.slice a1 l1 c1,.int .i64 n7,.int .i64 n8,.int .i64 n22] w12 (fun r34 w13=>
 ∃ n33,r34=.int .i64 n33∧
 I5 [.int .i64 n33,.int .i64 n8,.int .i64 n16,.bool b10,.bool b11] w13∧mu6 [.int .i64 n33,.int .i64 n8,.int .i64 n16,.bool b10,.bool b11] w13< mu6 [.int .i64 n7,.int .i64 n8,.int .i64 n9,.bool b10,.bool b11] w1))
 (CQ 66 [.slice a1 l1 c1,.int .i64 n7,.int .i64 n8,.int .i64 n22] w12 (fun r37 w14=>
 ∃ n35 b36,r37=.tuple #[.int .i64 n35,.bool b36]∧
 inI (n35 - n7)∧
 inI (n8 - n35)∧
 (8:Int)≠0∧
 inI (Int.tdiv (n8 - n7) (8:Int))∧
 cond (decide ((n35 - n7)< (n8 - n35)))
 (CQ 23 [.slice a1 l1 c1,.int .i64 n7,.int .i64 n35,.int .i64 n16] w14 (fun r38 w15=>
 r38=.tuple #[]∧
 inI (n35+1)∧
 I5 [.int .i64 (n35+1),.int .i64 n8,.int .i64 n16,.bool (decide ((n35 - n7)≥(Int.tdiv (n8 - n7) (8:Int)))),.bool b36] w15∧mu6 [.int .i64 (n35+1),.int .i64 n8,.int .i64 n16,.bool (decide ((n35 - n7)≥(Int.tdiv (n8 - n7) (8:Int)))),.bool b36] w15< mu6 [.int .i64 n7,.int .i64 n8,.int .i64 n9,.bool b10,.bool b11] w1))
 (inI (n35+1)∧
 CQ 23 [.slice a1 l1 c1,.int .i64 (n35+1),.int .i64 n8,.int .i64 n16] w14 (fun r39 w16=>
 r39=.tuple #[]∧
 I5 [.int .i64 n7,.int .i64 n35,.int .i64 n16,.bool (decide ((n8 - n35)≥(Int.tdiv (n8 - n7) (8:Int)))),.bool b36] w16∧mu6 [.int .i64 n7,.int .i64 n35,.int .i64 n16,.bool (decide ((n8 - n35)≥(Int.tdiv (n8 - n7) (8:Int)))),.bool b36] w16< mu6 [.int .i64 n7,.int .i64 n8,.int .i64 n9,.bool b10,.bool b11] w1))))))))
 (CQ 66 [.slice a1 l1 c1,.int .i64 n7,.int .i64 n8,.int .i64 n22] w11 (fun r42 w17=>
 ∃ n40 b41,r42=.tuple #[.int .i64 n40,.bool b41]∧
 inI (n40 - n7)∧
 inI (n8 - n40)∧
 (8:Int)≠0∧
 inI (Int.tdiv (n8 - n7) (8:Int))∧
 cond (decide ((n40 - n7)< (n8 - n40)))
 (CQ 23 [.slice a1 l1 c1,.int .i64 n7,.int .i64 n40,.int .i64 n16] w17 (fun r43 w18=>
 r43=.tuple #[]∧
 inI (n40+1)∧
 I5 [.int .i64 (n40+1),.int .i64 n8,.int .i64 n16,.bool (decide ((n40 - n7)≥(Int.tdiv (n8 - n7) (8:Int)))),.bool b41] w18∧mu6 [.int .i64 (n40+1),.int .i64 n8,.int .i64 n16,.bool (decide ((n40 - n7)≥(Int.tdiv (n8 - n7) (8:Int)))),.bool b41] w18< mu6 [.int .i64 n7,.int .i64 n8,.int .i64 n9,.bool b10,.bool b11] w1))
 (inI (n40+1)∧
 CQ 23 [.slice a1 l1 c1,.int .i64 (n40+1),.int .i64 n8,.int .i64 n16] w17 (fun r44 w19=>
 r44=.tuple #[]∧
 I5 [.int .i64 n7,.int .i64 n40,.int .i64 n16,.bool (decide ((n8 - n40)≥(Int.tdiv (n8 - n7) (8:Int)))),.bool b41] w19∧mu6 [.int .i64 n7,.int .i64 n40,.int .i64 n16,.bool (decide ((n8 - n40)≥(Int.tdiv (n8 - n7) (8:Int)))),.bool b41] w19< mu6 [.int .i64 n7,.int .i64 n8,.int .i64 n9,.bool b10,.bool b11] w1))))))))))
theorem C23 {a1 l1 c1 n2 n3 n4 Q w} (h:L23 a1 l1 c1 n2 n3 n4 Q w):CallR Tryz.prog 23 [.slice a1 l1 c1,.int .i64 n2,.int .i64 n3,.int .i64 n4] w Q:=
 fC A23 Tryz.func23 rfl (by kernel_rfl) (Eq.mp (by kernel_rfl) h)
def A58:Ann:=⟨[(1,[(6,.one (.int .i64))]),(4,[(7,.one (.int .i64))])],[],[],[(4,[0,1,2,3,4,5,6,7,8,9,10,11,12,13,14]),(6,[0,1,2,3,4,5,6,7,8,9,10,11,12,13,14,15,16,17])],[],[]⟩
def L58 (a1:Option Addr) (l1 c1:Nat) (n2 n3:Int) (Q:Value→World→Prop) (w:World):Prop:=
 inI (n2+1)∧
 ∃ (I4:List Value→World→Prop) (mu5:List Value→World→Nat),
 I4 [.int .i64 (n2+1)] w∧
 ∀ (_:Env) (n6:Int) (w1:World),I4 [.int .i64 n6] w1→
 cond (decide (n6< n3))
 (∃ (I7:List Value→World→Prop) (mu8:List Value→World→Nat),
 I7 [.int .i64 n6] w1∧
 ∀ (_:Env) (n9:Int) (w2:World),I7 [.int .i64 n9] w2→
 let w3:=w2.drew;
 cond (decide (n9 > n2))
 ((0≤(n9:Int)∧(n9:Int)< ((l1:Nat):Int))∧
 nn a1 (fun q10=>
 ∃ s11,w3.cell? (Addr.add q10 (Int.toNat n9))=some (.string s11)∧
 inI (n9 - 1)∧
 (0≤(n9 - 1:Int)∧(n9 - 1:Int)< ((l1:Nat):Int))∧
 nn a1 (fun q12=>
 ∃ s13,w3.cell? (Addr.add q12 (Int.toNat (n9 - 1)))=some (.string s13)∧
 CQ 64 [.string s11,.string s13] w3 (fun r15 w4=>
 ∃ b14,r15=.bool b14∧
 cond b14
 (let w5:=w4.drew;
 inI (n9 - 1)∧
 inI (n9 - 1)∧
 (0≤(n9 - 1:Int)∧(n9 - 1:Int)< ((l1:Nat):Int))∧
 nn a1 (fun q16=>
 ∃ s17,w5.cell? (Addr.add q16 (Int.toNat (n9 - 1)))=some (.string s17)∧
 (0≤(n9:Int)∧(n9:Int)< ((l1:Nat):Int))∧
 nn a1 (fun q18=>
 ∃ s19,w5.cell? (Addr.add q18 (Int.toNat n9))=some (.string s19)∧
 (0≤(n9:Int)∧(n9:Int)< ((l1:Nat):Int))∧
 nn a1 (fun q20=>
 stC (Addr.add q20 (Int.toNat n9)) (.string s17) w5 (fun w6=>
 (0≤(n9 - 1:Int)∧(n9 - 1:Int)< ((l1:Nat):Int))∧
 nn a1 (fun q21=>
 stC (Addr.add q21 (Int.toNat (n9 - 1))) (.string s19) w6 (fun w7=>
 inI (n9 - 1)∧
 I7 [.int .i64 (n9 - 1)] w7∧mu8 [.int .i64 (n9 - 1)] w7< mu8 [.int .i64 n9] w2)))))))
 (inI (n6+1)∧
 I4 [.int .i64 (n6+1)] w4∧mu5 [.int .i64 (n6+1)] w4< mu5 [.int .i64 n6] w1)))))
 (inI (n6+1)∧
 I4 [.int .i64 (n6+1)] w3∧mu5 [.int .i64 (n6+1)] w3< mu5 [.int .i64 n6] w1))
 (Q (.tuple #[]) w1)
theorem C58 {a1 l1 c1 n2 n3 Q w} (h:L58 a1 l1 c1 n2 n3 Q w):CallR Tryz.prog 58 [.slice a1 l1 c1,.int .i64 n2,.int .i64 n3] w Q:=
 fC A58 Tryz.func58 rfl (by kernel_rfl) (Eq.mp (by kernel_rfl) h)
end Go.Proofs.YteojolihgijdhaaGreatDoor
