/-
  Tables that no call made, and such without a kernel: they answer nothing. Conditions: none.
-/
import Derived.Test.YtkjmlbplmffekaaGreatFdA
import Derived.Test.YtkjmlbplmffekaaGreatLFn
set_option linter.unusedVariables false
namespace Go.Proofs.YtkjmlbplmffekaaGreat
open Go.Lw

/-- A table that is none, or has no kernel. -/
def NoT (w : World) (p : Option Addr) : Prop := p = none ∨ ∃ t cur, p = some ⟨t, 0, none⟩ ∧ Blk w t cur ∧ cur[0]? = some (.pointer none)

theorem NoT.no {w w' : World} {p : Option Addr} (h : NoT w p) (k : Kept No w w') : NoT w' p := by
  rcases h with h | ⟨t, cur, h1, h2, h3⟩
  · exact .inl h
  · exact .inr ⟨t, cur, h1, h2.keep k fun e => e, h3⟩

theorem nt_none {w : World} {p : Option Addr} (h : NoT w p) {Q : Value → World → Prop} (hq : Q (.bool true) w) : CallR Tryz.prog 132 [.pointer p] w Q := by
  refine C132 ?_
  unfold L132
  rcases h with rfl | ⟨t, cur, rfl, hb, h0⟩
  · exact condTr2 hq
  · exact condFa2 (nnI ⟨_, (hb.cell 0).trans h0, hq⟩)

theorem nt_at {w : World} {p : Option Addr} (h : NoT w p) (fd : Int) {Q : Value → World → Prop} (hq : Q (.tuple #[.pointer none, .int .i64 2]) w) : CallR Tryz.prog 134 [.pointer p, .int .i64 fd] w Q := by
  refine C134 ?_
  unfold L134
  exact nt_none h ⟨_, rfl, condTr2 hq⟩

theorem nt_open {w : World} {p : Option Addr} (h : NoT w p) (nm : ByteArray) (fl : Int) {Q : Value → World → Prop} (hq : Q (.tuple #[.int .i64 0, .int .i64 2]) w) : CallR Tryz.prog 43 [.pointer p, .string nm, .int .i64 fl] w Q := by
  refine C43 ?_
  unfold L43
  exact nt_none h ⟨_, rfl, condTr2 hq⟩

theorem nt_pipe {w : World} {p : Option Addr} (h : NoT w p) {Q : Value → World → Prop} (hq : Q (.tuple #[.int .i64 0, .int .i64 0, .int .i64 2]) w) : CallR Tryz.prog 44 [.pointer p] w Q := by
  refine C44 ?_
  unfold L44
  exact nt_none h ⟨_, rfl, condTr2 hq⟩

theorem nt_ins {w : World} {p : Option Addr} (h : NoT w p) (d : Int) {Q : Value → World → Prop} (hq : Q (.tuple #[.int .i64 0, .int .i64 2]) w) : CallR Tryz.prog 48 [.pointer p, .int .i64 d] w Q := by
  refine C48 ?_
  unfold L48
  exact nt_none h ⟨_, rfl, condTr2 hq⟩

theorem nt_dup {w : World} {p : Option Addr} (h : NoT w p) (d : Int) {Q : Value → World → Prop} (hq : Q (.tuple #[.int .i64 0, .int .i64 2]) w) : CallR Tryz.prog 45 [.pointer p, .int .i64 d] w Q := by
  refine C45 ?_
  unfold L45
  exact nt_at h _ ⟨_, _, rfl, condTr2 hq⟩

theorem nt_marked {w : World} {p : Option Addr} (h : NoT w p) (d : Int) {Q : Value → World → Prop} (hq : Q (.tuple #[.bool false, .int .i64 2]) w) : CallR Tryz.prog 126 [.pointer p, .int .i64 d] w Q := by
  refine C126 ?_
  unfold L126
  exact nt_at h _ ⟨_, _, rfl, condTr2 hq⟩

theorem nt_desc {w : World} {p : Option Addr} (h : NoT w p) (d : Int) {Q : Value → World → Prop} (hq : Q (.tuple #[.int .i64 0, .int .i64 2]) w) : CallR Tryz.prog 127 [.pointer p, .int .i64 d] w Q := by
  refine C127 ?_
  unfold L127
  exact nt_at h _ ⟨_, _, rfl, condTr2 hq⟩

theorem nt_close {w : World} {p : Option Addr} (h : NoT w p) (d : Int) {Q : Value → World → Prop} (hq : Q (.int .i64 2) w) : CallR Tryz.prog 49 [.pointer p, .int .i64 d] w Q := by
  refine C49 ?_
  unfold L49
  exact nt_at h _ ⟨_, _, rfl, condTr2 hq⟩

theorem nt_dupto {w : World} {p : Option Addr} (h : NoT w p) (d to : Int) {Q : Value → World → Prop} (hq : Q (.int .i64 2) w) : CallR Tryz.prog 50 [.pointer p, .int .i64 d, .int .i64 to] w Q := by
  refine C50 ?_
  unfold L50
  exact nt_at h _ ⟨_, _, rfl, condTr2 hq⟩

theorem nt_mark {w : World} {p : Option Addr} (h : NoT w p) (d : Int) (on : Bool) {Q : Value → World → Prop} (hq : Q (.int .i64 2) w) : CallR Tryz.prog 125 [.pointer p, .int .i64 d, .bool on] w Q := by
  refine C125 ?_
  unfold L125
  exact nt_at h _ ⟨_, _, rfl, condFa2 hq⟩

theorem nt_list {w : World} {p : Option Addr} (h : NoT w p) {Q : Value → World → Prop} (hq : Q (.slice none 0 0) w) : CallR Tryz.prog 47 [.pointer p] w Q := by
  refine C47 ?_
  unfold L47
  exact nt_none h ⟨_, rfl, condTr2 hq⟩

theorem nt_closeall {w : World} {p : Option Addr} (h : NoT w p) {Q : Value → World → Prop} (hq : Q (.tuple #[]) w) : CallR Tryz.prog 131 [.pointer p] w Q := by
  refine C131 ?_
  unfold L131
  refine nt_list h ⟨_, _, _, rfl, fun vs w' => vs = [.int .i64 0] ∧ w' = w, fun _ _ => 0, ⟨rfl, rfl⟩, ?_⟩
  rintro _ n w1 ⟨hv, rfl⟩
  simp only [List.cons.injEq, Value.int.injEq, true_and, and_true] at hv
  subst hv
  exact condFa2 hq

theorem nt_handle {w : World} {p : Option Addr} (h : NoT w p) (fd : Int) : CallR Tryz.prog 214 [.pointer p, .int .i64 fd] w fun v w' => v = .tuple #[.agg #[.pointer none, .int .i64 0], .int .i64 2] ∧ Kept No w w' := by
  refine C214 ?_
  unfold L214
  intro w1
  have hb : Blk w1 w.heap.size #[.pointer none, .int .i64 0] := Blk.alloc _ _ _
  have hk1 : Kept No w w1 := Kept.alloc _ _ _
  clear_value w1
  refine nt_desc (h.no hk1) _ ⟨_, _, rfl, condTr2 (stC_blk hb (by simp) fun w2 hb2 hk2 _ => stC_blk hb2 (by simp) fun w3 hb3 hk3 _ => ⟨_, _, (hb3.cell 0).trans rfl, (hb3.cell 1).trans rfl, rfl, (hk1.fresh hk2 fun x e => by omega).fresh hk3 fun x e => by omega⟩)⟩

theorem lay2 {w : World} {e : TypeId} {v0 v1 u0 u1 : Value} {K : World → Prop} (hk : ∀ w', Blk w' w.heap.size #[v0, v1] → Kept No w w' → K w') :
    let w2 := World.alloc w (.cells #[u0, u1] e)
    stC (Addr.mk w.heap.size 0 none) v0 w2 fun w1 => stC (Addr.mk w.heap.size 1 none) v1 w1 K := by
  intro w2
  have hb : Blk w2 w.heap.size #[u0, u1] := Blk.alloc _ _ _
  have hk1 : Kept No w w2 := Kept.alloc _ _ _
  clear_value w2
  refine stC_blk hb (by simp) fun w1 h1 k1 _ => stC_blk h1 (by simp) fun w2 h2 k2 _ => ?_
  have h2' : Blk w2 w.heap.size #[v0, v1] := by simpa using h2
  exact hk w2 h2' ((hk1.fresh k1 fun x e => by omega).fresh k2 fun x e => by omega)

theorem nt_read {w : World} {p : Option Addr} (h : NoT w p) (fd n : Int) : CallR Tryz.prog 128 [.pointer p, .int .i64 fd, .int .i64 n] w fun v w' => v = .tuple #[.slice none 0 0, .int .i64 2] ∧ Kept No w w' := by
  refine C128 ?_
  unfold L128
  refine CallR.mono (nt_handle h fd) ?_
  rintro v w1 ⟨rfl, hk1⟩
  exact ⟨_, _, _, rfl, lay2 fun w2 hb2 hk2 => condTr2 ⟨rfl, hk1.no hk2⟩⟩

theorem nt_write {w : World} {p : Option Addr} (h : NoT w p) (fd : Int) (a : Option Addr) (l c : Nat) : CallR Tryz.prog 129 [.pointer p, .int .i64 fd, .slice a l c] w fun v w' => v = .tuple #[.int .i64 0, .int .i64 2] ∧ Kept No w w' := by
  refine C129 ?_
  unfold L129
  refine CallR.mono (nt_handle h fd) ?_
  rintro v w1 ⟨rfl, hk1⟩
  exact ⟨_, _, _, rfl, lay2 fun w2 hb2 hk2 => condTr2 ⟨rfl, hk1.no hk2⟩⟩

theorem nt_seek {w : World} {p : Option Addr} (h : NoT w p) (fd off wh : Int) : CallR Tryz.prog 130 [.pointer p, .int .i64 fd, .int .i64 off, .int .i64 wh] w fun v w' => v = .tuple #[.int .i64 0, .int .i64 2] ∧ Kept No w w' := by
  refine C130 ?_
  unfold L130
  refine CallR.mono (nt_handle h fd) ?_
  rintro v w1 ⟨rfl, hk1⟩
  exact ⟨_, _, _, rfl, lay2 fun w2 hb2 hk2 => condTr2 ⟨rfl, hk1.no hk2⟩⟩

theorem nothing7_ok {w : World} {p : Option Addr} (h : NoT w p) : CallR Tryz.prog 40 [.pointer p] w fun v w' => v = .bool true ∧ Kept No w w' := by
  refine C40 ?_
  unfold L40
  refine nt_open h _ _ ⟨_, _, rfl, nt_pipe h ⟨_, _, _, rfl, nt_ins h _ ⟨_, _, rfl, nt_dup h _ ⟨_, _, rfl, nt_marked h _ ⟨_, _, rfl, nt_desc h _ ⟨_, _, rfl, CallR.mono (nt_read h _ _) ?_⟩⟩⟩⟩⟩⟩
  rintro v w1 ⟨rfl, hk1⟩
  refine ⟨_, _, _, _, rfl, CallR.mono (nt_write (h.no hk1) _ _ _ _) ?_⟩
  rintro v w2 ⟨rfl, hk2⟩
  refine ⟨_, _, rfl, CallR.mono (nt_seek ((h.no hk1).no hk2) _ _ _) ?_⟩
  rintro v w3 ⟨rfl, hk3⟩
  have h3 := ((h.no hk1).no hk2).no hk3
  have k3 := (hk1.no hk2).no hk3
  have n : ∀ {K : Value → World → Prop}, K (.int .i64 2) w3 → CallR Tryz.prog 42 [.int .i64 2] w3 K := fun hK => tnum_to hK
  refine ⟨_, _, rfl, nt_closeall h3 ⟨rfl, n ⟨_, rfl, condTr2 (n ⟨_, rfl, condTr2 (n ⟨_, rfl, condTr2 (n ⟨_, rfl, condTr2 (n ⟨_, rfl, condTr2 (n ⟨_, rfl, condTr2 (n ⟨_, rfl, condTr2 (n ⟨_, rfl, condTr2 (n ⟨_, rfl, condTr2 (nt_close h3 _ ⟨_, rfl, n ⟨_, rfl, condTr2 (nt_dupto h3 _ _ ⟨_, rfl, n ⟨_, rfl, condTr2 (nt_mark h3 _ _ ⟨_, rfl, n ⟨_, rfl, condTr2 (nt_list h3 ⟨_, _, _, rfl, rfl, k3⟩)⟩⟩)⟩⟩)⟩⟩)⟩)⟩)⟩)⟩)⟩)⟩)⟩)⟩)⟩⟩⟩

end Go.Proofs.YtkjmlbplmffekaaGreat
