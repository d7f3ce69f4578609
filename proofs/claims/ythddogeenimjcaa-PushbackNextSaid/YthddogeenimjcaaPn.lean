/-
  A Raw that counts its calls, and a read of it that is made again and again. Conditions: as each says.
-/
import Derived.Test.YthddogeenimjcaaPbF
import Derived.Test.YthddogeenimjcaaPnL
import Derived.FollowTie
set_option linter.unusedVariables false
namespace Go.Proofs.Ythddogeenimjcaa
open Go.Lw

def cv (g : Nat) : Value := .iface 49 (.pointer (some ⟨g, 0, none⟩))

theorem cv_nil {w : World} {g : Nat} {x y : Operand} : Sem.run Try.prog (Sem.bind (eqGuard .eql 65 x y (cv g) .nilIface) (fun _ => binOp .eql 65 (cv g) .nilIface)) w = .ok (.bool false) w := by
  unfold cv
  kernel_rfl

theorem cv_read {w : World} {g : Nat} {n : Int} : Sem.run Try.prog (callMethod (cv g) "Read" #[.int .i64 n]) w = .ok (.enter 73 #[.pointer (some ⟨g, 0, none⟩), .int .i64 n]) w := by
  have hm : ∀ recv w, (Go.method (Try.prog.types.size + Made.depth) 49 recv "Read").run Try.prog w = .ok (73, recv) w := by
    intro recv w
    kernel_rfl
  have hb : bodyB Try.prog 73 = true := by kernel_rfl
  rcases callMethod_tie Try.prog w 49 (.pointer (some ⟨g, 0, none⟩)) "Read" #[.int .i64 n] with ⟨f, r, w', h1, h2⟩ | ⟨h, w', h1, _⟩
  · rw [hm] at h1
    cases h1
    exact h2.trans (bodyB_run hb _ _)
  · rw [hm] at h1
    cases h1

structure CoO (w : World) (g : Nat) (a : Option Addr) (l c : Nat) (bs : List Int) (k rd : Nat) : Prop where
  blk : Blk w g #[.slice a l c, .int .i64 (k : Int), .int .i64 (rd : Int), .int .i64 0]
  rd' : RdB w a l c bs
  le : k ≤ l
  ne : ∀ b, b < w.heap.size → inA a b → b ≠ g

theorem CoO.keep {w w' : World} {g : Nat} {a : Option Addr} {l c : Nat} {bs : List Int} {k rd : Nat} (h : CoO w g a l c bs k rd) {S : Nat → Prop} (hk : Kept S w w') (hg : ¬ S g) (hn : ∀ b, b < w.heap.size → inA a b → ¬ S b) (hne : ∀ b, inA a b → b ≠ g) : CoO w' g a l c bs k rd :=
  ⟨h.blk.keep hk hg, h.rd'.keep hk hn, h.le, fun b _ hb => hne b hb⟩

theorem cset1 {a : Option Addr} {l c : Nat} {x y z x' : Value} : (#[.slice a l c, x, y, z] : Array Value).setIfInBounds 1 x' = #[.slice a l c, x', y, z] := rfl
theorem cset2 {a : Option Addr} {l c : Nat} {x y z x' : Value} : (#[.slice a l c, x, y, z] : Array Value).setIfInBounds 2 x' = #[.slice a l c, x, x', z] := rfl

theorem mn_min {n m : Int} : mn n m = min n m := by
  unfold mn
  omega

theorem cread_ok {w : World} {g : Nat} {a : Option Addr} {l c : Nat} {bs : List Int} {k rd n : Nat} (h : CoO w g a l c bs k rd) (hne : ∀ b, inA a b → b ≠ g) (hn : n ≤ 1048576) (hl : l ≤ 140737488355328) (hr : rd ≤ 1099511627776) :
    CallR Try.prog 73 [.pointer (some ⟨g, 0, none⟩), .int .i64 (n : Int)] w fun v w' => v = .tuple #[.slice (adv a k c 1) (min n (l - k)) (c - k), .int .i64 0] ∧ CoO w' g a l c bs (k + min n (l - k)) (rd + 1) ∧ Kept (· = g) w w' := by
  refine C73 ?_
  unfold L73
  obtain ⟨hb, hrd, hle, _⟩ := h
  refine nnI ⟨_, hb.at (i := 2) rfl, ⟨by omega, by omega⟩, nnI (stC_at hb (i := 2) (by simp) fun w1 hb1 hk1 hs1 => ?_)⟩
  rw [cset2] at hb1
  refine nnI ⟨_, _, _, hb1.at0 rfl, nnI ⟨_, hb1.at (i := 1) rfl, ⟨by omega, by omega⟩, fun nd => ?_⟩⟩
  have hmn : mn (n : Int) (((l : Nat) : Int) - (k : Int)) = ((min n (l - k) : Nat) : Int) := by rw [mn_min]; omega
  rw [hmn]
  intro w2
  have hb2 : Blk w2 g #[.slice a l c, .int .i64 (k : Int), .int .i64 ((rd : Int) + 1), .int .i64 0] := hb1.drewN nd
  have hk2 : Kept (· = g) w w2 := hk1.no (Kept.drewN _ _ _)
  clear_value w2
  refine nnI ⟨_, hb2.at (i := 1) rfl, ⟨by omega, by omega⟩, nnI (stC_at hb2 (i := 1) (by simp) fun w3 hb3 hk3 hs3 => ?_)⟩
  rw [cset1] at hb3
  have hk03 : Kept (· = g) w w3 := hk2.trans hk3 fun _ _ e => e
  have hcl : l ≤ c := hrd.2.1
  refine nnI ⟨_, _, _, hb3.at0 rfl, nnI ⟨_, hb3.at (i := 1) rfl, ⟨by omega, by omega⟩, nnI ⟨_, hb3.at (i := 1) rfl, ⟨by omega, by omega⟩, ⟨by omega, by omega⟩, fun nd => ?_⟩⟩⟩
  have e1 : Int.toNat ((k : Int) + ((min n (l - k) : Nat) : Int) - ((min n (l - k) : Nat) : Int)) = k := by omega
  have e2 : Int.toNat ((k : Int) + ((min n (l - k) : Nat) : Int)) = k + min n (l - k) := by omega
  rw [e1, e2]
  have e3 : k + min n (l - k) - k = min n (l - k) := by omega
  rw [e3]
  have hk4 : Kept (· = g) w (w3.drewN nd) := hk03.no (Kept.drewN _ _ _)
  refine ⟨rfl, ⟨?_, hrd.keep hk4 (fun b _ hb => hne b hb), by omega, fun b _ hb => hne b hb⟩, hk4⟩
  have := hb3.drewN nd
  simpa using this

theorem some_ok {w : World} {g : Nat} {a : Option Addr} {l c : Nat} {bs : List Int} {k rd n : Nat} (h : CoO w g a l c bs k rd) (hne : ∀ b, inA a b → b ≠ g) (hn1 : 1 ≤ n) (hn : n ≤ 1048576) (hl : l ≤ 140737488355328) (hr : rd ≤ 1099511627776) :
    CallR Try.prog 42 [cv g, .int .i64 (n : Int)] w fun v w' => v = .tuple #[.slice (adv a k c 1) (min n (l - k)) (c - k), .int .i64 0] ∧ CoO w' g a l c bs (k + min n (l - k)) (rd + 1) ∧ Kept (· = g) w w' := by
  refine C42 ?_
  unfold L42
  refine ⟨_, _, cv_nil, condF rfl (condF (by simp; omega) (condF (by simp; omega) ?_))⟩
  intro w2
  have hk2 : Kept No w w2 := Kept.alloc _ _ _
  clear_value w2
  have h2 := h.keep hk2 (fun e => e) (fun _ _ _ e => e) hne
  refine ⟨fun vs w' => vs = [] ∧ w' = w2, fun _ _ => 0, ⟨rfl, rfl⟩, ?_⟩
  rintro _ w3 ⟨_, rfl⟩
  refine ⟨_, _, _, cv_read, CallR.mono (cread_ok h2 hne hn hl hr) ?_⟩
  rintro v w5 ⟨rfl, h5, hk5⟩
  refine ⟨_, _, _, _, rfl, C54 (condF rfl ⟨_, rfl, condF rfl (condF rfl (condF (by simp; omega) ⟨rfl, h5, ?_⟩))⟩)⟩
  exact (hk2.mono (fun _ _ e => e.elim)).trans hk5 fun _ _ e => e

end Go.Proofs.Ythddogeenimjcaa
