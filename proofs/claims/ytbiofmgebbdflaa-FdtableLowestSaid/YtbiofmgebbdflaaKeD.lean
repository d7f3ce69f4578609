/-
  What a description is of: a file, a terminal or a pipe: its methods by name. Conditions: as each says.
-/
import Derived.Test.YtbiofmgebbdflaaKeC
import Derived.Test.YtbiofmgebbdflaaFi
import Derived.Test.YtbiofmgebbdflaaKpB
import Derived.FollowTie
set_option linter.unusedVariables false
namespace Go.Proofs.Ytbiofmgebbdflaa
open Go.Lw

/-- Of what kind a description is. -/
inductive TK | disk | scr | con
  deriving DecidableEq

def TK.ty : TK → TypeId
  | .disk => 157
  | .scr => 155
  | .con => 124

/-- The interface's value. -/
def tv (k : TK) (b : Nat) : Value := .iface k.ty (.agg #[.pointer (some ⟨b, 0, none⟩)])

theorem call_of {P : Program} {t : TypeId} {name : String} {f : FuncId} (hm : ∀ recv w, (Go.method (P.types.size + Made.depth) t recv name).run P w = .ok (f, recv) w) (hb : bodyB P f = true) (u : Value) (args : Array Value) (w : World) :
    (callMethod (.iface t u) name args).run P w = .ok (.enter f (#[u] ++ args)) w := by
  rcases callMethod_tie P w t u name args with ⟨f', r, w', h1, h2⟩ | ⟨h, w', h1, _⟩
  · rw [hm] at h1
    cases h1
    exact h2.trans (bodyB_run hb _ _)
  · rw [hm] at h1
    cases h1

def readF : TK → FuncId
  | .disk => 211
  | .scr => 205
  | .con => 197
def roomF : TK → FuncId
  | .disk => 212
  | .scr => 206
  | .con => 198
def wrF : TK → FuncId
  | .disk => 213
  | .scr => 207
  | .con => 199
def dropF : TK → FuncId
  | .disk => 209
  | .scr => 203
  | .con => 195
def kindF : TK → FuncId
  | .disk => 210
  | .scr => 204
  | .con => 196

theorem tv_read (k : TK) (b : Nat) (args : Array Value) (w : World) : (callMethod (tv k b) "millrace/kern.read" args).run Try.prog w = .ok (.enter (readF k) (#[.agg #[.pointer (some ⟨b, 0, none⟩)]] ++ args)) w := by
  cases k
  · exact call_of (by intro recv w; kernel_rfl) (by kernel_rfl) _ _ _
  · exact call_of (by intro recv w; kernel_rfl) (by kernel_rfl) _ _ _
  · exact call_of (by intro recv w; kernel_rfl) (by kernel_rfl) _ _ _
theorem tv_room (k : TK) (b : Nat) (args : Array Value) (w : World) : (callMethod (tv k b) "millrace/kern.room" args).run Try.prog w = .ok (.enter (roomF k) (#[.agg #[.pointer (some ⟨b, 0, none⟩)]] ++ args)) w := by
  cases k
  · exact call_of (by intro recv w; kernel_rfl) (by kernel_rfl) _ _ _
  · exact call_of (by intro recv w; kernel_rfl) (by kernel_rfl) _ _ _
  · exact call_of (by intro recv w; kernel_rfl) (by kernel_rfl) _ _ _
theorem tv_write (k : TK) (b : Nat) (args : Array Value) (w : World) : (callMethod (tv k b) "millrace/kern.write" args).run Try.prog w = .ok (.enter (wrF k) (#[.agg #[.pointer (some ⟨b, 0, none⟩)]] ++ args)) w := by
  cases k
  · exact call_of (by intro recv w; kernel_rfl) (by kernel_rfl) _ _ _
  · exact call_of (by intro recv w; kernel_rfl) (by kernel_rfl) _ _ _
  · exact call_of (by intro recv w; kernel_rfl) (by kernel_rfl) _ _ _
theorem tv_drop (k : TK) (b : Nat) (args : Array Value) (w : World) : (callMethod (tv k b) "millrace/kern.drop" args).run Try.prog w = .ok (.enter (dropF k) (#[.agg #[.pointer (some ⟨b, 0, none⟩)]] ++ args)) w := by
  cases k
  · exact call_of (by intro recv w; kernel_rfl) (by kernel_rfl) _ _ _
  · exact call_of (by intro recv w; kernel_rfl) (by kernel_rfl) _ _ _
  · exact call_of (by intro recv w; kernel_rfl) (by kernel_rfl) _ _ _
theorem tv_kind (k : TK) (b : Nat) (args : Array Value) (w : World) : (callMethod (tv k b) "millrace/kern.kind" args).run Try.prog w = .ok (.enter (kindF k) (#[.agg #[.pointer (some ⟨b, 0, none⟩)]] ++ args)) w := by
  cases k
  · exact call_of (by intro recv w; kernel_rfl) (by kernel_rfl) _ _ _
  · exact call_of (by intro recv w; kernel_rfl) (by kernel_rfl) _ _ _
  · exact call_of (by intro recv w; kernel_rfl) (by kernel_rfl) _ _ _

/-- Is it a pipe's end? -/
theorem tv_con (k : TK) (b : Nat) (w : World) : (Instr.typeAssert (tv k b) 131 124 true).run Try.prog w = .ok (if k = .con then .tuple #[.agg #[.pointer (some ⟨b, 0, none⟩)], .bool true] else .tuple #[.agg #[.pointer none], .bool false]) w := by
  cases k
  · kernel_rfl
  · kernel_rfl
  · kernel_rfl
/-- Is it a file? -/
theorem tv_disk (k : TK) (b : Nat) (w : World) : (Instr.typeAssert (tv k b) 131 157 true).run Try.prog w = .ok (if k = .disk then .tuple #[.agg #[.pointer (some ⟨b, 0, none⟩)], .bool true] else .tuple #[.agg #[.pointer none], .bool false]) w := by
  cases k
  · kernel_rfl
  · kernel_rfl
  · kernel_rfl

end Go.Proofs.Ytbiofmgebbdflaa
