/-
  What a description is of: a file, a terminal or a pipe: its methods by name. Conditions: as each says.
  A file's description: what its methods do. Conditions: as each says.
  A terminal's and a pipe's description: what their methods do; whether a read would wait. Conditions: as each says.
-/
import Derived.Test.YtkjmlbplmffekaaGreatKeC
import Derived.Test.YtkjmlbplmffekaaGreatFi
import Derived.Test.YtkjmlbplmffekaaGreatKpB
import Derived.FollowTie
set_option linter.unusedVariables false
namespace Go.Proofs.YtkjmlbplmffekaaGreat
open Go.Lw

/-- Of what kind a description is. -/
inductive TK | disk | scr | con
  deriving DecidableEq

def TK.ty : TK → TypeId
  | .disk => 171
  | .scr => 169
  | .con => 193

/-- The interface's value. -/
def tv (k : TK) (b : Nat) : Value := .iface k.ty (.agg #[.pointer (some ⟨b, 0, none⟩)])

theorem call_of {P : Program} {t : TypeId} {name : String} {f : FuncId} (hm : ∀ recv w, (Go.method (P.types.size + Made.depth) t recv name).run P w = .ok (f, recv) w) (hb : bodyB P f = true) (u : Value) (args : Array Value) (w : World) :
    (callMethod (.iface t u) name args).run P w = .ok (.enter f (#[u] ++ args)) w := by
  rcases callMethod_tie P w t u name args with ⟨f', r, w', h1, h2⟩ | ⟨h, w', h1, _⟩
  · rw [hm] at h1
    cases h1
    exact h2.trans (bodyB_run hb _ _)
  · rw [hm] at h1
    cases h1

def readF : TK → FuncId
  | .disk => 287
  | .scr => 282
  | .con => 301
def roomF : TK → FuncId
  | .disk => 288
  | .scr => 283
  | .con => 302
def wrF : TK → FuncId
  | .disk => 289
  | .scr => 284
  | .con => 303
def dropF : TK → FuncId
  | .disk => 285
  | .scr => 280
  | .con => 299
def kindF : TK → FuncId
  | .disk => 286
  | .scr => 281
  | .con => 300

theorem tv_read (k : TK) (b : Nat) (args : Array Value) (w : World) : (callMethod (tv k b) "millrace/kern.read" args).run Tryz.prog w = .ok (.enter (readF k) (#[.agg #[.pointer (some ⟨b, 0, none⟩)]] ++ args)) w := by
  cases k
  · exact call_of (by intro recv w; kernel_rfl) (by kernel_rfl) _ _ _
  · exact call_of (by intro recv w; kernel_rfl) (by kernel_rfl) _ _ _
  · exact call_of (by intro recv w; kernel_rfl) (by kernel_rfl) _ _ _
theorem tv_room (k : TK) (b : Nat) (args : Array Value) (w : World) : (callMethod (tv k b) "millrace/kern.room" args).run Tryz.prog w = .ok (.enter (roomF k) (#[.agg #[.pointer (some ⟨b, 0, none⟩)]] ++ args)) w := by
  cases k
  · exact call_of (by intro recv w; kernel_rfl) (by kernel_rfl) _ _ _
  · exact call_of (by intro recv w; kernel_rfl) (by kernel_rfl) _ _ _
  · exact call_of (by intro recv w; kernel_rfl) (by kernel_rfl) _ _ _
theorem tv_write (k : TK) (b : Nat) (args : Array Value) (w : World) : (callMethod (tv k b) "millrace/kern.write" args).run Tryz.prog w = .ok (.enter (wrF k) (#[.agg #[.pointer (some ⟨b, 0, none⟩)]] ++ args)) w := by
  cases k
  · exact call_of (by intro recv w; kernel_rfl) (by kernel_rfl) _ _ _
  · exact call_of (by intro recv w; kernel_rfl) (by kernel_rfl) _ _ _
  · exact call_of (by intro recv w; kernel_rfl) (by kernel_rfl) _ _ _
theorem tv_drop (k : TK) (b : Nat) (args : Array Value) (w : World) : (callMethod (tv k b) "millrace/kern.drop" args).run Tryz.prog w = .ok (.enter (dropF k) (#[.agg #[.pointer (some ⟨b, 0, none⟩)]] ++ args)) w := by
  cases k
  · exact call_of (by intro recv w; kernel_rfl) (by kernel_rfl) _ _ _
  · exact call_of (by intro recv w; kernel_rfl) (by kernel_rfl) _ _ _
  · exact call_of (by intro recv w; kernel_rfl) (by kernel_rfl) _ _ _
theorem tv_kind (k : TK) (b : Nat) (args : Array Value) (w : World) : (callMethod (tv k b) "millrace/kern.kind" args).run Tryz.prog w = .ok (.enter (kindF k) (#[.agg #[.pointer (some ⟨b, 0, none⟩)]] ++ args)) w := by
  cases k
  · exact call_of (by intro recv w; kernel_rfl) (by kernel_rfl) _ _ _
  · exact call_of (by intro recv w; kernel_rfl) (by kernel_rfl) _ _ _
  · exact call_of (by intro recv w; kernel_rfl) (by kernel_rfl) _ _ _

/-- Is it a pipe's end? -/
theorem tv_con (k : TK) (b : Nat) (w : World) : (Instr.typeAssert (tv k b) 178 193 true).run Tryz.prog w = .ok (if k = .con then .tuple #[.agg #[.pointer (some ⟨b, 0, none⟩)], .bool true] else .tuple #[.agg #[.pointer none], .bool false]) w := by
  cases k
  · kernel_rfl
  · kernel_rfl
  · kernel_rfl
/-- Is it a file? -/
theorem tv_disk (k : TK) (b : Nat) (w : World) : (Instr.typeAssert (tv k b) 178 171 true).run Tryz.prog w = .ok (if k = .disk then .tuple #[.agg #[.pointer (some ⟨b, 0, none⟩)], .bool true] else .tuple #[.agg #[.pointer none], .bool false]) w := by
  cases k
  · kernel_rfl
  · kernel_rfl
  · kernel_rfl

end Go.Proofs.YtkjmlbplmffekaaGreat

namespace Go.Proofs.YtkjmlbplmffekaaGreat
open Go.Lw

def DsO (w : World) (bd : Nat) (k : TK) (b : Nat) (fl at_ hd : Int) : Prop := Blk w bd #[tv k b, .int .i64 fl, .int .i64 at_, .int .i64 hd]

/-- The bits that both have. -/
def bitI (n m : Int) : Int := IntKind.wrap .i64 ↑(BitVec.ofInt (IntKind.bits .i64) n &&& BitVec.ofInt (IntKind.bits .i64) m).toNat

def placeF (fl at_ : Int) (bs : List Int) : Int := if bitI fl 4 ≠ 0 then (bs.length : Int) else at_

theorem place_ok {F : Nat → Prop} {w : World} {b bd : Nat} {bs : List Int} {fl at_ hd : Int} (h : FileO F w b bs) (hd' : DsO w bd .disk b fl at_ hd) :
    CallR Tryz.prog 291 [.agg #[.pointer (some ⟨b, 0, none⟩)], .pointer (some ⟨bd, 0, none⟩)] w fun v w' => v = .int .i64 (placeF fl at_ bs) ∧ Kept No w w' := by
  refine C291 ?_
  unfold L291
  intro w1
  have hb1 : Blk w1 w.heap.size #[.pointer (some ⟨b, 0, none⟩)] := Blk.alloc _ _ _
  have hk1 : Kept No w w1 := Kept.alloc _ _ _
  clear_value w1
  have hd1 : Blk w1 bd #[tv .disk b, .int .i64 fl, .int .i64 at_, .int .i64 hd] := Blk.keep hd' hk1 (fun e => e)
  have h1 := h.keep hk1 (fun _ _ e => e)
  refine nnI ⟨_, hd1.at (i := 1) rfl, condI (fun hb => ⟨_, (hb1.cell 0).trans rfl, CallR.mono (size_ok h1) ?_⟩) (fun hb => nnI ⟨_, hd1.at (i := 2) rfl, ?_⟩)⟩
  · rintro v w2 ⟨rfl, rfl⟩
    refine ⟨_, rfl, ?_, hk1⟩
    unfold placeF
    rw [if_pos (by simpa [bitI] using hb)]
  · refine ⟨?_, hk1⟩
    unfold placeF
    rw [if_neg (by simpa [bitI] using hb)]

theorem dread_ok {F : Nat → Prop} {w : World} {b bd : Nat} {bs : List Int} {fl hd n : Int} {k : Nat} (h : FileO F w b bs) (hd' : DsO w bd .disk b fl (k : Int) hd) (hk : k ≤ 1048576) (hn1 : 0 ≤ n) (hn2 : n ≤ 1048576) :
    CallR Tryz.prog 287 [.agg #[.pointer (some ⟨b, 0, none⟩)], .pointer (some ⟨bd, 0, none⟩), .int .i64 n] w fun v w' => ∃ a' c', v = .slice a' (piece bs k n).length c' ∧ OB w' a' (piece bs k n).length c' (piece bs k n) ∧ Fresh w a' ∧
      DsO w' bd .disk b fl ((k + (piece bs k n).length : Nat) : Int) hd ∧ Kept (· = bd) w w' := by
  refine C287 ?_
  unfold L287
  intro w1
  have hb1 : Blk w1 w.heap.size #[.pointer (some ⟨b, 0, none⟩)] := Blk.alloc _ _ _
  have hk1 : Kept No w w1 := Kept.alloc _ _ _
  clear_value w1
  intro w2
  have hb2 : Blk w2 w.heap.size #[.pointer (some ⟨b, 0, none⟩)] := hb1.drew
  have hk2 : Kept No w w2 := hk1.no (Kept.drew _ _)
  clear_value w2
  have hd2 : Blk w2 bd #[tv .disk b, .int .i64 fl, .int .i64 (k : Int), .int .i64 hd] := Blk.keep hd' hk2 (fun e => e)
  have h2 := h.keep hk2 (fun _ _ e => e)
  have hbd := Blk.lt hd'
  have hlen := h.len
  refine ⟨_, (hb2.cell 0).trans rfl, nnI ⟨_, hd2.at (i := 2) rfl, CallR.mono (readAt_ok h2 (k : Int) n) ?_⟩⟩
  rintro v w3 ⟨a', c', cs, e, rfl, ho, hf, hk3, hok, _⟩
  obtain ⟨rfl, rfl⟩ := hok (by unfold okN; simp; omega) (by unfold okN; simp; omega)
  have hd3 := hd2.keep hk3 (fun e => e)
  have hpl : (piece bs (k : Int) n).length ≤ 1048576 := by unfold piece; rw [List.length_take, List.length_drop]; omega
  have hlt := ho.lt
  have hz2 := hk2.size
  refine ⟨_, _, _, _, rfl, nnI ⟨_, hd3.at (i := 2) rfl, ⟨by omega, by omega⟩, nnI (stC_at hd3 (i := 2) (by simp) fun w4 hd4 hk4 hs4 => ?_)⟩⟩
  refine ⟨a', c', rfl, ho.keep hk4 (fun x hx e => by have := hf x hx; omega), fun x hx => by have := hf x hx; omega, ?_, ?_⟩
  · show Blk w4 bd _
    have : (((k + (piece bs (k : Int) n).length : Nat)) : Int) = (k : Int) + ((piece bs (k : Int) n).length : Int) := by omega
    rw [this]
    simpa using hd4
  · exact ((hk2.no hk3).mono fun _ _ e => e.elim).trans hk4 fun _ _ e => e

def roomD (p n : Int) : Int × Int := if 1048576 - p > 0 then (mn n (1048576 - p), 0) else (0, 31)

theorem droom_ok {F : Nat → Prop} {w : World} {b bd : Nat} {bs : List Int} {fl at_ hd n : Int} (h : FileO F w b bs) (hd' : DsO w bd .disk b fl at_ hd) (h0 : 0 ≤ at_) (h1 : at_ ≤ 1048576) :
    CallR Tryz.prog 288 [.agg #[.pointer (some ⟨b, 0, none⟩)], .pointer (some ⟨bd, 0, none⟩), .int .i64 n] w fun v w' => v = .tuple #[.int .i64 (roomD (placeF fl at_ bs) n).1, .int .i64 (roomD (placeF fl at_ bs) n).2] ∧ Kept No w w' := by
  refine C288 ?_
  unfold L288
  intro w1
  have hb1 : Blk w1 w.heap.size #[.pointer (some ⟨b, 0, none⟩)] := Blk.alloc _ _ _
  have hk1 : Kept No w w1 := Kept.alloc _ _ _
  clear_value w1
  have hd1 : DsO w1 bd .disk b fl at_ hd := Blk.keep hd' hk1 (fun e => e)
  have hf1 := h.keep hk1 (fun _ _ e => e)
  have hlen := h.len
  refine ⟨_, (hb1.cell 0).trans rfl, CallR.mono (place_ok hf1 hd1) ?_⟩
  rintro v w2 ⟨rfl, hk2⟩
  have hp : 0 ≤ placeF fl at_ bs ∧ placeF fl at_ bs ≤ 1048576 := by
    unfold placeF
    split <;> omega
  refine ⟨_, rfl, ⟨by omega, by omega⟩, condP (fun hr => ⟨?_, hk1.no hk2⟩) (fun hr => ⟨?_, hk1.no hk2⟩)⟩
  · unfold roomD; rw [if_pos hr]
  · unfold roomD; rw [if_neg hr]

theorem dwrite_ok {F : Nat → Prop} {w : World} {b bd : Nat} {bs : List Int} {fl at_ hd most : Int} {a : Option Addr} {l c : Nat} {ds : List Int} (h : FileO F w b bs) (hd' : DsO w bd .disk b fl at_ hd) (h0 : 0 ≤ at_) (h1 : at_ ≤ 1048576)
    (hr : RdB w a l c ds) (hl : l ≤ 140737488355328) (hap : ∀ k, inA a k → ¬ F k ∧ k ≠ bd) (hbF : ¬ F bd) (hm : 0 ≤ most) :
    CallR Tryz.prog 289 [.agg #[.pointer (some ⟨b, 0, none⟩)], .pointer (some ⟨bd, 0, none⟩), .slice a l c, .int .i64 most] w fun v w' => v = .int .i64 ((min l most.toNat : Nat) : Int) ∧
      (∃ F', FileO F' w' b (writeF bs (placeF fl at_ bs) (ds.take (min l most.toNat))).2 ∧ Grew F w F') ∧ DsO w' bd .disk b fl (placeF fl at_ bs + ((min l most.toNat : Nat) : Int)) hd ∧ Kept (fun z => F z ∨ z = bd) w w' := by
  refine C289 ?_
  unfold L289
  have hcl : l ≤ c := hr.2.1
  have hmn : mn (((l : Nat) : Int)) most = ((min l most.toNat : Nat) : Int) := by unfold mn; omega
  rw [hmn]
  have htn : Int.toNat ((min l most.toNat : Nat) : Int) = min l most.toNat := by omega
  rw [htn]
  intro w1
  have hb1 : Blk w1 w.heap.size #[.pointer (some ⟨b, 0, none⟩)] := Blk.alloc _ _ _
  have hk1 : Kept No w w1 := Kept.alloc _ _ _
  clear_value w1
  have hd1 : DsO w1 bd .disk b fl at_ hd := Blk.keep hd' hk1 (fun e => e)
  have hf1 := h.keep hk1 (fun _ _ e => e)
  have hlen := h.len
  have hbd := Blk.lt hd'
  have hflt := h.lt
  have hp : 0 ≤ placeF fl at_ bs ∧ placeF fl at_ bs ≤ 1048576 := by
    unfold placeF
    split <;> omega
  refine ⟨⟨by omega, by omega⟩, _, (hb1.cell 0).trans rfl, CallR.mono (place_ok hf1 hd1) ?_⟩
  rintro v w2 ⟨rfl, hk2⟩
  have hd2 : Blk w2 bd #[tv .disk b, .int .i64 fl, .int .i64 at_, .int .i64 hd] := Blk.keep hd1 hk2 (fun e => e)
  have hb2 := hb1.keep hk2 (fun e => e)
  have k2 := hk1.no hk2
  refine ⟨_, rfl, nnI (stC_at hd2 (i := 2) (by simp) fun w3 hd3 hk3 hs3 => ?_)⟩
  have hd3 : Blk w3 bd #[tv .disk b, .int .i64 fl, .int .i64 (placeF fl at_ bs), .int .i64 hd] := by simpa using hd3
  have hb3 := hb2.keep hk3 (by omega)
  have k3 : Kept (fun z => F z ∨ z = bd) w w3 := (k2.mono fun _ _ e => e.elim).trans hk3 fun _ _ e => .inr e
  have hf3 := (h.keep k2 (fun _ _ e => e)).keep hk3 (fun x hx e => hbF (by rw [← e]; exact hx))
  have hr3 := (hr.keep k2 (fun _ _ _ e => e)).keep hk3 (fun x _ hx e => (hap x hx).2 e)
  intro w4
  have hd4 : Blk w4 bd #[tv .disk b, .int .i64 fl, .int .i64 (placeF fl at_ bs), .int .i64 hd] := hd3.drew
  have hb4 : Blk w4 w.heap.size #[.pointer (some ⟨b, 0, none⟩)] := hb3.drew
  have hf4 : FileO F w4 b bs := hf3.keep (Kept.drew No _) (fun _ _ e => e)
  have hr4 : RdB w4 a l c ds := hr3.keep (Kept.drew No _) (fun _ _ _ e => e)
  have k4 : Kept (fun z => F z ∨ z = bd) w w4 := k3.no (Kept.drew _ _)
  clear_value w4
  have hz4 := k4.size
  refine ⟨_, (hb4.cell 0).trans rfl, nnI ⟨_, hd4.at (i := 2) rfl, CallR.mono (writeAt_ok hf4 (placeF fl at_ bs) (hr4.to (min l most.toNat) (by omega)) (by omega) (fun _ x hx => (hap x hx).1)) ?_⟩⟩
  rintro v w5 ⟨rfl, F', hf5, hg5, hk5⟩
  have hd5 := hd4.keep hk5 hbF
  have hk05 : Kept (fun z => F z ∨ z = bd) w w5 := k4.trans hk5 fun _ _ e => .inl e
  refine ⟨_, rfl, nnI ⟨_, hd5.at (i := 2) rfl, ⟨by omega, by omega⟩, nnI (stC_at hd5 (i := 2) (by simp) fun w6 hd6 hk6 hs6 => ?_)⟩⟩
  have hbF' : ¬ F' bd := fun e => by
    rcases hg5 bd e with e | e
    · exact hbF e
    · omega
  refine ⟨rfl, ⟨F', hf5.keep hk6 (fun x hx e => hbF' (by rw [← e]; exact hx)), fun x hx => ?_⟩, by show Blk w6 bd _; simpa using hd6, hk05.trans hk6 fun _ _ e => .inr e⟩
  rcases hg5 x hx with e | e
  · exact .inl e
  · right; omega

end Go.Proofs.YtkjmlbplmffekaaGreat

namespace Go.Proofs.YtkjmlbplmffekaaGreat
open Go.Lw

theorem condTr2 {A B : Prop} (h : A) : cond true A B := h
theorem condFa2 {A B : Prop} (h : B) : cond false A B := h

abbrev ag (b : Nat) : Value := .agg #[.pointer (some ⟨b, 0, none⟩)]
abbrev pd (b : Nat) : Value := .pointer (some ⟨b, 0, none⟩)

theorem sread_ok {F R : Nat → Prop} {w : World} {b bd : Nat} {LL : List (List Int)} {scr : List Int} (h : TermO F R w b LL scr) (n : Int) :
    CallR Tryz.prog 282 [ag b, pd bd, .int .i64 n] w fun v w' => ∃ a' c', v = .slice a' (readT n LL).2.1.length c' ∧ OB w' a' (readT n LL).2.1.length c' (readT n LL).2.1 ∧ Fresh w a' ∧ Kept (· = b) w w' ∧ TermO F R w' b (readT n LL).2.2 scr := by
  refine C282 ?_
  unfold L282
  intro w1
  have hb1 : Blk w1 w.heap.size #[.pointer (some ⟨b, 0, none⟩)] := Blk.alloc _ _ _
  have hk1 : Kept No w w1 := Kept.alloc _ _ _
  clear_value w1
  have hz := hk1.size
  refine ⟨_, (hb1.cell 0).trans rfl, CallR.mono (tread_ok (h.keep hk1 (fun _ _ e => e) (fun _ _ e => e)) n) ?_⟩
  rintro v w2 ⟨a', c', rfl, ho, hf, hk2, ht⟩
  exact ⟨_, _, _, _, rfl, a', c', rfl, ho, fun x hx => by have := hf x hx; omega, (hk1.mono fun _ _ e => e.elim).trans hk2 fun _ _ e => e, ht⟩

theorem sroom_ok {F R : Nat → Prop} {w : World} {b bd : Nat} {LL : List (List Int)} {scr : List Int} (h : TermO F R w b LL scr) (n : Int) :
    CallR Tryz.prog 283 [ag b, pd bd, .int .i64 n] w fun v w' => v = .tuple #[.int .i64 (roomD (scr.length : Int) n).1, .int .i64 (roomD (scr.length : Int) n).2] ∧ Kept No w w' := by
  refine C283 ?_
  unfold L283
  intro w1
  have hb1 : Blk w1 w.heap.size #[.pointer (some ⟨b, 0, none⟩)] := Blk.alloc _ _ _
  have hk1 : Kept No w w1 := Kept.alloc _ _ _
  clear_value w1
  have hs := h.scr
  refine ⟨_, (hb1.cell 0).trans rfl, CallR.mono (tscreen_ok (h.keep hk1 (fun _ _ e => e) (fun _ _ e => e))) ?_⟩
  rintro v w2 ⟨a', c', rfl, _, _, hk2⟩
  refine ⟨_, _, _, rfl, ⟨by omega, by omega⟩, condP (fun hr => ⟨?_, hk1.no hk2⟩) (fun hr => ⟨?_, hk1.no hk2⟩)⟩
  · unfold roomD; rw [if_pos hr]
  · unfold roomD; rw [if_neg hr]

theorem swrite_ok {F R : Nat → Prop} {w : World} {b bd : Nat} {LL : List (List Int)} {scr : List Int} (h : TermO F R w b LL scr) {a : Option Addr} {l c : Nat} {ds : List Int} (hr : RdB w a l c ds) (hl : l ≤ 140737488355328) {most : Int} (hm : 0 ≤ most) :
    CallR Tryz.prog 284 [ag b, pd bd, .slice a l c, .int .i64 most] w fun v w' => v = .int .i64 ((min l most.toNat : Nat) : Int) ∧ ∃ F', TermO F' R w' b LL (writeT (ds.take (min l most.toNat)) scr).2 ∧ (∀ k, F' k → F k ∨ w.heap.size ≤ k) ∧ Kept F w w' := by
  refine C284 ?_
  unfold L284
  have hcl : l ≤ c := hr.2.1
  have hmn : mn (((l : Nat) : Int)) most = ((min l most.toNat : Nat) : Int) := by unfold mn; omega
  rw [hmn]
  have htn : Int.toNat ((min l most.toNat : Nat) : Int) = min l most.toNat := by omega
  rw [htn]
  intro w1
  have hb1 : Blk w1 w.heap.size #[.pointer (some ⟨b, 0, none⟩)] := Blk.alloc _ _ _
  have hk1 : Kept No w w1 := Kept.alloc _ _ _
  clear_value w1
  have hz := hk1.size
  refine ⟨⟨by omega, by omega⟩, _, (hb1.cell 0).trans rfl, CallR.mono (twrite_ok (h.keep hk1 (fun _ _ e => e) (fun _ _ e => e)) ((hr.keep hk1 fun _ _ _ e => e).to (min l most.toNat) (by omega)) (by omega)) ?_⟩
  rintro v w2 ⟨rfl, F', ht, hg, hk2⟩
  exact ⟨_, rfl, rfl, F', ht, fun x hx => by
    rcases hg x hx with e | e
    · exact .inl e
    · right; omega, (hk1.mono fun _ _ e => e.elim).trans hk2 fun _ _ e => e⟩

theorem cread_ok' {w : World} {b bd : Nat} {bs : List Int} {e0 e1 : Nat} (h : PipeO w b bs e0 e1) (n : Int) :
    CallR Tryz.prog 301 [ag b, pd bd, .int .i64 n] w fun v w' => ∃ a l c, v = .slice a l c ∧ OB w' a l c (readP n bs e0 e1).1 ∧ Fresh w a ∧ PipeO w' b (readP n bs e0 e1).2.2 e0 e1 ∧ Kept (· = b) w w' := by
  refine C301 ?_
  unfold L301
  intro w1
  have hb1 : Blk w1 w.heap.size #[.pointer (some ⟨b, 0, none⟩)] := Blk.alloc _ _ _
  have hk1 : Kept No w w1 := Kept.alloc _ _ _
  clear_value w1
  have hz := hk1.size
  refine ⟨_, (hb1.cell 0).trans rfl, CallR.mono (kread_ok (h.keep hk1 (fun e => e)) n) ?_⟩
  rintro v w2 ⟨a, l, c, rfl, ho, hf, hp, hk2⟩
  exact ⟨_, _, _, _, rfl, a, l, c, rfl, ho, fun x hx => by have := hf x hx; omega, hp, (hk1.mono fun _ _ e => e.elim).trans hk2 fun _ _ e => e⟩

/-- Room in a pipe, by the kernel: nobody reads; it would wait; all. -/
def roomC (n : Int) (bs : List Int) (e0 e1 : Nat) : Int × Int := if e0 = 0 then (0, 53) else if canWP n bs e0 e1 = false then (0, 52) else (n, 0)

theorem croom_ok {w : World} {b bd : Nat} {bs : List Int} {e0 e1 : Nat} (h : PipeO w b bs e0 e1) (n : Int) :
    CallR Tryz.prog 302 [ag b, pd bd, .int .i64 n] w fun v w' => v = .tuple #[.int .i64 (roomC n bs e0 e1).1, .int .i64 (roomC n bs e0 e1).2] ∧ Kept No w w' := by
  refine C302 ?_
  unfold L302
  intro w1
  have hb1 : Blk w1 w.heap.size #[.pointer (some ⟨b, 0, none⟩)] := Blk.alloc _ _ _
  have hk1 : Kept No w w1 := Kept.alloc _ _ _
  clear_value w1
  refine ⟨_, (hb1.cell 0).trans rfl, kends_to (h.keep hk1 (fun e => e)) fun nd => ?_⟩
  have hk2 : Kept No w (w1.drewN nd) := hk1.no (Kept.drewN _ _ _)
  have hb2 : Blk (w1.drewN nd) w.heap.size #[.pointer (some ⟨b, 0, none⟩)] := hb1.drewN nd
  generalize w1.drewN nd = w2 at hk2 hb2 ⊢
  refine ⟨_, _, rfl, condI (fun he => ⟨?_, hk2⟩) (fun he => ⟨_, (hb2.cell 0).trans rfl, kcanw_to (h.keep hk2 (fun e => e)) n ⟨_, rfl, condI (fun hc => ⟨?_, hk2⟩) (fun hc => ⟨?_, hk2⟩)⟩⟩)⟩
  · have : e0 = 0 := by simpa using he
    unfold roomC; rw [if_pos this]
  · have : ¬ e0 = 0 := by simpa using he
    unfold roomC; rw [if_neg this, if_pos (notT hc)]
  · have : ¬ e0 = 0 := by simpa using he
    unfold roomC; rw [if_neg this, if_neg (by rw [notF hc]; simp)]

theorem cwrite_ok' {w : World} {b bd : Nat} {bs : List Int} {e0 e1 : Nat} (h : PipeO w b bs e0 e1) {a : Option Addr} {l c : Nat} {ds : List Int} (hd : RdB w a l c ds) (hab : ds ≠ [] → ¬ inA a b) (most : Int) :
    CallR Tryz.prog 303 [ag b, pd bd, .slice a l c, .int .i64 most] w fun v w' => v = .int .i64 (writeP ds most bs e0 e1).1 ∧ PipeO w' b (writeP ds most bs e0 e1).2.2 e0 e1 ∧ Kept (· = b) w w' := by
  refine C303 ?_
  unfold L303
  intro w1
  have hb1 : Blk w1 w.heap.size #[.pointer (some ⟨b, 0, none⟩)] := Blk.alloc _ _ _
  have hk1 : Kept No w w1 := Kept.alloc _ _ _
  clear_value w1
  refine ⟨_, (hb1.cell 0).trans rfl, CallR.mono (kwrite_ok (h.keep hk1 (fun e => e)) (hd.keep hk1 fun _ _ _ e => e) hab hd.2.1 most) ?_⟩
  rintro v w2 ⟨rfl, hp, hk2⟩
  exact ⟨_, _, rfl, rfl, hp, (hk1.mono fun _ _ e => e.elim).trans hk2 fun _ _ e => e⟩

theorem cdrop_ok {w : World} {b bd : Nat} {bs : List Int} {e0 e1 : Nat} {k : TK} {o : Nat} {fl at_ hd : Int} (h : PipeO w b bs e0 e1) (hds : DsO w bd k o fl at_ hd) :
    CallR Tryz.prog 299 [ag b, pd bd] w fun v w' => v = .tuple #[] ∧ PipeO w' b bs (leaveP (bitI fl 2 != 0) e0 e1).2.1 (leaveP (bitI fl 2 != 0) e0 e1).2.2 ∧ Kept (· = b) w w' := by
  refine C299 ?_
  unfold L299
  intro w1
  have hb1 : Blk w1 w.heap.size #[.pointer (some ⟨b, 0, none⟩)] := Blk.alloc _ _ _
  have hk1 : Kept No w w1 := Kept.alloc _ _ _
  clear_value w1
  intro w2
  have hb2 : Blk w2 w.heap.size #[.pointer (some ⟨b, 0, none⟩)] := hb1.drew
  have hk2 : Kept No w w2 := hk1.no (Kept.drew _ _)
  clear_value w2
  have hd2 : Blk w2 bd #[tv k o, .int .i64 fl, .int .i64 at_, .int .i64 hd] := Blk.keep hds hk2 (fun e => e)
  refine ⟨_, (hb2.cell 0).trans rfl, nnI ⟨_, hd2.at (i := 1) rfl, CallR.mono (kleave_ok (h.keep hk2 (fun e => e)) _) ?_⟩⟩
  rintro v w3 ⟨rfl, hp, hk3⟩
  exact ⟨_, rfl, rfl, hp, (hk2.mono fun _ _ e => e.elim).trans hk3 fun _ _ e => e⟩

/-- Would a read wait? -/
theorem waits_ok {w : World} {bd : Nat} {k : TK} {b : Nat} {fl at_ hd : Int} (h : DsO w bd k b fl at_ hd) {bs : List Int} {e0 e1 : Nat} (hp : k = .con → PipeO w b bs e0 e1) :
    CallR Tryz.prog 93 [pd bd] w fun v w' => v = .bool (if k = .con then !canRP bs e0 e1 else false) ∧ Kept No w w' := by
  refine C93 ?_
  unfold L93
  refine nnI ⟨_, Blk.at0 h rfl, ?_⟩
  by_cases hk : k = .con
  · have ht := tv_con k b w
    rw [if_pos hk] at ht
    refine ⟨_, _, _, ht, ?_⟩
    intro w2
    have hb2 : Blk w2 w.heap.size #[.pointer none] := Blk.alloc _ _ _
    have hk2 : Kept No w w2 := Kept.alloc _ _ _
    clear_value w2
    refine stC_blk hb2 (by simp) fun w3 hb3 hk3 _ => condTr2 ?_
    have hb3 : Blk w3 w.heap.size #[.pointer (some ⟨b, 0, none⟩)] := by simpa using hb3
    have k3 : Kept No w w3 := hk2.fresh hk3 (fun x e => by omega)
    refine ⟨_, (hb3.cell 0).trans rfl, kcanr_to ((hp hk).keep k3 (fun e => e)) ⟨_, rfl, ?_, k3⟩⟩
    rw [if_pos hk]
  · have ht := tv_con k b w
    rw [if_neg hk] at ht
    refine ⟨_, _, _, ht, ?_⟩
    intro w2
    have hb2 : Blk w2 w.heap.size #[.pointer none] := Blk.alloc _ _ _
    have hk2 : Kept No w w2 := Kept.alloc _ _ _
    clear_value w2
    refine stC_blk hb2 (by simp) fun w3 hb3 hk3 _ => condFa2 ⟨?_, hk2.fresh hk3 (fun x e => by omega)⟩
    rw [if_neg hk]

end Go.Proofs.YtkjmlbplmffekaaGreat
