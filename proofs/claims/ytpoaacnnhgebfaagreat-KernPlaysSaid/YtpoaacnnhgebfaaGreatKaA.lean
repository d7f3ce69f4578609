/-
  The example of the kernel's law. Conditions: none.
-/
import Derived.Test.YtpoaacnnhgebfaaGreatKeK
import Derived.Test.YtpoaacnnhgebfaaGreatKeN
import Derived.Test.YtpoaacnnhgebfaaGreatKeP
import Derived.Test.YtpoaacnnhgebfaaGreatLRt
set_option linter.unusedVariables false
namespace Go.Proofs.YtpoaacnnhgebfaaGreat
open Go.Lw

theorem lnum_to {w : World} {n : Int} {Q : Value → World → Prop} (h : Q (.int .i64 n) w) : CallR Tryz.prog 11 [.int .i64 n] w Q := C11 h

theorem str_is6 {s : ByteArray} {bs : List Int} (h : strOfNums bs = s) : (ByteArray.toList (strOfNums bs) == ByteArray.toList s) = true := by rw [h]; exact beq_self_eq_true _

/-- A list of one named thing. -/
theorem rdN_one6 {α : Type} {R : World → Slc → α → Prop} {w : World} {b : Nat} {nm : ByteArray} {s : Slc} {x : α} (hb : Blk w b #[.string nm, .slice s.1 s.2.1 s.2.2]) (hR : R w s x) : RdN R w (some ⟨b, 0, none⟩) 1 1 [(nm, x)] [(nm, s)] :=
  ⟨(SlO.of_blk (sz := 2) (n := 1) hb (by simp)).rd, rfl, fun i h1 h2 => by
    have : i = 0 := by simpa using h1
    subst this
    exact ⟨rfl, hR⟩⟩
theorem rdN_nil6 {α : Type} {R : World → Slc → α → Prop} {w : World} : RdN R w none 0 0 ([] : List (ByteArray × α)) [] :=
  ⟨RdS.nil 2 w, rfl, fun i h1 h2 => by simp at h1⟩

theorem KStep.no_of {W w0 w : World} {L0 L : KL} (k : Kept No W w0) (st : KStep w0 w L0 L) (hL : ∀ z, L0.own z ≠ none → W.heap.size ≤ z) : Kept No W w :=
  k.trans st.kept fun x hx e => by have := hL x e; omega

def ex6 : List (ByteArray × List Int) := [(ByteArray.mk #[97], [104, 101, 108, 108, 111])]
def ps6 : List (Int × Int) := [(1, 2), (2, 0)]
def k6a : AK := ((AK.new ex6 [] ps6).open_ (ByteArray.mk #[97]) 1).2.2
def k6b : AK := (k6a.read 1 5).2.2
def k6c : AK := (k6b.read 1 5).2.2
def k6d : AK := (k6c.read 1 5).2.2
def k6e : AK := (k6d.open_ (ByteArray.mk #[98]) 1).2.2
def k6f : AK := (k6e.open_ (ByteArray.mk #[98]) 42).2.2

theorem hello_ok {w : World} : CallR Tryz.prog 90 [] w fun v w' => Kept No w w' ∧ ∃ gk L, v = pd gk ∧ KernO w' gk (AK.new ex6 [] ps6) L ∧ ∀ z, L.own z ≠ none → w.heap.size ≤ z := by
  refine C90 ?_
  unfold L90
  intro w1
  obtain ⟨w2, hrun, hrd, hk2, hs2⟩ := run_const (P := Tryz.prog) w (t := 40) (e := 5) (by kernel_rfl) [104, 101, 108, 108, 111]
  refine ⟨_, _, _, w2, hrun, ?_⟩
  intro w3 w4
  have hb3 : Blk w3 w2.heap.size #[.string (ByteArray.mk #[97]), .slice (some ⟨w.heap.size, 0, none⟩) 5 5] := Blk.alloc _ _ _
  have hk3 : Kept No w2 w3 := Kept.alloc _ _ _
  clear_value w3
  have hb4 : Blk w4 w3.heap.size #[.int .i64 1, .int .i64 2, .int .i64 2, .int .i64 0] := Blk.alloc _ _ _
  have hk4 : Kept No w3 w4 := Kept.alloc _ _ _
  clear_value w4
  have k4 := (hk2.no hk3).no hk4
  have hR : RB w4 (some ⟨w.heap.size, 0, none⟩, 5, 5) [104, 101, 108, 108, 111] := RB.no (RB.no (s := (some ⟨w.heap.size, 0, none⟩, 5, 5)) hrd hk3) hk4
  have hps : RdS 2 w4 (some ⟨w3.heap.size, 0, none⟩) 2 2 (Fv ps6) := (SlO.of_blk (sz := 2) (n := 2) hb4 (by simp)).rd
  refine CallR.mono (kernNew_ok (rdN_one6 (R := RB) (hb3.keep hk4 fun e => e) hR) (rdN_nil6 (R := RL)) hps (by omega) (by omega)) ?_
  rintro v w5 ⟨hk5, ⟨hne, _⟩ | ⟨_, gk, L, rfl, h5, hL⟩⟩
  · exact absurd (by kernel_rfl : checkK ex6 [] ps6 = 0) hne
  exact ⟨_, _, rfl, k4.no hk5, gk, L, rfl, h5, fun z hz => by have := hL z hz; have := k4.size; omega⟩

theorem alive6_ok {w : World} : CallR Tryz.prog 15 [] w fun v w' => v = .bool true ∧ Kept No w w' := by
  refine C15 ?_
  unfold L15
  refine CallR.mono hello_ok ?_
  rintro v w1 ⟨hk1, gk, L1, rfl, h1, hL⟩
  refine ⟨_, rfl, condFa2 ?_⟩
  refine CallR.mono (kernOpen_ok h1 (ByteArray.mk #[97]) 1 (by rw [(AK.new_is _ _ _).2.2.2.1]; omega)) ?_
  rintro v w2 ⟨rfl, L2, h2, st2⟩
  have h2 : KernO w2 gk k6a L2 := h2
  have e1 : ((AK.new ex6 [] ps6).open_ (ByteArray.mk #[97]) 1).1 = 1 := by kernel_rfl
  have e2 : ((AK.new ex6 [] ps6).open_ (ByteArray.mk #[97]) 1).2.1 = 0 := by kernel_rfl
  rw [e1, e2]
  have ca : k6a.c0 = 0 := by kernel_rfl
  have cb : k6b.c0 = 1 := by kernel_rfl
  have cc : k6c.c0 = 2 := by kernel_rfl
  refine ⟨_, _, rfl, CallR.mono (kernRead_ok h2 1 5 (by omega)) ?_⟩
  rintro v w3 ⟨a6, l6, c6, L3, rfl, ob6, hf6, h3, st3, f6⟩
  have h3 : KernO w3 gk k6b L3 := h3
  rw [show (k6a.read 1 5).2.1 = 0 by kernel_rfl]
  rw [show (k6a.read 1 5).1 = [104, 101] by kernel_rfl] at ob6
  refine ⟨_, _, _, _, rfl, CallR.mono (kernRead_ok h3 1 5 (by omega)) ?_⟩
  rintro v w4 ⟨a9, l9, c9, L4, rfl, ob9, hf9, h4, st4, _⟩
  have h4 : KernO w4 gk k6c L4 := h4
  rw [show (k6b.read 1 5).2.1 = 22 by kernel_rfl]
  refine ⟨_, _, _, _, rfl, CallR.mono (kernRead_ok h4 1 5 (by omega)) ?_⟩
  rintro v w5 ⟨a12, l12, c12, L5, rfl, ob12, hf12, h5, st5, f12⟩
  have h5 : KernO w5 gk k6d L5 := h5
  rw [show (k6c.read 1 5).2.1 = 0 by kernel_rfl]
  rw [show (k6c.read 1 5).1 = [108, 108, 111] by kernel_rfl] at ob12
  have hn : k6d.next = 2 := by kernel_rfl
  refine ⟨_, _, _, _, rfl, CallR.mono (kernOpen_ok h5 (ByteArray.mk #[98]) 1 (by omega)) ?_⟩
  rintro v w6 ⟨rfl, L6, h6, st6⟩
  have h6 : KernO w6 gk k6e L6 := h6
  rw [show (k6d.open_ (ByteArray.mk #[98]) 1).2.1 = 62 by kernel_rfl]
  have hn : k6e.next = 2 := by kernel_rfl
  refine ⟨_, _, rfl, CallR.mono (kernOpen_ok h6 (ByteArray.mk #[98]) 42 (by omega)) ?_⟩
  rintro v w7 ⟨rfl, L7, h7, st7⟩
  have h7 : KernO w7 gk k6f L7 := h7
  rw [show (k6e.open_ (ByteArray.mk #[98]) 42).2.1 = 0 by kernel_rfl, show (k6e.open_ (ByteArray.mk #[98]) 42).1 = 2 by kernel_rfl]
  have hn : k6f.next = 3 := by kernel_rfl
  refine ⟨_, _, rfl, CallR.mono (kernOpen_ok h7 (ByteArray.mk #[98]) 42 (by omega)) ?_⟩
  rintro v w8 ⟨rfl, L8, h8, st8⟩
  rw [show (k6f.open_ (ByteArray.mk #[98]) 42).2.1 = 63 by kernel_rfl]
  -- what was read stays
  have hz3 := SlO.lt ob6
  have hz5 := SlO.lt ob12
  have st38 := ((((st4.trans st5).trans st6).trans st7).trans st8)
  have st58 := ((st6.trans st7).trans st8)
  have r6 : RdB w8 a6 l6 c6 [104, 101] := ob6.rd.keep st38.kept fun b _ hb e => e (f6 b hb)
  have r12 : RdB w8 a12 l12 c12 [108, 108, 111] := ob12.rd.keep st58.kept fun b _ hb e => e (f12 b hb)
  refine ⟨_, _, rfl, lnum_to ⟨_, rfl, lnum_to ⟨_, rfl, ⟨by omega, by omega⟩, lnum_to ⟨_, rfl, ⟨by omega, by omega⟩, lnum_to ⟨_, rfl, ⟨by omega, by omega⟩, condTr2 (condTr2 (condTr2 ⟨_, w8, run_str w8 (t := 40) (ts := 9) (by kernel_rfl) (by kernel_rfl) r6, condT (str_is6 (by kernel_rfl)) ⟨_, w8, run_str w8 (t := 40) (ts := 9) (by kernel_rfl) (by kernel_rfl) r12, condT (str_is6 (by kernel_rfl)) ?_⟩⟩))⟩⟩⟩⟩⟩
  refine lnum_to ⟨_, rfl, condTr2 (lnum_to ⟨_, rfl, condTr2 (lnum_to ⟨_, rfl, rfl, ?_⟩)⟩)⟩
  exact KStep.no_of hk1 (((st2.trans st3).trans st38)) hL

end Go.Proofs.YtpoaacnnhgebfaaGreat
