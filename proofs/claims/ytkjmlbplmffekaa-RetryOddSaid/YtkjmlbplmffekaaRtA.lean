
/-
  The example of retry's law. Conditions: none.
-/
import Derived.Test.YtkjmlbplmffekaaRt
set_option linter.unusedVariables false
namespace Go.Proofs.Ytkjmlbplmffekaa
open Go.Lw

theorem rnum_to {w : World} {n : Int} {Q : Value → World → Prop} (h : Q (.int .i64 n) w) : CallR Try.prog 25 [.int .i64 n] w Q := C25 h

theorem str_is8 {s : ByteArray} {bs : List Int} (h : strOfNums bs = s) : (ByteArray.toList (strOfNums bs) == ByteArray.toList s) = true := by rw [h]; exact beq_self_eq_true _

def ex8 : List (ByteArray × List Int) := [(ByteArray.mk #[97], [104, 101, 108, 108, 111])]
def ps8 : List (Int × Int) := [(1, 1), (2, 0), (3, 0), (1, 2)]

theorem ex8_ck : checkK ex8 [] ps8 = 0 := by kernel_rfl
theorem ex8_open : ((AK.new ex8 [] ps8).open_ (ByteArray.mk #[97]) 1).1 = 1 ∧ ((AK.new ex8 [] ps8).open_ (ByteArray.mk #[97]) 1).2.1 = 0 := ⟨by kernel_rfl, by kernel_rfl⟩
theorem ex8_all : (((AK.new ex8 [] ps8).open_ (ByteArray.mk #[97]) 1).2.2.rall 1 5).1 = [104, 101, 108, 108, 111] ∧ (((AK.new ex8 [] ps8).open_ (ByteArray.mk #[97]) 1).2.2.rall 1 5).2.1 = 0 := ⟨by kernel_rfl, by kernel_rfl⟩
theorem ex8_c : ((AK.new ex8 [] ps8).open_ (ByteArray.mk #[97]) 1).2.2.c0 = 0 := by kernel_rfl

/-- A list of one named thing. -/
theorem rdN_one {α : Type} {R : World → Slc → α → Prop} {w : World} {b : Nat} {nm : ByteArray} {s : Slc} {x : α} (hb : Blk w b #[.string nm, .slice s.1 s.2.1 s.2.2]) (hR : R w s x) : RdN R w (some ⟨b, 0, none⟩) 1 1 [(nm, x)] [(nm, s)] :=
  ⟨(SlO.of_blk (sz := 2) (n := 1) hb (by simp)).rd, rfl, fun i h1 h2 => by
    have : i = 0 := by simpa using h1
    subst this
    exact ⟨rfl, hR⟩⟩
theorem rdN_nil {α : Type} {R : World → Slc → α → Prop} {w : World} : RdN R w none 0 0 ([] : List (ByteArray × α)) [] :=
  ⟨RdS.nil 2 w, rfl, fun i h1 h2 => by simp at h1⟩

theorem alive8_ok {w : World} : CallR Try.prog 22 [] w fun v w' => v = .bool true ∧ Kept No w w' := by
  refine C22 ?_
  unfold L22
  intro w1
  obtain ⟨w2, hrun, hrd, hk2, hs2⟩ := run_const (P := Try.prog) w (t := 36) (e := 5) (by kernel_rfl) [104, 101, 108, 108, 111]
  refine ⟨_, _, _, w2, hrun, ?_⟩
  intro w3 w4
  have hb3 : Blk w3 w2.heap.size #[.string (ByteArray.mk #[97]), .slice (some ⟨w.heap.size, 0, none⟩) 5 5] := Blk.alloc _ _ _
  have hk3 : Kept No w2 w3 := Kept.alloc _ _ _
  clear_value w3
  have hb4 : Blk w4 w3.heap.size #[.int .i64 1, .int .i64 1, .int .i64 2, .int .i64 0, .int .i64 3, .int .i64 0, .int .i64 1, .int .i64 2] := Blk.alloc _ _ _
  have hk4 : Kept No w3 w4 := Kept.alloc _ _ _
  clear_value w4
  have k4 := (hk2.no hk3).no hk4
  have hR : RB w4 (some ⟨w.heap.size, 0, none⟩, 5, 5) [104, 101, 108, 108, 111] := RB.no (RB.no (s := (some ⟨w.heap.size, 0, none⟩, 5, 5)) hrd hk3) hk4
  have hps : RdS 2 w4 (some ⟨w3.heap.size, 0, none⟩) 4 4 (Fv ps8) := (SlO.of_blk (sz := 2) (n := 4) hb4 (by simp)).rd
  refine CallR.mono (kernNew_ok (rdN_one (R := RB) (hb3.keep hk4 fun e => e) hR) (rdN_nil (R := RL)) hps (by omega) (by omega)) ?_
  rintro v w5 ⟨hk5, ⟨hne, _⟩ | ⟨_, gk, L, rfl, h5, hL⟩⟩
  · exact absurd ex8_ck hne
  refine ⟨_, _, rfl, rnum_to ⟨_, rfl, condFa2 (condFa2 ?_)⟩⟩
  have k5 := k4.no hk5
  refine CallR.mono (kernOpen_ok h5 (ByteArray.mk #[97]) 1 (by rw [(AK.new_is _ _ _).2.2.2.1]; omega)) ?_
  rintro v w7 ⟨rfl, L7, h7, st7⟩
  have h7 : KernO w7 gk ((AK.new ex8 [] ps8).open_ (ByteArray.mk #[97]) 1).2.2 L7 := h7
  have e1 : ((AK.new [(ByteArray.mk #[97], [104, 101, 108, 108, 111])] [] ps8).open_ (ByteArray.mk #[97]) 1).1 = 1 := ex8_open.1
  have e2 : ((AK.new [(ByteArray.mk #[97], [104, 101, 108, 108, 111])] [] ps8).open_ (ByteArray.mk #[97]) 1).2.1 = 0 := ex8_open.2
  rw [e1, e2]
  refine ⟨_, _, rfl, CallR.mono (rall_ok h7 1 5 (by rw [ex8_c]; omega)) ?_⟩
  rintro v w8 ⟨a, l, c, L8, rfl, ob, hf, h8, st8, _⟩
  rw [ex8_all.2]
  rw [ex8_all.1] at ob
  refine ⟨_, _, _, _, rfl, rnum_to ⟨_, rfl, rnum_to ⟨_, rfl, ⟨by omega, by omega⟩, condTr2 ⟨_, w8, run_str w8 (t := 36) (ts := 9) (by kernel_rfl) (by kernel_rfl) ob.rd, ?_, ?_⟩⟩⟩⟩
  · rw [str_is8 (by kernel_rfl)]
  · refine k5.trans (st7.trans st8).kept fun x hx e => ?_
    have := hL x e
    have := k4.size
    omega

end Go.Proofs.Ytkjmlbplmffekaa
