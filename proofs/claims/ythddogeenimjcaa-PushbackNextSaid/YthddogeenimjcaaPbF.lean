/-
  Whether two streams' states are the same; the page's example of bytes put back. Conditions: as each says.
-/
import Derived.Test.YthddogeenimjcaaPbE
import Derived.Test.YthddogeenimjcaaLr
set_option linter.unusedVariables false
namespace Go.Lw
theorem Blk.no' {w w' : World} {g : Nat} {cur : Array Value} (h : Blk w g cur) (k : Kept No w w') : Blk w' g cur := h.keep k fun e => e

end Go.Lw
namespace Go.Proofs.Ythddogeenimjcaa
open Go.Lw

theorem str_is3 {s : ByteArray} {bs : List Int} (h : strOfNums bs = s) : (ByteArray.toList (strOfNums bs) == ByteArray.toList s) = true := by rw [h]; exact beq_self_eq_true _

theorem pnum_to {n : Int} {w : World} {Q : Value → World → Prop} (h : Q (.int .i64 n) w) : CallR Try.prog 15 [.int .i64 n] w Q := by
  refine C15 ?_
  unfold L15
  exact h

theorem beqT {α : Type} [BEq α] [LawfulBEq α] (a : α) {A B : Prop} (h : A) : cond (a == a) A B := by rw [beq_self_eq_true]; exact h

theorem same3_ok {w : World} {p : Pu} {s t : Sl3} (h : Rd3 w s p) (h2 : Rd3 w t p) (hbd : Bd p) :
    CallR Try.prog 14 [.agg (cs p s), .agg (cs p t)] w fun v w' => v = .bool true ∧ Kept No w w' := by
  refine C14 ?_
  unfold L14
  intro w1 w2
  have hb1 : Blk w1 w.heap.size (cs p s) := Blk.alloc _ _ _
  have hk1 : Kept No w w1 := Kept.alloc _ _ _
  clear_value w1
  have hb2 : Blk w2 w1.heap.size (cs p t) := Blk.alloc _ _ _
  have hk2 : Kept No w1 w2 := Kept.alloc _ _ _
  clear_value w2
  have hb12 := hb1.keep hk2 (fun e => e)
  have hk02 := hk1.no hk2
  have r1 := h.no hk02
  have r2 := h2.no hk02
  obtain ⟨B1, B2, B3⟩ := hbd
  refine ⟨_, (hb12.cell 0).trans rfl, _, (hb2.cell 0).trans rfl, beqT _ ⟨_, (hb12.cell 1).trans rfl, _, (hb2.cell 1).trans rfl, beqT _ ⟨_, (hb12.cell 2).trans rfl, _, (hb2.cell 2).trans rfl, beqT _ ⟨_, (hb12.cell 3).trans rfl, _, (hb2.cell 3).trans rfl, beqT _ ?_⟩⟩⟩⟩
  refine ⟨_, _, _, (hb12.cell 4).trans rfl, _, _, _, (hb2.cell 4).trans rfl, CallR.mono (same_ok r1.1 r2.1 (by rw [← r1.1.len]; exact B1)) ?_⟩
  rintro v w3 ⟨rfl, hk3, _⟩
  refine ⟨_, rfl, condT (by simp) ⟨_, _, _, ((hb12.keep hk3 fun e => e).cell 5).trans rfl, _, _, _, ((hb2.keep hk3 fun e => e).cell 5).trans rfl, CallR.mono (same_ok (r1.no hk3).2.1 (r2.no hk3).2.1 (by rw [← r1.2.1.len]; exact B2)) ?_⟩⟩
  rintro v w4 ⟨rfl, hk4, _⟩
  have hk24 := hk3.no hk4
  refine ⟨_, rfl, condT (by simp) ⟨_, _, _, ((hb12.keep hk24 fun e => e).cell 6).trans rfl, _, _, _, ((hb2.keep hk24 fun e => e).cell 6).trans rfl, CallR.mono (same_ok (r1.no hk24).2.2 (r2.no hk24).2.2 (by rw [← r1.2.2.len]; exact B3)) ?_⟩⟩
  rintro v w5 ⟨rfl, hk5, _⟩
  have hk25 := hk24.no hk5
  have c1 := hb12.keep hk25 fun e => e
  have c2 := hb2.keep hk25 fun e => e
  exact ⟨_, rfl, condT (by simp) ⟨_, (c1.cell 7).trans rfl, _, (c2.cell 7).trans rfl, beqT _ ⟨_, (c1.cell 8).trans rfl, _, (c2.cell 8).trans rfl, beqT _ ⟨_, (c1.cell 9).trans rfl, _, (c2.cell 9).trans rfl, beqT _ ⟨_, (c1.cell 10).trans rfl, _, (c2.cell 10).trans rfl, by rw [beq_self_eq_true], hk02.no hk25⟩⟩⟩⟩⟩

/-- A stream that reads. -/
def rdP : Pu := ⟨true, false, 3, 4, [], [], [], 0, false, false, false⟩

theorem rdP_rd (w : World) : Rd3 w Sl3.no rdP := ⟨RdB.nil w, RdB.nil w, RdB.nil w⟩

theorem new_ok {w : World} : CallR Try.prog 20 [.agg #[.bool true, .bool false, .bool false, .bool false, .bool false, .bool false, .bool false, .bool false], .int .i64 3, .int .i64 4] w
    fun v w' => v = .tuple #[.agg (cs rdP Sl3.no), .int .i64 0] ∧ Kept No w w' := by
  refine C20 ?_
  unfold L20
  intro w1 w2
  have hb1 : Blk w1 w.heap.size ({ Md.no with r := true } : Md).cs := Blk.alloc _ _ _
  have hk1 : Kept No w w1 := Kept.alloc _ _ _
  clear_value w1
  have hb2 : Blk w2 w1.heap.size (cs ⟨false, false, 0, 0, [], [], [], 0, false, false, false⟩ Sl3.no) := Blk.alloc _ _ _
  have hk2 : Kept No w1 w2 := Kept.alloc _ _ _
  clear_value w2
  have hb12 := hb1.keep hk2 (fun e => e)
  have hk02 := hk1.no hk2
  have hlt1 := hb1.lt
  refine ld8 hb12 (CallR.mono (ocheck_ok { Md.no with r := true }) ?_)
  rintro v w3 ⟨rfl, hk3⟩
  have e0 : (printM { Md.no with r := true }).2 = 0 := by decide +kernel
  rw [e0]
  refine ⟨_, rfl, condF rfl (CallR.mono (buf_ok 3 4) ?_)⟩
  rintro v w4 ⟨rfl, rfl⟩
  have hb13 := hb12.keep hk3 (fun e => e)
  have hb23 := hb2.keep hk3 (fun e => e)
  refine ⟨_, rfl, condF rfl ⟨_, (hb13.cell 0).trans rfl, _, (hb13.cell 1).trans rfl, ?_⟩⟩
  refine st11 (p := rdP) (s := Sl3.no) hb23 rfl fun w5 hb5 hk5 => ld11 hb5 ⟨rfl, ?_⟩
  exact (hk02.no hk3).fresh hk5 (fun x e => by omega)

theorem reading_ok {w : World} : CallR Try.prog 27 [] w fun v w' => v = .agg (cs rdP Sl3.no) ∧ Kept No w w' := by
  refine C27 ?_
  unfold L27
  intro w1
  have hb1 : Blk w1 w.heap.size (cs ⟨false, false, 0, 0, [], [], [], 0, false, false, false⟩ Sl3.no) := Blk.alloc _ _ _
  have hk1 : Kept No w w1 := Kept.alloc _ _ _
  clear_value w1
  have hlt1 := hb1.lt
  refine CallR.mono new_ok ?_
  rintro v w2 ⟨rfl, hk2⟩
  refine ⟨_, _, _, _, _, _, _, _, _, _, _, _, _, _, _, _, _, _, rfl, ?_⟩
  intro w3
  have hb3 : Blk w3 w2.heap.size (cs ⟨false, false, 0, 0, [], [], [], 0, false, false, false⟩ Sl3.no) := Blk.alloc _ _ _
  have hk3 : Kept No w2 w3 := Kept.alloc _ _ _
  clear_value w3
  have hz2 : w1.heap.size ≤ w2.heap.size := hk2.size
  refine st11 (p := rdP) (s := Sl3.no) hb3 rfl fun w14 hb14 hk14 => ld11 hb14 ?_
  have hb1' := ((hb1.keep hk2 fun e => e).keep hk3 fun e => e).keep hk14 (by omega)
  refine st11 (p := rdP) (s := Sl3.no) hb1' rfl fun w25 hb25 hk25 => ld11 hb25 ⟨rfl, ?_⟩
  exact (((hk1.no hk2).no hk3).fresh hk14 (fun x e => by omega)).fresh hk25 (fun x e => by omega)

def rdA : Pu := { rdP with k := [97], d := 1 }
def rdBA : Pu := { rdP with k := [97, 98], d := 1 }
def rdAB : Pu := { rdP with k := [98, 97], d := 1 }

theorem bdk {p : Pu} (h1 : p.o = []) (h2 : p.i = []) (h3 : p.k.length ≤ 8) : Bd p := by
  unfold Bd; rw [h1, h2]; refine ⟨by simp, by simp, by omega⟩

theorem ung1 : ungP rdP [97] = (rdA, 0) := by
  have hb : begP rdP = 0 := by decide
  unfold ungP; rw [if_neg (by rw [hb]; simp), if_neg (by decide), if_neg (by decide), if_neg (by decide), if_neg (by decide)]; rfl
theorem ung2 : ungP rdA [98] = (rdBA, 0) := by
  have hb : begP rdA = 0 := by decide
  unfold ungP; rw [if_neg (by rw [hb]; simp), if_neg (by decide), if_neg (by decide), if_neg (by decide), if_neg (by decide)]; rfl
theorem ung3 : ungP rdP [97, 98] = (rdAB, 0) := by
  have hb : begP rdP = 0 := by decide
  unfold ungP; rw [if_neg (by rw [hb]; simp), if_neg (by decide), if_neg (by decide), if_neg (by decide), if_neg (by decide)]; rfl
theorem hel2 : heldP rdBA = ([98, 97], 0) := by
  have hb : begP rdBA = 0 := by decide
  unfold heldP; rw [if_neg (by rw [hb]; simp)]; rfl
theorem hel3 : heldP rdAB = ([97, 98], 0) := by
  have hb : begP rdAB = 0 := by decide
  unfold heldP; rw [if_neg (by rw [hb]; simp)]; rfl

set_option maxHeartbeats 1000000 in
theorem palive_ok {w : World} : CallR Try.prog 17 [] w fun v w' => v = .bool true ∧ Kept No w w' := by
  refine C17 ?_
  unfold L17
  refine CallR.mono reading_ok ?_
  rintro v w1 ⟨rfl, hk1⟩
  refine ⟨_, _, _, _, _, _, _, _, _, _, _, _, _, _, _, _, _, rfl, CallR.mono (unget (p := rdP) (s := Sl3.no) (rdP_rd _) (bdk rfl rfl (by decide)) 97) ?_⟩
  rw [ung1]
  rintro v w2 ⟨s1, rfl, ho1, hk2⟩
  refine ⟨_, _, _, _, _, _, _, _, _, _, _, _, _, _, _, _, _, _, rfl, ?_⟩
  intro w3
  have hb3 : Blk w3 w2.heap.size (cs ⟨false, false, 0, 0, [], [], [], 0, false, false, false⟩ Sl3.no) := Blk.alloc _ _ _
  have hk3 : Kept No w2 w3 := Kept.alloc _ _ _
  clear_value w3
  have hz1 : w.heap.size ≤ w1.heap.size := hk1.size
  have hz2 : w1.heap.size ≤ w2.heap.size := hk2.size
  refine st11 (p := rdA) (s := s1) hb3 rfl fun w14 hb14 hk14 => ld11 hb14 ?_
  have hk214 : Kept No w2 w14 := hk3.fresh hk14 (fun x e => by omega)
  have ho14 := ho1.no hk214
  refine CallR.mono (unget (p := rdA) (s := s1) ho14.rd (bdk rfl rfl (by decide)) 98) ?_
  rw [ung2]
  rintro v w15 ⟨s2, rfl, ho2, hk15⟩
  refine ⟨_, _, _, _, _, _, _, _, _, _, _, _, _, _, _, _, _, _, rfl, ?_⟩
  have hz14 : w2.heap.size < w14.heap.size := hb14.lt
  refine st11 (p := rdBA) (s := s2) (hb14.keep hk15 fun e => e) rfl fun w26 hb26 hk26 => ld11 hb26 ?_
  have ho26 : Ow3 w14 w26 s2 rdBA := ho2.keep hk26 fun b hb e => by
    have : w14.heap.size ≤ b := by
      rcases hb with hb | hb | hb
      · exact ho2.2.1.1 b hb
      · exact ho2.2.1.2.1 b hb
      · exact ho2.2.1.2.2 b hb
    omega
  have hk226 : Kept No w2 w26 := (hk214.no hk15).fresh hk26 (fun x e => by omega)
  refine CallR.mono (held_ok (p := rdBA) (s := s2) ho26.rd (bdk rfl rfl (by decide))) ?_
  rw [hel2]
  rintro v w27 ⟨ah, lh, ch, rfl, hh, hfh, hk27⟩
  refine ⟨_, _, _, _, rfl, CallR.mono reading_ok ?_⟩
  rintro v w28 ⟨rfl, hk28⟩
  refine ⟨_, _, _, _, _, _, _, _, _, _, _, _, _, _, _, _, _, rfl, ?_⟩
  intro w29
  obtain ⟨w30, hr30, hrd30, hk30, hz30⟩ := run_const (P := Try.prog) w28 (t := 22) (e := 5) (by kernel_rfl) [97, 98]
  refine ⟨_, _, _, w30, hr30, CallR.mono (ungetall (p := rdP) (s := Sl3.no) (rdP_rd _) (bdk rfl rfl (by decide)) hrd30 (by simp)) ?_⟩
  rw [ung3]
  rintro v w31 ⟨s3, rfl, ho3, hk31⟩
  refine ⟨_, _, _, _, _, _, _, _, _, _, _, _, _, _, _, _, _, _, rfl, ?_⟩
  intro w32
  have hb32 : Blk w32 w31.heap.size (cs ⟨false, false, 0, 0, [], [], [], 0, false, false, false⟩ Sl3.no) := Blk.alloc _ _ _
  have hk32 : Kept No w31 w32 := Kept.alloc _ _ _
  clear_value w32
  refine st11 (p := rdAB) (s := s3) hb32 rfl fun w43 hb43 hk43 => ld11 hb43 ?_
  have hk3143 : Kept No w31 w43 := hk32.fresh hk43 (fun x e => by omega)
  refine CallR.mono (held_ok (p := rdAB) (s := s3) (ho3.no hk3143).rd (bdk rfl rfl (by decide))) ?_
  rw [hel3]
  rintro v w44 ⟨ai, li, ci, rfl, hi, hfi, hk44⟩
  refine ⟨_, _, _, _, rfl, ?_⟩
  have hk2744 : Kept No w27 w44 := (((hk28.no hk30).no hk31).no hk3143).no hk44
  have hh44 := hh.keep hk2744 (fun _ _ e => e)
  refine pnum_to ⟨_, rfl, pnum_to ⟨_, rfl, ⟨by decide, by decide⟩, pnum_to ⟨_, rfl, ⟨by decide, by decide⟩, pnum_to ⟨_, rfl, ⟨by decide, by decide⟩, pnum_to ⟨_, rfl, ⟨by decide, by decide⟩, condT rfl ?_⟩⟩⟩⟩⟩
  refine ⟨_, _, run_str (P := Try.prog) w44 (t := 22) (ts := 9) (by kernel_rfl) (by kernel_rfl) hh44.rd, condT (str_is3 rfl) ?_⟩
  refine ⟨_, _, run_str (P := Try.prog) w44 (t := 22) (ts := 9) (by kernel_rfl) (by kernel_rfl) hi.rd, ?_⟩
  exact ⟨congrArg Value.bool (str_is3 (bs := [97, 98]) rfl), (((hk1.no hk2).no hk226).no hk27).no hk2744⟩

theorem inS {w0 w : World} {s : Sl3} {p : Pu} (h : Ow3 w0 w s p) : ∀ b, inA s.oa b ∨ inA s.ia b ∨ inA s.ka b → w0.heap.size ≤ b ∧ b < w.heap.size := fun b hb => by
  rcases hb with hb | hb | hb
  · exact ⟨h.2.1.1 b hb, h.1.1.lt b hb⟩
  · exact ⟨h.2.1.2.1 b hb, h.1.2.1.lt b hb⟩
  · exact ⟨h.2.1.2.2 b hb, h.1.2.2.lt b hb⟩

theorem ungP_bd {p : Pu} {bs : List Int} (h : Bd p) : Bd (ungP p bs).1 := by
  unfold ungP
  split
  · exact h
  · split
    · exact h
    · split
      · exact h
      · split
        · exact h
        · rename_i h8
          split
          · exact h
          · exact ⟨h.1, h.2.1, by simp; omega⟩

def zeroP : Pu := ⟨false, false, 0, 0, [], [], [], 0, false, false, false⟩

/-- A new state's cells, filled. -/
theorem newSt {w : World} {e : TypeId} {p : Pu} {s : Sl3} {K : World → Prop} (hk : ∀ w', Blk w' w.heap.size (cs p s) → Kept No w w' → w.heap.size < w'.heap.size → K w') :
    stC (Addr.mk w.heap.size 0 none) (.bool p.r) (w.alloc (.cells (cs zeroP Sl3.no) e)) fun w1 => stC (Addr.mk w.heap.size 1 none) (.bool p.w) w1 fun w2 => stC (Addr.mk w.heap.size 2 none) (.int .i64 p.m) w2 fun w3 => stC (Addr.mk w.heap.size 3 none) (.int .i64 p.z) w3 fun w4 =>
      stC (Addr.mk w.heap.size 4 none) (.slice s.oa s.ol s.oc) w4 fun w5 => stC (Addr.mk w.heap.size 5 none) (.slice s.ia s.il s.ic) w5 fun w6 => stC (Addr.mk w.heap.size 6 none) (.slice s.ka s.kl s.kc) w6 fun w7 => stC (Addr.mk w.heap.size 7 none) (.int .i64 p.d) w7 fun w8 =>
      stC (Addr.mk w.heap.size 8 none) (.bool p.e) w8 fun w9 => stC (Addr.mk w.heap.size 9 none) (.bool p.b) w9 fun w10 => stC (Addr.mk w.heap.size 10 none) (.bool p.c) w10 K := by
  have hb : Blk (w.alloc (.cells (cs zeroP Sl3.no) e)) w.heap.size (cs zeroP Sl3.no) := Blk.alloc _ _ _
  have hk1 : Kept No w (w.alloc (.cells (cs zeroP Sl3.no) e)) := Kept.alloc _ _ _
  exact st11 hb rfl fun w' hb' hk' => hk w' hb' (hk1.fresh hk' (fun x e => by omega)) hb'.lt

end Go.Proofs.Ythddogeenimjcaa
