/-
  The page's examples of modes live; a mode's flags. Conditions: none.
-/
import Derived.Test.YtkjmlbplmffekaaGreatOmC
import Derived.Test.YtkjmlbplmffekaaGreatLOm
set_option linter.unusedVariables false
namespace Go.Proofs.YtkjmlbplmffekaaGreat
open Go.Lw

theorem onum_to {w : World} {n : Int} {Q : Value → World → Prop} (h : Q (.int .i64 n) w) : CallR Tryz.prog 70 [.int .i64 n] w Q := C70 h

def mA : Md := { Md.no with r := true, w := true, b := true }

theorem pA : parseM (ByteArray.mk #[114, 98, 43]) = (mA, 0, 3) := by decide +kernel
theorem pB : parseM (ByteArray.mk #[114, 120]) = (Md.no, 91, 1) := by decide +kernel
theorem prA : printM mA = (ByteArray.mk #[114, 43, 98], 0) := by kernel_rfl

/-- A mode that a call answers is laid into a variable. -/
theorem lay8 {w : World} {e : TypeId} {m : Md} {K : World → Prop} (hk : ∀ w', Blk w' w.heap.size m.cs → Kept No w w' → K w') :
    let w2 := World.alloc w (Obj.cells #[.bool false, .bool false, .bool false, .bool false, .bool false, .bool false, .bool false, .bool false] e)
    stC (Addr.mk w.heap.size 0 none) (.bool m.r) w2 fun w1 => stC (Addr.mk w.heap.size 1 none) (.bool m.w) w1 fun w2 => stC (Addr.mk w.heap.size 2 none) (.bool m.a) w2 fun w3 => stC (Addr.mk w.heap.size 3 none) (.bool m.c) w3 fun w4 =>
      stC (Addr.mk w.heap.size 4 none) (.bool m.t) w4 fun w5 => stC (Addr.mk w.heap.size 5 none) (.bool m.x) w5 fun w6 => stC (Addr.mk w.heap.size 6 none) (.bool m.b) w6 fun w7 => stC (Addr.mk w.heap.size 7 none) (.bool m.k) w7 K := by
  intro w2
  have hx : Blk w2 w.heap.size Md.no.cs := Blk.alloc _ _ _
  have hk2 : Kept No w w2 := Kept.alloc _ _ _
  clear_value w2
  exact st8 hx rfl fun w3 hx3 hk3 _ => hk w3 hx3 (hk2.fresh hk3 (fun x e => by rw [e]; exact Nat.le_refl _))

theorem oalive_ok {w : World} : CallR Tryz.prog 68 [] w fun v w' => v = .bool true ∧ Kept No w w' := by
  refine C68 ?_
  unfold L68
  refine (oparse_ok (ByteArray.mk #[114, 98, 43]) (by decide)).mono fun v w1 ⟨hv1, hk1⟩ => ?_
  unfold parsed at hv1
  rw [pA] at hv1
  refine ⟨_, _, _, _, _, _, _, _, _, _, hv1, lay8 (m := mA) fun w2 hx2 hk2 => ?_⟩
  refine ld8 hx2 ((oprint_ok mA).mono fun v w3 ⟨hv3, hk3⟩ => ?_)
  rw [prA] at hv3
  refine ⟨_, _, hv3, (oparse_ok (ByteArray.mk #[114, 120]) (by decide)).mono fun v w4 ⟨hv4, hk4⟩ => ?_⟩
  unfold parsed at hv4
  rw [pB] at hv4
  have hx4 := (hx2.keep hk3 (fun e => e)).keep hk4 (fun e => e)
  refine ⟨_, _, _, _, _, _, _, _, _, _, hv4, lay8 (m := Md.no) fun w5 hx5 hk5 => ?_⟩
  have hx25 := hx4.keep hk5 (fun e => e)
  have hk05 := (((hk1.no hk2).no hk3).no hk4).no hk5
  refine onum_to ⟨_, rfl, onum_to ⟨_, rfl, by unfold inI; decide, condT rfl (condT rfl ⟨_, (hx25.cell 0).trans rfl, condT rfl ⟨_, (hx25.cell 1).trans rfl, condT rfl ⟨_, (hx25.cell 6).trans rfl, condT rfl (condT ?_ (onum_to ⟨_, rfl, condT rfl ⟨rfl, hk05⟩⟩))⟩⟩⟩)⟩⟩
  exact beq_self_eq_true _

def orI (n : Int) (i : Int) : Int := IntKind.wrap .i64 ↑(BitVec.ofInt (IntKind.bits .i64) n ||| BitVec.ofInt (IntKind.bits .i64) (IntKind.wrap .i64 ((1 : Int) * 2 ^ (min (Int.toNat i) (IntKind.bits .i64))))).toNat
def flI (m : Md) : Nat → Int
  | 0 => 0
  | i + 1 => if m.at i then orI (flI m i) (i : Int) else flI m i

theorem oflags_ok {w : World} (m : Md) : CallR Tryz.prog 71 [.agg m.cs] w fun v w' => v = (if (printM m).2 ≠ 0 then .tuple #[.int .i64 0, .int .i64 (printM m).2] else .tuple #[.int .i64 (flI m 6), .int .i64 0]) ∧ Kept No w w' := by
  refine C71 ?_
  unfold L71
  intro w1
  have hb1 : Blk w1 w.heap.size m.cs := Blk.alloc _ _ _
  have hk1 : Kept No w w1 := Kept.alloc _ _ _
  clear_value w1
  refine ld8 hb1 ((ocheck_ok m).mono fun v w2 ⟨hv, hk2⟩ => ⟨_, hv, ?_⟩)
  have hb2 := hb1.keep hk2 (fun e => e)
  have hk02 := hk1.no hk2
  refine condI (fun hne => ⟨?_, hk02⟩) (fun heq => ?_)
  · have : (printM m).2 ≠ 0 := by simpa using hne
    rw [if_pos this]
  · have he : ¬ (printM m).2 ≠ 0 := by simpa using heq
    rw [if_neg he]
    refine ⟨_, (hb2.cell 0).trans rfl, _, (hb2.cell 1).trans rfl, _, (hb2.cell 2).trans rfl, _, (hb2.cell 3).trans rfl, _, (hb2.cell 4).trans rfl, _, (hb2.cell 5).trans rfl, ?_⟩
    refine ⟨fun vs w' => ∃ i : Nat, vs = [.int .i64 (flI m i), .int .i64 (i : Int)] ∧ i ≤ 6 ∧ w' = w2, fun vs _ => match vs with | [_, .int _ i] => (6 - i).toNat | _ => 0, ⟨0, rfl, by omega, rfl⟩, ?_⟩
    intro _ n27 n28 w3 hI
    obtain ⟨i, hvs, hi, hw⟩ := hI
    simp only [List.cons.injEq, Value.int.injEq, true_and, and_true] at hvs
    obtain ⟨rfl, rfl⟩ := hvs
    rw [hw]
    refine condP (fun hlt => ?_) (fun hge => ?_)
    · have hi6 : i < 6 := by omega
      have hat : (#[.bool m.r, .bool m.w, .bool m.a, .bool m.c, .bool m.t, .bool m.x] : Array Value)[Int.toNat (i : Int)]? = some (.bool (m.at i)) := by
        match i, hi6 with
        | 0, _ => rfl
        | 1, _ => rfl
        | 2, _ => rfl
        | 3, _ => rfl
        | 4, _ => rfl
        | 5, _ => rfl
      have hmu : ((6 : Int) - ((i : Int) + 1)).toNat < ((6 : Int) - (i : Int)).toNat := by omega
      refine ⟨⟨by omega, by omega⟩, _, hat, condI (fun hb => ⟨by omega, by unfold inI; omega, ⟨i + 1, ?_, by omega, rfl⟩, hmu⟩) (fun hb => ⟨by unfold inI; omega, ⟨i + 1, ?_, by omega, rfl⟩, hmu⟩)⟩
      · have : flI m (i + 1) = orI (flI m i) (i : Int) := by
          show (if m.at i then _ else _) = _
          rw [if_pos hb]
        rw [this]; rfl
      · have : flI m (i + 1) = flI m i := by
          show (if m.at i then _ else _) = _
          rw [if_neg (by rw [hb]; simp)]
        rw [this]; rfl
    · have : i = 6 := by omega
      subst this
      exact ⟨rfl, hk02⟩

end Go.Proofs.YtkjmlbplmffekaaGreat
