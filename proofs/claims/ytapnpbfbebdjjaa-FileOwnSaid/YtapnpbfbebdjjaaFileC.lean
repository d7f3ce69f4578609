/-
  The page's example of files lives. Conditions: none.
-/
import Derived.Test.YtapnpbfbebdjjaaFileB
import Derived.Test.YtapnpbfbebdjjaaLB
namespace Go.Proofs.Ytapnpbfbebdjjaa
open Go.Lw

theorem num_to {w : World} {n : Int} {Q : Value → World → Prop} (h : Q (.int .i64 n) w) : CallR Try.prog 16 [.int .i64 n] w Q := C16 h

theorem rd_alloc (w : World) (bs : List Int) (e : TypeId) : RdB (w.alloc (.cells (By bs).toArray e)) (some ⟨w.heap.size, 0, none⟩) bs.length bs.length bs := by
  have := (SlO.of_blk (sz := 1) (n := bs.length) (Blk.alloc w (By bs).toArray e) (by simp)).rd
  simpa [RdB] using this

theorem alive_ok {w : World} : CallR Try.prog 14 [] w fun v w' => v = .bool true ∧ Kept No w w' := by
  refine C14 ?_
  unfold L14
  intro w1
  have hk1 : Kept No w w1 := Kept.alloc _ w _
  refine (new_ok (rd_alloc w [1, 2, 3] _) (by simp)).mono fun v w2 h => ?_
  rcases h with ⟨h, _⟩ | ⟨_, b, F, rfl, hf, hk2, hF⟩
  · simp at h
  refine ⟨_, _, rfl, num_to ⟨_, rfl, condF rfl (condF rfl ?_)⟩⟩
  intro w4
  have hk4 : Kept No w2 w4 := Kept.alloc _ _ _
  have hf4 := hf.keep hk4 (fun _ _ e => e)
  have hlt := hf.lt
  refine (writeAt_ok hf4 5 (rd_alloc w2 [9] _) (by simp) (fun _ k hk hF' => by rw [inA_some] at hk; have := hlt k hF'; omega)).mono fun v w5 ⟨hv, F5, hf5, hg5, hk5⟩ => ⟨_, hv, ?_⟩
  have hw5 : writeF [1, 2, 3] 5 [9] = (0, [1, 2, 3, 0, 0, 9]) := by decide
  rw [hw5] at hf5
  refine (readAt_ok hf5 2 10).mono fun v w6 ⟨a6, c6, cs6, e6, hv6, ho6, hfr6, hk6, hyes, _⟩ => ⟨a6, _, c6, e6, hv6, ?_⟩
  obtain ⟨rfl, rfl⟩ := hyes (by decide) (by decide)
  refine num_to ⟨_, by rw [hw5], num_to ⟨_, rfl, by unfold inI; omega, condT rfl ?_⟩⟩
  intro w9
  have hk9 : Kept No w6 w9 := Kept.alloc _ _ _
  refine (same_ok (ho6.keep hk9 (fun _ _ e => e)).rd (rd_alloc w6 [3, 0, 0, 9] _) (by simp [piece])).mono fun v w10 ⟨hv, hk10, _⟩ => ⟨_, hv, ?_⟩
  have hpc : piece [1, 2, 3, 0, 0, 9] 2 10 = [3, 0, 0, 9] := by decide
  rw [hpc]
  have hf10 := ((hf5.keep hk6 (fun _ _ e => e)).keep hk9 (fun _ _ e => e)).keep hk10 (fun _ _ e => e)
  refine condT (by decide) ((size_ok hf10).mono fun v w11 ⟨hv, hw⟩ => ⟨_, hv, ?_⟩)
  refine ⟨rfl, ?_⟩
  have h2 : Kept No w w2 := hk1.no hk2
  have h5 : Kept No w w5 := (h2.no hk4).fresh hk5 (fun x hx => Nat.le_trans hk1.size (hF x hx))
  rw [hw]
  exact ((h5.no hk6).no hk9).no hk10

end Go.Proofs.Ytapnpbfbebdjjaa
