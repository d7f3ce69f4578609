/-
  A mode is read back from its text: the walk. Conditions: none.
-/
import Derived.Test.YtapnpbfbebdjjaaModeF
import Derived.Test.YtapnpbfbebdjjaaLR
import Derived.Test.YtapnpbfbebdjjaaOOpenmodeBack
set_option linter.unusedVariables false
namespace Go.Proofs.Ytapnpbfbebdjjaa
open Go.Lw

theorem txt_small (m : Md) : (printM m).1.size ≤ 5 := by
  unfold printM
  split
  · exact txt_size (p := 0) (by omega) m 4 (by omega)
  · split
    · exact txt_size (p := 1) (by omega) m 4 (by omega)
    · split
      · exact txt_size (p := 2) (by omega) m 4 (by omega)
      · decide

theorem walk_openmodeBack {W : World} {args : List Value} (h : V6 W args) : CallR Try.prog 6 args W fun v w' => v = .bool true ∧ Kept No W w' := by
  obtain ⟨b0, b1, b2, b3, b4, b5, b6, b7, s, hs, rfl⟩ := h
  generalize hm : (⟨b0, b1, b2, b3, b4, b5, b6, b7⟩ : Md) = m
  refine C6 ?_
  unfold L6
  intro w1
  have hb1 : Blk w1 W.heap.size m.cs := by rw [← hm]; exact Blk.alloc _ _ _
  have hk1 : Kept No W w1 := Kept.alloc _ _ _
  clear_value w1
  refine oalive_ok.mono fun v w2 ⟨hv2, hk2⟩ => ⟨_, hv2, condF rfl ?_⟩
  have hb2 := hb1.keep hk2 (fun e => e)
  have hk02 := hk1.no hk2
  refine ld8 hb2 ((oprint_ok m).mono fun v w3 ⟨hv3, hk3⟩ => ⟨_, _, hv3, ?_⟩)
  have hb3 := hb2.keep hk3 (fun e => e)
  have hk03 := hk02.no hk3
  have hts := txt_small m
  refine ⟨fun vs w' => vs = [] ∧ Kept No W w', ?_, ?_⟩
  · refine onum_to ⟨_, rfl, condI (fun h0 => ?_) (fun _ => ⟨rfl, hk03⟩)⟩
    have h0' : (printM m).2 = 0 := by simpa using h0
    have hpf := print_fits h0'
    refine (oparse_ok (printM m).1 (by omega)).mono fun v w5 ⟨hv5, hk5⟩ => ?_
    unfold parsed at hv5
    rw [hpf] at hv5
    refine ⟨_, _, _, _, _, _, _, _, _, _, hv5, lay8 (m := m) fun w6 hx6 hk6 => ?_⟩
    have hb6 := (hb3.keep hk5 (fun e => e)).keep hk6 (fun e => e)
    refine onum_to ⟨_, rfl, condF rfl (ld8 hx6 (ld8 hb6 ⟨_, w6, neMd m m, condF (by simp) (condF (by simp) ⟨rfl, (hk03.no hk5).no hk6⟩)⟩))⟩
  intro _ w17 hJ
  obtain ⟨_, hk17⟩ := hJ
  refine (oparse_ok s hs).mono fun v w18 ⟨hv18, hk18⟩ => ?_
  unfold parsed at hv18
  refine ⟨_, _, _, _, _, _, _, _, _, _, hv18, lay8 (m := (parseM s).1) fun w28 hx28 hk28 => ?_⟩
  have hk028 := (hk17.no hk18).no hk28
  refine onum_to ⟨_, rfl, condI (fun hne => ?_) (fun h0 => ?_)⟩
  · have hne' : (parseM s).2.1 ≠ 0 := by simpa using hne
    have hno := (parse_ends s).2 hne'
    refine ld8 hx28 ⟨_, w28, eqMd (parseM s).1 Md.no, ?_, hk028⟩
    rw [hno]; simp
  · have h0' : (parseM s).2.1 = 0 := by simpa using h0
    obtain ⟨p0, psz, pall⟩ := back h0'
    refine ld8 hx28 ((oprint_ok (parseM s).1).mono fun v w30 ⟨hv30, hk30⟩ => ⟨_, _, hv30, onum_to ⟨_, rfl, ?_⟩⟩)
    have hk030 := hk028.no hk30
    generalize (printM (parseM s).1).2 = e at p0 ⊢
    generalize (printM (parseM s).1).1 = t at psz pall ⊢
    refine condF (by rw [p0]; rfl) (condF (by rw [psz]; simp) ?_)
    refine ⟨fun vs w' => ∃ i : Nat, vs = [.int .i64 (i : Int)] ∧ i ≤ s.size ∧ Kept No W w', fun vs _ => match vs with | [.int _ i] => (s.size - i).toNat | _ => 0, ⟨0, rfl, Nat.zero_le _, hk030⟩, ?_⟩
    intro _ n93 w32 hI
    obtain ⟨i, hvs, hi, hk32⟩ := hI
    simp only [List.cons.injEq, Value.int.injEq, true_and, and_true] at hvs
    subst hvs
    refine condP (fun hlt => ?_) (fun hge => ⟨rfl, hk32⟩)
    have his : i < s.size := by omega
    refine ⟨fun vs w' => ∃ (b : Bool) (k : Nat), vs = [.bool b, .int .i64 (k : Int)] ∧ k ≤ t.size ∧ (b = true ↔ ∃ k' : Nat, k' < k ∧ byteAt t k' = byteAt s i) ∧ Kept No W w', fun vs _ => match vs with | [_, .int _ k] => (t.size - k).toNat | _ => 0,
      ⟨false, 0, rfl, Nat.zero_le _, ⟨fun h => (by cases h), fun ⟨k', h, _⟩ => by omega⟩, hk32⟩, ?_⟩
    intro _ b96 n97 w33 hJ
    obtain ⟨b, k, hvs, hk, hb, hk33⟩ := hJ
    simp only [List.cons.injEq, Value.bool.injEq, Value.int.injEq, true_and, and_true] at hvs
    obtain ⟨rfl, rfl⟩ := hvs
    refine condP (fun hkl => ?_) (fun hkg => ?_)
    · have hmu : ((t.size : Int) - ((k : Int) + 1)).toNat < ((t.size : Int) - (k : Int)).toNat := by omega
      refine condI (fun ht => fun nd => ⟨by unfold inI; omega, ⟨true, k + 1, rfl, by omega, ⟨fun _ => ?_, fun _ => rfl⟩, hk33.trans (Kept.drewN No w33 nd) (fun _ _ e => e)⟩, hmu⟩)
        (fun ht => ⟨⟨by omega, by omega⟩, ⟨by omega, by omega⟩, fun nd => ⟨by unfold inI; omega, ⟨_, k + 1, rfl, by omega, ?_, hk33.trans (Kept.drewN No w33 nd) (fun _ _ e => e)⟩, hmu⟩⟩)
      · obtain ⟨k', h1, h2⟩ := hb.1 ht
        exact ⟨k', by omega, h2⟩
      · constructor
        · intro h
          exact ⟨k, by omega, by simpa using h⟩
        · rintro ⟨k', h1, h2⟩
          by_cases e : k' = k
          · subst e; simp [h2]
          · have := hb.2 ⟨k', by omega, h2⟩
            rw [ht] at this; cases this
    · have hke : k = t.size := by omega
      have hbt : b96 = true := hb.2 (by obtain ⟨k', h1, h2⟩ := pall i his; exact ⟨k', by omega, h2⟩)
      refine condF (by rw [hbt]; rfl) ⟨by unfold inI; omega, ⟨i + 1, rfl, by omega, hk33⟩, ?_⟩
      show ((s.size : Int) - ((i : Int) + 1)).toNat < ((s.size : Int) - (i : Int)).toNat
      omega

end Go.Proofs.Ytapnpbfbebdjjaa
