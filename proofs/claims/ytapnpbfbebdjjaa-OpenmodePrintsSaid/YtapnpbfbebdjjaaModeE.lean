/-
  Modes: flags, checks and the page's printer. Conditions: none.
-/
import Derived.Test.YtapnpbfbebdjjaaModeD
import Derived.Test.YtapnpbfbebdjjaaLQ
set_option linter.unusedVariables false
namespace Go.Proofs.Ytapnpbfbebdjjaa
open Go.Lw

def orI (n : Int) (i : Int) : Int := IntKind.wrap .i64 ↑(BitVec.ofInt (IntKind.bits .i64) n ||| BitVec.ofInt (IntKind.bits .i64) (IntKind.wrap .i64 ((1 : Int) * 2 ^ (min (Int.toNat i) (IntKind.bits .i64))))).toNat
def flI (m : Md) : Nat → Int
  | 0 => 0
  | i + 1 => if m.at i then orI (flI m i) (i : Int) else flI m i

def r0 (m : Md) : ByteArray := if m.a then ByteArray.mk #[97] else if m.c then ByteArray.mk #[119] else ByteArray.mk #[114]
def r1 (m : Md) : ByteArray := if m.r && m.w then r0 m ++ ByteArray.mk #[43] else r0 m
def r2 (m : Md) : ByteArray := if m.b then r1 m ++ ByteArray.mk #[98] else r1 m
def r3 (m : Md) : ByteArray := if m.x then r2 m ++ ByteArray.mk #[120] else r2 m
def r4 (m : Md) : ByteArray := if m.k then r3 m ++ ByteArray.mk #[101] else r3 m
def chkR (m : Md) : Int := if (parseM (r4 m)).2.1 ≠ 0 then 91 else if (parseM (r4 m)).1 ≠ m then 91 else 0
def flR (m : Md) : Int := (if m.r then 1 else 0) + (if m.w then 2 else 0) + (if m.a then 4 else 0) + (if m.c then 8 else 0) + (if m.t then 16 else 0) + (if m.x then 32 else 0)

theorem r0_size (m : Md) : (r0 m).size = 1 := by unfold r0; split; · rfl
                                                 split <;> rfl
theorem r1_size (m : Md) : (r1 m).size ≤ 2 := by
  have h := r0_size m
  unfold r1; split
  · rw [ByteArray.size_append, h]; decide
  · omega
theorem e98 : (ByteArray.mk #[98]).size = 1 := rfl
theorem e120 : (ByteArray.mk #[120]).size = 1 := rfl
theorem e101 : (ByteArray.mk #[101]).size = 1 := rfl
theorem e43 : (ByteArray.mk #[43]).size = 1 := rfl
theorem r2_size (m : Md) : (r2 m).size ≤ 3 := by
  have h := r1_size m
  unfold r2; split
  · rw [ByteArray.size_append, e98]; omega
  · omega
theorem r3_size (m : Md) : (r3 m).size ≤ 4 := by
  have h := r2_size m
  unfold r3; split
  · rw [ByteArray.size_append, e120]; omega
  · omega
theorem r4_size (m : Md) : (r4 m).size ≤ 5 := by
  have h := r3_size m
  unfold r4; split
  · rw [ByteArray.size_append, e101]; omega
  · omega

theorem ocheck_ok {w : World} (m : Md) : CallR Try.prog 44 [.agg m.cs] w fun v w' => v = .int .i64 (printM m).2 ∧ Kept No w w' := by
  refine C44 ?_
  unfold L44
  intro w1
  have hb1 : Blk w1 w.heap.size m.cs := Blk.alloc _ _ _
  have hk1 : Kept No w w1 := Kept.alloc _ _ _
  clear_value w1
  exact ld8 hb1 ((oprint_ok m).mono fun v w2 ⟨hv, hk⟩ => ⟨_, _, hv, rfl, hk1.no hk⟩)

theorem oflags_ok {w : World} (m : Md) : CallR Try.prog 42 [.agg m.cs] w fun v w' => v = (if (printM m).2 ≠ 0 then .tuple #[.int .i64 0, .int .i64 (printM m).2] else .tuple #[.int .i64 (flI m 6), .int .i64 0]) ∧ Kept No w w' := by
  refine C42 ?_
  unfold L42
  intro w1
  have hb1 : Blk w1 w.heap.size m.cs := Blk.alloc _ _ _
  have hk1 : Kept No w w1 := Kept.alloc _ _ _
  clear_value w1
  refine ld8 hb1 ((ocheck_ok m).mono fun v w2 ⟨hv, hk2⟩ => ⟨_, hv, ?_⟩)
  have hb2 := hb1.keep hk2 (fun e => e)
  have hk02 := hk1.no hk2
  refine condI (fun hne => ⟨?_, hk02⟩) (fun heq => ?_)
  · have : (printM m).2 ≠ 0 := by simpa using hne
    rw [if_pos this]
  · have he : ¬ (printM m).2 ≠ 0 := by simpa using heq
    rw [if_neg he]
    refine ⟨_, (hb2.cell 0).trans rfl, _, (hb2.cell 1).trans rfl, _, (hb2.cell 2).trans rfl, _, (hb2.cell 3).trans rfl, _, (hb2.cell 4).trans rfl, _, (hb2.cell 5).trans rfl, ?_⟩
    refine ⟨fun vs w' => ∃ i : Nat, vs = [.int .i64 (flI m i), .int .i64 (i : Int)] ∧ i ≤ 6 ∧ w' = w2, fun vs _ => match vs with | [_, .int _ i] => (6 - i).toNat | _ => 0, ⟨0, rfl, by omega, rfl⟩, ?_⟩
    intro _ n27 n28 w3 hI
    obtain ⟨i, hvs, hi, hw⟩ := hI
    simp only [List.cons.injEq, Value.int.injEq, true_and, and_true] at hvs
    obtain ⟨rfl, rfl⟩ := hvs
    rw [hw]
    refine condP (fun hlt => ?_) (fun hge => ?_)
    · have hi6 : i < 6 := by omega
      have hat : (#[.bool m.r, .bool m.w, .bool m.a, .bool m.c, .bool m.t, .bool m.x] : Array Value)[Int.toNat (i : Int)]? = some (.bool (m.at i)) := by
        match i, hi6 with
        | 0, _ => rfl
        | 1, _ => rfl
        | 2, _ => rfl
        | 3, _ => rfl
        | 4, _ => rfl
        | 5, _ => rfl
      have hmu : ((6 : Int) - ((i : Int) + 1)).toNat < ((6 : Int) - (i : Int)).toNat := by omega
      refine ⟨⟨by omega, by omega⟩, _, hat, condI (fun hb => ⟨by omega, by unfold inI; omega, ⟨i + 1, ?_, by omega, rfl⟩, hmu⟩) (fun hb => ⟨by unfold inI; omega, ⟨i + 1, ?_, by omega, rfl⟩, hmu⟩)⟩
      · have : flI m (i + 1) = orI (flI m i) (i : Int) := by
          show (if m.at i then _ else _) = _
          rw [if_pos hb]
        rw [this]; rfl
      · have : flI m (i + 1) = flI m i := by
          show (if m.at i then _ else _) = _
          rw [if_neg (by rw [hb]; simp)]
        rw [this]; rfl
    · have : i = 6 := by omega
      subst this
      exact ⟨rfl, hk02⟩

theorem rlet_ok {w : World} (m : Md) : CallR Try.prog 61 [.agg m.cs] w fun v w' => v = .string (r4 m) ∧ Kept No w w' := by
  refine C61 ?_
  unfold L61
  intro w1
  have hb1 : Blk w1 w.heap.size m.cs := Blk.alloc _ _ _
  have hk1 : Kept No w w1 := Kept.alloc _ _ _
  clear_value w1
  refine ⟨fun vs w' => vs = [.string (r0 m)] ∧ w' = w1, ?_, ?_⟩
  · refine ⟨_, (hb1.cell 2).trans rfl, condI (fun ha => ⟨?_, rfl⟩) (fun ha => ⟨_, (hb1.cell 3).trans rfl, condI (fun hc => ⟨?_, rfl⟩) (fun hc => ⟨?_, rfl⟩)⟩)⟩
    · unfold r0; rw [if_pos ha]
    · unfold r0; rw [if_neg (by rw [ha]; simp), if_pos hc]
    · unfold r0; rw [if_neg (by rw [ha]; simp), if_neg (by rw [hc]; simp)]
  intro _ s12 w2 hJ
  obtain ⟨hs, hw⟩ := hJ
  simp only [List.cons.injEq, Value.string.injEq, and_true] at hs
  subst hs
  rw [hw]
  have z0 := r0_size m
  refine ⟨fun vs w' => vs = [.string (r1 m)] ∧ w' = w1, ?_, ?_⟩
  · refine ⟨_, (hb1.cell 0).trans rfl, condI (fun hr => ⟨_, (hb1.cell 1).trans rfl, condI (fun hw => ⟨by rw [e43]; omega, ?_, rfl⟩) (fun hw => ⟨?_, rfl⟩)⟩) (fun hr => ⟨?_, rfl⟩)⟩
    · unfold r1; rw [if_pos (by rw [hr, hw]; rfl)]
    · unfold r1; rw [if_neg (by rw [hr, hw]; simp)]
    · unfold r1; rw [if_neg (by rw [hr]; simp)]
  intro _ s16 w3 hJ
  obtain ⟨hs, hw⟩ := hJ
  simp only [List.cons.injEq, Value.string.injEq, and_true] at hs
  subst hs
  rw [hw]
  have z1 := r1_size m
  have b1 : ∀ b : Bool, m.b = b → r2 m = if b then r1 m ++ ByteArray.mk #[98] else r1 m := fun b h => by unfold r2; rw [h]
  have x1 : ∀ b : Bool, m.x = b → r3 m = if b then r2 m ++ ByteArray.mk #[120] else r2 m := fun b h => by unfold r3; rw [h]
  have k1 : ∀ b : Bool, m.k = b → r4 m = if b then r3 m ++ ByteArray.mk #[101] else r3 m := fun b h => by unfold r4; rw [h]
  refine ⟨_, (hb1.cell 6).trans rfl, condI (fun hb => ⟨by rw [e98]; omega, _, (hb1.cell 5).trans rfl, condI (fun hx => ⟨by rw [ByteArray.size_append, e98, e120]; omega, _, (hb1.cell 7).trans rfl, condI (fun hk => ⟨by rw [ByteArray.size_append, ByteArray.size_append, e98, e120, e101]; omega, ?_, hk1⟩) (fun hk => ⟨?_, hk1⟩)⟩)
      (fun hx => ⟨_, (hb1.cell 7).trans rfl, condI (fun hk => ⟨by rw [ByteArray.size_append, e98, e101]; omega, ?_, hk1⟩) (fun hk => ⟨?_, hk1⟩)⟩)⟩)
    (fun hb => ⟨_, (hb1.cell 5).trans rfl, condI (fun hx => ⟨by rw [e120]; omega, _, (hb1.cell 7).trans rfl, condI (fun hk => ⟨by rw [ByteArray.size_append, e120, e101]; omega, ?_, hk1⟩) (fun hk => ⟨?_, hk1⟩)⟩)
      (fun hx => ⟨_, (hb1.cell 7).trans rfl, condI (fun hk => ⟨by rw [e101]; omega, ?_, hk1⟩) (fun hk => ⟨?_, hk1⟩)⟩)⟩)⟩
  all_goals
    rw [k1 _ hk, x1 _ hx, b1 _ hb]
    rfl

theorem rcheck_ok9 {w : World} (m : Md) : CallR Try.prog 45 [.agg m.cs] w fun v w' => v = .int .i64 (chkR m) ∧ Kept No w w' := by
  refine C45 ?_
  unfold L45
  intro w1
  have hb1 : Blk w1 w.heap.size m.cs := Blk.alloc _ _ _
  have hk1 : Kept No w w1 := Kept.alloc _ _ _
  clear_value w1
  have hz := r4_size m
  refine ld8 hb1 ((rlet_ok m).mono fun v w2 ⟨hv, hk2⟩ => ⟨_, hv, (rparse_ok (r4 m) (by omega)).mono fun v w3 ⟨hv3, hk3⟩ => ⟨_, _, _, _, _, _, _, _, _, _, hv3, lay8 (m := (parseM (r4 m)).1) fun w4 hx4 hk4 => ?_⟩⟩)
  have hk04 := ((hk1.no hk2).no hk3).no hk4
  have hb4 := ((hb1.keep hk2 (fun e => e)).keep hk3 (fun e => e)).keep hk4 (fun e => e)
  refine condI (fun hne => ⟨?_, hk04⟩) (fun heq => ?_)
  · have : (parseM (r4 m)).2.1 ≠ 0 := by simpa using hne
    unfold chkR; rw [if_pos this]
  · have he : ¬ (parseM (r4 m)).2.1 ≠ 0 := by simpa using heq
    refine ld8 hx4 (ld8 hb4 ⟨_, w4, neMd (parseM (r4 m)).1 m, condI (fun hne => ⟨?_, hk04⟩) (fun he2 => ⟨?_, hk04⟩)⟩)
    · have : (parseM (r4 m)).1 ≠ m := by simpa using hne
      unfold chkR; rw [if_neg he, if_pos this]
    · have : ¬ (parseM (r4 m)).1 ≠ m := by simpa using he2
      unfold chkR; rw [if_neg he, if_neg this]

theorem rprint_ok9 {w : World} (m : Md) : CallR Try.prog 41 [.agg m.cs] w fun v w' => v = (if chkR m ≠ 0 then .tuple #[.string (ByteArray.mk #[]), .int .i64 91] else .tuple #[.string (r4 m), .int .i64 0]) ∧ Kept No w w' := by
  refine C41 ?_
  unfold L41
  intro w1
  have hb1 : Blk w1 w.heap.size m.cs := Blk.alloc _ _ _
  have hk1 : Kept No w w1 := Kept.alloc _ _ _
  clear_value w1
  refine ld8 hb1 ((rcheck_ok9 m).mono fun v w2 ⟨hv, hk2⟩ => ⟨_, hv, ?_⟩)
  have hk02 := hk1.no hk2
  have hb2 := hb1.keep hk2 (fun e => e)
  refine condI (fun hne => ⟨?_, hk02⟩) (fun heq => ld8 hb2 ((rlet_ok m).mono fun v w3 ⟨hv3, hk3⟩ => ⟨_, hv3, ?_, hk02.no hk3⟩))
  · have : chkR m ≠ 0 := by simpa using hne
    rw [if_pos this]
  · have : ¬ chkR m ≠ 0 := by simpa using heq
    rw [if_neg this]

theorem rflags_ok {w : World} (m : Md) : CallR Try.prog 43 [.agg m.cs] w fun v w' => v = (if chkR m ≠ 0 then .tuple #[.int .i64 0, .int .i64 91] else .tuple #[.int .i64 (flR m), .int .i64 0]) ∧ Kept No w w' := by
  refine C43 ?_
  unfold L43
  intro w1
  have hb1 : Blk w1 w.heap.size m.cs := Blk.alloc _ _ _
  have hk1 : Kept No w w1 := Kept.alloc _ _ _
  clear_value w1
  refine ld8 hb1 ((rcheck_ok9 m).mono fun v w2 ⟨hv, hk2⟩ => ⟨_, hv, ?_⟩)
  have hk02 := hk1.no hk2
  have hb2 := hb1.keep hk2 (fun e => e)
  refine condI (fun hne => ⟨?_, hk02⟩) (fun heq => ?_)
  · have : chkR m ≠ 0 := by simpa using hne
    rw [if_pos this]
  have he : ¬ chkR m ≠ 0 := by simpa using heq
  rw [if_neg he]
  let f1 : Int := if m.r then 1 else 0
  let f2 : Int := f1 + if m.w then 2 else 0
  let f3 : Int := f2 + if m.a then 4 else 0
  have g1 : f1 = if m.r then 1 else 0 := rfl
  have g2 : f2 = f1 + if m.w then 2 else 0 := rfl
  have g3 : f3 = f2 + if m.a then 4 else 0 := rfl
  clear_value f1 f2 f3
  have q1 : 0 ≤ f1 ∧ f1 ≤ 1 := by rw [g1]; split <;> omega
  have q2 : 0 ≤ f2 ∧ f2 ≤ 3 := by rw [g2]; split <;> omega
  have q3 : 0 ≤ f3 ∧ f3 ≤ 7 := by rw [g3]; split <;> omega
  refine ⟨fun vs w' => vs = [.int .i64 f1] ∧ w' = w2, ⟨_, (hb2.cell 0).trans rfl, condI (fun h => ⟨by unfold inI; decide, by rw [g1, if_pos h]; rfl, rfl⟩) (fun h => ⟨by rw [g1, if_neg (by rw [h]; simp)], rfl⟩)⟩, ?_⟩
  intro _ n21 w3 hJ
  obtain ⟨hs, hw⟩ := hJ
  simp only [List.cons.injEq, Value.int.injEq, true_and, and_true] at hs
  subst hs
  rw [hw]
  refine ⟨fun vs w' => vs = [.int .i64 f2] ∧ w' = w2, ⟨_, (hb2.cell 1).trans rfl, condI (fun h => ⟨by unfold inI; omega, by rw [g2, if_pos h], rfl⟩) (fun h => ⟨by rw [g2, if_neg (by rw [h]; simp), Int.add_zero], rfl⟩)⟩, ?_⟩
  intro _ n24 w4 hJ
  obtain ⟨hs, hw⟩ := hJ
  simp only [List.cons.injEq, Value.int.injEq, true_and, and_true] at hs
  subst hs
  rw [hw]
  refine ⟨fun vs w' => vs = [.int .i64 f3] ∧ w' = w2, ⟨_, (hb2.cell 2).trans rfl, condI (fun h => ⟨by unfold inI; omega, by rw [g3, if_pos h], rfl⟩) (fun h => ⟨by rw [g3, if_neg (by rw [h]; simp), Int.add_zero], rfl⟩)⟩, ?_⟩
  intro _ n27 w5 hJ
  obtain ⟨hs, hw⟩ := hJ
  simp only [List.cons.injEq, Value.int.injEq, true_and, and_true] at hs
  subst hs
  rw [hw]
  have hfl : flR m = ((n27 + if m.c then 8 else 0) + if m.t then 16 else 0) + if m.x then 32 else 0 := by unfold flR; rw [g3, g2, g1]
  rw [hfl]
  refine ⟨_, (hb2.cell 3).trans rfl, condI (fun hc => ⟨by unfold inI; omega, _, (hb2.cell 4).trans rfl, condI (fun ht => ⟨by unfold inI; omega, _, (hb2.cell 5).trans rfl, condI (fun hx => ⟨by unfold inI; omega, ?_, hk02⟩) (fun hx => ⟨?_, hk02⟩)⟩) (fun ht => ⟨_, (hb2.cell 5).trans rfl, condI (fun hx => ⟨by unfold inI; omega, ?_, hk02⟩) (fun hx => ⟨?_, hk02⟩)⟩)⟩)
    (fun hc => ⟨_, (hb2.cell 4).trans rfl, condI (fun ht => ⟨by unfold inI; omega, _, (hb2.cell 5).trans rfl, condI (fun hx => ⟨by unfold inI; omega, ?_, hk02⟩) (fun hx => ⟨?_, hk02⟩)⟩) (fun ht => ⟨_, (hb2.cell 5).trans rfl, condI (fun hx => ⟨by unfold inI; omega, ?_, hk02⟩) (fun hx => ⟨?_, hk02⟩)⟩)⟩)⟩
  all_goals
    rw [hc, ht, hx]
    simp

/-- What the program and the page say of a mode is one: all modes are looked at. -/
theorem modes_alike : ∀ r w a c t x b k : Bool, (let m : Md := ⟨r, w, a, c, t, x, b, k⟩
    decide ((printM m).2 = chkR m) && (if chkR m ≠ 0 then decide ((printM m).1.data.toList = []) else decide ((printM m).1.data.toList = (r4 m).data.toList)) && decide (chkR m = 0 ∨ chkR m = 91) && decide (flI m 6 = flR m)) = true := by
  decide +kernel

end Go.Proofs.Ytapnpbfbebdjjaa
