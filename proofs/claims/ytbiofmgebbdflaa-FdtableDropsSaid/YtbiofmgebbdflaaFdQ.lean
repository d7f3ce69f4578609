/-
  One pipe that tables share, as values: how many slots hold each end. Conditions: as each says.
-/
import Derived.Test.YtbiofmgebbdflaaFdP
set_option linter.unusedVariables false
namespace Go.Proofs.Ytbiofmgebbdflaa
open Go.Lw

/-- A pipe's two ends, held so often; one more holds the end that reads. -/
structure HP (n1 n2 : Nat) (s : AK) : Prop where
  d1 : s.desc 1 = some ⟨1, 0, 1, 0, (n1 : Int) + 1⟩
  d2 : s.desc 2 = if n2 = 0 then none else some ⟨2, 0, 2, 0, (n2 : Int)⟩
  ob : s.objs 0 = .pipe [] 1 (if n2 = 0 then 0 else 1)
  ps : s.ps = []
  c0 : s.c0 = 0

theorem HP.d2' {n1 n2 : Nat} {s : AK} (h : HP n1 n2 s) (hn : n2 ≠ 0) : s.desc 2 = some ⟨2, 0, 2, 0, (n2 : Int)⟩ := by rw [h.d2, if_neg hn]

theorem HP.keep1 {n1 n2 : Nat} {s : AK} (h : HP n1 n2 s) (hn : n1 + 1 < 1024) : (s.keep 1).1 = 0 ∧ HP (n1 + 1) n2 (s.keep 1).2 := by
  unfold AK.keep
  rw [if_neg (fun e => e (AK.find_of h.d1 (AK.bit0 _))), h.d1]
  dsimp only
  rw [if_neg (by omega)]
  exact ⟨rfl, ⟨by rw [AK.desc_setD_same h.d1]; simp, (AK.desc_setD_ne (by decide)).trans h.d2, h.ob, h.ps, h.c0⟩⟩

theorem HP.keep2 {n1 n2 : Nat} {s : AK} (h : HP n1 n2 s) (h0 : n2 ≠ 0) (hn : n2 < 1024) : (s.keep 2).1 = 0 ∧ HP n1 (n2 + 1) (s.keep 2).2 := by
  have hd := h.d2' h0
  have hob := h.ob
  rw [if_neg h0] at hob
  unfold AK.keep
  rw [if_neg (fun e => e (AK.find_of hd (AK.bit0 _))), hd]
  dsimp only
  rw [if_neg (by omega)]
  exact ⟨rfl, ⟨(AK.desc_setD_ne (by decide)).trans h.d1, by rw [AK.desc_setD_same hd, if_neg (by omega)]; simp, by rw [if_neg (by omega)]; exact hob, h.ps, h.c0⟩⟩

theorem HP.drop1 {n1 n2 : Nat} {s : AK} (h : HP (n1 + 1) n2 s) : HP n1 n2 (s.drop 1).2 := by
  unfold AK.drop
  rw [if_neg (fun e => e (AK.find_of h.d1 (AK.bit0 _))), h.d1]
  dsimp only
  rw [if_neg (by omega)]
  exact ⟨by rw [AK.desc_setD_same h.d1]; simp, (AK.desc_setD_ne (by decide)).trans h.d2, h.ob, h.ps, h.c0⟩

theorem HP.drop2 {n1 n2 : Nat} {s : AK} (h : HP n1 (n2 + 1) s) : HP n1 n2 (s.drop 2).2 := by
  have hd := h.d2' (by omega)
  have hob := h.ob
  rw [if_neg (by omega)] at hob
  unfold AK.drop
  rw [if_neg (fun e => e (AK.find_of hd (AK.bit0 _))), hd]
  dsimp only
  by_cases h1 : n2 = 0
  · subst h1
    rw [if_pos (by omega)]
    unfold AK.leave
    dsimp only
    rw [show (s.delD 2).objs 0 = .pipe [] 1 1 from hob]
    refine ⟨(AK.desc_delD_ne (by decide)).trans h.d1, ?_, ?_, h.ps, h.c0⟩
    · rw [if_pos rfl]; exact AK.desc_delD_same s 2
    · rw [if_pos rfl]
      refine (AK.objs_setO_same _ _ _).trans ?_
      rw [show leaveP (bitI 2 2 != 0) 1 1 = (0, 1, 0) by decide]
  · rw [if_neg (by omega)]
    exact ⟨(AK.desc_setD_ne (by decide)).trans h.d1, by rw [AK.desc_setD_same hd, if_neg h1]; simp, by rw [if_neg h1]; exact hob, h.ps, h.c0⟩

/-- So many slots hold that description. -/
def cnt (d : Int) (sl : List (Int × Bool)) : Nat := sl.countP fun x => decide (x.1 = d)

theorem cnt_le (d : Int) (sl : List (Int × Bool)) : cnt d sl ≤ sl.length := List.countP_le_length

theorem cnt_set {d : Int} {sl : List (Int × Bool)} {i : Nat} (hi : i < sl.length) (x : Int × Bool) : cnt d (sl.set i x) + (if (sl[i]'hi).1 = d then 1 else 0) = cnt d sl + (if x.1 = d then 1 else 0) := by
  unfold cnt
  have hpos : (if (sl[i]'hi).1 = d then 1 else 0) ≤ sl.countP fun x => decide (x.1 = d) := by
    split
    · rename_i h
      exact List.countP_pos_iff.2 ⟨sl[i], List.getElem_mem hi, by simpa using h⟩
    · exact Nat.zero_le _
  rw [List.countP_set hi]
  simp only [decide_eq_true_eq]
  split <;> split <;> simp_all <;> omega

/-- Slots that hold the pipe's ends alone; the one that is written is at 1. -/
structure Slots (sl : List (Int × Bool)) : Prop where
  len : sl.length = 64
  two : ∀ x ∈ sl, (x.1 = 0 ∨ x.1 = 1 ∨ x.1 = 2) ∧ x.2 = false

theorem Slots.set {sl : List (Int × Bool)} (h : Slots sl) (i : Nat) {d : Int} (hd : d = 0 ∨ d = 1 ∨ d = 2) : Slots (sl.set i (d, false)) :=
  ⟨by rw [List.length_set]; exact h.len, fun x hx => by
    rcases List.mem_or_eq_of_mem_set hx with e | e
    · exact h.two x e
    · subst e; exact ⟨hd, rfl⟩⟩

theorem tAt_of {sl : List (Int × Bool)} (hl : sl.length = 64) {fd : Int} (h0 : 0 ≤ fd) (h1 : fd < 64) : ∃ h : fd.toNat < sl.length, tAt sl fd = if (sl[fd.toNat]'h).1 = 0 then none else some (sl[fd.toNat]'h) := by
  have hi : fd.toNat < sl.length := by omega
  refine ⟨hi, ?_⟩
  unfold tAt
  rw [if_pos ⟨h0, h1⟩, getD_at hi]

theorem HP.close {m1 m2 : Nat} {sl : List (Int × Bool)} {s : AK} (h : HP (cnt 1 sl + m1) (cnt 2 sl + m2) s) (hs : Slots sl) {fd : Nat} (hf : fd < 64) :
    (tClose sl s (fd : Int)).2.1 = sl.set fd (0, false) ∧ Slots (sl.set fd (0, false)) ∧ HP (cnt 1 (sl.set fd (0, false)) + m1) (cnt 2 (sl.set fd (0, false)) + m2) (tClose sl s (fd : Int)).2.2 := by
  have hi : fd < sl.length := by rw [hs.len]; exact hf
  obtain ⟨_, ha⟩ := tAt_of hs.len (fd := (fd : Int)) (by omega) (by omega)
  have hx := hs.two sl[fd] (List.getElem_mem hi)
  have hset := hs.set fd (.inl rfl : (0 : Int) = 0 ∨ (0 : Int) = 1 ∨ (0 : Int) = 2)
  have e1 := cnt_set (d := 1) hi (0, false)
  have e2 := cnt_set (d := 2) hi (0, false)
  simp only [show ¬ (0 : Int) = 1 by decide, show ¬ (0 : Int) = 2 by decide, if_false, Nat.add_zero] at e1 e2
  have ha : tAt sl (fd : Int) = if sl[fd].1 = 0 then none else some sl[fd] := ha
  unfold tClose
  rw [ha]
  rcases hx.1 with e | e | e
  · rw [if_pos e]
    have hself : sl.set fd (0, false) = sl := by
      have : ((0 : Int), false) = sl[fd] := by rw [← e, ← hx.2]
      rw [this, List.set_getElem_self]
    rw [hself]
    exact ⟨rfl, hs, h⟩
  · rw [if_neg (by omega)]
    rw [if_pos e] at e1
    rw [if_neg (by omega)] at e2
    dsimp only
    rw [Int.toNat_natCast, e]
    refine ⟨rfl, hset, ?_⟩
    have hh : HP ((cnt 1 (sl.set fd (0, false)) + m1) + 1) (cnt 2 (sl.set fd (0, false)) + m2) s := by
      have g1 : (cnt 1 (sl.set fd (0, false)) + m1) + 1 = cnt 1 sl + m1 := by omega
      have g2 : cnt 2 (sl.set fd (0, false)) + m2 = cnt 2 sl + m2 := by omega
      rw [g1, g2]; exact h
    exact hh.drop1
  · rw [if_neg (by omega)]
    rw [if_neg (by omega)] at e1
    rw [if_pos e] at e2
    dsimp only
    rw [Int.toNat_natCast, e]
    refine ⟨rfl, hset, ?_⟩
    have hh : HP (cnt 1 (sl.set fd (0, false)) + m1) ((cnt 2 (sl.set fd (0, false)) + m2) + 1) s := by
      have g1 : cnt 1 (sl.set fd (0, false)) + m1 = cnt 1 sl + m1 := by omega
      have g2 : (cnt 2 (sl.set fd (0, false)) + m2) + 1 = cnt 2 sl + m2 := by omega
      rw [g1, g2]; exact h
    exact hh.drop2

/-- The end that is written, duplicated to another slot. -/
theorem HP.dupto {m1 m2 : Nat} {sl : List (Int × Bool)} {s : AK} (h : HP (cnt 1 sl + m1) (cnt 2 sl + m2) s) (hs : Slots sl) (h1 : sl[1]? = some (2, false)) (hb : m2 < 512) (to : Int) :
    ∃ sl', (tDupTo sl s 1 to).2.1 = sl' ∧ Slots sl' ∧ sl'[1]? = some (2, false) ∧ HP (cnt 1 sl' + m1) (cnt 2 sl' + m2) (tDupTo sl s 1 to).2.2 := by
  have hi : 1 < sl.length := by rw [hs.len]; omega
  have hg : sl[1] = (2, false) := by rw [List.getElem?_eq_getElem hi] at h1; exact Option.some.inj h1
  have ha : tAt sl 1 = some (2, false) := by
    obtain ⟨_, ha⟩ := tAt_of hs.len (fd := 1) (by omega) (by omega)
    have ha : tAt sl 1 = if sl[1].1 = 0 then none else some sl[1] := ha
    rw [ha, hg, if_neg (by decide)]
  have hc2 : 1 ≤ cnt 2 sl := by
    unfold cnt
    exact List.countP_pos_iff.2 ⟨sl[1], List.getElem_mem hi, by rw [hg]; rfl⟩
  have hcl := cnt_le 2 sl
  rw [hs.len] at hcl
  unfold tDupTo
  rw [ha]
  dsimp only
  by_cases e1 : to < 0 ∨ to ≥ 64
  · rw [if_pos e1]; exact ⟨sl, rfl, hs, h1, h⟩
  rw [if_neg e1]
  by_cases e2 : to = 1
  · rw [if_pos e2]; exact ⟨sl, rfl, hs, h1, h⟩
  rw [if_neg e2]
  obtain ⟨k1, k2⟩ := h.keep2 (by omega) (by omega)
  rw [if_neg (fun e => e k1)]
  dsimp only
  obtain ⟨t, rfl⟩ : ∃ t : Nat, to = (t : Int) := ⟨to.toNat, by omega⟩
  have ht : t < 64 := by omega
  have htl : t < sl.length := by rw [hs.len]; exact ht
  have k2 : HP (cnt 1 sl + m1) (cnt 2 sl + (m2 + 1)) (s.keep 2).2 := k2
  obtain ⟨c1, c2, c3⟩ := k2.close hs ht
  rw [c1, Int.toNat_natCast, List.set_set]
  have g1 := cnt_set (d := 1) htl (2, false)
  have g2 := cnt_set (d := 2) htl (2, false)
  have f1 := cnt_set (d := 1) htl (0, false)
  have f2 := cnt_set (d := 2) htl (0, false)
  simp only [show ¬ (0 : Int) = 1 by decide, show ¬ (0 : Int) = 2 by decide, show ¬ (2 : Int) = 1 by decide, if_false, if_true, Nat.add_zero] at g1 g2 f1 f2
  refine ⟨_, rfl, hs.set t (.inr (.inr rfl)), by rw [List.getElem?_set_ne (by omega)]; exact h1, ?_⟩
  have q1 : cnt 1 (sl.set t (2, false)) + m1 = cnt 1 (sl.set t (0, false)) + m1 := by omega
  have q2 : cnt 2 (sl.set t (2, false)) + m2 = cnt 2 (sl.set t (0, false)) + (m2 + 1) := by omega
  rw [q1, q2]
  exact c3

theorem cnt_snoc (d : Int) (l : List (Int × Bool)) (x : Int × Bool) : cnt d (l ++ [x]) = cnt d l + (if x.1 = d then 1 else 0) := by
  unfold cnt
  rw [List.countP_append, List.countP_singleton]
  simp only [decide_eq_true_eq]

theorem HP.forkL {m1 m2 : Nat} {sl : List (Int × Bool)} (hs : Slots sl) (hb1 : m1 < 512) (hb2 : m2 < 512) (h2 : m2 ≠ 0) : ∀ (n i : Nat) (s : AK), i + n = 64 → HP (m1 + cnt 1 (sl.take i)) (m2 + cnt 2 (sl.take i)) s →
    (forkL sl n i (sl.take i ++ List.replicate n (0, false)) s).1 = sl ∧ HP (m1 + cnt 1 sl) (m2 + cnt 2 sl) (forkL sl n i (sl.take i ++ List.replicate n (0, false)) s).2
  | 0, i, s, hi, h => by
    have : sl.take i = sl := List.take_of_length_le (by rw [hs.len]; omega)
    rw [this] at h ⊢
    exact ⟨by unfold Go.Proofs.Ytbiofmgebbdflaa.forkL; simp, by unfold Go.Proofs.Ytbiofmgebbdflaa.forkL; exact h⟩
  | n + 1, i, s, hi, h => by
    have hil : i < sl.length := by rw [hs.len]; omega
    have hx := hs.two sl[i] (List.getElem_mem hil)
    have htk : sl.take (i + 1) = sl.take i ++ [sl[i]] := by rw [List.take_add_one, List.getElem?_eq_getElem hil]; rfl
    have htl : (sl.take i).length = i := by rw [List.length_take]; omega
    have hle1 := cnt_le 1 (sl.take i)
    have hle2 := cnt_le 2 (sl.take i)
    rw [htl] at hle1 hle2
    have hset : ∀ x : Int × Bool, (sl.take i ++ List.replicate (n + 1) ((0 : Int), false)).set i x = sl.take i ++ [x] ++ List.replicate n (0, false) := by
      intro x
      rw [List.set_append_right _ _ (by omega), htl, Nat.sub_self, List.replicate_succ, List.set_cons_zero, List.append_assoc]
      rfl
    have h1 := cnt_snoc 1 (sl.take i) sl[i]
    have h2' := cnt_snoc 2 (sl.take i) sl[i]
    rw [← htk] at h1 h2'
    have hu : Go.Proofs.Ytbiofmgebbdflaa.forkL sl (n + 1) i (sl.take i ++ List.replicate (n + 1) (0, false)) s =
        if sl[i].1 ≠ 0 ∧ sl[i].2 = false then
          (if (s.keep sl[i].1).1 = 0 then Go.Proofs.Ytbiofmgebbdflaa.forkL sl n (i + 1) ((sl.take i ++ List.replicate (n + 1) (0, false)).set i (sl[i].1, false)) (s.keep sl[i].1).2 else Go.Proofs.Ytbiofmgebbdflaa.forkL sl n (i + 1) (sl.take i ++ List.replicate (n + 1) (0, false)) (s.keep sl[i].1).2)
        else Go.Proofs.Ytbiofmgebbdflaa.forkL sl n (i + 1) (sl.take i ++ List.replicate (n + 1) (0, false)) s := by
      rw [← getD_at hil]; rfl
    rw [hu]
    have hsl : sl.take i ++ [(sl[i].1, false)] = sl.take (i + 1) := by
      rw [htk]
      have : (sl[i].1, false) = sl[i] := by rw [← hx.2]
      rw [this]
    rcases hx.1 with e | e | e
    · rw [if_neg (fun h => h.1 e)]
      have hz : sl.take i ++ List.replicate (n + 1) ((0 : Int), false) = sl.take (i + 1) ++ List.replicate n (0, false) := by
        rw [← hsl, e, List.replicate_succ, List.append_assoc]; rfl
      rw [hz]
      refine HP.forkL hs hb1 hb2 h2 n (i + 1) s (by omega) ?_
      rw [h1, h2', if_neg (by omega), if_neg (by omega)]
      exact h
    · rw [if_pos ⟨by omega, hx.2⟩]
      rw [if_pos e] at h1
      rw [if_neg (by omega)] at h2'
      obtain ⟨k1, k2⟩ := h.keep1 (by omega)
      have ek : s.keep sl[i].1 = s.keep 1 := by rw [e]
      rw [ek, if_pos k1, hset, hsl]
      refine HP.forkL hs hb1 hb2 h2 n (i + 1) _ (by omega) ?_
      rw [h1, h2']
      exact k2
    · rw [if_pos ⟨by omega, hx.2⟩]
      rw [if_neg (by omega)] at h1
      rw [if_pos e] at h2'
      obtain ⟨k1, k2⟩ := h.keep2 (by omega) (by omega)
      have ek : s.keep sl[i].1 = s.keep 2 := by rw [e]
      rw [ek, if_pos k1, hset, hsl]
      refine HP.forkL hs hb1 hb2 h2 n (i + 1) _ (by omega) ?_
      rw [h1, h2']
      exact k2

theorem HP.fork {m1 m2 : Nat} {sl : List (Int × Bool)} {s : AK} (h : HP m1 m2 s) (hs : Slots sl) (hb1 : m1 < 512) (hb2 : m2 < 512) (h2 : m2 ≠ 0) : (tFork sl s).1 = sl ∧ HP (m1 + cnt 1 sl) (m2 + cnt 2 sl) (tFork sl s).2 :=
  HP.forkL hs hb1 hb2 h2 64 0 s rfl (by simpa [cnt] using h)

theorem usedL_mem {sl : List (Int × Bool)} : ∀ (n i x : Nat), i ≤ x → x < i + n → (sl.getD x (0, false)).1 ≠ 0 → x ∈ usedL sl i n
  | 0, i, x, h1, h2, _ => by omega
  | n + 1, i, x, h1, h2, hx => by
    unfold usedL
    by_cases e : x = i
    · subst e
      rw [if_pos hx]; simp
    · have := usedL_mem n (i + 1) x (by omega) (by omega) hx
      split
      · exact List.mem_cons_of_mem _ this
      · exact this

theorem usedL_nil {sl : List (Int × Bool)} : ∀ (n i : Nat), (∀ x, i ≤ x → x < i + n → (sl.getD x (0, false)).1 = 0) → usedL sl i n = []
  | 0, i, _ => rfl
  | n + 1, i, h => by
    unfold usedL
    rw [if_neg (fun e => e (h i (by omega) (by omega)))]
    exact usedL_nil n (i + 1) fun x h1 h2 => h x (by omega) (by omega)

theorem HP.closes {m1 m2 : Nat} : ∀ (l : List Nat) (sl : List (Int × Bool)) (s : AK), (∀ x ∈ l, x < 64) → Slots sl → HP (cnt 1 sl + m1) (cnt 2 sl + m2) s →
    Slots (l.foldl closeS (sl, s)).1 ∧ HP (cnt 1 (l.foldl closeS (sl, s)).1 + m1) (cnt 2 (l.foldl closeS (sl, s)).1 + m2) (l.foldl closeS (sl, s)).2 ∧ ∀ i, ((l.foldl closeS (sl, s)).1.getD i (0, false)).1 = if i ∈ l then 0 else (sl.getD i (0, false)).1
  | [], sl, s, _, hs, h => ⟨hs, h, fun i => by simp⟩
  | x :: l, sl, s, hl, hs, h => by
    obtain ⟨c1, c2, c3⟩ := h.close hs (hl x (by simp))
    have hst : closeS (sl, s) x = (sl.set x (0, false), (tClose sl s (x : Int)).2.2) := by unfold closeS; rw [c1]
    rw [List.foldl_cons, hst]
    obtain ⟨g1, g2, g3⟩ := HP.closes l _ _ (fun y hy => hl y (by simp [hy])) c2 c3
    refine ⟨g1, g2, fun i => ?_⟩
    rw [g3 i]
    by_cases e : i ∈ l
    · rw [if_pos e, if_pos (by simp [e])]
    · rw [if_neg e]
      rw [List.getD_eq_getElem?_getD, List.getElem?_set]
      by_cases e2 : x = i
      · subst e2
        have hxl : x < sl.length := by rw [hs.len]; exact hl x (by simp)
        rw [if_pos rfl, if_pos hxl, if_pos (by simp)]
        rfl
      · rw [if_neg e2, if_neg (by simp [e, Ne.symm e2]), ← List.getD_eq_getElem?_getD]

theorem HP.closeAll {m1 m2 : Nat} {sl : List (Int × Bool)} {s : AK} (h : HP (cnt 1 sl + m1) (cnt 2 sl + m2) s) (hs : Slots sl) : usedIx (tCloseAll sl s).1 = [] ∧ HP m1 m2 (tCloseAll sl s).2 := by
  obtain ⟨g1, g2, g3⟩ := HP.closes (usedIx sl) sl s (fun x hx => by have := (usedL_lt sl 64 0).2 x hx; omega) hs h
  have hz : ∀ i, (((usedIx sl).foldl closeS (sl, s)).1.getD i (0, false)).1 = 0 := by
    intro i
    rw [g3 i]
    by_cases e : i ∈ usedIx sl
    · rw [if_pos e]
    · rw [if_neg e]
      by_cases hi : i < 64
      · refine Decidable.byContradiction fun hn => e (usedL_mem 64 0 i (by omega) (by omega) hn)
      · rw [List.getD_eq_getElem?_getD, List.getElem?_eq_none (by rw [hs.len]; omega)]; rfl
  have hc : ∀ d : Int, d ≠ 0 → cnt d ((usedIx sl).foldl closeS (sl, s)).1 = 0 := by
    intro d hd
    unfold cnt
    rw [List.countP_eq_zero]
    intro x hx
    obtain ⟨i, hi, rfl⟩ := List.mem_iff_getElem.1 hx
    have := hz i
    rw [getD_at hi] at this
    simp only [decide_eq_true_eq]
    omega
  rw [hc 1 (by decide), hc 2 (by decide), Nat.zero_add, Nat.zero_add] at g2
  exact ⟨usedL_nil 64 0 fun x _ _ => hz x, g2⟩

/-- In all tables. -/
def tot (d : Int) : List (List (Int × Bool)) → Nat
  | [] => 0
  | sl :: r => cnt d sl + tot d r
theorem tot_snoc (d : Int) (sl : List (Int × Bool)) : ∀ l : List (List (Int × Bool)), tot d (l ++ [sl]) = tot d l + cnt d sl
  | [] => by simp [tot]
  | x :: r => by
    show cnt d x + tot d (r ++ [sl]) = cnt d x + tot d r + cnt d sl
    rw [tot_snoc d sl r]; omega
theorem tot_le (d : Int) : ∀ {l : List (List (Int × Bool))}, (∀ sl ∈ l, Slots sl) → tot d l ≤ 64 * l.length
  | [], _ => Nat.zero_le _
  | x :: r, h => by
    have h1 := tot_le d (l := r) fun sl hsl => h sl (by simp [hsl])
    have h2 := cnt_le d x
    rw [(h x (by simp)).len] at h2
    show cnt d x + tot d r ≤ 64 * (r.length + 1)
    omega

end Go.Proofs.Ytbiofmgebbdflaa
