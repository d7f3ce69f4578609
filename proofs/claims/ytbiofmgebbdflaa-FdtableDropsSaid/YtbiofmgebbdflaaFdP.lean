/-
  Tables as values: the lowest free one; slots and descriptions one by one. Conditions: as each says.
-/
import Derived.Test.YtbiofmgebbdflaaFdB
set_option linter.unusedVariables false
namespace Go.Proofs.Ytbiofmgebbdflaa
open Go.Lw

theorem freeL_skip {sl : List (Int × Bool)} : ∀ (j : Nat), j ≤ 64 → (∀ k, k < j → (sl.getD k (0, false)).1 ≠ 0) → freeL sl 0 64 = freeL sl j (64 - j)
  | 0, _, _ => rfl
  | j + 1, hj, h => by
    rw [freeL_skip j (by omega) fun k hk => h k (by omega)]
    obtain ⟨m, hm⟩ : ∃ m, 64 - j = m + 1 := ⟨63 - j, by omega⟩
    rw [hm, show 64 - (j + 1) = m by omega]
    show (if (sl.getD j (0, false)).1 = 0 then _ else _) = _
    rw [if_neg (h j (by omega))]

theorem freeIx_low {sl : List (Int × Bool)} {j : Nat} (hj : j < 64) (h : ∀ k, k < j → (sl.getD k (0, false)).1 ≠ 0) (hz : (sl.getD j (0, false)).1 = 0) : ∃ r, freeIx sl = j :: r := by
  unfold freeIx
  rw [freeL_skip j (by omega) h]
  obtain ⟨m, hm⟩ : ∃ m, 64 - j = m + 1 := ⟨63 - j, by omega⟩
  rw [hm]
  refine ⟨freeL sl (j + 1) m, ?_⟩
  show (if (sl.getD j (0, false)).1 = 0 then _ else _) = _
  rw [if_pos hz]
theorem freeIx_full {sl : List (Int × Bool)} (h : ∀ k, k < 64 → (sl.getD k (0, false)).1 ≠ 0) : freeIx sl = [] := by
  unfold freeIx
  rw [freeL_skip 64 (Nat.le_refl _) h]
  rfl

theorem nodup_len {α : Type} [DecidableEq α] : ∀ {l1 l2 : List α}, l1.Nodup → (∀ x ∈ l1, x ∈ l2) → l1.length ≤ l2.length
  | [], l2, _, _ => Nat.zero_le _
  | a :: l1, l2, hn, hs => by
    rw [List.nodup_cons] at hn
    have ha := hs a (by simp)
    have := nodup_len (l1 := l1) (l2 := l2.erase a) hn.2 fun x hx => by
      have hxa : x ≠ a := fun e => hn.1 (by rw [← e]; exact hx)
      exact (List.mem_erase_of_ne hxa).2 (hs x (by simp [hx]))
    rw [List.length_erase_of_mem ha] at this
    have := List.length_pos_of_mem ha
    rw [List.length_cons]
    omega

/-- Each slot has a description of its own, of the one file; there are no others. -/
structure Lone (sl : List (Int × Bool)) (s : AK) (bs : List Int) : Prop where
  len : sl.length = 64
  slot : ∀ x ∈ s.descs, ∃ i, ∃ h : i < sl.length, (sl[i]'h).1 = x.num
  desc : ∀ i, (h : i < sl.length) → (sl[i]'h).1 ≠ 0 → ∃ x, s.desc (sl[i]'h).1 = some x ∧ x.hd = 1 ∧ x.ob = 0
  inj : ∀ i j, (h : i < sl.length) → (h' : j < sl.length) → (sl[i]'h).1 = (sl[j]'h').1 → (sl[i]'h).1 ≠ 0 → i = j
  ob : s.objs 0 = .file bs
  fo : s.fileOf (ByteArray.mk #[102]) = some (ByteArray.mk #[102], 0)
  to : s.termOf (ByteArray.mk #[102]) = none
  dn : (s.descs.map (·.num)).Nodup
  lt : ∀ x ∈ s.descs, 1 ≤ x.num ∧ x.num < s.next
  nx : 1 ≤ s.next

theorem Lone.few {sl : List (Int × Bool)} {s : AK} {bs : List Int} (h : Lone sl s bs) : s.descs.length ≤ 64 := by
  have := nodup_len (l1 := s.descs.map (·.num)) (l2 := sl.map (·.1)) h.dn fun d hd => by
    obtain ⟨x, hx, rfl⟩ := List.mem_map.1 hd
    obtain ⟨i, hi, e⟩ := h.slot x hx
    exact List.mem_map.2 ⟨sl[i], List.getElem_mem hi, e⟩
  rw [List.length_map, List.length_map, h.len] at this
  exact this

theorem leave_file {s : AK} {x : AD} {bs : List Int} (h : s.objs x.ob = .file bs) : s.leave x = s := by unfold AK.leave; rw [h]

theorem drop_one {s : AK} {d : Int} {x : AD} {bs : List Int} (hx : s.desc d = some x) (h1 : x.hd = 1) (ho : s.objs x.ob = .file bs) : (s.drop d).2 = s.delD d := by
  unfold AK.drop
  rw [if_neg (fun e => e (AK.find_of hx (AK.bit0 _))), hx]
  dsimp only
  rw [if_pos h1]
  dsimp only
  exact leave_file (s := s.delD d) ho

theorem Lone.close {sl : List (Int × Bool)} {s : AK} {bs : List Int} (h : Lone sl s bs) {fd : Nat} (hfd : fd < 64) :
    (tClose sl s (fd : Int)).1 = (if (sl.getD fd (0, false)).1 ≠ 0 then 0 else 71) ∧ Lone (tClose sl s (fd : Int)).2.1 (tClose sl s (fd : Int)).2.2 bs ∧ (tClose sl s (fd : Int)).2.1 = sl.set fd ((0 : Int), (if (sl.getD fd (0, false)).1 ≠ 0 then false else (sl.getD fd (0, false)).2)) ∧ (tClose sl s (fd : Int)).2.2.next = s.next := by
  have hi : fd < sl.length := by rw [h.len]; exact hfd
  have hg := getD_at hi
  have hA : tAt sl (fd : Int) = if sl[fd].1 = 0 then none else some sl[fd] := by
    unfold tAt
    rw [if_pos ⟨by omega, by omega⟩, Int.toNat_natCast, hg]
  unfold tClose
  rw [hA, hg]
  by_cases hz : sl[fd].1 = 0
  · rw [if_pos hz, if_neg (fun e => e hz), if_neg (fun e => e hz)]
    refine ⟨rfl, h, ?_, rfl⟩
    have : ((0 : Int), sl[fd].2) = sl[fd] := by rw [← hz]
    rw [this]
    dsimp only
    rw [List.set_getElem_self]
  · rw [if_neg hz, if_pos hz, if_pos hz]
    dsimp only
    rw [Int.toNat_natCast]
    obtain ⟨x, hx, hx1, hx0⟩ := h.desc fd hi hz
    obtain ⟨hxm, hxn⟩ := AK.desc_some hx
    have ho : s.objs x.ob = .file bs := by rw [hx0]; exact h.ob
    rw [drop_one hx hx1 ho]
    have hnot : ∀ y ∈ (s.delD sl[fd].1).descs, y ∈ s.descs ∧ y.num ≠ sl[fd].1 := fun y hy => by
      have := List.mem_filter.1 hy
      exact ⟨this.1, by simpa using this.2⟩
    refine ⟨rfl, ⟨by rw [List.length_set]; exact h.len, fun y hy => ?_, fun i hi' hne => ?_, fun i j hi' hj' he hne => ?_, h.ob, h.fo, h.to, List.Sublist.nodup (List.filter_sublist.map _) h.dn, fun y hy => h.lt y (hnot y hy).1, h.nx⟩, rfl, rfl⟩
    · obtain ⟨i, hi', e⟩ := h.slot y (hnot y hy).1
      refine ⟨i, by rw [List.length_set]; exact hi', ?_⟩
      rw [List.getElem_set_ne (fun e' => by subst e'; exact (hnot y hy).2 e.symm)]
      exact e
    · rw [List.length_set] at hi'
      by_cases e : fd = i
      · subst e; rw [List.getElem_set_self] at hne; exact absurd rfl hne
      · rw [List.getElem_set_ne e] at hne ⊢
        obtain ⟨y, hy, h1, h2⟩ := h.desc i hi' hne
        refine ⟨y, ?_, h1, h2⟩
        rw [AK.desc_delD_ne (fun e' => e (h.inj fd i hi hi' e'.symm hz))]
        exact hy
    · rw [List.length_set] at hi' hj'
      by_cases e : fd = i
      · subst e; rw [List.getElem_set_self] at hne; exact absurd rfl hne
      · rw [List.getElem_set_ne e] at hne he
        by_cases e2 : fd = j
        · subst e2; rw [List.getElem_set_self] at he; exact absurd he hne
        · rw [List.getElem_set_ne e2] at he
          exact h.inj i j hi' hj' he hne

theorem Lone.open_ {sl : List (Int × Bool)} {s : AK} {bs : List Int} (h : Lone sl s bs) {j : Nat} {r : List Nat} (hf : freeIx sl = j :: r) (hj : j < 64) (hz : (sl.getD j (0, false)).1 = 0) :
    (tOpen sl s (ByteArray.mk #[102]) 1).1 = (j : Int) ∧ (tOpen sl s (ByteArray.mk #[102]) 1).2.1 = 0 ∧ (tOpen sl s (ByteArray.mk #[102]) 1).2.2.1 = sl.set j (s.next, false) ∧ Lone (sl.set j (s.next, false)) (tOpen sl s (ByteArray.mk #[102]) 1).2.2.2 bs ∧ (tOpen sl s (ByteArray.mk #[102]) 1).2.2.2.next = s.next + 1 := by
  have hop : s.open_ (ByteArray.mk #[102]) 1 = (s.next, 0, s.newD 0 1) := AK.open_there (by kernel_rfl) (by kernel_rfl) (by have := h.few; omega) h.fo h.to (by kernel_rfl) (by kernel_rfl)
  have hi : j < sl.length := by rw [h.len]; exact hj
  rw [getD_at hi] at hz
  have hn := h.nx
  unfold tOpen
  rw [hf, hop]
  dsimp only
  rw [if_neg (by simp)]
  have hds : (s.newD 0 1).descs = s.descs ++ [⟨s.next, 0, 1, 0, 1⟩] := rfl
  have hnew : (s.newD 0 1).desc s.next = some ⟨s.next, 0, 1, 0, 1⟩ := by
    unfold AK.desc
    rw [hds, List.find?_append]
    have : s.descs.find? (fun x => decide (x.num = s.next)) = none := by
      rw [List.find?_eq_none]
      intro x hx
      have := (h.lt x hx).2
      simp only [decide_eq_true_eq]
      omega
    rw [this, Option.none_or, List.find?_cons_of_pos (by simp)]
  have hold : ∀ i, (h' : i < sl.length) → (sl[i]'h').1 ≠ 0 → (sl[i]'h').1 < s.next := fun i hi' hne => by
    obtain ⟨x, hx, _⟩ := h.desc i hi' hne
    obtain ⟨hm, hnm⟩ := AK.desc_some hx
    have := (h.lt x hm).2
    omega
  refine ⟨rfl, rfl, rfl, ⟨by rw [List.length_set]; exact h.len, fun y hy => ?_, fun i hi' hne => ?_, fun i k hi' hk' he hne => ?_, h.ob, h.fo, h.to, ?_, fun y hy => ?_, by show 1 ≤ s.next + 1; omega⟩, rfl⟩
  · rw [hds] at hy
    rcases List.mem_append.1 hy with hy | hy
    · obtain ⟨i, hi', e⟩ := h.slot y hy
      refine ⟨i, by rw [List.length_set]; exact hi', ?_⟩
      rw [List.getElem_set_ne (fun e' => by subst e'; have := (h.lt y hy).1; omega)]
      exact e
    · simp only [List.mem_singleton] at hy
      subst hy
      exact ⟨j, by rw [List.length_set]; exact hi, by rw [List.getElem_set_self]⟩
  · rw [List.length_set] at hi'
    by_cases e : j = i
    · subst e
      rw [List.getElem_set_self]
      exact ⟨_, hnew, rfl, rfl⟩
    · rw [List.getElem_set_ne e] at hne ⊢
      obtain ⟨y, hy, h1, h2⟩ := h.desc i hi' hne
      exact ⟨y, (AK.desc_newD_old (fun e' => by have := hold i hi' hne; omega)).trans hy, h1, h2⟩
  · rw [List.length_set] at hi' hk'
    by_cases e : j = i
    · subst e
      by_cases e2 : j = k
      · exact e2
      · rw [List.getElem_set_self, List.getElem_set_ne e2] at he
        have := hold k hk' (by rw [← he]; omega)
        dsimp only at he
        omega
    · rw [List.getElem_set_ne e] at hne he
      by_cases e2 : j = k
      · subst e2
        rw [List.getElem_set_self] at he
        have := hold i hi' hne
        dsimp only at he
        omega
      · rw [List.getElem_set_ne e2] at he
        exact h.inj i k hi' hk' he hne
  · rw [hds, List.map_append]
    exact AK.nodup_snoc h.dn fun e => by
      obtain ⟨x, hx, e⟩ := List.mem_map.1 e
      have := (h.lt x hx).2
      dsimp only at e
      omega
  · rw [hds] at hy
    have hnx : (s.newD 0 1).next = s.next + 1 := rfl
    rw [hnx]
    rcases List.mem_append.1 hy with hy | hy
    · have := h.lt y hy; omega
    · simp only [List.mem_singleton] at hy
      subst hy
      dsimp only
      omega

theorem slots0_at (i : Nat) (h : i < slots0.length) : slots0[i] = ((0 : Int), false) := List.getElem_replicate h

theorem lone0 (bs : List Int) : Lone slots0 (AK.new [(ByteArray.mk #[102], bs)] [] []) bs where
  len := by unfold slots0; simp
  slot := fun x hx => by rw [(AK.new_is _ _ _).2.2.1] at hx; cases hx
  desc := fun i h hne => by rw [slots0_at] at hne; exact absurd rfl hne
  inj := fun i j h h' _ hne => by rw [slots0_at] at hne; exact absurd rfl hne
  ob := by kernel_rfl
  fo := (AK.one_file _ bs []).1
  to := (AK.one_file _ bs []).2
  dn := by rw [(AK.new_is _ _ _).2.2.1]; simp
  lt := fun x hx => by rw [(AK.new_is _ _ _).2.2.1] at hx; cases hx
  nx := by rw [(AK.new_is _ _ _).2.2.2.1]; omega

end Go.Proofs.Ytbiofmgebbdflaa
