/-
  Whatever was opened and closed, a new descriptor is the lowest one that was free: the walk. Conditions: none.
-/
import Derived.Test.YtbiofmgebbdflaaFdA
import Derived.Test.YtbiofmgebbdflaaFdP
import Derived.Test.YtbiofmgebbdflaaLFf
import Derived.Test.YtbiofmgebbdflaaOFdtableLowest
set_option linter.unusedVariables false
namespace Go.Proofs.Ytbiofmgebbdflaa
open Go.Lw

/-- Which slots are in use, as the law keeps it. -/
def UsO (w : World) (u : Nat) (sl : List (Int × Bool)) : Prop := ∃ cur, Blk w u cur ∧ cur.size = 64 ∧ ∀ i, i < 64 → cur[i]? = some (.bool (decide ((sl.getD i (0, false)).1 ≠ 0)))

theorem UsO.keep {w w' : World} {u : Nat} {sl : List (Int × Bool)} (h : UsO w u sl) {S : Nat → Prop} (k : Kept S w w') (hn : ¬ S u) : UsO w' u sl := by
  obtain ⟨cur, hb, hc⟩ := h; exact ⟨cur, hb.keep k hn, hc⟩
theorem UsO.at {w : World} {u : Nat} {sl : List (Int × Bool)} (h : UsO w u sl) {i : Nat} (hi : i < 64) : w.cell? ((⟨u, 0, none⟩ : Addr).add i) = some (.bool (decide ((sl.getD i (0, false)).1 ≠ 0))) := by
  obtain ⟨cur, hb, hs, hc⟩ := h
  exact hb.at (hc i hi)
theorem UsO.st {w : World} {u : Nat} {sl : List (Int × Bool)} (h : UsO w u sl) (hl : sl.length = 64) {i : Nat} (hi : i < 64) {x : Int × Bool} {b : Bool} (hb : b = decide (x.1 ≠ 0)) {K : World → Prop} (hk : ∀ w', UsO w' u (sl.set i x) → Kept (· = u) w w' → w'.heap.size = w.heap.size → K w') :
    stC ((⟨u, 0, none⟩ : Addr).add i) (.bool b) w K := by
  obtain ⟨cur, hbl, hs, hc⟩ := h
  refine stC_at hbl (by omega) fun w' hb' hk' hs' => hk w' ⟨_, hb', by simpa using hs, fun j hj => ?_⟩ hk' hs'
  have hg : (sl.set i x).getD j (0, false) = if i = j then x else sl.getD j (0, false) := by
    rw [List.getD_eq_getElem?_getD, List.getD_eq_getElem?_getD, List.getElem?_set]
    by_cases e : i = j
    · subst e; rw [if_pos rfl, if_pos rfl, if_pos (by omega)]; rfl
    · rw [if_neg e, if_neg e]
  rw [hg]
  by_cases e : i = j
  · subst e
    rw [if_pos rfl, Array.getElem?_setIfInBounds_self_of_lt (by omega), hb]
  · rw [if_neg e, Array.getElem?_setIfInBounds_ne (by omega)]
    exact hc j hj

set_option maxRecDepth 100000 in
set_option maxHeartbeats 4000000 in
theorem walk_fdtableLowest {W : World} {args : List Value} (h : V4 W args) : CallR Try.prog 4 args W fun v w' => v = .bool true ∧ Kept No W w' := by
  obtain ⟨a1, l1, c1, acts, hacts, _, hl1, rfl⟩ := h
  have hacts : RdS 1 W a1 l1 c1 (In acts) := hacts
  have hlen := In_len hacts
  refine C4 ?_
  unfold L4
  refine CallR.mono alive7_ok ?_
  rintro v w1 ⟨rfl, hk1⟩
  refine ⟨_, rfl, condFa2 ?_⟩
  intro w2
  have hb2 : Blk w2 w1.heap.size #[.string (ByteArray.mk #[102]), .slice none 0 0] := Blk.alloc _ _ _
  have hk2 : Kept No w1 w2 := Kept.alloc _ _ _
  clear_value w2
  have k2 := hk1.no hk2
  have hfs : RdN RB w2 (some ⟨w1.heap.size, 0, none⟩) 1 1 [(ByteArray.mk #[102], ([] : List Int))] [(ByteArray.mk #[102], (none, 0, 0))] :=
    ⟨(SlO.of_blk (sz := 2) (n := 1) hb2 (by simp)).rd, rfl, fun i h1 h2 => by
      have : i = 0 := by simpa using h1
      subst this
      exact ⟨rfl, RdB.nil _⟩⟩
  have hnil : RdN RL w2 none 0 0 ([] : List (ByteArray × List (List Int))) [] := ⟨RdS.nil 2 w2, rfl, fun i h1 h2 => by simp at h1⟩
  refine CallR.mono (kernNew_ok hfs hnil (ps := []) (RdS.nil 2 w2) (by omega) (by omega)) ?_
  rintro v w3 ⟨hk3, ⟨hne, _⟩ | ⟨_, gk, L3, rfl, h3, hL3⟩⟩
  · exact absurd (by kernel_rfl : checkK [(ByteArray.mk #[102], ([] : List Int))] [] [] = 0) hne
  have k3 := k2.no hk3
  refine ⟨_, _, rfl, CallR.mono (tnew_okT gk) ?_⟩
  rintro v w4 ⟨rfl, hT4, hk4⟩
  have h4 := h3.no hk4
  have hn4 : L3.own w3.heap.size = none := h3.new_none (Nat.le_refl _)
  have hz3 := k3.size
  have hL : ∀ z, L3.own z ≠ none → W.heap.size ≤ z := fun z hz => by have := hL3 z hz; have := k2.size; omega
  refine ⟨_, rfl, tnum_to ⟨_, rfl, condFa2 (condFa2 ?_)⟩⟩
  intro w6
  have hk6 : Kept No w4 w6 := Kept.alloc _ _ _
  have hU6 : UsO w6 w4.heap.size slots0 := by
    refine ⟨_, Blk.alloc _ _ _, rfl, fun i hi => ?_⟩
    have hg : slots0.getD i (0, false) = ((0 : Int), false) := by rw [getD_at (by rw [show slots0.length = 64 from List.length_replicate]; exact hi), slots0_at]
    rw [hg]
    have : ∀ i, i < 64 → (#[Value.bool false, .bool false, .bool false, .bool false, .bool false, .bool false, .bool false, .bool false, .bool false, .bool false, .bool false, .bool false, .bool false, .bool false, .bool false, .bool false, .bool false, .bool false, .bool false, .bool false, .bool false, .bool false, .bool false, .bool false, .bool false, .bool false, .bool false, .bool false, .bool false, .bool false, .bool false, .bool false, .bool false, .bool false, .bool false, .bool false, .bool false, .bool false, .bool false, .bool false, .bool false, .bool false, .bool false, .bool false, .bool false, .bool false, .bool false, .bool false, .bool false, .bool false, .bool false, .bool false, .bool false, .bool false, .bool false, .bool false, .bool false, .bool false, .bool false, .bool false, .bool false, .bool false, .bool false, .bool false] : Array Value)[i]? = some (.bool false) := by
      intro i hi
      have e : (#[Value.bool false, .bool false, .bool false, .bool false, .bool false, .bool false, .bool false, .bool false, .bool false, .bool false, .bool false, .bool false, .bool false, .bool false, .bool false, .bool false, .bool false, .bool false, .bool false, .bool false, .bool false, .bool false, .bool false, .bool false, .bool false, .bool false, .bool false, .bool false, .bool false, .bool false, .bool false, .bool false, .bool false, .bool false, .bool false, .bool false, .bool false, .bool false, .bool false, .bool false, .bool false, .bool false, .bool false, .bool false, .bool false, .bool false, .bool false, .bool false, .bool false, .bool false, .bool false, .bool false, .bool false, .bool false, .bool false, .bool false, .bool false, .bool false, .bool false, .bool false, .bool false, .bool false, .bool false, .bool false] : Array Value) = Array.replicate 64 (.bool false) := by kernel_rfl
      rw [e, Array.getElem?_replicate, if_pos hi]
    exact this i hi
  have hT6 := hT4.keep hk6 fun e => e
  have h6 := h4.no hk6
  have hT4lt := hT4.lt
  have hu : w4.heap.size ≠ w3.heap.size := by omega
  have hLu : ∀ z, L3.own z ≠ none → z < w3.heap.size := fun z hz => h3.lt z hz
  clear_value w6
  generalize hug : w4.heap.size = u at *
  generalize htg : w3.heap.size = t at *
  have hbase : w4.heap.size ≤ w6.heap.size := hk6.size
  have k6 : Kept No W w6 := (k3.no hk4).no hk6
  refine ⟨fun vs w' => ∃ (i : Nat) (sl : List (Int × Bool)) (s : AK) (L : KL), vs = [.int .i64 (i : Int)] ∧ i ≤ l1 ∧ s.next ≤ 1 + (i : Int) ∧ Lone sl s [] ∧ TabO w' t gk sl ∧ KernO w' gk s L ∧ UsO w' u sl ∧ L.own t = none ∧ L.own u = none ∧ (∀ z, L.own z ≠ none → W.heap.size ≤ z) ∧ Kept No W w',
    fun vs _ => l1 - ix vs, ⟨0, slots0, _, L3, rfl, by omega, by rw [(AK.new_is _ _ _).2.2.2.1]; omega, lone0 [], hT6, h6, hU6, hn4, ?_, hL, k6⟩, ?_⟩
  · cases ho : L3.own u with
    | none => rfl
    | some x => have := hLu u (by rw [ho]; simp); omega
  rintro _ n13 w7 ⟨i, sl, s, L, hvs, hi, hnx, hlone, hT7, h7, hU7, hnt, hnu, hLW, k7⟩
  simp only [List.cons.injEq, Value.int.injEq, true_and, and_true] at hvs
  subst hvs
  have hsl := hlone.len
  have hz7 := k7.size
  -- what a call of the table leaves of the law's own
  have after : ∀ {w' : World} {L' : KL}, TStep t w7 w' L L' → L'.own t = none ∧ L'.own u = none ∧ UsO w' u sl ∧ (∀ z, L'.own z ≠ none → W.heap.size ≤ z) ∧ Kept No W w' := by
    intro w' L' st
    have hut : ¬ (L.own u ≠ none ∨ u = t) := fun e => by
      rcases e with e | e
      · exact e hnu
      · exact hu e
    have hult : u < w7.heap.size := by obtain ⟨cur, hb, _⟩ := hU7; exact hb.lt
    refine ⟨st.own hnt hT7.lt, st.own hnu hult, hU7.keep st.kept hut, fun z hz => ?_, k7.trans st.kept fun x hx e => ?_⟩
    · rcases st.grew z hz with e | e
      · exact hLW z e
      · omega
    · rcases e with e | e
      · have := hLW x e; omega
      · omega
  refine condP (fun hlt => ?_) (fun hge => ⟨rfl, k7⟩)
  have hil : i < acts.length := by omega
  obtain ⟨q, haq, hcell⟩ := In_cell (hacts.keep k7 fun _ _ _ e => e) hil
  have hr : 0 ≤ (i : Int) ∧ (i : Int) < ((l1 : Nat) : Int) := by omega
  have hcell' : ∀ {w' : World}, Kept No w7 w' → w'.cell? (q.add (Int.toNat (i : Int))) = some (.int .i64 acts[i]) := fun hk => by rw [Int.toNat_natCast]; exact hk.cell hcell (fun e => e)
  have c7 := hcell' (Kept.refl No w7)
  refine ⟨fun _ w' => ∃ (sl : List (Int × Bool)) (s : AK) (L : KL), s.next ≤ 1 + ((i + 1 : Nat) : Int) ∧ Lone sl s [] ∧ TabO w' t gk sl ∧ KernO w' gk s L ∧ UsO w' u sl ∧ L.own t = none ∧ L.own u = none ∧ (∀ z, L.own z ≠ none → W.heap.size ≤ z) ∧ Kept No W w', ?_, ?_⟩
  · refine ⟨hr, nnE2 haq ⟨_, c7, ?_⟩⟩
    refine (fun big => condP (fun h0 => ⟨hr, nnE2 haq ⟨_, c7, condP (fun h64 => ⟨hr, nnE2 haq ⟨_, c7, ?_⟩⟩) (fun _ => big)⟩⟩) (fun _ => big)) ?_
    · -- the tail: the lowest one that is free
      refine ⟨fun vs w' => w' = w7 ∧ ∃ j : Nat, vs = [.int .i64 (j : Int)] ∧ j ≤ 64 ∧ ∀ k, k < j → (sl.getD k (0, false)).1 ≠ 0, fun vs _ => 64 - ix vs, ⟨rfl, 0, rfl, by omega, fun k hk => by omega⟩, ?_⟩
      rintro _ n33 w12 ⟨rfl, j, hvs, hj, hus⟩
      simp only [List.cons.injEq, Value.int.injEq, true_and, and_true] at hvs
      subst hvs
      refine condP (fun hj64 => ?_) (fun hj64 => ?_)
      · have hj64 : j < 64 := by omega
        refine ⟨⟨by omega, by omega⟩, _, by rw [Int.toNat_natCast]; exact hU7.at hj64, condP (fun hne => ?_) (fun hz => ?_)⟩
        · refine ⟨⟨by omega, by omega⟩, ⟨rfl, j + 1, rfl, by omega, fun k hk => ?_⟩, by simp only [ix]; omega⟩
          by_cases e : k = j
          · subst e; exact hne
          · exact hus k (by omega)
        · have hz : (sl.getD j (0, false)).1 = 0 := Decidable.not_not.1 hz
          obtain ⟨r, hfr⟩ := freeIx_low hj64 hus hz
          obtain ⟨e1, e2, e3, e4, e5⟩ := hlone.open_ hfr hj64 hz
          refine CallR.mono (topen_ok hT7 h7 hnt (ByteArray.mk #[102]) 1 (by omega)) ?_
          rintro v w13 ⟨rfl, L13, hT13, h13, st13⟩
          obtain ⟨n1, n2, hU13, hLW13, k13⟩ := after st13
          rw [e3] at hT13
          rw [e1, e2]
          refine ⟨_, _, rfl, condF (by simp; omega) (tnum_to ⟨_, rfl, condFa2 (condF (by simp) ⟨⟨by omega, by omega⟩, ?_⟩)⟩)⟩
          rw [Int.toNat_natCast]
          refine hU13.st hsl hj64 (x := (s.next, false)) (by have := hlone.nx; rw [decide_eq_true]; dsimp only; omega) fun w16 hU16 hk16 hs16 => ?_
          exact ⟨_, _, L13, by rw [e5]; omega, e4, hT13.keep hk16 (fun e => hu e.symm), h13.keep hk16 fun z e => by rw [e]; exact n2, hU16, n1, n2, hLW13, k13.fresh hk16 fun x e => by omega⟩
      · have hj64 : j = 64 := by omega
        subst hj64
        have hfr := freeIx_full hus
        have ht : tOpen sl s (ByteArray.mk #[102]) 1 = (0, 31, sl, s) := by unfold tOpen; rw [hfr]
        refine CallR.mono (topen_ok hT7 h7 hnt (ByteArray.mk #[102]) 1 (by omega)) ?_
        rintro v w13 ⟨rfl, L13, hT13, h13, st13⟩
        obtain ⟨n1, n2, hU13, hLW13, k13⟩ := after st13
        rw [ht]
        exact ⟨_, _, rfl, condTr2 (tnum_to ⟨_, rfl, rfl, k13⟩)⟩
    · obtain ⟨fd, hfd⟩ : ∃ fd : Nat, acts[i] = (fd : Int) := ⟨acts[i].toNat, by omega⟩
      rw [hfd] at h64 hcell' ⊢
      have hfd64 : fd < 64 := by omega
      obtain ⟨e1, e2, e3, e4⟩ := hlone.close hfd64
      refine CallR.mono (tclose_ok hT7 h7 hnt (fd : Int)) ?_
      rintro v w8 ⟨rfl, L8, hT8, h8, st8⟩
      obtain ⟨n1, n2, hU8, hLW8, k8⟩ := after st8
      have hacts8 : ∀ {w' : World}, Kept No w8 w' → w'.cell? (q.add (Int.toNat (i : Int))) = some (.int .i64 (fd : Int)) := fun hk => by
        rw [Int.toNat_natCast]
        obtain ⟨q', hq', hc'⟩ := In_cell (hacts.keep (k8.no hk) fun _ _ _ e => e) hil
        rw [haq] at hq'
        cases hq'
        rw [← hfd]; exact hc'
      refine ⟨_, rfl, fun wS => Kept No w8 wS, Kept.drew _ _, ?_⟩
      intro w9
      have hk9 : Kept No w8 w9 := Kept.drew _ _
      clear_value w9
      refine ⟨hr, nnE2 haq ⟨(fd : Int), fun wS hS => hacts8 hS, ⟨by omega, by omega⟩, decide ((sl.getD fd (0, false)).1 ≠ 0), fun wS hS => by rw [Int.toNat_natCast]; exact (hU8.keep hS fun e => e).at hfd64, tnum_to ⟨_, rfl, hk9, condF ?_ ⟨hr, nnE2 haq ⟨_, hacts8 hk9, ⟨by omega, by omega⟩, ?_⟩⟩⟩⟩⟩
      · rw [e1]
        by_cases e : (sl.getD fd (0, false)).1 ≠ 0
        · rw [if_pos e, decide_eq_true e]; rfl
        · rw [if_neg e, decide_eq_false e]; rfl
      · rw [Int.toNat_natCast]
        rw [e3] at hT8 e2
        refine (hU8.keep hk9 fun e => e).st hsl hfd64 (x := ((0 : Int), (if (sl.getD fd (0, false)).1 ≠ 0 then false else (sl.getD fd (0, false)).2))) (by rw [decide_eq_false]; simp) fun w11 hU11 hk11 hs11 => ?_
        exact ⟨_, _, L8, by rw [e4]; omega, e2, (hT8.keep hk9 fun e => e).keep hk11 (fun e => hu e.symm), (h8.no hk9).keep hk11 fun z e => by rw [e]; exact n2, hU11, n1, n2, hLW8, (k8.no hk9).fresh hk11 fun x e => by omega⟩
  · rintro _ w30 ⟨sl', s', L', h1, h2, h3, h4, h5, h6, h7, h8, h9⟩
    exact ⟨⟨by omega, by omega⟩, ⟨i + 1, sl', s', L', rfl, by omega, h1, h2, h3, h4, h5, h6, h7, h8, h9⟩, by simp only [ix]; omega⟩

end Go.Proofs.Ytbiofmgebbdflaa
