/-
  A file that is only written: the walk. Conditions: none.
-/
import Derived.Test.YtapnpbfbebdjjaaFileC
import Derived.Test.YtapnpbfbebdjjaaOFileLast
namespace Go.Proofs.Ytapnpbfbebdjjaa
open Go.Lw

theorem writeF_cases (bs : List Int) (off : Int) (ds : List Int) : ((writeF bs off ds).1 ≠ 0 ∧ (writeF bs off ds).2 = bs) ∨ ((writeF bs off ds).1 = 0 ∧ ds = [] ∧ (writeF bs off ds).2 = bs) ∨
    ((writeF bs off ds).1 = 0 ∧ ds ≠ [] ∧ 0 ≤ off ∧ off + ds.length ≤ 1048576 ∧ (writeF bs off ds).2 = lay bs off.toNat ds) := by
  unfold writeF
  by_cases h1 : okN off = false
  · rw [if_pos h1]; exact .inl ⟨by simp, rfl⟩
  · rw [if_neg h1]
    have h1' : 0 ≤ off ∧ off ≤ 1048576 := by simpa [okN] using h1
    by_cases h2 : 1048576 - off < (ds.length : Int)
    · rw [if_pos h2]; exact .inl ⟨by simp, rfl⟩
    · rw [if_neg h2]
      by_cases h3 : ds.length = 0
      · rw [if_pos h3]; exact .inr (.inl ⟨rfl, List.eq_nil_of_length_eq_zero h3, rfl⟩)
      · rw [if_neg h3]; exact .inr (.inr ⟨rfl, fun e => h3 (by rw [e]; rfl), h1'.1, by omega, rfl⟩)

theorem walk_fileLast {W : World} {args : List Value} (h : V3 W args) : CallR Try.prog 3 args W fun v w' => v = .bool true ∧ Kept No W w' := by
  obtain ⟨a, l, c, bs, hrd, _, hl, a2, l2, c2, hlc2, hnil2, hl2, hst, n, hn, rfl⟩ := h
  have hn := bounds_i64 hn
  have hrd : RdB W a l c bs := hrd
  have hlen := hrd.len
  refine C3 ?_
  unfold L3
  refine alive_ok.mono fun v w1 ⟨hv, hk1⟩ => ⟨_, hv, condF rfl ?_⟩
  refine (new_ok (hrd.keep hk1 (fun _ _ _ e => e)) (by omega)).mono fun v w2 h => ?_
  rcases h with ⟨hbig, rfl, hw⟩ | ⟨hsm, b, F, rfl, hf, hk2, hF⟩
  · exact ⟨_, _, rfl, num_to ⟨_, rfl, condT rfl ⟨rfl, by rw [hw]; exact hk1⟩⟩⟩
  refine ⟨_, _, rfl, num_to ⟨_, rfl, condF rfl (condF rfl ?_)⟩⟩
  have hk02 := hk1.no hk2
  have hF0 : ∀ k, F k → W.heap.size ≤ k := fun k hk => Nat.le_trans hk1.size (hF k hk)
  refine ⟨fun vs w => ∃ want : Int, vs = [.int .u8 want] ∧ w = w2 ∧ (0 ≤ n → bs.getD n.toNat 0 = want), ?_, ?_⟩
  · refine condP (fun h0 => condP (fun h1 => ⟨⟨by omega, by omega⟩, ?_⟩) (fun h1 => ⟨0, rfl, rfl, fun _ => ?_⟩)) (fun h0 => ⟨0, rfl, rfl, fun h => absurd h h0⟩)
    · have hnl : n.toNat < bs.length := by omega
      obtain ⟨q, hq, hc⟩ := (hrd.keep hk02 (fun _ _ _ e => e)).get hnl
      subst hq
      exact ⟨_, hc, _, rfl, rfl, fun _ => by simp [List.getD, hnl]⟩
    · rw [List.getD_eq_getElem?_getD, List.getElem?_eq_none (by omega)]; rfl
  intro _ n14 w4 hJ
  obtain ⟨want, hv, rfl, hw0⟩ := hJ
  simp only [List.cons.injEq, Value.int.injEq, true_and, and_true] at hv
  subst hv
  refine ⟨fun vs w => Kept No W w ∧ ∃ (want : Int) (i : Nat) (cur : List Int) (F : Nat → Prop), vs = [.int .u8 want, .int .i64 (cur.length : Int), .int .i64 (i : Int)] ∧ i ≤ l2 ∧ FileO F w b cur ∧ (∀ k, F k → W.heap.size ≤ k) ∧ (0 ≤ n → cur.getD n.toNat 0 = want),
    fun vs _ => match vs with | [_, _, .int _ i] => (l2 - i).toNat | _ => 0, ⟨hk02, n14, 0, bs, F, by rw [hlen]; rfl, Nat.zero_le _, hf, hF0, hw0⟩, ?_⟩
  intro _ n17 n18 n19 w5 hI
  obtain ⟨hk5, want, i, cur, F5, hvs, hi, hf5, hF5, hwant⟩ := hI
  simp only [List.cons.injEq, Value.int.injEq, true_and, and_true] at hvs
  obtain ⟨rfl, rfl, rfl⟩ := hvs
  refine condP (fun hlt => ?_) (fun hge => ?_)
  · refine ⟨⟨by omega, by omega⟩, ?_⟩
    cases a2 with
    | none => have := hnil2 rfl; omega
    | some q =>
      obtain ⟨x1, _, x2, hx2, x3, _, a6, l6, c6, ds, hds, _, hl6, hc0, hc1, hc2, hc3, _⟩ := hst q rfl i (by omega)
      have hds : RdB W a6 l6 c6 ds := hds
      have hdl := hds.len
      have hx2 := bounds_i64 hx2
      refine nnI ⟨_, _, _, _, _, _, hk5.cell hc0 (fun e => e), hk5.cell hc1 (fun e => e), hk5.cell hc2 (fun e => e), hk5.cell hc3 (fun e => e), ?_⟩
      intro w6
      have hb6 : Blk w6 w5.heap.size _ := Blk.alloc w5 _ _
      have hk6 : Kept No W w6 := hk5.no (Kept.alloc _ _ _)
      have hnew : ∀ x, x = w5.heap.size → W.heap.size ≤ x := fun x e => by have := hk5.size; omega
      refine stC_blk hb6 (by simp) fun w7 hb7 hk7 _ => stC_blk hb7 (by simp) fun w8 hb8 hk8 _ => stC_blk hb8 (by simp) fun w9 hb9 hk9 _ => stC_blk hb9 (by simp) fun w10 hb10 hk10 _ => ?_
      have hk10' : Kept (· = w5.heap.size) w6 w10 := ((hk7.trans hk8 fun _ _ e => e).trans hk9 fun _ _ e => e).trans hk10 fun _ _ e => e
      have hkW : Kept No W w10 := hk6.fresh hk10' hnew
      have hf10 : FileO F5 w10 b cur := (hf5.keep (Kept.alloc No w5 _) (fun _ _ e => e)).keep hk10' (fun k hk e => by have := hf5.lt k hk; omega)
      refine ⟨_, (hb10.cell 1).trans rfl, _, _, _, (hb10.cell 3).trans rfl, ?_⟩
      refine (writeAt_ok hf10 x2 (hds.keep hkW (fun _ _ _ e => e)) (by omega) (fun hne k hk hFk => by
        have h1 := RdS.old hds (fun e => hne (By_inj (b := []) e)) k hk
        have h2 := hF5 k hFk
        omega)).mono fun v w11 ⟨hv, F11, hf11, hg11, hk11⟩ => ⟨_, hv, num_to ⟨_, rfl, ?_⟩⟩
      have hkW11 : Kept No W w11 := hkW.fresh hk11 hF5
      have hF11 : ∀ k, F11 k → W.heap.size ≤ k := fun k hk => by
        rcases hg11 k hk with h | h
        · exact hF5 k h
        · have := hkW.size; omega
      have hnf : ¬ F5 w5.heap.size := fun e => by have := hf5.lt _ e; omega
      have hb11 := hb10.keep hk11 hnf
      have hmu : (l2 - ((i : Int) + 1)).toNat < (l2 - (i : Int)).toNat := by omega
      have hi1 : inI ((i : Int) + 1) := by unfold inI; omega
      -- what is known behind the write, whatever it answered
      have same : (writeF cur x2 ds).2 = cur → (Kept No W w11 ∧ ∃ (want : Int) (j : Nat) (cur' : List Int) (F : Nat → Prop), [Value.int .u8 n17, .int .i64 (cur.length : Int), .int .i64 ((i : Int) + 1)] = [.int .u8 want, .int .i64 (cur'.length : Int), .int .i64 (j : Int)] ∧ j ≤ l2 ∧ FileO F w11 b cur' ∧ (∀ k, F k → W.heap.size ≤ k) ∧ (0 ≤ n → cur'.getD n.toNat 0 = want)) := fun e => by
        rw [e] at hf11
        exact ⟨hkW11, n17, i + 1, cur, F11, rfl, by omega, hf11, hF11, hwant⟩
      rcases writeF_cases cur x2 ds with ⟨h1, h2⟩ | ⟨h1, h2, h3⟩ | ⟨h1, h2, h3, h4, h5⟩
      · exact condT (by simpa using h1) ⟨hi1, same h2, hmu⟩
      · refine condF (by simp [h1]) ⟨_, _, _, (hb11.cell 3).trans rfl, condT ?_ ⟨hi1, same h3, hmu⟩⟩
        rw [h2] at hdl; simp [← hdl]
      · have hl60 : ¬ l6 = 0 := fun e => h2 (List.eq_nil_of_length_eq_zero (by omega))
        refine condF (by simp [h1]) ⟨_, _, _, (hb11.cell 3).trans rfl, condF (by simpa using hl60) ⟨_, (hb11.cell 1).trans rfl, _, _, _, (hb11.cell 3).trans rfl, by unfold inI; omega, _, (hb11.cell 1).trans rfl, ?_⟩⟩
        rw [h5] at hf11
        have hlay := lay_len cur x2.toNat ds
        have hsz : mx (cur.length : Int) (x2 + (l6 : Int)) = ((lay cur x2.toNat ds).length : Int) := by rw [mx_eq, hlay, hdl]; omega
        have next : ∀ want : Int, (0 ≤ n → (lay cur x2.toNat ds).getD n.toNat 0 = want) → (Kept No W w11 ∧ ∃ (want' : Int) (j : Nat) (cur' : List Int) (F : Nat → Prop), [Value.int .u8 want, .int .i64 (mx (cur.length : Int) (x2 + (l6 : Int))), .int .i64 ((i : Int) + 1)] = [.int .u8 want', .int .i64 (cur'.length : Int), .int .i64 (j : Int)] ∧ j ≤ l2 ∧ FileO F w11 b cur' ∧ (∀ k, F k → W.heap.size ≤ k) ∧ (0 ≤ n → cur'.getD n.toNat 0 = want')) := fun want hw => by
          rw [hsz]
          exact ⟨hkW11, want, i + 1, _, F11, rfl, by omega, hf11, hF11, hw⟩
        have out : (0 ≤ n → ¬ (x2.toNat ≤ n.toNat ∧ n.toNat < x2.toNat + ds.length)) → (0 ≤ n → (lay cur x2.toNat ds).getD n.toNat 0 = n17) := fun h h0 => by
          rw [lay_getD, if_neg (h h0)]; exact hwant h0
        refine condP (fun hge => ⟨_, (hb11.cell 1).trans rfl, _, _, _, (hb11.cell 3).trans rfl, by unfold inI; omega, condP (fun hlt2 => ?_) (fun hge2 => ⟨hi1, next n17 (out (fun _ => by omega)), hmu⟩)⟩) (fun hlt2 => ⟨hi1, next n17 (out (fun _ => by omega)), hmu⟩)
        refine ⟨_, _, _, (hb11.cell 3).trans rfl, _, (hb11.cell 1).trans rfl, by unfold inI; omega, by omega, ?_⟩
        have hdn : (n - x2).toNat < ds.length := by omega
        obtain ⟨q6, hq6, hc6⟩ := (hds.keep hkW11 (fun _ _ _ e => e)).get hdn
        subst hq6
        refine nnI ⟨_, hc6, hi1, next _ (fun h0 => ?_), hmu⟩
        rw [lay_getD, if_pos (by omega)]
        have e : n.toNat - x2.toNat = (n - x2).toNat := by omega
        rw [e]
        simp [List.getD, hdn]
  · refine (size_ok hf5).mono fun v w6 ⟨hv, hw⟩ => ⟨_, hv, condF (by simp) ?_⟩
    rw [hw]
    have hcl := hf5.len
    refine (readAt_ok hf5 n 1).mono fun v w7 ⟨a7, c7, cs, e7, hv7, ho7, hfr7, hk7, hyes, hno⟩ => ⟨a7, _, c7, e7, hv7, ?_⟩
    have hkW := hk5.no hk7
    refine condP (fun hneg => ?_) (fun hpos => condP (fun hbig => ?_) (fun hfit => condP (fun hout => ?_) (fun hin => ?_)))
    · obtain ⟨rfl, _⟩ := hno (by simp [okN]; omega)
      exact num_to ⟨_, rfl, rfl, hkW⟩
    · obtain ⟨rfl, _⟩ := hno (by simp [okN]; omega)
      exact num_to ⟨_, rfl, rfl, hkW⟩
    · obtain ⟨rfl, rfl⟩ := hyes (by simp [okN]; omega) (by decide)
      refine num_to ⟨_, rfl, condT rfl ⟨?_, hkW⟩⟩
      have : (piece cur n 1).length = 0 := by simp [piece]; omega
      rw [this]; rfl
    · obtain ⟨rfl, rfl⟩ := hyes (by simp [okN]; omega) (by decide)
      have hpl : (piece cur n 1).length = 1 := by simp [piece]; omega
      have h0 : 0 < (piece cur n 1).length := by omega
      obtain ⟨q7, hq7, hc7⟩ := ho7.rd.get h0
      subst hq7
      refine num_to ⟨_, rfl, condT rfl (condT (by rw [hpl]; rfl) ⟨by omega, nnI ⟨_, hc7, ?_, hkW⟩⟩)⟩
      have hg : (piece cur n 1)[0] = n17 := by
        rw [← hwant (by omega)]
        have hnl : n.toNat < cur.length := by omega
        simp [piece, List.getD, hnl]
      rw [hg]; simp

end Go.Proofs.Ytapnpbfbebdjjaa
