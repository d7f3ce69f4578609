/-
  Memory of a fixed size never has more than that: the walk. Conditions: none.
-/
import Derived.Test.YtmpmobhofdefeaaMemF
import Derived.Test.YtmpmobhofdefeaaOMemoryRoom
set_option linter.unusedVariables false
namespace Go.Proofs.Ytmpmobhofdefeaa
open Go.Lw

def ix2 (vs : List Value) : Nat := match vs with
  | [_, .int _ n] => n.toNat
  | _ => 0

theorem walk_memoryRoom {W : World} {args : List Value} (h : V9 W args) : CallR Try.prog 9 args W fun v w' => v = .bool true ∧ Kept No W w' := by
  obtain ⟨size, _, a, l, c, hlc, hz, hl, hst, rfl⟩ := h
  refine C9 ?_
  unfold L9
  refine nalive_ok.mono fun v w1 ⟨hv1, hk1⟩ => ⟨_, hv1, condF rfl ?_⟩
  refine (mnewF_ok size (RdB.nil w1)).mono fun v w2 hm => ?_
  rcases hm with ⟨he, hv2, hk2⟩ | ⟨he, b, F, hv2, hx2, hk2, hf2⟩
  · refine ⟨_, _, hv2, nnum_to ⟨_, rfl, condT (by simpa using he) (condT rfl (condP (fun g => ⟨rfl, hk1.no hk2⟩) (fun g => ⟨?_, hk1.no hk2⟩)))⟩⟩
    unfold newFE at he
    have : size > 1048576 := by
      split at he
      · omega
      · simp at he; omega
    simp [this]
  · have hsz : 0 ≤ size ∧ size ≤ 1048576 := by
      unfold newFE at he
      split at he
      · cases he
      · omega
    obtain ⟨r, rfl⟩ : ∃ r : Nat, size = (r : Int) := ⟨size.toNat, by omega⟩
    rw [Int.toNat_natCast] at hx2
    refine ⟨_, _, hv2, nnum_to ⟨_, rfl, condF rfl (condF rfl ?_)⟩⟩
    have h02 := hk1.no hk2
    have h1s := hk1.size
    refine ⟨fun vs w => ∃ (i : Nat) (a12 : Option Addr) (l12 c12 : Nat) (want : List Int) (F : Nat → Prop), vs = [.slice a12 l12 c12, .int .i64 (i : Int)] ∧ i ≤ l ∧ Kept No W w ∧ StO F w b want r want.length ∧ OB w a12 l12 c12 want ∧
        (∀ x, F x → W.heap.size ≤ x ∧ ¬ inA a12 x) ∧ (∀ x, inA a12 x → W.heap.size ≤ x),
      fun vs _ => l - ix2 vs, ⟨0, none, 0, 0, [], F, rfl, Nat.zero_le _, h02, hx2, OB.nil _, fun x hx => ⟨by have := hf2 x hx; omega, inA_none x⟩, fun x hx => absurd hx (inA_none x)⟩, ?_⟩
    intro _ a12 l12 c12 n13 w4 hI
    obtain ⟨i, _, _, _, want, F, hvs, hi, h04, hx4, hw4, hF4, ha4⟩ := hI
    simp only [List.cons.injEq, Value.int.injEq, Value.slice.injEq, true_and, and_true] at hvs
    obtain ⟨⟨rfl, rfl, rfl⟩, rfl⟩ := hvs
    have hwl := hw4.len
    have h04s := h04.size
    obtain ⟨hr1, hr2, hr3, hFb⟩ := hx4.is
    refine condP (fun hlt => ?_) (fun hge => ?_)
    · have hil : i < l := by omega
      obtain ⟨q, rfl⟩ : ∃ q, a = some q := by
        cases a with
        | none => have := hz rfl; omega
        | some q => exact ⟨q, rfl⟩
      obtain ⟨a15, l15, c15, ds, hd, _, hl15, hc, _⟩ := hst q rfl i hil
      have hd : RdB W a15 l15 c15 ds := hd
      rw [Nat.mul_one] at hc
      have hdl := hd.len
      have hlc15 : l15 ≤ c15 := hd.2.1
      have hr : (0 ≤ (i : Int) ∧ (i : Int) < ((l : Nat) : Int)) := by omega
      have hold : ds ≠ [] → ∀ x, inA a15 x → x < W.heap.size := fun hne x hx => RdB.old hd hne x hx
      refine ⟨hr, nnI ⟨a15, l15, c15, by rw [Int.toNat_natCast]; exact h04.cell hc (fun e => e), ?_⟩⟩
      refine (fwrite_ok hx4 (hd.keep h04 (fun _ _ _ e => e)) (fun hne k hk hF => by have := hold hne k hk; have := (hF4 k hF).1; omega)).mono fun v w5 ⟨hv5, F5, hx5, hg5, hk5⟩ => ⟨_, _, hv5, by unfold inI; omega, hr, nnI ⟨a15, l15, c15, ?_, ?_⟩⟩
      · rw [Int.toNat_natCast]; exact (h04.fresh hk5 (fun x hx => (hF4 x hx).1)).cell hc (fun e => e)
      have h05 := h04.fresh hk5 (fun x hx => (hF4 x hx).1)
      have hw5 := hw4.keep hk5 (fun x hx hF => (hF4 x hF).2 hx)
      have halt : ∀ x, inA a12 x → x < w4.heap.size := fun x hx => SlO.lt hw4 x hx
      have hF5 : ∀ x, F5 x → W.heap.size ≤ x ∧ ¬ inA a12 x := fun x hx => by
        rcases hg5 x hx with h | h
        · exact hF4 x h
        · exact ⟨by omega, fun e => by have := halt x e; omega⟩
      have hcell : w5.cell? (q.add (i : Int).toNat) = some (.slice a15 l15 c15) := by rw [Int.toNat_natCast]; exact h05.cell hc (fun e => e)
      have hnext : ∀ {w' : World} {a' : Option Addr} {l' c' : Nat} {want' : List Int} {F' : Nat → Prop}, Kept No W w' → StO F' w' b want' r want'.length → OB w' a' l' c' want' → (∀ x, F' x → W.heap.size ≤ x ∧ ¬ inA a' x) → (∀ x, inA a' x → W.heap.size ≤ x) →
          inI ((i : Int) + 1) ∧ (∃ (i' : Nat) (a12 : Option Addr) (l12 c12 : Nat) (want : List Int) (F : Nat → Prop), [Value.slice a' l' c', .int .i64 ((i : Int) + 1)] = [.slice a12 l12 c12, .int .i64 (i' : Int)] ∧ i' ≤ l ∧ Kept No W w' ∧ StO F w' b want r want.length ∧ OB w' a12 l12 c12 want ∧
            (∀ x, F x → W.heap.size ≤ x ∧ ¬ inA a12 x) ∧ (∀ x, inA a12 x → W.heap.size ≤ x)) ∧ l - ix2 [Value.slice a' l' c', .int .i64 ((i : Int) + 1)] < l - ix2 [Value.slice a12 l12 c12, .int .i64 (i : Int)] :=
        fun k1 k2 k3 k4 k5 => ⟨by unfold inI; omega, ⟨i + 1, _, _, _, _, _, by simp, by omega, k1, k2, k3, k4, k5⟩, by simp only [ix2]; omega⟩
      refine condP (fun g1 => ?_) (fun g1 => ⟨hr, nnI ⟨a15, l15, c15, hcell, condP (fun g2 => condI (fun g3 => ?_) (fun g3 => ?_)) (fun g2 => ?_)⟩⟩)
      · have e : writeM ds want r want.length = (0, 5, want, want.length) := by unfold writeM; rw [if_pos (by omega)]
        rw [e] at hx5 ⊢
        exact nnum_to ⟨_, rfl, condF rfl (condF rfl (hnext h05 hx5 hw5 hF5 ha4))⟩
      · have hne : ds ≠ [] := by rintro rfl; simp at hdl; omega
        simp only [beq_iff_eq] at g3
        have e : writeM ds want r want.length = (0, 31, want, want.length) := by unfold writeM; rw [if_neg (by omega), if_neg hne, if_pos (by omega)]
        rw [e] at hx5 ⊢
        exact nnum_to ⟨_, rfl, condF rfl (condF rfl (hnext h05 hx5 hw5 hF5 ha4))⟩
      all_goals
        obtain ⟨m, hm, hml, hmr, e⟩ : ∃ m : Nat, mn ((r : Int) - (l12 : Int)) (l15 : Int) = (m : Int) ∧ m ≤ l15 ∧ want.length + m ≤ r ∧ writeM ds want r want.length = ((m : Int), 0, want ++ ds.take m, (want ++ ds.take m).length) := by
          refine ⟨min l15 (r - want.length), by rw [mn_eq]; omega, by omega, by omega, ?_⟩
          by_cases hne : ds = []
          · subst hne
            simp at hdl; subst hdl
            simp [writeM]
          · have h0 : ds.length ≠ 0 := fun e => hne (List.eq_nil_of_length_eq_zero e)
            have hlt' : want.length < r := by
              first
                | (simp only [beq_eq_false_iff_ne] at g3; omega)
                | omega
            unfold writeM
            rw [if_neg (by omega), if_neg hne, if_neg (by omega), lay_end, hdl]
            simp only [List.length_append, List.length_take]
            congr 4; omega
        rw [e] at hx5 ⊢
        refine nnum_to ⟨_, rfl, condF rfl ⟨hr, nnI ⟨a15, l15, c15, hcell, condF (by simp only [hm]; simp) ⟨hr, nnI ⟨a15, l15, c15, hcell, ⟨by omega, by omega⟩, ?_⟩⟩⟩⟩⟩
        have hd5 := (hd.keep h05 (fun _ _ _ e => e)).to m hml
        obtain ⟨a33, c33, w9, hrun, hs9, hk9, hat, hnn⟩ := run_app_sl (P := Try.prog) (t := 26) (t2 := 26) (ty := 26) (by kernel_rfl : slTyB Try.prog 26 1 1 = true) (by kernel_rfl) hw5 hd5 (By_one _) (by omega) (by omega)
        rw [← By_append] at hs9
        refine ⟨a33, l12 + m, c33, w9, by rw [Int.toNat_natCast]; exact hrun, hnext (h05.fresh hk9 ha4) (hx5.keep hk9 (fun x hx e => (hF5 x hx).2 e)) hs9 (fun x hx => ⟨(hF5 x hx).1, fun e => ?_⟩) (fun x hx => ?_)⟩
        · rcases hat.in e with e' | e'
          · exact (hF5 x hx).2 e'
          · have := hx5.lt x hx; omega
        · rcases hat.in hx with e' | e'
          · exact ha4 x e'
          · have := h05.size; omega
    · refine (fbytes_ok hx4).mono fun v w12 ⟨a41, c41, hv12, ho12, hf12, hk12⟩ => ⟨_, _, _, hv12, ?_⟩
      refine (same_ok ho12.rd (hw4.keep hk12 (fun _ _ e => e)).rd (by omega)).mono fun v w13 ⟨hv13, hk13, _⟩ => ⟨_, hv13, by simp, (h04.no hk12).no hk13⟩

end Go.Proofs.Ytmpmobhofdefeaa
