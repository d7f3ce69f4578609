
/-
  A Raw that answers more than was asked for, or than it was given, is told so; one that never goes on is given up: the walk. Conditions: none.
-/
import Derived.Test.YtkjmlbplmffekaaOd
import Derived.Test.YtkjmlbplmffekaaKeV
import Derived.Test.YtkjmlbplmffekaaORetryOdd
set_option linter.unusedVariables false
namespace Go.Proofs.Ytkjmlbplmffekaa
open Go.Lw

theorem oputN_nil {e : Int} {n done : Nat} (hd : done < n) : ∀ (k p : Nat), p < 8192 → 8192 - p < k → oputN k [] e n done p = if e = 22 ∨ e = 23 ∨ e = 0 then ((done : Int), 81) else ((done : Int), e)
  | 0, p, hp, hk => by omega
  | k + 1, p, hp, hk => by
    rw [oputN_succ, if_neg (by omega)]
    dsimp only
    by_cases he : e = 22 ∨ e = 23 ∨ e = 0
    · rw [if_pos he, if_pos he]
      by_cases h : 8192 ≤ p + 1
      · rw [if_pos h]
      · rw [if_neg h, oputN_nil hd k (p + 1) (by omega) (by omega), if_pos he]
    · rw [if_neg he, if_neg he]

theorem In_cell0 {w : World} {a : Option Addr} {l c : Nat} {ns : List Int} (h : RdS 1 w a l c (In ns)) {i : Nat} (hi : i < ns.length) : ∃ q, a = some q ∧ w.cell? (q.add i) = some (.int .i64 ns[i]) := by
  cases a with
  | none =>
    have := In_len' h
    have := (RdS.isNone h rfl).1
    omega
  | some q => exact ⟨q, rfl, h.2.2.2 q rfl i _ (In_get ns i hi)⟩

theorem drop_cons {ws : List Int} {i : Nat} (h : i < ws.length) : ws.drop i = ws[i] :: ws.drop (i + 1) := List.drop_eq_getElem_cons h

theorem zerosB {w : World} {a : Option Addr} {n c : Nat} (h : SlO 1 w a n c (Builtin.zeroCells (Value.int .u8 0).cells n).toList) : OB w a n c (List.replicate n 0) := by
  have := By_zeros n
  show SlO 1 _ _ _ _ (By _)
  rw [← this]; exact h

set_option maxRecDepth 20000 in
set_option maxHeartbeats 4000000 in
theorem walk_retryOdd {W : World} {args : List Value} (h : V5 W args) : CallR Try.prog 5 args W fun v w' => v = .bool true ∧ Kept No W w' := by
  obtain ⟨a1, l1, c1, rs, hrs, _, hl1, a2, l2, c2, ws, hws, _, hl2, e, he, n4, _, rfl⟩ := h
  have hrs : RdS 1 W a1 l1 c1 (In rs) := hrs
  have hws : RdS 1 W a2 l2 c2 (In ws) := hws
  have hlr := In_len' hrs
  have hlw := In_len' hws
  refine C5 ?_
  unfold L5
  refine CallR.mono alive8_ok ?_
  rintro v w1 ⟨rfl, hk1⟩
  obtain ⟨g1, g2, g3⟩ := cutI n4 40 (by omega) (by omega)
  refine ⟨_, rfl, condFa2 ⟨by decide, g1, by decide, ⟨by omega, by omega⟩, ?_⟩⟩
  obtain ⟨n, hn⟩ : ∃ n : Nat, (n : Int) = (1 : Int) + Int.tmod (Int.tmod n4 40 + 40) 40 := ⟨((1 : Int) + Int.tmod (Int.tmod n4 40 + 40) 40).toNat, by omega⟩
  rw [← hn]
  have hn1 : 1 ≤ n := by omega
  have hn2 : n ≤ 40 := by omega
  clear hn g1 g2 g3
  refine CallR.mono (copyints_ok (hrs.keep hk1 fun _ _ _ e => e) (by omega)) ?_
  rintro v w2 ⟨a7, c7, rfl, hs7, hk2, hf7⟩
  refine ⟨_, _, _, rfl, ?_⟩
  intro w3
  have hb3 : Blk w3 w2.heap.size #[.slice a7 l1 c7, .slice none 0 0, .int .i64 e] := Blk.alloc _ _ _
  have hk3 : Kept No w2 w3 := Kept.alloc _ _ _
  clear_value w3
  have hlt7 := SlO.lt hs7
  refine CallR.mono (someOdd_ok hb3 (hs7.rd.keep hk3 fun _ _ _ e => e) (fun z hz => by have := hlt7 z hz; omega) (n := (n : Int)) (by omega) (by omega)) ?_
  rintro v w4 ⟨a9, c9, rfl, hk4⟩
  have k4 : Kept No W w4 := ((hk1.no hk2).no hk3).fresh hk4 fun x e => by have := hk1.size; have := hk2.size; omega
  refine ⟨_, _, _, _, rfl, fun vs w' => vs = [.bool (decide (e = 22 ∨ e = 23))] ∧ w' = w4, ?_, ?_⟩
  · refine rnum_to ⟨_, rfl, condI (fun h => ⟨?_, rfl⟩) (fun h => rnum_to ⟨_, rfl, ?_, rfl⟩)⟩
    · have h : e = 22 := by simpa using h
      rw [decide_eq_true (.inl h)]
    · have h : ¬ e = 22 := by simpa using h
      by_cases h3 : e = 23
      · subst h3; rfl
      · rw [decide_eq_false (by omega)]
        have : (e == 23) = false := by simpa using h3
        rw [this]
  rintro _ b17 w7 ⟨hb, rfl⟩
  simp only [List.cons.injEq, Value.bool.injEq, and_true] at hb
  subst hb
  refine ⟨fun vs w' => w' = w7, ?_, ?_⟩
  · cases rs with
    | nil =>
      obtain rfl : l1 = 0 := by simpa using hlr.symm
      refine condF (by simp) (condF (by simp) ?_)
      refine condP (fun h => rnum_to ⟨_, rfl, condF ?_ rfl⟩) (fun h => condF ?_ rfl)
      · unfold someE; rw [if_pos h]; rfl
      · unfold someE; rw [if_neg h]; simp
    | cons x r =>
      have hl : 1 ≤ l1 := by rw [← hlr]; simp
      obtain ⟨q, rfl, hc⟩ := In_cell0 (hrs.keep k4 fun _ _ _ e => e) (i := 0) (by simp)
      have hc : w7.cell? (q.add 0) = some (.int .i64 x) := hc
      have second : cond (decide ((((l1 : Nat)) : Int) > 0)) (CallR Try.prog 25 [.int .i64 (someE (x :: r) e n)] w7 fun r24 w9 => ∃ n23 : Int, r24 = .int .i64 n23 ∧ True) True → True := fun _ => trivial
      by_cases hx : (n : Int) < x
      · have e1 : someE (x :: r) e n = 82 := if_pos hx
        have e2 : someL (x :: r) e n = 0 := if_pos hx
        rw [e1, e2]
        exact condT (by simp; omega) ⟨⟨by omega, by omega⟩, nnI ⟨x, hc, condT (by simpa using hx) (rnum_to ⟨_, rfl, condFa2 (condF (by simp) rfl)⟩)⟩⟩
      · have e1 : someE (x :: r) e n = 0 := if_neg hx
        have e2 : someL (x :: r) e n = x.toNat := if_neg hx
        rw [e1, e2]
        have hmx : ((x.toNat : Nat) : Int) = mx x 0 := by unfold mx; omega
        exact condT (by simp; omega) ⟨⟨by omega, by omega⟩, nnI ⟨x, hc, condF (by simpa using hx) (condT (by simp; omega) (rnum_to ⟨_, rfl, condFa2 ⟨⟨by omega, by omega⟩, nnI ⟨x, hc, condF (by rw [hmx]; simp) rfl⟩⟩⟩))⟩⟩
  rintro _ w13 rfl
  obtain ⟨K, hK⟩ : ∃ K, K = 8193 * ws.length + 8193 := ⟨_, rfl⟩
  refine ⟨fun vs w' => vs = [.int .i64 (oputN K ws e n 0 0).1, .int .i64 (oputN K ws e n 0 0).2] ∧ Kept No W w', ?_, ?_⟩
  · intro w14
    have hk14 : Kept No w13 w14 := Kept.drew _ _
    clear_value w14
    have k14 := k4.no hk14
    refine ⟨CallR.mono (copyints_ok (hws.keep k14 fun _ _ _ e => e) (by omega)) ?_, ?_⟩
    · rintro v w15 ⟨a36, c36, rfl, hs36, hk15, hf36⟩
      have k15 := k14.no hk15
      have hlt36 := SlO.lt hs36
      refine ⟨_, _, _, rfl, ?_, ?_⟩
      · intro w16
        have hb16 : Blk w16 w15.heap.size #[.slice none 0 0, .slice a36 l2 c36, .int .i64 e] := Blk.alloc _ _ _
        have hk16 : Kept No w15 w16 := Kept.alloc _ _ _
        have hz16 : w16.heap.size = w15.heap.size + 1 := by simp [w16]
        clear_value w16
        obtain ⟨w17, hrun, hs, hk17, hz17⟩ := run_mk (P := Try.prog) (t := 36) tyB (w := w16) (k := .i64) (k' := .i64) (n := n) (m := n) (Nat.le_refl _) (by omega) (by omega)
        replace hs := zerosB hs
        have hd : RdB w17 (some ⟨w16.heap.size, 0, none⟩) n n (List.replicate n 0) := SlO.rd hs
        refine ⟨_, _, _, w17, hrun, CallR.mono (putOdd_ok (hb16.keep hk17 fun e => e) ((hs36.rd.keep hk16 fun _ _ _ e => e).keep hk17 fun _ _ _ e => e) (fun z hz => by have := hlt36 z hz; omega) hd (fun z hz => by rw [inA_some] at hz; omega) hn2 (K := K) (by omega)) ?_⟩
        rintro v w18 ⟨rfl, hk18⟩
        have hzW := k15.size
        exact ⟨_, _, rfl, rfl, ((k15.no hk16).no hk17).fresh hk18 fun x e => by omega⟩
      · obtain ⟨w19, hrun, hs, hk19, hz19⟩ := run_mk (P := Try.prog) (t := 36) tyB (w := w15) (k := .i64) (k' := .i64) (n := n) (m := n) (Nat.le_refl _) (by omega) (by omega)
        replace hs := zerosB hs
        refine ⟨_, _, _, w19, hrun, ?_⟩
        intro w20
        have hb20 : Blk w20 w19.heap.size #[.slice none 0 0, .slice a36 l2 c36, .int .i64 e] := Blk.alloc _ _ _
        have hk20 : Kept No w19 w20 := Kept.alloc _ _ _
        have hz20 : w20.heap.size = w19.heap.size + 1 := by simp [w20]
        clear_value w20
        have hd : RdB w20 (some ⟨w15.heap.size, 0, none⟩) n n (List.replicate n 0) := RdB.keep (SlO.rd hs) hk20 fun _ _ _ e => e
        refine CallR.mono (putOdd_ok hb20 ((hs36.rd.keep hk19 fun _ _ _ e => e).keep hk20 fun _ _ _ e => e) (fun z hz => by have := hlt36 z hz; omega) hd (fun z hz => by rw [inA_some] at hz; omega) hn2 (K := K) (by omega)) ?_
        rintro v w21 ⟨rfl, hk21⟩
        have hzW := k15.size
        exact ⟨_, _, rfl, rfl, ((k15.no hk19).no hk20).fresh hk21 fun x e => by omega⟩
    · obtain ⟨w22, hrun, hs, hk22, hz22⟩ := run_mk (P := Try.prog) (t := 36) tyB (w := w14) (k := .i64) (k' := .i64) (n := n) (m := n) (Nat.le_refl _) (by omega) (by omega)
      replace hs := zerosB hs
      have k22 := k14.no hk22
      refine ⟨_, _, _, w22, hrun, CallR.mono (copyints_ok (hws.keep k22 fun _ _ _ e => e) (by omega)) ?_⟩
      rintro v w23 ⟨a47, c47, rfl, hs47, hk23, hf47⟩
      have hlt47 := SlO.lt hs47
      refine ⟨_, _, _, rfl, ?_⟩
      intro w24
      have hb24 : Blk w24 w23.heap.size #[.slice none 0 0, .slice a47 l2 c47, .int .i64 e] := Blk.alloc _ _ _
      have hk24 : Kept No w23 w24 := Kept.alloc _ _ _
      have hz24 : w24.heap.size = w23.heap.size + 1 := by simp [w24]
      clear_value w24
      have hz23 := hk23.size
      have hd : RdB w24 (some ⟨w14.heap.size, 0, none⟩) n n (List.replicate n 0) := RdB.keep (RdB.keep (SlO.rd hs) hk23 fun _ _ _ e => e) hk24 fun _ _ _ e => e
      refine CallR.mono (putOdd_ok hb24 (hs47.rd.keep hk24 fun _ _ _ e => e) (fun z hz => by have := hlt47 z hz; omega) hd (fun z hz => by rw [inA_some] at hz; omega) hn2 (K := K) (by omega)) ?_
      rintro v w25 ⟨rfl, hk25⟩
      have hzW := (k22.no hk23).size
      exact ⟨_, _, rfl, rfl, ((k22.no hk23).no hk24).fresh hk25 fun x e => by omega⟩
  rintro _ m g w26 ⟨hmg, k26⟩
  simp only [List.cons.injEq, Value.int.injEq, true_and, and_true] at hmg
  obtain ⟨hm, hg⟩ := hmg
  have hR : oputN K ws e n 0 0 = (m, g) := by rw [hm, hg]
  clear hm hg
  refine ⟨fun vs w' => w' = w26 ∧ ∃ done : Nat, vs = [.int .i64 (done : Int)] ∧ (l2 ≤ 4000 → m = (done : Int) ∧ g = if e = 22 ∨ e = 23 ∨ e = 0 then 81 else e), ?_, ?_⟩
  · refine ⟨fun vs w' => w' = w26 ∧ ∃ (done i p k : Nat), vs = [.int .i64 (done : Int), .int .i64 (i : Int)] ∧ i ≤ ws.length ∧ i ≤ 4000 ∧ done < n ∧ p ≤ i ∧ oputN k (ws.drop i) e n done p = (m, g) ∧ 8193 * (ws.drop i).length + (8192 - p) < k, fun vs _ => match vs with | [_, .int _ i] => ws.length - i.toNat | _ => 0,
      ⟨rfl, 0, 0, 0, K, rfl, Nat.zero_le _, Nat.zero_le _, hn1, Nat.le_refl _, by rw [List.drop_zero]; exact hR, by rw [List.drop_zero, hK]; exact Nat.add_lt_add_left (by decide) _⟩, ?_⟩
    rintro _ n57 n58 w27 ⟨rfl, done, i, p, k, hvs, hi, hi4, hdn, hpi, hrel, hfuel⟩
    simp only [List.cons.injEq, Value.int.injEq, true_and, and_true] at hvs
    obtain ⟨rfl, rfl⟩ := hvs
    have hdl : (ws.drop i).length = ws.length - i := List.length_drop
    rw [hdl] at hfuel
    refine condP (fun hlt => condP (fun hlt4 => ?_) (fun hge4 => ?_)) (fun hge => ?_)
    · have hil : i < ws.length := by omega
      obtain ⟨q, haq, hc⟩ := In_cell0 (hws.keep k26 fun _ _ _ e => e) hil
      subst haq
      obtain ⟨k', rfl⟩ : ∃ k', k = k' + 1 := ⟨k - 1, by omega⟩
      rw [drop_cons hil, oputN_succ, if_neg (by omega)] at hrel
      generalize ws[i] = x at hc hrel
      dsimp only at hrel
      have e0 : Int.toNat (i : Int) = i := by omega
      rw [e0]
      have hin : 0 ≤ (i : Int) ∧ (i : Int) < ((l2 : Nat) : Int) := by omega
      have bad : x < 0 ∨ ((n - done : Nat) : Int) < x → cond (m == (done : Int)) (CallR Try.prog 25 [.int .i64 g] w27 fun r62 w28 => ∃ n61 : Int, r62 = .int .i64 n61 ∧ (.bool (n61 == 82) : Value) = .bool true ∧ Kept No W w28) ((.bool false : Value) = .bool true ∧ Kept No W w27) := by
        intro hb
        rw [if_neg (by omega), if_pos hb] at hrel
        simp only [Prod.mk.injEq] at hrel
        obtain ⟨rfl, rfl⟩ := hrel
        exact condT (by simp) (rnum_to ⟨_, rfl, rfl, k26⟩)
      refine ⟨hin, nnI ⟨x, hc, condP (fun h1 => bad (.inl h1)) (fun h1 => ⟨hin, nnI ⟨x, hc, ⟨by omega, by omega⟩, condP (fun h2 => bad (.inr (by omega))) (fun h2 => ⟨hin, nnI ⟨x, hc, ⟨by omega, by omega⟩, condI (fun h3 => ?_) (fun h3 => ?_)⟩⟩)⟩⟩)⟩⟩
      · have h3 : (done : Int) + x = (n : Int) := by simpa using h3
        rw [if_neg (by omega), if_neg (by omega)] at hrel
        obtain ⟨k2, rfl⟩ : ∃ k2, k' = k2 + 1 := ⟨k' - 1, by omega⟩
        rw [oputN_succ, if_pos (by omega)] at hrel
        simp only [Prod.mk.injEq] at hrel
        obtain ⟨rfl, rfl⟩ := hrel
        exact condT (by simp) (rnum_to ⟨_, rfl, rfl, k26⟩)
      · have h3 : ¬ (done : Int) + x = (n : Int) := by simpa using h3
        have hlen2 : (ws.drop (i + 1)).length = ws.length - (i + 1) := List.length_drop
        refine ⟨⟨by omega, by omega⟩, ⟨rfl, ?_⟩, ?_⟩
        · by_cases hx : x = 0
          · rw [if_pos hx, if_neg (by omega)] at hrel
            exact ⟨done, i + 1, p + 1, k', by rw [hx]; simp, by omega, by omega, hdn, by omega, hrel, by rw [hlen2]; omega⟩
          · rw [if_neg hx, if_neg (by omega)] at hrel
            exact ⟨done + x.toNat, i + 1, 0, k', by congr 1; congr 1; omega, by omega, by omega, by omega, by omega, hrel, by rw [hlen2]; omega⟩
        · show ws.length - ((i : Int) + 1).toNat < ws.length - (i : Int).toNat
          omega
    · exact ⟨rfl, done, rfl, fun h => by omega⟩
    · refine ⟨rfl, done, rfl, fun h => ?_⟩
      have hie : i = ws.length := by omega
      rw [List.drop_of_length_le (by omega)] at hrel
      rw [oputN_nil hdn k p (by omega) (by omega)] at hrel
      by_cases hE : e = 22 ∨ e = 23 ∨ e = 0
      · rw [if_pos hE] at hrel ⊢
        simp only [Prod.mk.injEq] at hrel
        exact ⟨hrel.1.symm, hrel.2.symm⟩
      · rw [if_neg hE] at hrel ⊢
        simp only [Prod.mk.injEq] at hrel
        exact ⟨hrel.1.symm, hrel.2.symm⟩
  · rintro _ n71 w31 ⟨rfl, done, hvs, hfin⟩
    simp only [List.cons.injEq, Value.int.injEq, true_and, and_true] at hvs
    subst hvs
    refine condP (fun hgt => ⟨rfl, k26⟩) (fun hle => ?_)
    obtain ⟨rfl, hg⟩ := hfin (by omega)
    refine condP (fun hag => ?_) (fun hag => ?_)
    · rw [if_pos (by omega)] at hg
      subst hg
      exact condT (by simp) (rnum_to ⟨_, rfl, rfl, k26⟩)
    · refine rnum_to ⟨_, rfl, condI (fun h0 => ?_) (fun h0 => ?_)⟩
      · have h0 : e = 0 := by simpa using h0
        rw [if_pos (by omega)] at hg
        subst hg
        exact condT (by simp) (rnum_to ⟨_, rfl, rfl, k26⟩)
      · have h0 : ¬ e = 0 := by simpa using h0
        rw [if_neg (by omega)] at hg
        subst hg
        exact condT (by simp) ⟨by simp, k26⟩

end Go.Proofs.Ytkjmlbplmffekaa
