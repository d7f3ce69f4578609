
/-
  A Raw that answers what it was told to: reads and writes that are made again and again over it. Conditions: as each says.
-/
import Derived.Test.YtkjmlbplmffekaaRtA
import Derived.Test.YtkjmlbplmffekaaPt
import Derived.Test.YtkjmlbplmffekaaLOd
import Derived.Test.YtkjmlbplmffekaaLOr
set_option linter.unusedVariables false
namespace Go.Proofs.Ytkjmlbplmffekaa
open Go.Lw

theorem In_len' {w : World} {a : Option Addr} {l c : Nat} {ns : List Int} (h : RdS 1 w a l c (In ns)) : ns.length = l := by have := h.1; simpa using this

theorem copyints_ok {w : World} {a : Option Addr} {l c : Nat} {ns : List Int} (h : RdS 1 w a l c (In ns)) (hl : l * 8 ≤ 140737488355328) :
    CallR Try.prog 24 [.slice a l c] w fun v w' => ∃ a' c', v = .slice a' l c' ∧ SlO 1 w' a' l c' (In ns) ∧ Kept No w w' ∧ Fresh w a' := by
  refine C24 ?_
  unfold L24
  obtain ⟨a', c', w2, hrun, hs, hk, hat, hnn⟩ := run_app_sl (P := Try.prog) (t := 56) (t2 := 56) (ty := 56) (by kernel_rfl : slTyB Try.prog 56 1 8 = true) (by kernel_rfl) (SlO.nil 1 w) h (In_one ns) (by omega) (by omega)
  simp only [Nat.zero_add, List.nil_append] at hrun hs
  exact ⟨a', l, c', w2, hrun, a', c', rfl, hs, hk.mono (fun b _ hb => inA_none b hb), hat.fresh (Fresh.none w) (Nat.le_refl _)⟩

def ov (o : Nat) : Value := .iface 58 (pd o)
theorem ov_nil {w : World} {o : Nat} {x y : Operand} : Sem.run Try.prog (Sem.bind (eqGuard .eql 122 x y (ov o) .nilIface) (fun _ => binOp .eql 122 (ov o) .nilIface)) w = .ok (.bool false) w := by
  unfold ov
  kernel_rfl
theorem ov_read {w : World} {o : Nat} (args : Array Value) : Sem.run Try.prog (callMethod (ov o) "Read" args) w = .ok (.enter 103 (#[pd o] ++ args)) w := by
  unfold ov
  exact call_of (by intro recv w; kernel_rfl) (by kernel_rfl) _ _ _
theorem ov_write {w : World} {o : Nat} (args : Array Value) : Sem.run Try.prog (callMethod (ov o) "Write" args) w = .ok (.enter 105 (#[pd o] ++ args)) w := by
  unfold ov
  exact call_of (by intro recv w; kernel_rfl) (by kernel_rfl) _ _ _
theorem ov_nilM {o : Nat} : nilM Try.prog (ov o) "Write" := by
  unfold nilM ov
  intro w
  kernel_rfl

def someE (rs : List Int) (e n : Int) : Int := match rs with
  | [] => if e = 22 ∨ e = 23 then 81 else e
  | x :: _ => if n < x then 82 else 0
def someL (rs : List Int) (e n : Int) : Nat := match rs with
  | [] => 0
  | x :: _ => if n < x then 0 else x.toNat

theorem someOdd_ok {w : World} {o : Nat} {a a2 : Option Addr} {l c l2 c2 : Nat} {e : Int} {rs : List Int} (hb : Blk w o #[.slice a l c, .slice a2 l2 c2, .int .i64 e]) (hr : RdS 1 w a l c (In rs)) (hap : ∀ z, inA a z → z ≠ o) {n : Int} (h1 : 1 ≤ n) (h2 : n ≤ 40) :
    CallR Try.prog 23 [ov o, .int .i64 n] w fun v w' => ∃ a' c', v = .tuple #[.slice a' (someL rs e n) c', .int .i64 (someE rs e n)] ∧ Kept (· = o) w w' := by
  have hlen := In_len' hr
  refine C23 ?_
  unfold L23
  refine ⟨_, _, ov_nil, condFa2 (condF (by rw [decide_eq_false]; omega) (condF (by rw [decide_eq_false]; omega) ?_))⟩
  intro w2
  have hb2 : Blk w2 w.heap.size #[.int .i64 ((0 : Nat) : Int)] := Blk.alloc _ _ _
  have hk2 : Kept No w w2 := Kept.alloc _ _ _
  clear_value w2
  have hlt := hb.lt
  cases rs with
  | nil =>
    obtain rfl : l = 0 := by simpa using hlen.symm
    refine ⟨fun vs w' => ∃ k : Nat, vs = [] ∧ k < 8192 ∧ Blk w' w.heap.size #[.int .i64 (k : Int)] ∧ Kept No w w', fun _ w' => mu0 w.heap.size w', ⟨0, rfl, by omega, hb2, hk2⟩, ?_⟩
    rintro _ w3 ⟨k, _, hk, hb3, hk3⟩
    have ho3 := hb.keep hk3 fun e => e
    refine ⟨_, _, _, ov_read #[.int .i64 n], C103 ?_⟩
    unfold L103
    refine nnI ⟨_, _, _, ho3.at0 rfl, condTr2 (nnI ⟨_, ho3.at (i := 2) rfl, fun nd => ?_⟩)⟩
    have hk4 : Kept No w3 (w3.drewN nd) := Kept.drewN _ _ _
    have hb4 : Blk (w3.drewN nd) w.heap.size #[.int .i64 (k : Int)] := hb3.drewN nd
    generalize w3.drewN nd = w4 at hk4 hb4 ⊢
    have k4 := hk3.no hk4
    refine ⟨_, _, _, _, rfl, pass_to ⟨_, rfl, condP (fun hp => ?_) (fun hp => ?_)⟩⟩
    · refine CallR.mono (out_ok hb4 (by omega)) ?_
      rintro v w7 ⟨rfl, hb7, hk7⟩
      have k7 : Kept No w w7 := k4.fresh hk7 fun x e => by omega
      refine ⟨_, rfl, condP (fun hge => ?_) (fun hlt2 => ?_)⟩
      · exact ⟨none, 0, by unfold someE someL; rw [if_pos hp], k7.mono fun _ _ e => e.elim⟩
      · refine ⟨⟨k + 1, rfl, by omega, hb7, k7⟩, ?_⟩
        show mu0 _ w7 < mu0 _ w3
        rw [mu0_of hb7, mu0_of hb3]
        omega
    · have hE : someE [] e n = e := by unfold someE; exact if_neg hp
      refine condN (fun hne => ?_) (fun he => ?_)
      · exact ⟨none, 0, by rw [hE]; rfl, k4.mono fun _ _ e => e.elim⟩
      · exact condF (by rw [decide_eq_false]; omega) ⟨none, 0, by rw [hE, he]; rfl, k4.mono fun _ _ e => e.elim⟩
  | cons x r =>
    refine ⟨fun vs w' => w' = w2, fun _ _ => 0, rfl, ?_⟩
    rintro _ w3 rfl
    have ho3 := hb.keep hk2 fun e => e
    have hr3 := hr.keep hk2 fun _ _ _ e => e
    have hl1 : 1 ≤ l := by rw [← hlen]; simp
    obtain ⟨q, rfl⟩ : ∃ q, a = some q := by
      cases ha : a with
      | none => have := RdS.isNone hr3 ha; omega
      | some q => exact ⟨q, rfl⟩
    have hc0 := hr3.2.2.2 q rfl 0 (.int .i64 x) rfl
    refine ⟨_, _, _, ov_read #[.int .i64 n], C103 ?_⟩
    unfold L103
    refine nnI ⟨_, _, _, ho3.at0 rfl, condF (by simp; omega) (nnI ⟨_, _, _, ho3.at0 rfl, ⟨by omega, by omega⟩, nnI ⟨x, hc0, nnI ⟨_, _, _, ho3.at0 rfl, ⟨by omega, by omega⟩, nnI ?_⟩⟩⟩)⟩
    refine stC_blk ho3 (by simp) fun w4 hb4 hk4 hs4 => ?_
    obtain ⟨m, hm⟩ : ∃ m : Nat, mn (mx x 0) 5000 = (m : Int) := ⟨(mn (mx x 0) 5000).toNat, by unfold mn mx; omega⟩
    rw [hm]
    have hm2 : (m : Int) ≤ 5000 ∧ (n < x → n < (m : Int)) ∧ (¬ n < x → m = x.toNat) := by
      rw [← hm]
      unfold mn mx at hm ⊢
      refine ⟨by omega, fun h => by omega, fun h => by omega⟩
    obtain ⟨w5, hrun, hs5, hk5, hz5⟩ := run_mk (P := Try.prog) (t := 36) tyB (w := w4) (k := .i64) (k' := .i64) (n := m) (m := m) (Nat.le_refl _) (by omega) (by omega)
    have k5 : Kept (· = o) w w5 := ((hk2.mono fun _ _ e => e.elim).trans hk4 fun _ _ e => e).trans hk5 fun _ _ e => e.elim
    refine ⟨_, _, _, w5, hrun, _, _, _, _, rfl, pass_to ⟨_, rfl, condF (by decide) (condFa2 (condP (fun hg => ?_) (fun hg => ?_)))⟩⟩
    · have : n < x := by
        rcases Int.lt_or_le n x with e | e
        · exact e
        · have := hm2.2.2 (by omega); omega
      exact ⟨none, 0, by rw [show someE (x :: r) e n = 82 from if_pos this, show someL (x :: r) e n = 0 from if_pos this], k5⟩
    · have : ¬ n < x := fun e => hg (hm2.2.1 e)
      refine ⟨_, _, by rw [show someE (x :: r) e n = 0 from if_neg this, show someL (x :: r) e n = x.toNat from if_neg this, ← hm2.2.2 this], k5⟩

/-- What a Put over it answers. -/
def oputN : Nat → List Int → Int → Nat → Nat → Nat → Int × Int
  | 0, _, _, _, _, _ => (0, 0)
  | k + 1, ws, e, n, done, p => if n ≤ done then ((n : Int), 0) else match ws with
    | [] => if e = 22 ∨ e = 23 ∨ e = 0 then (if 8192 ≤ p + 1 then ((done : Int), 81) else oputN k [] e n done (p + 1)) else ((done : Int), e)
    | x :: r => if x = 0 then (if 8192 ≤ p + 1 then ((done : Int), 81) else oputN k r e n done (p + 1)) else if x < 0 ∨ ((n - done : Nat) : Int) < x then ((done : Int), 82) else oputN k r e n (done + x.toNat) 0

theorem oputN_succ (k : Nat) (ws : List Int) (e : Int) (n done p : Nat) : oputN (k + 1) ws e n done p = if n ≤ done then ((n : Int), 0) else match ws with
    | [] => if e = 22 ∨ e = 23 ∨ e = 0 then (if 8192 ≤ p + 1 then ((done : Int), 81) else oputN k [] e n done (p + 1)) else ((done : Int), e)
    | x :: r => if x = 0 then (if 8192 ≤ p + 1 then ((done : Int), 81) else oputN k r e n done (p + 1)) else if x < 0 ∨ ((n - done : Nat) : Int) < x then ((done : Int), 82) else oputN k r e n (done + x.toNat) 0 := rfl

theorem oputAr1 {W p k : Nat} (hk : 8193 * (W + 1) + (8192 - p) < k + 1) (hp : p < 8192) : 8193 * W + (8192 - (p + 1)) < k ∧ 8193 * W + (8192 - 0) < k := by omega

set_option maxHeartbeats 1000000 in
theorem putOdd_ok {w : World} {o : Nat} {a : Option Addr} {l c : Nat} {e : Int} {ws : List Int} (hb : Blk w o #[.slice none 0 0, .slice a l c, .int .i64 e]) (hr : RdS 1 w a l c (In ws)) (hap : ∀ z, inA a z → z < w.heap.size ∧ z ≠ o) {d : Option Addr} {n cd : Nat} {ds : List Int} (hd : RdB w d n cd ds) (hdo : ∀ z, inA d z → z ≠ o) (hn : n ≤ 40)
    {K : Nat} (hK : 8193 * ws.length + 8192 < K) :
    CallR Try.prog 26 [ov o, .slice d n cd] w fun v w' => v = .tuple #[.int .i64 (oputN K ws e n 0 0).1, .int .i64 (oputN K ws e n 0 0).2] ∧ Kept (· = o) w w' := by
  refine C26 ?_
  unfold L26
  have hlend := hd.len
  refine ⟨_, _, ov_nil, condFa2 (condF (by rw [decide_eq_false]; omega) ?_)⟩
  intro w2
  have hb2 : Blk w2 w.heap.size #[.int .i64 ((0 : Nat) : Int)] := Blk.alloc _ _ _
  have hk2 : Kept No w w2 := Kept.alloc _ _ _
  clear_value w2
  have hz2 := hb2.lt
  have holt := hb.lt
  have hcl : n ≤ cd := hd.2.1
  refine ⟨fun vs w3 => ∃ (ar : Option Addr) (done p k : Nat) (rest : List Int) (a' : Option Addr) (l' c' : Nat), vs = [.slice ar (n - done) (cd - done)] ∧ RdB w ar (n - done) (cd - done) (ds.drop done) ∧ (∀ z, inA ar z → inA d z) ∧ done ≤ n ∧ p < 8192 ∧ oputN K ws e n 0 0 = oputN k rest e n done p ∧ 8193 * rest.length + (8192 - p) < k ∧
      Blk w3 o #[.slice none 0 0, .slice a' l' c', .int .i64 e] ∧ RdS 1 w3 a' l' c' (In rest) ∧ (∀ z, inA a' z → inA a z) ∧ Blk w3 w.heap.size #[.int .i64 (p : Int)] ∧ Kept (· = o) w w3 ∧ rest.length ≤ ws.length,
    fun vs w' => match vs with | [.slice _ l' _] => 8192 * l' + mu0 w.heap.size w' | _ => 0,
    ⟨d, 0, 0, K, ws, a, l, c, rfl, hd, fun z hz => hz, by omega, by omega, rfl, by omega, hb.keep hk2 (fun e => e), hr.keep hk2 (fun _ _ _ e => e), fun z hz => hz, hb2, hk2.mono fun _ _ e => e.elim, Nat.le_refl _⟩, ?_⟩
  rintro _ a6 l6 c6 w3 ⟨ar, done, p, k, rest, a', l', c', hvs, hbr, har, hdone, hp, hrel, hk, ho3, hr3, hin3, hb3, hk3, hrl⟩
  simp only [List.cons.injEq, Value.slice.injEq, and_true] at hvs
  obtain ⟨rfl, rfl, rfl⟩ := hvs
  obtain ⟨k', rfl⟩ : ∃ k', k = k' + 1 := ⟨k - 1, by omega⟩
  rw [oputN_succ] at hrel
  have hz3 := hk3.size
  refine condP (fun hlt => ?_) (fun hge => ?_)
  · rw [if_neg (by omega)] at hrel
    intro w4
    have hk4 : Kept No w3 w4 := Kept.drew _ _
    clear_value w4
    refine ⟨ov_nilM, ?_⟩
    intro w5
    have hk5 : Kept No w4 w5 := Kept.alloc _ _ _
    have hs5 : SlO 1 w5 (some ⟨w4.heap.size, 0, none⟩) 0 0 (By []) := SlO.of_blk (Blk.alloc w4 #[] _) (by simp)
    have hz5 : w5.heap.size = w4.heap.size + 1 := by simp [w5]
    clear_value w5
    have k5 := hk4.no hk5
    have hrest : RdB w5 a6 (n - done) (cd - done) (ds.drop done) := (hbr.keep hk3 fun z hz hin e => hdo z (har z hin) e).keep k5 fun _ _ _ e => e
    obtain ⟨a7, c7, w6, hrun, hs6, hk6, hat, _⟩ := run_app_sl (P := Try.prog) (t := 36) (t2 := 36) (ty := 36) (by kernel_rfl : slTyB Try.prog 36 1 1 = true) (by kernel_rfl) hs5 (hrest : RdS 1 w5 a6 (n - done) (cd - done) (By (ds.drop done))) (By_one _) (by omega) (by omega)
    simp only [Nat.zero_add] at hrun hs6
    have k6 : Kept No w3 w6 := k5.fresh hk6 fun x e => by rw [inA_some] at e; have := hk4.size; omega
    have ho6 := ho3.keep k6 fun e => e
    have hr6 := hr3.keep k6 fun _ _ _ e => e
    have hb6 := hb3.keep k6 fun e => e
    refine ⟨_, _, _, w6, hrun, _, _, _, ov_write #[.slice a7 (n - done) c7], ?_⟩
    -- what the write answers
    have hw : CallR Try.prog 105 [pd o, .slice a7 (n - done) c7] w6 fun v w8 => ∃ (rn re : Int) (rest' : List Int) (a8 : Option Addr) (l8 c8 : Nat), v = .tuple #[.int .i64 rn, .int .i64 re] ∧ Blk w8 o #[.slice none 0 0, .slice a8 l8 c8, .int .i64 e] ∧ RdS 1 w8 a8 l8 c8 (In rest') ∧ (∀ z, inA a8 z → inA a z) ∧ Kept (· = o) w6 w8 ∧
        ((rest = [] ∧ rest' = [] ∧ rn = 0 ∧ re = e) ∨ (∃ x, rest = x :: rest' ∧ rn = x ∧ re = 0)) := by
      have hlr := In_len' hr6
      refine C105 ?_
      unfold L105
      cases rest with
      | nil =>
        obtain rfl : l' = 0 := by simpa using hlr.symm
        refine nnI ⟨_, _, _, ho6.at (i := 1) rfl, condTr2 (nnI ⟨_, ho6.at (i := 2) rfl, fun nd => ?_⟩)⟩
        exact ⟨_, _, [], a', 0, c', rfl, ho6.drewN nd, hr6.drewN nd, hin3, Kept.drewN _ _ _, .inl ⟨rfl, rfl, rfl, rfl⟩⟩
      | cons x r =>
        have hl1 : 1 ≤ l' := by rw [← hlr]; simp
        obtain ⟨q, rfl⟩ : ∃ q, a' = some q := by
          cases ha : a' with
          | none => have := RdS.isNone hr6 ha; omega
          | some q => exact ⟨q, rfl⟩
        have hc0 := hr6.2.2.2 q rfl 0 (.int .i64 x) rfl
        refine nnI ⟨_, _, _, ho6.at (i := 1) rfl, condF (by simp; omega) (nnI ⟨_, _, _, ho6.at (i := 1) rfl, ⟨by omega, by omega⟩, nnI ⟨x, hc0, nnI ⟨_, _, _, ho6.at (i := 1) rfl, ⟨by omega, by omega⟩, nnI ?_⟩⟩⟩)⟩
        refine stC_at ho6 (i := 1) (by simp) fun w8 hb8 hk8 hs8 => ?_
        have hto : Int.toNat 1 = 1 := rfl
        have hfr := (hr6.from 1 (by omega)).keep hk8 fun z hz hin e => (hap z (hin3 z (inA_adv.1 hin))).2 e
        have hfr : RdS 1 w8 (adv (some q) 1 c' 1) (l' - 1) (c' - 1) (In r) := hfr
        refine ⟨_, _, r, _, _, _, rfl, by simpa using hb8, hfr, fun z hz => hin3 z (inA_adv.1 hz), hk8, .inr ⟨x, rfl, rfl, rfl⟩⟩
    refine CallR.mono hw ?_
    rintro v w8 ⟨rn, re, rest', a8, l8, c8, rfl, ho8, hr8, hin8, hk8, hcase⟩
    have hb8 : Blk w8 w.heap.size #[.int .i64 (p : Int)] := hb6.keep hk8 (by omega)
    have k8 : Kept (· = o) w w8 := (hk3.no k6).trans hk8 fun _ _ e => e
    have hrest' : rest'.length ≤ rest.length := by
      rcases hcase with ⟨e1, e2, _, _⟩ | ⟨x, e1, _, _⟩
      · rw [e1, e2]; exact Nat.le_refl _
      · rw [e1]; simp
    refine ⟨_, _, rfl, ⟨by omega, by omega⟩, fun vs w' => ∃ b : Bool, vs = [.bool b] ∧ w' = w8 ∧ b = decide (re = 22 ∨ re = 23 ∨ (re = 0 ∧ rn = 0)), ?_, ?_⟩
    · refine pass_to ⟨_, rfl, condP (fun h1 => ⟨_, rfl, rfl, ?_⟩) (fun h1 => condI (fun h2 => ⟨_, rfl, rfl, ?_⟩) (fun h2 => ⟨_, rfl, rfl, ?_⟩))⟩
      · rw [decide_eq_true h1, decide_eq_true]; omega
      · have h2 : re = 0 := by simpa using h2
        by_cases h3 : rn = 0
        · rw [decide_eq_true (.inr (.inr ⟨h2, h3⟩) : re = 22 ∨ re = 23 ∨ (re = 0 ∧ rn = 0))]; simp [h3]
        · rw [decide_eq_false (by omega : ¬ (re = 22 ∨ re = 23 ∨ (re = 0 ∧ rn = 0)))]; simp [h3]
      · have h2 : ¬ re = 0 := by simpa using h2
        rw [decide_eq_false (by omega : ¬ (re = 22 ∨ re = 23 ∨ (re = 0 ∧ rn = 0)))]
    · rintro _ b16 w10 ⟨b, hbv, rfl, hbe⟩
      simp only [List.cons.injEq, Value.bool.injEq, and_true] at hbv
      subst hbv
      subst hbe
      -- the plain step
      have hstep : (re = 22 ∨ re = 23 ∨ (re = 0 ∧ rn = 0) → oputN K ws e n 0 0 = if 8192 ≤ p + 1 then ((done : Int), 81) else oputN k' rest' e n done (p + 1)) ∧
          (¬ (re = 22 ∨ re = 23 ∨ (re = 0 ∧ rn = 0)) → re ≠ 0 → oputN K ws e n 0 0 = ((done : Int), re)) ∧
          (re = 0 → rn ≠ 0 → (rn < 0 ∨ ((n - done : Nat) : Int) < rn) → oputN K ws e n 0 0 = ((done : Int), 82)) ∧
          (re = 0 → rn ≠ 0 → ¬ (rn < 0 ∨ ((n - done : Nat) : Int) < rn) → oputN K ws e n 0 0 = oputN k' rest' e n (done + rn.toNat) 0) := by
        rcases hcase with ⟨e1, e2, e3, e4⟩ | ⟨x, e1, e3, e4⟩
        · subst e1 e2 e3 e4
          dsimp only at hrel
          refine ⟨fun h => ?_, fun h h' => ?_, fun h h' => absurd rfl h', fun h h' => absurd rfl h'⟩
          · rw [hrel, if_pos (by omega)]
          · rw [hrel, if_neg (by omega)]
        · subst e1 e3 e4
          dsimp only at hrel
          refine ⟨fun h => ?_, fun h h' => absurd rfl h', fun h h' h2 => ?_, fun h h' h2 => ?_⟩
          · rw [hrel, if_pos (by omega)]
          · rw [hrel, if_neg h', if_pos h2]
          · rw [hrel, if_neg h', if_neg h2]
      have hfuel : 8193 * rest'.length + (8192 - (p + 1)) < k' ∧ (re = 0 → rn ≠ 0 → 8193 * rest'.length + (8192 - 0) < k') := by
        rcases hcase with ⟨e1, e2, e3, e4⟩ | ⟨x, e1, e3, e4⟩
        · subst e1 e2 e3
          refine ⟨?_, fun _ h => absurd rfl h⟩
          simp only [List.length_nil] at hk ⊢
          omega
        · subst e1
          have := oputAr1 (W := rest'.length) (by simpa using hk) hp
          exact ⟨this.1, fun _ _ => this.2⟩
      obtain ⟨q1, q2, q3, q4⟩ := hstep
      clear hcase hw
      refine condP (fun hpass => ?_) (fun hpass => ?_)
      · have hrel2 := q1 hpass
        refine CallR.mono (out_ok hb8 (by omega)) ?_
        rintro v w11 ⟨rfl, hb11, hk11⟩
        have k11 : Kept (· = o) w w11 := k8.trans hk11 fun x hx e => by omega
        refine ⟨_, rfl, condP (fun hge => ?_) (fun hlt2 => ?_)⟩
        · rw [if_pos hge] at hrel2
          rw [hrel2]
          exact ⟨tup2 (by dsimp only; omega), k11⟩
        · rw [if_neg hlt2] at hrel2
          have hne : o ≠ w.heap.size := by omega
          refine ⟨⟨a6, done, p + 1, k', rest', a8, l8, c8, rfl, hbr, har, hdone, by omega, hrel2, hfuel.1, ho8.keep hk11 (by omega), hr8.keep hk11 (fun z hz hin e => by have := (hap z (hin8 z hin)).1; omega), hin8, hb11, k11, by omega⟩, ?_⟩
          · show 8192 * (n - done) + mu0 _ w11 < 8192 * (n - done) + mu0 _ w3
            rw [mu0_of hb11, mu0_of hb3]
            omega
      · refine condN (fun hne => ?_) (fun he => ?_)
        · rw [q2 hpass hne]
          exact ⟨tup2 (by dsimp only; omega), k8⟩
        have hrn : rn ≠ 0 := fun e => hpass (.inr (.inr ⟨he, e⟩))
        refine condP (fun h1 => ?_) (fun h1 => condP (fun h2 => ?_) (fun h2 => ?_))
        · rw [q3 he hrn (.inl h1)]; exact ⟨tup2 (by dsimp only; omega), k8⟩
        · rw [q3 he hrn (.inr (by omega))]; exact ⟨tup2 (by dsimp only; omega), k8⟩
        have hrel2 := q4 he hrn (by omega)
        refine ⟨⟨by omega, by omega⟩, stC_blk hb8 (by simp) fun w12 hb12 hk12 hs12 => ?_⟩
        have hb12 : Blk w12 w.heap.size #[.int .i64 ((0 : Nat) : Int)] := by simpa using hb12
        refine ⟨⟨adv a6 rn.toNat (cd - done) 1, done + rn.toNat, 0, k', rest', a8, l8, c8, ?_, ?_, fun z hz => har z (inA_adv.1 hz), by omega, by omega, hrel2, hfuel.2 he hrn, ho8.keep hk12 (by omega), hr8.keep hk12 (fun z hz hin e => by have := (hap z (hin8 z hin)).1; omega), hin8, hb12, k8.trans hk12 fun x hx e => by omega, by omega⟩, ?_⟩
        · rw [show n - done - rn.toNat = n - (done + rn.toNat) by omega, show cd - done - rn.toNat = cd - (done + rn.toNat) by omega]
        · have := hbr.from rn.toNat (by omega)
          rw [List.drop_drop, show n - done - rn.toNat = n - (done + rn.toNat) by omega, show cd - done - rn.toNat = cd - (done + rn.toNat) by omega] at this
          exact this
        · show 8192 * (n - done - rn.toNat) + mu0 _ w12 < 8192 * (n - done) + mu0 _ w3
          rw [mu0_of hb12, mu0_of hb3]
          omega
  · rw [if_pos (by omega)] at hrel
    rw [hrel]
    have : n = done := by omega
    exact ⟨by rfl, hk3⟩

end Go.Proofs.Ytkjmlbplmffekaa
