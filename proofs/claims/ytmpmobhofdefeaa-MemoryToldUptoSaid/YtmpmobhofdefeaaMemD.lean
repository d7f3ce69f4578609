/-
  A stream of one's own: reading, writing. Conditions: as each says (a read: no error is told; a write: it does not panic).
-/
import Derived.Test.YtmpmobhofdefeaaMemC
set_option linter.unusedVariables false
namespace Go.Proofs.Ytmpmobhofdefeaa
open Go.Lw

def readC (n : Int) (rs : List (List Int × Int)) : List Int × Int × List (List Int × Int) :=
  if n < 0 ∨ n > 1048576 then ([], 4, rs) else if n = 0 then ([], 0, rs) else
    match rs with
    | [] => ([], 0, [])
    | r :: t => if r.2 ≠ 0 then ([], r.2, t) else (r.1.take n.toNat, 0, if (r.1.length : Int) ≤ n then t else (r.1.drop n.toNat, 0) :: t)

theorem cread_ok {F : Nat → Prop} {w : World} {b : Nat} {rs : List (List Int × Int)} {ws tk : List Int} (h : CuO F w b rs ws tk) (hz : ∀ r t, rs = r :: t → r.2 = 0) (n : Int) :
    CallR Try.prog 41 [pt b, .int .i64 n] w fun v w' => ∃ a l c, v = .tuple #[.slice a l c, .int .i64 (readC n rs).2.1] ∧ OB w' a l c (readC n rs).1 ∧ Fresh w a ∧ CuO F w' b (readC n rs).2.2 ws tk ∧ Kept F w w' := by
  have hC := h
  refine C41 ?_
  unfold L41
  intro w1
  have hk1 : Kept No w w1 := Kept.alloc _ w _
  have hx1 : Blk w1 w.heap.size #[pt b] := Blk.alloc w _ _
  have hs1 : w1.heap.size = w.heap.size + 1 := by simp [w1]
  clear_value w1
  generalize hg : w.heap.size = g at *
  have hC1 := hC.keep hk1 (fun _ _ e => e)
  obtain ⟨ar, lr, cr, aw, lw, cw, ak, lk, ck, es, hb, h1, h2, h3, h4, h5, h6, h7, h8, h9, h10⟩ := hC1
  have hbg : b < g := by obtain ⟨_, _, _, _, _, _, _, _, _, _, hb', _⟩ := hC; have := hb'.lt; omega
  have hFg : ∀ x, F x → x < g := by
    obtain ⟨_, _, _, _, _, _, _, _, _, _, _, _, _, _, _, _, h6', _⟩ := hC
    intro x hx; have := h6' x hx; omega
  have hbad : ∀ {k : Int}, readC n rs = ([], k, rs) → ∃ a l c, Value.tuple #[.slice none 0 0, .int .i64 k] = .tuple #[.slice a l c, .int .i64 (readC n rs).2.1] ∧ OB w1 a l c (readC n rs).1 ∧ Fresh w a ∧ CuO F w1 b (readC n rs).2.2 ws tk ∧ Kept F w w1 := by
    intro k e; rw [e]; exact ⟨none, 0, 0, rfl, OB.nil _, Fresh.none _, hC.keep hk1 (fun _ _ e => e), hk1.mono fun _ _ e => e.elim⟩
  have hlr : rs.length = lr := by
    have := h1.1
    rw [ansC_len] at this
    have := h2.1; omega
  refine ⟨_, hx1.cell 0, condF rfl ⟨_, hx1.cell 0, nnI ⟨true, hb.at0 rfl, condF rfl (condP (fun g1 => hbad ?_) fun g1 => condP (fun g2 => hbad ?_) fun g2 => condI (fun g3 => hbad ?_) (fun g3 => ⟨_, hx1.cell 0, nnI ⟨ar, lr, cr, hb.at (i := 1) rfl, condI (fun g4 => hbad ?_) (fun g4 => ?_)⟩⟩))⟩⟩⟩
  · unfold readC; rw [if_pos (by omega)]
  · unfold readC; rw [if_pos (by omega)]
  · simp only [beq_iff_eq] at g3
    unfold readC; rw [if_neg (by omega), if_pos g3]
  all_goals simp only [beq_eq_false_iff_ne] at g3
  · simp only [beq_iff_eq] at g4
    have : rs = [] := List.eq_nil_of_length_eq_zero (by omega)
    subst this
    unfold readC; rw [if_neg (by omega), if_neg g3]
  simp only [beq_eq_false_iff_ne] at g4
  obtain ⟨r, t, rfl⟩ : ∃ r t, rs = r :: t := by
    cases rs with
    | nil => simp at hlr; omega
    | cons r t => exact ⟨r, t, rfl⟩
  obtain ⟨e, es', rfl⟩ : ∃ e t, es = e :: t := by
    cases es with
    | nil => have := h2.1; simp at this
    | cons e t => exact ⟨e, t, rfl⟩
  have hr0 := hz r t rfl
  obtain ⟨k1, k2, k3⟩ := h2.2 0 e r rfl rfl
  have har : ∃ q, ar = some q := by
    cases ar with
    | none => have := (RdS.isNone h1.rd rfl).1; omega
    | some q => exact ⟨q, rfl⟩
  obtain ⟨q, rfl⟩ := har
  have hc0 : w1.cell? (q.add (Int.toNat 0 * 2)) = some (slv e.1) := h1.rd.2.2.2 q rfl 0 _ (by simp [ansC])
  have hc1 : w1.cell? ((q.add (Int.toNat 0 * 2)).add 1) = some (.int .i64 e.2) := by
    rw [Lw.add_add]; exact h1.rd.2.2.2 q rfl 1 _ (by simp [ansC])
  refine ⟨_, hx1.cell 0, nnI ⟨some q, lr, cr, hb.at (i := 1) rfl, ⟨by omega, by omega⟩, nnI ⟨e.2, hc1, condF (by rw [k2, hr0]; rfl) ?_⟩⟩⟩
  intro w2
  have hk2 : Kept No w1 w2 := Kept.drew No w1
  have hs2 : w2.heap.size = w1.heap.size := rfl
  clear_value w2
  have hrl := k1.len
  have hlc : e.1.2.1 ≤ e.1.2.2 := k1.2.1
  have hmn : mn n (e.1.2.1 : Int) = ((min n.toNat e.1.2.1 : Nat) : Int) := by rw [mn_eq]; omega
  have he : readC n (r :: t) = (r.1.take n.toNat, 0, if (r.1.length : Int) ≤ n then t else (r.1.drop n.toNat, 0) :: t) := by
    unfold readC; rw [if_neg (by omega), if_neg g3]; simp only [hr0]; rfl
  rw [he]
  obtain ⟨m, hm⟩ : ∃ m, min n.toNat e.1.2.1 = m := ⟨_, rfl⟩
  rw [hm] at hmn
  have e1 : r.1.take n.toNat = r.1.take m := by rw [List.take_eq_take_iff]; omega
  have hpc : RdB w2 e.1.1 m e.1.2.2 (r.1.take m) := (k1.keep hk2 (fun _ _ _ e => e)).to m (by omega)
  have hc02 : w2.cell? (q.add (Int.toNat 0 * 2)) = some (slv e.1) := hk2.cell hc0 (fun e => e)
  have hll := h10 r (by simp)
  have hml : (r.1.take m).length = m := by rw [List.length_take]; omega
  refine ⟨e.1.1, e.1.2.1, e.1.2.2, hc02, e.1.1, e.1.2.1, e.1.2.2, hc02, by rw [hmn]; exact ⟨by omega, by omega⟩, ?_⟩
  rw [hmn, Int.toNat_natCast]
  refine (clone_ok hpc (by omega)).mono fun v w3 ⟨a17, c17, hv3, ho3, hk3, hf3, _⟩ => ⟨a17, m, c17, hv3, ?_⟩
  rw [hml] at ho3
  have hk13 := hk2.no hk3
  have hs3 := hk3.size
  have hc03 : w3.cell? (q.add (Int.toNat 0 * 2)) = some (slv e.1) := hk3.cell hc02 (fun e => e)
  refine ⟨e.1.1, e.1.2.1, e.1.2.2, hc03, ⟨by omega, by omega⟩, ?_⟩
  rw [Int.toNat_natCast]
  have hq0 : q.add (Int.toNat 0 * 2) = q.add 0 := rfl
  rw [hq0] at *
  refine stC_sloN (h1.keep hk13 (fun _ _ e => e)) rfl (by omega) fun w4 hs4 hk4 hsz4 => ?_
  rw [show Value.slice (adv e.1.1 m e.1.2.2 1) (e.1.2.1 - m) (e.1.2.2 - m) = slv (adv e.1.1 m e.1.2.2 1, e.1.2.1 - m, e.1.2.2 - m) from rfl, ansC_set] at hs4
  have hne : ∀ x, inA (some q) x → x ≠ g := fun x hx e => by have := hFg x (h7 x hx).1; omega
  have hx4 := (hx1.keep hk13 (fun e => e)).keep hk4 (fun e => hne _ e rfl)
  have hb4 := (hb.keep hk13 (fun e => e)).keep hk4 (fun e => (h7 _ e).2 rfl)
  have ho4 := ho3.keep hk4 (fun x hx e => by have := hf3 x hx; have := hFg x (h7 x e).1; omega)
  have hC4 : CuO F w4 b ((r.1.drop m, 0) :: t) ws tk := by
    refine ⟨some q, lr, cr, aw, lw, cw, ak, lk, ck, _, hb4, hs4, ?_, ?_, ?_, h5, fun x hx => by have := hFg x hx; omega, h7, h8, h9, ?_⟩
    · refine AnsR.cons (((AnsR.tail h2).keep hk13 (fun _ _ e => e)).keep hk4 (fun x hx => hx.2.2.1)) ?_ (by rw [k2, hr0]) ?_
      · refine RdB.keep0 ((k1.keep hk13 (fun _ _ _ e => e)).from m (by omega)) hk4 (fun hne' x hx e' => ?_)
        have : r.1 ≠ [] := by rintro h0; rw [h0] at hne'; simp at hne'
        exact (k3 this x (inA_adv.1 hx)).2.2.1 e'
      · intro hne' x hx
        have : r.1 ≠ [] := by rintro h0; rw [h0] at hne'; simp at hne'
        exact k3 this x (inA_adv.1 hx)
    · exact (h3.keep hk13 (fun _ _ _ e => e)).keep hk4 (fun x _ hx => (h8 x hx).2.2.1)
    · exact (h4.keep hk13 (fun _ _ e => e)).keep hk4 (fun x hx => (h9 x hx).2.2)
    · intro y hy
      rcases List.mem_cons.1 hy with rfl | hy
      · simp only [List.length_drop]; omega
      · exact h10 y (by simp [hy])
  have hk04 : Kept F w w4 := ((hk1.no hk13).mono fun _ _ e => e.elim).trans hk4 fun x _ hx => (h7 x hx).1
  have hc04 : w4.cell? (q.add 0) = some (.slice (adv e.1.1 m e.1.2.2 1) (e.1.2.1 - m) (e.1.2.2 - m)) := hs4.rd.2.2.2 q rfl 0 _ (by simp [ansC, slv])
  refine ⟨_, _, _, hc04, condI (fun g5 => ?_) (fun g5 => ?_)⟩
  · simp only [beq_iff_eq] at g5
    intro w5
    have hk5 : Kept No w4 w5 := Kept.drew No w4
    have hs5 : w5.heap.size = w4.heap.size := rfl
    clear_value w5
    have hx5 := hx4.keep hk5 (fun e => e)
    have hb5 := hb4.keep hk5 (fun e => e)
    obtain ⟨_, _, _, _, _, _, _, _, _, es4, hbx, q1, q2, q3, q4, q5, q6, q7, q8, q9, q10⟩ := hC4.keep hk5 (fun _ _ e => e)
    have huq := hbx.uniq hb5
    simp only [Array.mk.injEq, List.cons.injEq, Value.slice.injEq, and_true, true_and] at huq
    obtain ⟨⟨rfl, rfl, rfl⟩, ⟨rfl, rfl, rfl⟩, rfl, rfl, rfl⟩ := huq
    refine ⟨_, hx5.cell 0, _, hx5.cell 0, nnI ⟨_, _, _, hb5.at (i := 1) rfl, ⟨by omega, by omega⟩, nnI (stC_at hb5 (by simp) fun w6 hb6 hk6 hs6 => ⟨a17, m, c17, rfl, ?_, ?_, ?_, ?_⟩)⟩⟩
    · rw [e1]; exact (ho4.keep hk5 (fun _ _ e => e)).keep hk6 (fun x hx e => by have := hf3 x hx; omega)
    · intro x hx; have := hf3 x hx; omega
    · rw [if_pos (by omega)]
      obtain ⟨e', es'', rfl⟩ : ∃ e t, es4 = e :: t := by
        cases es4 with
        | nil => have := q2.1; simp at this
        | cons e t => exact ⟨e, t, rfl⟩
      have hfr := SlO.from q1 1 (by omega)
      rw [← ansC_drop] at hfr
      refine ⟨_, _, _, _, _, _, _, _, _, es'', by simpa using hb6, hfr.keep hk6 (fun x hx e => (q7 x (inA_adv.1 hx)).2 e), ?_, q3.keep hk6 (fun x _ hx e => (q8 x hx).2.1 e), q4.keep hk6 (fun x hx e => (q9 x hx).2.1 e), q5, fun x hx => by have := q6 x hx; omega, fun x hx => q7 x (inA_adv.1 hx), fun x hx => ⟨(q8 x hx).1, (q8 x hx).2.1, fun e => (q8 x hx).2.2.1 (inA_adv.1 e), (q8 x hx).2.2.2⟩,
        fun x hx => ⟨(q9 x hx).1, (q9 x hx).2.1, fun e => (q9 x hx).2.2 (inA_adv.1 e)⟩, fun y hy => q10 y (by simp [hy])⟩
      exact ((AnsR.tail q2).mono (fun x hx => ⟨hx.1, hx.2.1, fun e => hx.2.2.1 (inA_adv.1 e), hx.2.2.2⟩)).keep hk6 (fun x hx e => hx.2.1 e)
    · exact (hk04.trans hk5 fun _ _ e => e.elim).trans hk6 fun x _ e => e ▸ h5
  · simp only [beq_eq_false_iff_ne] at g5
    refine ⟨a17, m, c17, rfl, by rw [e1]; exact ho4, fun x hx => by have := hf3 x hx; omega, ?_, hk04⟩
    rw [if_neg (by omega)]
    have : m = n.toNat := by omega
    rw [← this]; exact hC4

def writeC (ds ws tk : List Int) : Int × Int × List Int × List Int :=
  if ds.length > 1048576 then (0, 5, ws, tk) else if ds = [] then (0, 0, ws, tk) else
    if (ws.headD ds.length) = -1 then (0, 101, ws.tail, tk) else ((min (ws.headD ds.length) ds.length), 0, ws.tail, tk ++ ds.take (min (ws.headD ds.length) ds.length).toNat)

theorem cwrite_ok {F : Nat → Prop} {w : World} {b : Nat} {rs : List (List Int × Int)} {ws tk : List Int} (h : CuO F w b rs ws tk) {a2 : Option Addr} {l2 c2 : Nat} {ds : List Int} (hd : RdB w a2 l2 c2 ds) (hap : ds ≠ [] → ∀ k, inA a2 k → ¬ F k)
    (hw : ∀ n ∈ ws, -1 ≤ n) (hlk : tk.length ≤ 70368744177664) :
    CallR Try.prog 77 [pt b, .slice a2 l2 c2] w fun v w' => v = .tuple #[.int .i64 (writeC ds ws tk).1, .int .i64 (writeC ds ws tk).2.1] ∧ ∃ F', CuO F' w' b rs (writeC ds ws tk).2.2.1 (writeC ds ws tk).2.2.2 ∧ Grew F w F' ∧ Kept F w w' := by
  have hC := h
  obtain ⟨ar, lr, cr, aw, lw, cw, ak, lk, ck, es, hb, h1, h2, h3, h4, h5, h6, h7, h8, h9, h10⟩ := hC
  refine C77 ?_
  unfold L77
  have hbad : ∀ {k : Int}, writeC ds ws tk = (0, k, ws, tk) → Value.tuple #[.int .i64 0, .int .i64 k] = .tuple #[.int .i64 (writeC ds ws tk).1, .int .i64 (writeC ds ws tk).2.1] ∧ ∃ F', CuO F' w b rs (writeC ds ws tk).2.2.1 (writeC ds ws tk).2.2.2 ∧ Grew F w F' ∧ Kept F w w := by
    intro k e; rw [e]; exact ⟨rfl, F, h, .same, Kept.refl _ _⟩
  have hlen2 := hd.len
  have hlc2 : l2 ≤ c2 := hd.2.1
  have hlw : ws.length = lw := by have := h3.1; simpa using this
  have hlkk := h4.len
  refine condF rfl (nnI ⟨true, hb.at0 rfl, condF rfl (condP (fun g => hbad ?_) fun g => condI (fun g2 => hbad ?_) fun g2 => ?_)⟩)
  · unfold writeC; rw [if_pos (by omega)]
  · simp only [beq_iff_eq] at g2
    have : ds = [] := List.eq_nil_of_length_eq_zero (by omega)
    unfold writeC; rw [if_neg (by omega), if_pos this]
  simp only [beq_eq_false_iff_ne] at g2
  have hne : ds ≠ [] := by rintro rfl; simp at hlen2; omega
  refine ⟨fun vs w' => vs = [.int .i64 (ws.headD l2)] ∧ CuO F w' b rs ws.tail tk ∧ Kept F w w' ∧ w'.heap.size = w.heap.size, nnI ⟨aw, lw, cw, hb.at (i := 2) rfl, condP (fun g3 => ?_) (fun g3 => ?_)⟩, ?_⟩
  · intro w1
    have hk1 : Kept No w w1 := Kept.drew No w
    have hs1 : w1.heap.size = w.heap.size := rfl
    clear_value w1
    obtain ⟨x, ws', rfl⟩ : ∃ x t, ws = x :: t := by
      cases ws with
      | nil => simp at hlw; omega
      | cons x t => exact ⟨x, t, rfl⟩
    obtain ⟨q, rfl⟩ : ∃ q, aw = some q := by
      cases aw with
      | none => have := (RdS.isNone h3 rfl).1; omega
      | some q => exact ⟨q, rfl⟩
    have hb1 := hb.keep hk1 (fun e => e)
    have h31 := h3.keep hk1 (fun _ _ _ e => e)
    refine nnI ⟨some q, lw, cw, hb1.at (i := 2) rfl, ⟨by omega, by omega⟩, nnI ⟨x, h31.2.2.2 q rfl 0 _ (by simp [In]), nnI ⟨some q, lw, cw, hb1.at (i := 2) rfl, ⟨by omega, by omega⟩, nnI (stC_at hb1 (by simp) fun w2 hb2 hk2 hs2 => ⟨rfl, ?_, (hk1.mono fun _ _ e => e.elim).trans hk2 fun y _ e => e ▸ h5, by omega⟩)⟩⟩⟩
    have hfr := RdS.from h31 1 (by omega)
    refine ⟨ar, lr, cr, _, _, _, ak, lk, ck, es, by simpa using hb2, (h1.keep hk1 (fun _ _ e => e)).keep hk2 (fun x hx e => (h7 x hx).2 e), (h2.keep hk1 (fun _ _ e => e)).keep hk2 (fun x hx e => hx.2.1 e), ?_, (h4.keep hk1 (fun _ _ e => e)).keep hk2 (fun x hx e => (h9 x hx).2.1 e), h5,
      fun y hy => by have := h6 y hy; omega, h7, fun y hy => h8 y (inA_adv.1 hy), h9, h10⟩
    exact hfr.keep hk2 (fun y _ hy e => (h8 y (inA_adv.1 hy)).2.1 e)
  · have : ws = [] := List.eq_nil_of_length_eq_zero (by omega)
    subst this
    exact ⟨rfl, h, Kept.refl _ _, rfl⟩
  · rintro _ n15 w3 ⟨hvs, hC3, hk3, hs3⟩
    simp only [List.cons.injEq, Value.int.injEq, true_and, and_true] at hvs
    subst hvs
    have hge : -1 ≤ ws.headD l2 := by
      cases ws with
      | nil => simp only [List.headD_nil]; omega
      | cons x t => exact hw x (by simp)
    subst hlen2
    have e0 : ws.headD ↑ds.length = -1 → writeC ds ws tk = (0, 101, ws.tail, tk) := fun e => by unfold writeC; rw [if_neg (by omega), if_neg hne, if_pos e]
    have e1 : ws.headD ↑ds.length ≠ -1 → writeC ds ws tk = ((min (ws.headD ds.length) ds.length), 0, ws.tail, tk ++ ds.take (min (ws.headD ds.length) ds.length).toNat) := fun e => by unfold writeC; rw [if_neg (by omega), if_neg hne, if_neg e]
    refine condI (fun g4 => ?_) (fun g4 => condP (fun g5 => ?_) (fun g5 => ?_))
    · simp only [beq_iff_eq] at g4
      rw [e0 g4]
      exact ⟨rfl, F, hC3, .same, hk3⟩
    · simp only [beq_eq_false_iff_ne] at g4
      omega
    · simp only [beq_eq_false_iff_ne] at g4
      rw [e1 g4]
      intro w4
      have hk4 : Kept No w3 w4 := Kept.drew No w3
      have hs4 : w4.heap.size = w3.heap.size := rfl
      clear_value w4
      have h04 : Kept F w w4 := hk3.trans hk4 fun _ _ e => e.elim
      obtain ⟨ar, lr, cr, aw, lw, cw, ak, lk, ck, es, hb, h1, h2, h3, h4, h5, h6, h7, h8, h9, h10⟩ := hC3.keep hk4 (fun _ _ e => e)
      have hlkk := h4.len
      obtain ⟨m, hm⟩ : ∃ m : Nat, mn (ws.headD ds.length) (ds.length : Int) = (m : Int) := ⟨(mn (ws.headD ds.length) (ds.length : Int)).toNat, by rw [mn_eq]; omega⟩
      have hm' : min (ws.headD ds.length) (ds.length : Int) = (m : Int) := by rw [← mn_eq]; exact hm
      rw [hm, hm', Int.toNat_natCast]
      have hml : m ≤ ds.length := by omega
      have hd4 := (hd.keep h04 (fun x _ hx hf => hap hne x hx hf)).to m (by omega)
      obtain ⟨a18, c18, w5, hrun, hs5, hk5, hat, hnn⟩ := run_app_sl (P := Try.prog) (t := 26) (t2 := 26) (ty := 26) (by kernel_rfl : slTyB Try.prog 26 1 1 = true) (by kernel_rfl) h4 hd4 (By_one _) (by omega) (by omega)
      rw [← By_append] at hs5
      have hb5 := hb.keep hk5 (fun e => (h9 _ e).2.1 rfl)
      have hsz5 := hk5.size
      refine nnI ⟨ak, lk, ck, hb.at (i := 3) rfl, ⟨by omega, by omega⟩, a18, lk + m, c18, w5, hrun, nnI (stC_at hb5 (by simp) fun w6 hb6 hk6 hs6 => ⟨rfl, fun x => F x ∨ inA a18 x, ?_, ?_, ?_⟩)⟩
      · have hin : ∀ x, inA a18 x → (inA ak x ∨ x = w4.heap.size) := fun x hx => hat.in hx
        have hbx := hb.lt
        refine ⟨ar, lr, cr, aw, lw, cw, a18, _, c18, es, by simpa using hb6, (h1.keep hk5 (fun x hx e => (h9 x e).2.2 hx)).keep hk6 (fun x hx e => (h7 x hx).2 e), ?_, (h3.keep hk5 (fun x _ hx e => (h8 x hx).2.2.2 e)).keep hk6 (fun x _ hx e => (h8 x hx).2.1 e), ?_, .inl h5, ?_, fun x hx => ⟨.inl (h7 x hx).1, (h7 x hx).2⟩, ?_, ?_, h10⟩
        · refine ((h2.mono (R' := fun x => F x ∧ x ≠ b ∧ ¬ inA ar x ∧ ¬ inA ak x) fun x hx => hx).keep hk5 (fun x hx => hx.2.2.2)).keep hk6 (fun x hx e => hx.2.1 e) |>.mono fun x hx => ⟨.inl hx.1, hx.2.1, hx.2.2.1, fun e => ?_⟩
          rcases hin x e with e | e
          · exact hx.2.2.2 e
          · have := h6 x hx.1; omega
        · refine OB.keep hs5 hk6 (fun x hx e => ?_)
          rcases hin x hx with e' | e'
          · exact (h9 x e').2.1 e
          · omega
        · rintro x (hx | hx)
          · have := h6 x hx; omega
          · have := SlO.lt hs5 x hx; omega
        · intro x hx
          refine ⟨.inl (h8 x hx).1, (h8 x hx).2.1, (h8 x hx).2.2.1, fun e => ?_⟩
          rcases hin x e with e | e
          · exact (h8 x hx).2.2.2 e
          · have := h6 x (h8 x hx).1; omega
        · intro x hx
          rcases hin x hx with e | e
          · exact ⟨.inr hx, (h9 x e).2.1, (h9 x e).2.2⟩
          · refine ⟨.inr hx, by omega, fun e' => ?_⟩
            have := h6 x (h7 x e').1; omega
      · rintro x (hx | hx)
        · exact .inl hx
        · rcases hat.in hx with e | e
          · exact .inl (h9 x e).1
          · right; omega
      · exact (h04.trans hk5 fun x _ hx => (h9 x hx).1).trans hk6 fun x _ e => e ▸ h5

theorem ctaken_ok {F : Nat → Prop} {w : World} {b : Nat} {rs : List (List Int × Int)} {ws tk : List Int} (h : CuO F w b rs ws tk) (hlk : tk.length ≤ 140737488355328) :
    CallR Try.prog 93 [pt b] w fun v w' => ∃ a c, v = .slice a tk.length c ∧ OB w' a tk.length c tk ∧ Fresh w a ∧ Kept No w w' := by
  obtain ⟨ar, lr, cr, aw, lw, cw, ak, lk, ck, es, hb, h1, h2, h3, h4, h5, h6, h7, h8, h9, h10⟩ := h
  have hlen := h4.len
  refine C93 ?_
  unfold L93
  refine condF rfl (nnI ⟨ak, lk, ck, hb.at (i := 3) rfl, (clone_ok h4.rd (by omega)).mono fun v w' ⟨a', c', hv, ho', hk, hf, _⟩ => ⟨a', lk, c', hv, a', c', by rw [hlen], ho', hf, hk⟩⟩)

end Go.Proofs.Ytmpmobhofdefeaa
