/-
  The page's pipe: what its methods do, against the same plain pipe. Conditions: as each says.
-/
import Derived.Test.YtmpmobhofdefeaaKpC
set_option linter.unusedVariables false
namespace Go.Proofs.Ytmpmobhofdefeaa
open Go.Lw

/-- The page's pipe in the block rb; all that it has lies in F. -/
def RefP (w : World) (rb : Nat) (F : Nat → Prop) (bs : List Int) (e0 e1 : Nat) : Prop :=
  F rb ∧ (∀ x, F x → x < w.heap.size) ∧ ∃ a l c, Blk w rb #[.slice a l c, .int .i64 (e0 : Int), .int .i64 (e1 : Int)] ∧ RdB w a l c bs ∧ (∀ x, inA a x → F x ∧ x ≠ rb) ∧ bs.length ≤ 4096 ∧ e0 ≤ 1024 ∧ e1 ≤ 1024

theorem RefP.keep {S F : Nat → Prop} {w w' : World} {rb : Nat} {bs : List Int} {e0 e1 : Nat} (h : RefP w rb F bs e0 e1) (k : Kept S w w') (hn : ∀ x, F x → ¬ S x) : RefP w' rb F bs e0 e1 := by
  obtain ⟨hF, hlt, a, l, c, hb, hr, ha, h1, h2, h3⟩ := h
  exact ⟨hF, fun x hx => Nat.lt_of_lt_of_le (hlt x hx) k.size, a, l, c, hb.keep k (hn _ hF), hr.keep k (fun x _ hx => hn x (ha x hx).1), ha, h1, h2, h3⟩

theorem rjoin_ok {w : World} {rb : Nat} {F : Nat → Prop} {bs : List Int} {e0 e1 : Nat} (h : RefP w rb F bs e0 e1) (wr : Bool) :
    CallR Try.prog 33 [pt rb, .bool wr] w fun v w' => v = .int .i64 (joinP wr e0 e1).1 ∧ RefP w' rb F bs (joinP wr e0 e1).2.1 (joinP wr e0 e1).2.2 ∧ Kept (· = rb) w w' := by
  have h' := h
  obtain ⟨hF, hlt, a, l, c, hb, hr, ha, h1, h2, h3⟩ := h'
  refine C33 ?_
  unfold L33
  cases wr
  · refine condF rfl (condT rfl (nnI ⟨(e0 : Int), hb.at (i := 1) rfl, condP (fun g => ?_) (fun g => condF rfl (nnI ⟨(e0 : Int), hb.at (i := 1) rfl, by unfold inI; omega, nnI (stC_at hb (by simp) fun w1 hb1 hk1 _ => ?_)⟩))⟩))
    · have e : joinP false e0 e1 = (3, e0, e1) := by unfold joinP; rw [if_neg (by decide), if_pos (by omega)]
      rw [e]; exact ⟨rfl, h, Kept.refl _ _⟩
    · have e : joinP false e0 e1 = (0, e0 + 1, e1) := by unfold joinP; rw [if_neg (by decide), if_neg (by omega)]
      rw [e]; exact ⟨rfl, ⟨hF, fun x hx => Nat.lt_of_lt_of_le (hlt x hx) hk1.size, a, l, c, hb1, hr.keep hk1 (fun x _ hx e => (ha x hx).2 e), ha, h1, by show e0 + 1 ≤ 1024; omega, h3⟩, hk1⟩
  · refine condT rfl (nnI ⟨(e1 : Int), hb.at (i := 2) rfl, condP (fun g => ?_) (fun g => condF rfl (condT rfl (nnI ⟨(e1 : Int), hb.at (i := 2) rfl, by unfold inI; omega, nnI (stC_at hb (by simp) fun w1 hb1 hk1 _ => ?_)⟩)))⟩)
    · have e : joinP true e0 e1 = (3, e0, e1) := by unfold joinP; rw [if_pos rfl, if_pos (by omega)]
      rw [e]; exact ⟨rfl, h, Kept.refl _ _⟩
    · have e : joinP true e0 e1 = (0, e0, e1 + 1) := by unfold joinP; rw [if_pos rfl, if_neg (by omega)]
      rw [e]; exact ⟨rfl, ⟨hF, fun x hx => Nat.lt_of_lt_of_le (hlt x hx) hk1.size, a, l, c, hb1, hr.keep hk1 (fun x _ hx e => (ha x hx).2 e), ha, h1, h2, by show e1 + 1 ≤ 1024; omega⟩, hk1⟩

theorem rleave_ok {w : World} {rb : Nat} {F : Nat → Prop} {bs : List Int} {e0 e1 : Nat} (h : RefP w rb F bs e0 e1) (wr : Bool) :
    CallR Try.prog 34 [pt rb, .bool wr] w fun v w' => v = .int .i64 (leaveP wr e0 e1).1 ∧ RefP w' rb F bs (leaveP wr e0 e1).2.1 (leaveP wr e0 e1).2.2 ∧ Kept (· = rb) w w' := by
  have h' := h
  obtain ⟨hF, hlt, a, l, c, hb, hr, ha, h1, h2, h3⟩ := h'
  refine C34 ?_
  unfold L34
  cases wr
  · refine condF rfl (condT rfl (nnI ⟨(e0 : Int), hb.at (i := 1) rfl, condI (fun g => ?_) (fun g => condF rfl (nnI ⟨(e0 : Int), hb.at (i := 1) rfl, by unfold inI; omega, nnI (stC_at hb (by simp) fun w1 hb1 hk1 _ => ?_)⟩))⟩))
    · simp only [beq_iff_eq] at g
      have e : leaveP false e0 e1 = (51, e0, e1) := by unfold leaveP; rw [if_neg (by decide), if_pos (by omega)]
      rw [e]; exact ⟨rfl, h, Kept.refl _ _⟩
    · simp only [beq_eq_false_iff_ne] at g
      have e : leaveP false e0 e1 = (0, e0 - 1, e1) := by unfold leaveP; rw [if_neg (by decide), if_neg (by omega)]
      have e2 : ((e0 : Int) - 1) = ((e0 - 1 : Nat) : Int) := by omega
      rw [e2] at hb1
      rw [e]; exact ⟨rfl, ⟨hF, fun x hx => Nat.lt_of_lt_of_le (hlt x hx) hk1.size, a, l, c, hb1, hr.keep hk1 (fun x _ hx e => (ha x hx).2 e), ha, h1, by show e0 - 1 ≤ 1024; omega, h3⟩, hk1⟩
  · refine condT rfl (nnI ⟨(e1 : Int), hb.at (i := 2) rfl, condI (fun g => ?_) (fun g => condF rfl (condT rfl (nnI ⟨(e1 : Int), hb.at (i := 2) rfl, by unfold inI; omega, nnI (stC_at hb (by simp) fun w1 hb1 hk1 _ => ?_)⟩)))⟩)
    · simp only [beq_iff_eq] at g
      have e : leaveP true e0 e1 = (51, e0, e1) := by unfold leaveP; rw [if_pos rfl, if_pos (by omega)]
      rw [e]; exact ⟨rfl, h, Kept.refl _ _⟩
    · simp only [beq_eq_false_iff_ne] at g
      have e : leaveP true e0 e1 = (0, e0, e1 - 1) := by unfold leaveP; rw [if_pos rfl, if_neg (by omega)]
      have e2 : ((e1 : Int) - 1) = ((e1 - 1 : Nat) : Int) := by omega
      rw [e2] at hb1
      rw [e]; exact ⟨rfl, ⟨hF, fun x hx => Nat.lt_of_lt_of_le (hlt x hx) hk1.size, a, l, c, hb1, hr.keep hk1 (fun x _ hx e => (ha x hx).2 e), ha, h1, h2, by show e1 - 1 ≤ 1024; omega⟩, hk1⟩

theorem rcanr_to {w : World} {rb : Nat} {F : Nat → Prop} {bs : List Int} {e0 e1 : Nat} (h : RefP w rb F bs e0 e1) {Q : Value → World → Prop} (hq : Q (.bool (canRP bs e0 e1)) w) : CallR Try.prog 35 [pt rb] w Q := by
  obtain ⟨hF, hlt, a, l, c, hb, hr, ha, h1, h2, h3⟩ := h
  have hlen := hr.len
  refine C35 ?_
  unfold L35
  refine nnI ⟨(e0 : Int), hb.at (i := 1) rfl, condP (fun g => nnI ⟨a, l, c, hb.at0 rfl, condP (fun g2 => ?_) (fun g2 => nnI ⟨(e1 : Int), hb.at (i := 2) rfl, ?_⟩)⟩) (fun g => ?_)⟩
  · have e : canRP bs e0 e1 = true := by unfold canRP; simp only [decide_eq_true_eq]; omega
    rw [e] at hq; exact hq
  · have e : canRP bs e0 e1 = ((e1 : Int) == 0) := by
      unfold canRP; rw [Bool.eq_iff_iff]; simp only [decide_eq_true_eq, beq_iff_eq]; omega
    rw [e] at hq; exact hq
  · have e : canRP bs e0 e1 = false := by unfold canRP; simp only [decide_eq_false_iff_not]; omega
    rw [e] at hq; exact hq

theorem rcanw_to {w : World} {rb : Nat} {F : Nat → Prop} {bs : List Int} {e0 e1 : Nat} (h : RefP w rb F bs e0 e1) (n : Int) {Q : Value → World → Prop} (hq : Q (.bool (canWP n bs e0 e1)) w) : CallR Try.prog 36 [pt rb, .int .i64 n] w Q := by
  obtain ⟨hF, hlt, a, l, c, hb, hr, ha, h1, h2, h3⟩ := h
  have hlen := hr.len
  refine C36 ?_
  unfold L36
  have hT : canWP n bs e0 e1 = true → Q (.bool true) w := fun e => e ▸ hq
  have hF : canWP n bs e0 e1 = false → Q (.bool false) w := fun e => e ▸ hq
  refine nnI ⟨a, l, c, hb.at0 rfl, by unfold inI; omega, nnI ⟨(e1 : Int), hb.at (i := 2) rfl, condP (fun g => condP (fun g2 => condP (fun g3 => nnI ⟨(e0 : Int), hb.at (i := 1) rfl, condI (fun g4 => hT ?_) (fun g4 => condP (fun g5 => condP (fun g6 => hT ?_) (fun g6 => condP (fun g7 => ?_) (fun g7 => hF ?_))) (fun g5 => condP (fun g7 => ?_) (fun g7 => hF ?_)))⟩) (fun g3 => hF ?_)) (fun g2 => hF ?_)) (fun g => hF ?_)⟩⟩
  · simp only [beq_iff_eq] at g4
    unfold canWP; simp only [decide_eq_true_eq]; omega
  · unfold canWP takesP; simp only [decide_eq_true_eq]; rw [if_neg (by omega)]; omega
  · omega
  · simp only [beq_eq_false_iff_ne] at g4
    unfold canWP takesP; simp only [decide_eq_false_iff_not]; rw [if_pos (by omega)]; omega
  · simp only [beq_eq_false_iff_ne] at g4
    have e : canWP n bs e0 e1 = decide ((4096 : Int) - (l : Int) > 0) := by
      unfold canWP takesP; rw [Bool.eq_iff_iff]; simp only [decide_eq_true_eq]; rw [if_neg (by omega)]; omega
    rw [e] at hq; exact hq
  · omega
  all_goals (unfold canWP; simp only [decide_eq_false_iff_not]; omega)

theorem rread_ok {w : World} {rb : Nat} {F : Nat → Prop} {bs : List Int} {e0 e1 : Nat} (h : RefP w rb F bs e0 e1) (n : Int) :
    CallR Try.prog 29 [pt rb, .int .i64 n] w fun v w' => ∃ a l c, v = .tuple #[.slice a l c, .int .i64 (readP n bs e0 e1).2.1] ∧ RdB w' a l c (readP n bs e0 e1).1 ∧ (∀ x, inA a x → F x ∧ x ≠ rb) ∧
      RefP w' rb F (readP n bs e0 e1).2.2 e0 e1 ∧ Kept (· = rb) w w' := by
  have hbad : ∀ {k : Int}, readP n bs e0 e1 = ([], k, bs) → ∃ a l c, Value.tuple #[.slice none 0 0, .int .i64 k] = .tuple #[.slice a l c, .int .i64 (readP n bs e0 e1).2.1] ∧ RdB w a l c (readP n bs e0 e1).1 ∧ (∀ x, inA a x → F x ∧ x ≠ rb) ∧
      RefP w rb F (readP n bs e0 e1).2.2 e0 e1 ∧ Kept (· = rb) w w := by
    intro k e; rw [e]; exact ⟨none, 0, 0, rfl, RdB.nil w, fun x hx => absurd hx (inA_none x), h, Kept.refl _ _⟩
  have h' := h
  obtain ⟨hF, hlt, a, l, c, hb, hr, ha, h1, h2, h3⟩ := h'
  have hlen := hr.len
  have hlc : l ≤ c := hr.2.1
  refine C29 ?_
  unfold L29
  have hfin : n ≥ 1 → n ≤ 1048576 → e0 ≠ 0 → ¬ (bs = [] ∧ e1 > 0) → (0 ≤ mn n (l : Int) ∧ mn n (l : Int) ≤ (c : Int)) ∧ (0 ≤ mn n (l : Int) ∧ mn n (l : Int) ≤ (l : Int)) ∧
      ∀ w1, Blk w1 rb #[.slice (adv a (mn n (l : Int)).toNat c 1) (l - (mn n (l : Int)).toNat) (c - (mn n (l : Int)).toNat), .int .i64 (e0 : Int), .int .i64 (e1 : Int)] → Kept (· = rb) w w1 →
        ∃ a' l' c', Value.tuple #[.slice a (mn n (l : Int)).toNat c, .int .i64 0] = .tuple #[.slice a' l' c', .int .i64 (readP n bs e0 e1).2.1] ∧ RdB w1 a' l' c' (readP n bs e0 e1).1 ∧ (∀ x, inA a' x → F x ∧ x ≠ rb) ∧
          RefP w1 rb F (readP n bs e0 e1).2.2 e0 e1 ∧ Kept (· = rb) w w1 := by
    intro g1 g2 g3 g4
    have e : readP n bs e0 e1 = (bs.take n.toNat, 0, bs.drop n.toNat) := by
      unfold readP; rw [if_neg (by omega), if_neg (by omega), if_neg g4]
    have hmn : mn n (l : Int) = ((min n.toNat l : Nat) : Int) := by rw [mn_eq]; omega
    rw [hmn, e, Int.toNat_natCast]
    have e1' : bs.take n.toNat = bs.take (min n.toNat l) := by rw [List.take_eq_take_iff]; omega
    have e2' : bs.drop n.toNat = bs.drop (min n.toNat l) := by
      rcases Nat.le_total n.toNat l with hle | hle
      · rw [Nat.min_eq_left hle]
      · rw [Nat.min_eq_right hle, List.drop_of_length_le (by omega), List.drop_of_length_le (by omega)]
    rw [e1', e2']
    refine ⟨⟨by omega, by omega⟩, ⟨by omega, by omega⟩, fun w1 hb1 hk1 => ⟨a, _, c, rfl, ?_, ha, ?_, hk1⟩⟩
    · exact (hr.to (min n.toNat l) (by omega)).keep hk1 (fun x _ hx e => (ha x hx).2 e)
    · exact ⟨hF, fun x hx => Nat.lt_of_lt_of_le (hlt x hx) hk1.size, _, _, _, hb1, (hr.from (min n.toNat l) (by omega)).keep hk1 (fun x _ hx e => (ha x (inA_adv.1 hx)).2 e), fun x hx => ha x (inA_adv.1 hx), by rw [List.length_drop]; omega, h2, h3⟩
  refine condP (fun g => hbad ?_) fun g => condP (fun g2 => hbad ?_) fun g2 => nnI ⟨(e0 : Int), hb.at (i := 1) rfl, condI (fun g3 => hbad ?_) (fun g3 => nnI ⟨a, l, c, hb.at0 rfl, condI (fun g4 => nnI ⟨(e1 : Int), hb.at (i := 2) rfl, condP (fun g5 => hbad ?_) (fun g5 => ?_)⟩) (fun g4 => ?_)⟩)⟩
  · unfold readP; rw [if_pos (by omega)]
  · unfold readP; rw [if_pos (by omega)]
  · simp only [beq_iff_eq] at g3
    unfold readP; rw [if_neg (by omega), if_pos (by omega)]
  all_goals simp only [beq_eq_false_iff_ne, beq_iff_eq] at g3 g4
  · have : bs = [] := List.eq_nil_of_length_eq_zero (by omega)
    unfold readP; rw [if_neg (by omega), if_neg (by omega), if_pos ⟨this, by omega⟩]
  all_goals obtain ⟨f1, f2, f3⟩ := hfin (by omega) (by omega) (by omega) (by first | (rintro ⟨_, _⟩; omega) | (rintro ⟨rfl, _⟩; simp at hlen; omega))
  all_goals exact nnI ⟨a, l, c, hb.at0 rfl, nnI ⟨a, l, c, hb.at0 rfl, f1, nnI ⟨a, l, c, hb.at0 rfl, f2, nnI (stC_blk hb (by simp) fun w1 hb1 hk1 _ => f3 w1 hb1 hk1)⟩⟩⟩

theorem rwrite_ok {w : World} {rb : Nat} {F : Nat → Prop} {bs : List Int} {e0 e1 : Nat} (h : RefP w rb F bs e0 e1) {a2 : Option Addr} {l2 c2 : Nat} {ds : List Int} (hd : RdB w a2 l2 c2 ds) (hdr : ds ≠ [] → ¬ inA a2 rb) (most : Int) :
    CallR Try.prog 31 [pt rb, .slice a2 l2 c2, .int .i64 most] w fun v w' => v = .tuple #[.int .i64 (writeP ds most bs e0 e1).1, .int .i64 (writeP ds most bs e0 e1).2.1] ∧
      RefP w' rb (fun x => F x ∨ (w.heap.size ≤ x ∧ x < w'.heap.size)) (writeP ds most bs e0 e1).2.2 e0 e1 ∧ Kept (· = rb) w w' := by
  have hwide : ∀ w', Kept (· = rb) w w' → ∀ bs', RefP w' rb F bs' e0 e1 → RefP w' rb (fun x => F x ∨ (w.heap.size ≤ x ∧ x < w'.heap.size)) bs' e0 e1 := by
    rintro w' k bs' ⟨hF, hlt, a, l, c, hb, hr, ha, h1⟩
    exact ⟨.inl hF, fun x hx => hx.elim (hlt x) (·.2), a, l, c, hb, hr, fun x hx => ⟨.inl (ha x hx).1, (ha x hx).2⟩, h1⟩
  have hbad : ∀ {k : Int}, writeP ds most bs e0 e1 = (0, k, bs) → Value.tuple #[.int .i64 0, .int .i64 k] = .tuple #[.int .i64 (writeP ds most bs e0 e1).1, .int .i64 (writeP ds most bs e0 e1).2.1] ∧
      RefP w rb (fun x => F x ∨ (w.heap.size ≤ x ∧ x < w.heap.size)) (writeP ds most bs e0 e1).2.2 e0 e1 ∧ Kept (· = rb) w w := by
    intro k e; rw [e]; exact ⟨rfl, hwide w (Kept.refl _ _) _ h, Kept.refl _ _⟩
  have h' := h
  obtain ⟨hF, hlt, a, l, c, hb, hr, ha, h1, h2, h3⟩ := h'
  have hlen := hr.len
  have hdl := hd.len
  have hlc : l2 ≤ c2 := hd.2.1
  refine C31 ?_
  unfold L31
  refine nnI ⟨a, l, c, hb.at0 rfl, by unfold inI; omega, fun vs w' => w' = w ∧ ∃ k : Nat, vs = [.int .i64 (k : Int)] ∧ (k : Int) = wtk l2 most l ∧ k ≤ l2 ∧ l + k ≤ 4096 ∧ writeP ds most bs e0 e1 = ((k : Int), 0, bs ++ ds.take k), ?_, ?_⟩
  · have hgood : l2 ≤ 1048576 → 1 ≤ most → most ≤ 1048576 → e1 ≠ 0 → e0 ≠ 0 → l2 ≠ 0 → takesP l l2 ≠ 0 → ∀ m : Int, m = wtk l2 most l → w = w ∧ ∃ k : Nat, [Value.int .i64 m] = [.int .i64 (k : Int)] ∧ (k : Int) = wtk l2 most l ∧ k ≤ l2 ∧ l + k ≤ 4096 ∧ writeP ds most bs e0 e1 = ((k : Int), 0, bs ++ ds.take k) := by
      intro f1 f2 f3 f4 f5 f6 f7 m hm
      have ht0 : 0 ≤ takesP l l2 ∧ takesP l l2 ≤ l2 ∧ (l : Int) + takesP l l2 ≤ 4096 := by unfold takesP; split <;> omega
      have hw0 : 0 ≤ wtk l2 most l ∧ wtk l2 most l ≤ l2 ∧ (l : Int) + wtk l2 most l ≤ 4096 := by unfold wtk; split <;> omega
      have hne : ds ≠ [] := by rintro rfl; simp at hdl; omega
      have e : writeP ds most bs e0 e1 = (wtk l2 most l, 0, bs ++ ds.take (wtk l2 most l).toNat) := by
        unfold writeP; rw [if_neg (by omega), if_neg (by omega), if_neg (by omega), if_neg (by omega), if_neg hne, if_neg (by rw [hlen, hdl]; exact f7), hlen, hdl]
      refine ⟨rfl, (wtk l2 most l).toNat, by rw [hm]; congr 2; omega, by omega, by omega, by omega, ?_⟩
      rw [e]; congr 1; omega
    refine condP (fun g => hbad ?_) fun g => condP (fun g2 => hbad ?_) fun g2 => condP (fun g3 => hbad ?_) fun g3 => nnI ⟨(e1 : Int), hb.at (i := 2) rfl, condI (fun g4 => hbad ?_) (fun g4 => nnI ⟨(e0 : Int), hb.at (i := 1) rfl, condI (fun g5 => hbad ?_) (fun g5 => condI (fun g6 => hbad ?_) (fun g6 => ?_))⟩)⟩
    · unfold writeP; rw [if_pos (by omega)]
    · unfold writeP; rw [if_neg (by omega), if_pos (by omega)]
    · unfold writeP; rw [if_neg (by omega), if_pos (by omega)]
    all_goals simp only [beq_eq_false_iff_ne, beq_iff_eq] at g4
    · unfold writeP; rw [if_neg (by omega), if_neg (by omega), if_pos (by omega)]
    all_goals simp only [beq_eq_false_iff_ne, beq_iff_eq] at g5
    · unfold writeP; rw [if_neg (by omega), if_neg (by omega), if_neg (by omega), if_pos (by omega)]
    all_goals simp only [beq_eq_false_iff_ne, beq_iff_eq] at g6
    · have : ds = [] := List.eq_nil_of_length_eq_zero (by omega)
      unfold writeP; rw [if_neg (by omega), if_neg (by omega), if_neg (by omega), if_neg (by omega), if_pos this]
    have hne : ds ≠ [] := by rintro rfl; simp at hdl; omega
    have hblk : takesP l l2 = 0 → writeP ds most bs e0 e1 = (0, 52, bs) := by
      intro e
      unfold writeP; rw [if_neg (by omega), if_neg (by omega), if_neg (by omega), if_neg (by omega), if_neg hne, if_pos (by rw [hlen, hdl]; exact e)]
    refine condP (fun g7 => condP (fun g8 => hbad (hblk ?_)) (fun g8 => condI (fun g9 => hbad (hblk ?_)) (fun g9 => condP (fun g10 => hgood ?_ ?_ ?_ ?_ ?_ ?_ ?_ _ ?_) (fun g10 => ?_)))) (fun g7 => condI (fun g9 => hbad (hblk ?_)) (fun g9 => condP (fun g10 => ?_) (fun g10 => hgood ?_ ?_ ?_ ?_ ?_ ?_ ?_ _ ?_)))
    all_goals (try simp only [beq_eq_false_iff_ne, beq_iff_eq] at g9)
    all_goals first | omega | (unfold takesP; split <;> omega) | (unfold wtk takesP; rw [if_neg (by omega), if_neg (by omega)]; omega) | (unfold wtk takesP; rw [if_pos (by omega), if_neg (by omega), mn_eq, mn_eq] <;> omega)
  · rintro _ n11 w1 ⟨rfl, k, hvs, hk, hkl, hk4, e⟩
    simp only [List.cons.injEq, Value.int.injEq, true_and, and_true] at hvs
    subst hvs
    rw [e]
    intro w2
    have hk2 : Kept No w1 w2 := Kept.drew _ _
    have hb2 : Blk w2 rb #[.slice a l c, .int .i64 (e0 : Int), .int .i64 (e1 : Int)] := hb
    have hr2 : RdB w2 a l c bs := hr
    have hd2 : RdB w2 a2 l2 c2 ds := hd
    have hsz2 : w2.heap.size = w1.heap.size := rfl
    clear_value w2
    have hrb : rb < w1.heap.size := hb.lt
    obtain ⟨a', c', w3, hrun, hs, hk3, hat, hnn⟩ := run_app_sl (P := Try.prog) (t := 26) (t2 := 26) (ty := 26) (by kernel_rfl : slTyB Try.prog 26 1 1 = true) (by kernel_rfl) (SlO.nil 1 w2) hr2 (By_one bs) (by omega) (by omega)
    simp only [Nat.zero_add, List.nil_append] at hrun hs
    have hk3 : Kept No w2 w3 := hk3.mono fun b _ hb => inA_none b hb
    have hd3 : RdB w3 a2 k c2 (ds.take k) := (hd2.keep hk3 (fun _ _ _ e => e)).to k (by omega)
    obtain ⟨a5, c5, w4, hrun4, hs4, hk4', hat4, hnn4⟩ := run_app_sl (P := Try.prog) (t := 26) (t2 := 26) (ty := 26) (by kernel_rfl : slTyB Try.prog 26 1 1 = true) (by kernel_rfl) hs hd3 (By_one _) (by omega) (by omega)
    have hfr : Fresh w2 a' := hat.fresh (Fresh.none w2) (Nat.le_refl _)
    have hk4 : Kept No w2 w4 := hk3.fresh hk4' hfr
    have hfr5 : Fresh w2 a5 := hat4.fresh hfr hk3.size
    refine nnI ⟨a, l, c, hb2.at0 rfl, ⟨by omega, by omega⟩, a', l, c', w3, hrun, a5, l + k, c5, w4, by rw [Int.toNat_natCast]; exact hrun4, nnI ?_⟩
    refine stC_blk (hb2.keep hk4 (fun e => e)) (by simp) fun w5 hb5 hk5 hsz5 => ⟨rfl, ?_, ((hk2.trans hk4 fun _ _ e => e).mono fun _ _ e => e.elim).trans hk5 fun _ _ e => e⟩
    have hsz4 := hk4.size
    refine ⟨.inl hF, fun x hx => hx.elim (fun hx => by have := hlt x hx; omega) (·.2), a5, l + k, c5, hb5, ?_, fun x hx => ⟨.inr ⟨by have := hfr5 x hx; omega, ?_⟩, by have := hfr5 x hx; omega⟩, by rw [List.length_append, List.length_take]; omega, h2, h3⟩
    · rw [← By_append] at hs4
      exact RdB.keep (OB.rd (bs := bs ++ ds.take k) hs4) hk5 (fun x _ hx e => by have := hfr5 x hx; omega)
    · have := SlO.lt hs4 x hx
      omega
end Go.Proofs.Ytmpmobhofdefeaa
