/-
  What a kernel says would wait, against what its calls answer, as values. Conditions: as each says.
-/
import Derived.Test.YtkjmlbplmffekaaGreatKeT
set_option linter.unusedVariables false
namespace Go.Proofs.YtkjmlbplmffekaaGreat
open Go.Lw
namespace AK

theorem kindN_pos (k : TK) : 1 ≤ kindN k := by cases k <;> decide

theorem kind_zero {s : AK} {d : Int} (h : s.kind d = 0) : s.desc d = none := by
  unfold kind at h
  cases hd : s.desc d with
  | none => rfl
  | some x =>
    rw [if_neg (fun e => e (find_of hd (bit0 _))), hd] at h
    have := kindN_pos (s.objs x.ob).kd
    dsimp only at h
    omega
theorem kind_some {s : AK} {d : Int} {x : AD} (hd : s.desc d = some x) : s.kind d = kindN (s.objs x.ob).kd := by
  unfold kind
  rw [if_neg (fun e => e (find_of hd (bit0 _))), hd]

theorem can_none {s : AK} {d n : Int} (h : s.desc d = none) : s.canRead d = false ∧ s.canWrite d n = false := by
  unfold canRead canWrite
  rw [find_none 1 h, find_none 2 h]
  exact ⟨if_pos (by decide), if_pos (.inl (by decide))⟩

theorem metF_err (ps : List (Int × Int)) (n : Int) : (metF ps n).2 = 0 ∨ (metF ps n).2 = 22 ∨ (metF ps n).2 = 23 := by
  unfold metF
  cases ps with
  | nil => exact .inl rfl
  | cons f r =>
    dsimp only
    split
    · exact .inl rfl
    · split
      · exact .inr (.inl rfl)
      · split
        · exact .inr (.inr rfl)
        · exact .inl rfl

/-- A read of some bytes: refused for its way, or it waits just where it was said. -/
theorem says_read {s : AK} {d n : Int} {x : AD} (hx : s.desc d = some x) (h1 : 1 ≤ n) (h2 : n ≤ 1048576) :
    (bitI x.fl 1 ≠ 1 ∧ s.read d n = ([], 65, s) ∧ s.canRead d = false) ∨
    (bitI x.fl 1 = 1 ∧ (s.read d n).2.1 ≠ 65 ∧ s.canRead d = decide ((s.read d n).2.1 ≠ 52)) := by
  by_cases hb : bitI x.fl 1 = 1
  · right
    have hf := find_of hx hb
    have hc : s.canRead d = !s.waits x := by unfold canRead; rw [if_neg (fun e => e hf), hx]
    have hr : s.read d n = if s.waits x = true then ([], 52, s) else if (metF s.ps n).2 ≠ 0 then ([], (metF s.ps n).2, s.met0) else ((s.met0.rdO x (metF s.ps n).1).1, 0, (s.met0.rdO x (metF s.ps n).1).2) := by
      unfold read
      rw [if_neg (fun e => e hf), if_neg (by omega), if_neg (by omega), hx]
    rw [hr, hc]
    cases hw : s.waits x with
    | true => exact ⟨hb, by rw [if_pos rfl]; show (52 : Int) ≠ 65; decide, by rw [if_pos rfl]; rfl⟩
    | false =>
      rw [if_neg (by simp)]
      rcases metF_err s.ps n with e | e | e
      · rw [if_neg (fun e' => e' e)]; exact ⟨hb, by show (0 : Int) ≠ 65; decide, rfl⟩
      · rw [if_pos (by rw [e]; decide), e]; exact ⟨hb, by show (22 : Int) ≠ 65; decide, rfl⟩
      · rw [if_pos (by rw [e]; decide), e]; exact ⟨hb, by show (23 : Int) ≠ 65; decide, rfl⟩
  · left
    have hf := find_bad hx hb
    refine ⟨hb, ?_, ?_⟩
    · unfold read; rw [hf, if_pos (by decide)]
    · unfold canRead; rw [hf, if_pos (by decide)]

theorem roomO_err {s : AK} {x : AD} {n : Int} : (s.roomO x n).2 = 0 ∨ (s.roomO x n).2 = 31 ∨ (s.roomO x n).2 = 53 ∨ ((s.roomO x n).2 = 52 ∧ (s.objs x.ob).kd = .con) := by
  unfold roomO
  cases s.objs x.ob with
  | file bs =>
    dsimp only
    unfold roomD
    split
    · exact .inl rfl
    · exact .inr (.inl rfl)
  | term LL scr =>
    dsimp only
    unfold roomD
    split
    · exact .inl rfl
    · exact .inr (.inl rfl)
  | pipe bs e0 e1 =>
    dsimp only
    unfold roomC
    split
    · exact .inr (.inr (.inl rfl))
    · split
      · exact .inr (.inr (.inr ⟨rfl, rfl⟩))
      · exact .inl rfl

/-- A write of some bytes: refused for its way, or it waits just where there is no room. -/
theorem says_write {s : AK} {d : Int} {x : AD} (hx : s.desc d = some x) {ds : List Int} (h1 : 1 ≤ ds.length) (h2 : ds.length ≤ 1048576) :
    (bitI x.fl 2 ≠ 2 ∧ (s.write d ds).2.1 = 65 ∧ s.canWrite d ds.length = false) ∨
    (bitI x.fl 2 = 2 ∧ (s.write d ds).2.1 ≠ 65 ∧ s.canWrite d ds.length = decide ((s.write d ds).2.1 ≠ 52) ∧ ((s.objs x.ob).kd ≠ .con → s.canWrite d ds.length = true)) := by
  by_cases hb : bitI x.fl 2 = 2
  · right
    have hf := find_of hx hb
    have hnr : ¬ (s.find d 2 ≠ 0 ∨ (ds.length : Int) < 1 ∨ (ds.length : Int) > 1048576) := by rw [hf]; omega
    have hc : s.canWrite d ds.length = decide ((s.roomO x ds.length).2 ≠ 52) := by unfold canWrite; rw [if_neg hnr, hx]
    have hr : (s.write d ds).2.1 = if (s.roomO x ds.length).2 ≠ 0 then (s.roomO x ds.length).2 else (metF s.ps ds.length).2 := by
      unfold write
      rw [if_neg (fun e => e hf), if_neg (by omega), if_neg (by omega), hx]
      dsimp only
      by_cases e1 : (s.roomO x ds.length).2 ≠ 0
      · rw [if_pos e1, if_pos e1]
      · rw [if_neg e1, if_neg e1]
        by_cases e2 : (metF s.ps ds.length).2 ≠ 0
        · rw [if_pos e2]
        · rw [if_neg e2]; exact (Decidable.not_not.1 e2).symm
    rw [hr, hc]
    rcases @roomO_err s x (ds.length : Int) with e | e | e | ⟨e, hk⟩
    · rw [e, if_neg (by simp)]
      rcases metF_err s.ps ds.length with e2 | e2 | e2 <;> rw [e2] <;> exact ⟨hb, by decide, rfl, fun _ => rfl⟩
    · rw [e, if_pos (by decide)]; exact ⟨hb, by decide, rfl, fun _ => rfl⟩
    · rw [e, if_pos (by decide)]; exact ⟨hb, by decide, rfl, fun _ => rfl⟩
    · rw [e, if_pos (by decide)]; exact ⟨hb, by decide, rfl, fun h => absurd hk h⟩
  · left
    have hf := find_bad hx hb
    refine ⟨hb, ?_, ?_⟩
    · unfold write; rw [hf, if_pos (by decide)]
    · unfold canWrite; rw [hf, if_pos (.inl (by decide))]

theorem setO_kd {s : AK} {i : Nat} {o : AObj} (h : o.kd = (s.objs i).kd) (j : Nat) : ((s.setO i o).objs j).kd = (s.objs j).kd := by
  by_cases e : j = i
  · subst e; rw [objs_setO_same]; exact h
  · rw [objs_setO_ne s o e]

/-- What a read leaves of its description. -/
theorem read_desc {s : AK} {d n : Int} {x : AD} (hx : s.desc d = some x) : ∃ x', (s.read d n).2.2.desc d = some x' ∧ x'.fl = x.fl ∧ x'.ob = x.ob ∧ ((s.read d n).2.2.objs x.ob).kd = (s.objs x.ob).kd := by
  rcases read_cases s d n with ⟨e, _, hr⟩ | ⟨hr, _⟩ | ⟨y, hy, _, _, _, _, ⟨_, hr⟩ | ⟨_, hr⟩⟩
  · rw [hr]; exact ⟨x, hx, rfl, rfl, rfl⟩
  · rw [hr]; exact ⟨x, hx, rfl, rfl, rfl⟩
  · rw [hr]; exact ⟨x, hx, rfl, rfl, rfl⟩
  · rw [hx] at hy
    cases hy
    rw [hr]
    dsimp only
    unfold rdO
    cases ho : s.met0.objs x.ob with
    | file bs =>
      dsimp only
      rw [(desc_some hx).2]
      exact ⟨_, desc_setD_same (s := s.met0) hx, rfl, rfl, rfl⟩
    | term LL scr => exact ⟨x, hx, rfl, rfl, setO_kd (s := s.met0) (by rw [ho]; rfl) _⟩
    | pipe bs e0 e1 => exact ⟨x, hx, rfl, rfl, setO_kd (s := s.met0) (by rw [ho]; rfl) _⟩

theorem wrO_cs {s : AK} {x : AD} {ds : List Int} {m : Int} : (s.wrO x ds m).2.c0 = s.c0 ∧ (s.wrO x ds m).2.c1 = s.c1 ∧ (s.wrO x ds m).2.next = s.next ∧ (s.wrO x ds m).2.ps = s.ps ∧ (s.wrO x ds m).2.files = s.files ∧ (s.wrO x ds m).2.terms = s.terms := by
  unfold wrO
  cases s.objs x.ob with
  | file bs => exact ⟨rfl, rfl, rfl, rfl, rfl, rfl⟩
  | term LL scr => exact ⟨rfl, rfl, rfl, rfl, rfl, rfl⟩
  | pipe bs e0 e1 => exact ⟨rfl, rfl, rfl, rfl, rfl, rfl⟩

theorem write_cs (s : AK) (d : Int) (ds : List Int) : (s.write d ds).2.2.c0 = s.c0 ∧ s.c1 ≤ (s.write d ds).2.2.c1 ∧ (s.write d ds).2.2.c1 ≤ s.c1 + 1 ∧ (s.write d ds).2.2.next = s.next ∧ (s.write d ds).2.2.files = s.files ∧ (s.write d ds).2.2.terms = s.terms := by
  have same : s.c0 = s.c0 ∧ s.c1 ≤ s.c1 ∧ s.c1 ≤ s.c1 + 1 ∧ s.next = s.next ∧ s.files = s.files ∧ s.terms = s.terms := ⟨rfl, by omega, by omega, rfl, rfl, rfl⟩
  have met : s.met1.c0 = s.c0 ∧ s.c1 ≤ s.met1.c1 ∧ s.met1.c1 ≤ s.c1 + 1 ∧ s.met1.next = s.next ∧ s.met1.files = s.files ∧ s.met1.terms = s.terms := ⟨rfl, by show s.c1 ≤ s.c1 + 1; omega, by show s.c1 + 1 ≤ s.c1 + 1; omega, rfl, rfl, rfl⟩
  unfold write
  split
  · exact same
  · split
    · exact same
    · split
      · exact same
      · split
        · exact same
        · rename_i x _
          split
          · exact same
          · split
            · exact met
            · obtain ⟨q1, q2, q3, q4, q5, q6⟩ := @wrO_cs s.met1 x ds (min (metF s.ps ds.length).1 (s.roomO x ds.length).1)
              dsimp only
              rw [q1, q2, q3, q5, q6]
              exact met

theorem keep_cs (s : AK) (d : Int) : (s.keep d).2.c0 = s.c0 ∧ (s.keep d).2.c1 = s.c1 ∧ (s.keep d).2.next = s.next := by
  unfold keep
  split
  · exact ⟨rfl, rfl, rfl⟩
  · split
    · exact ⟨rfl, rfl, rfl⟩
    · split <;> exact ⟨rfl, rfl, rfl⟩

theorem leave_cs (s : AK) (x : AD) : (s.leave x).c0 = s.c0 ∧ (s.leave x).c1 = s.c1 ∧ (s.leave x).next = s.next := by
  unfold leave
  split <;> exact ⟨rfl, rfl, rfl⟩

theorem drop_cs (s : AK) (d : Int) : (s.drop d).2.c0 = s.c0 ∧ (s.drop d).2.c1 = s.c1 ∧ (s.drop d).2.next = s.next := by
  unfold drop
  split
  · exact ⟨rfl, rfl, rfl⟩
  · split
    · exact ⟨rfl, rfl, rfl⟩
    · split
      · exact leave_cs (s.delD d) _
      · exact ⟨rfl, rfl, rfl⟩

theorem open_cs (s : AK) (nm : ByteArray) (fl : Int) : (s.open_ nm fl).2.2.c0 = s.c0 ∧ (s.open_ nm fl).2.2.c1 = s.c1 ∧ s.next ≤ (s.open_ nm fl).2.2.next ∧ (s.open_ nm fl).2.2.next ≤ s.next + 1 := by
  unfold open_
  split
  · exact ⟨rfl, rfl, Int.le_refl _, by dsimp only; omega⟩
  · have : (s.openS nm fl).c0 = s.c0 ∧ (s.openS nm fl).c1 = s.c1 ∧ (s.openS nm fl).next = s.next + 1 := by
      unfold openS
      split
      · exact ⟨rfl, rfl, rfl⟩
      · split
        · split <;> exact ⟨rfl, rfl, rfl⟩
        · exact ⟨rfl, rfl, rfl⟩
    exact ⟨this.1, this.2.1, by dsimp only; omega, by dsimp only; omega⟩

theorem pipe_cs (s : AK) : s.pipe.2.2.2.c0 = s.c0 ∧ s.pipe.2.2.2.c1 = s.c1 ∧ s.next ≤ s.pipe.2.2.2.next ∧ s.pipe.2.2.2.next ≤ s.next + 2 := by
  unfold pipe
  split
  · exact ⟨rfl, rfl, Int.le_refl _, by dsimp only; omega⟩
  · exact ⟨rfl, rfl, by show s.next ≤ s.next + 1 + 1; omega, by show s.next + 1 + 1 ≤ s.next + 2; omega⟩

end AK
end Go.Proofs.YtkjmlbplmffekaaGreat
