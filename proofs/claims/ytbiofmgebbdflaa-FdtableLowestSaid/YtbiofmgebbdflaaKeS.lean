/-
  What a raw read leaves, as values: how long its answer is, what it counts. Conditions: as each says.
-/
import Derived.Test.YtbiofmgebbdflaaKeR
set_option linter.unusedVariables false
namespace Go.Proofs.Ytbiofmgebbdflaa
open Go.Lw
namespace AK

theorem readT_len {n : Int} {LL : List (List Int)} : (readT n LL).2.1.length ≤ n.toNat := by
  unfold readT
  split
  · simp
  · cases LL with
    | nil => simp
    | cons x r => show (x.take n.toNat).length ≤ _; rw [List.length_take]; omega
theorem readP_len {n : Int} {bs : List Int} {e0 e1 : Nat} : (readP n bs e0 e1).1.length ≤ n.toNat := by
  unfold readP
  split
  · simp
  · split
    · simp
    · split
      · simp
      · show (bs.take n.toNat).length ≤ _; rw [List.length_take]; omega

theorem rdO_len {s : AK} {x : AD} {m : Int} : (s.rdO x m).1.length ≤ m.toNat := by
  unfold rdO
  cases s.objs x.ob with
  | file bs => show (piece bs x.at_ m).length ≤ _; unfold piece; rw [List.length_take]; omega
  | term LL scr => exact readT_len
  | pipe bs e0 e1 => exact readP_len

theorem rdO_cs {s : AK} {x : AD} {m : Int} : (s.rdO x m).2.c0 = s.c0 ∧ (s.rdO x m).2.c1 = s.c1 ∧ (s.rdO x m).2.next = s.next ∧ (s.rdO x m).2.ps = s.ps ∧ (s.rdO x m).2.files = s.files ∧ (s.rdO x m).2.terms = s.terms := by
  unfold rdO
  cases s.objs x.ob with
  | file bs => exact ⟨rfl, rfl, rfl, rfl, rfl, rfl⟩
  | term LL scr => exact ⟨rfl, rfl, rfl, rfl, rfl, rfl⟩
  | pipe bs e0 e1 => exact ⟨rfl, rfl, rfl, rfl, rfl, rfl⟩

/-- Each way a read goes. -/
theorem read_cases (s : AK) (d n : Int) : (∃ e, e ≠ 0 ∧ s.read d n = ([], e, s)) ∨ (s.read d n = ([], 0, s) ∧ n = 0) ∨
    (∃ x, s.desc d = some x ∧ bitI x.fl 1 = 1 ∧ s.waits x = false ∧ 1 ≤ n ∧ n ≤ 1048576 ∧ ((metF s.ps n).2 ≠ 0 ∧ s.read d n = ([], (metF s.ps n).2, s.met0) ∨ (metF s.ps n).2 = 0 ∧ s.read d n = ((s.met0.rdO x (metF s.ps n).1).1, 0, (s.met0.rdO x (metF s.ps n).1).2))) := by
  unfold read
  by_cases h1 : s.find d 1 ≠ 0
  · rw [if_pos h1]; exact .inl ⟨_, h1, rfl⟩
  rw [if_neg h1]
  by_cases h2 : n < 0 ∨ n > 1048576
  · rw [if_pos h2]; exact .inl ⟨4, by decide, rfl⟩
  rw [if_neg h2]
  by_cases h3 : n = 0
  · rw [if_pos h3]; exact .inr (.inl ⟨rfl, h3⟩)
  rw [if_neg h3]
  obtain ⟨x, hx, hb⟩ := find_zero (Decidable.not_not.1 h1)
  rw [hx]
  dsimp only
  by_cases h4 : s.waits x = true
  · rw [if_pos h4]; exact .inl ⟨52, by decide, rfl⟩
  rw [if_neg h4]
  refine .inr (.inr ⟨x, rfl, hb, by simpa using h4, by omega, by omega, ?_⟩)
  by_cases h5 : (metF s.ps n).2 ≠ 0
  · rw [if_pos h5]; exact .inl ⟨h5, rfl⟩
  · rw [if_neg h5]; exact .inr ⟨Decidable.not_not.1 h5, rfl⟩

theorem read_err {s : AK} {d n : Int} (h : (s.read d n).2.1 ≠ 0) : (s.read d n).1 = [] := by
  rcases read_cases s d n with ⟨e, he, hr⟩ | ⟨hr, _⟩ | ⟨x, _, _, _, _, _, ⟨_, hr⟩ | ⟨_, hr⟩⟩
  · rw [hr]
  · rw [hr]
  · rw [hr]
  · rw [hr] at h; exact absurd rfl h

theorem metF_le {ps : List (Int × Int)} {n : Int} (h : 0 ≤ n) : (metF ps n).1 ≤ n := by
  unfold metF
  cases ps with
  | nil => exact Int.le_refl _
  | cons f r =>
    dsimp only
    split
    · dsimp only; omega
    · split
      · exact h
      · split
        · exact h
        · exact Int.le_refl _

theorem read_len {s : AK} {d n : Int} (h : 0 ≤ n) : ((s.read d n).1.length : Int) ≤ n := by
  rcases read_cases s d n with ⟨e, he, hr⟩ | ⟨hr, _⟩ | ⟨x, _, _, _, h1, h2, ⟨_, hr⟩ | ⟨_, hr⟩⟩
  · rw [hr]; simpa using h
  · rw [hr]; simpa using h
  · rw [hr]; simpa using h
  · rw [hr]
    have := @rdO_len s.met0 x (metF s.ps n).1
    have := @metF_le s.ps n h
    dsimp only
    omega

theorem read_cs (s : AK) (d n : Int) : s.c0 ≤ (s.read d n).2.2.c0 ∧ (s.read d n).2.2.c0 ≤ s.c0 + 1 ∧ (s.read d n).2.2.c1 = s.c1 ∧ (s.read d n).2.2.next = s.next ∧ (s.read d n).2.2.files = s.files ∧ (s.read d n).2.2.terms = s.terms := by
  rcases read_cases s d n with ⟨e, he, hr⟩ | ⟨hr, _⟩ | ⟨x, _, _, _, h1, h2, ⟨_, hr⟩ | ⟨_, hr⟩⟩
  · rw [hr]; exact ⟨Int.le_refl _, by dsimp only; omega, rfl, rfl, rfl, rfl⟩
  · rw [hr]; exact ⟨Int.le_refl _, by dsimp only; omega, rfl, rfl, rfl, rfl⟩
  · rw [hr]; exact ⟨by show s.c0 ≤ s.c0 + 1; omega, by show s.c0 + 1 ≤ s.c0 + 1; omega, rfl, rfl, rfl, rfl⟩
  · rw [hr]
    obtain ⟨q1, q2, q3, q4, q5, q6⟩ := @rdO_cs s.met0 x (metF s.ps n).1
    have e0 : s.met0.c0 = s.c0 + 1 := rfl
    exact ⟨by dsimp only; omega, by dsimp only; omega, q2, q3, q5, q6⟩

theorem someN_cs : ∀ (k : Nat) (s : AK) (d n : Int), s.c0 ≤ (someN k s d n).2.2.c0 ∧ (someN k s d n).2.2.c0 ≤ s.c0 + k ∧ (someN k s d n).2.2.c1 = s.c1 ∧ (someN k s d n).2.2.next = s.next ∧ (someN k s d n).2.2.files = s.files ∧ (someN k s d n).2.2.terms = s.terms
  | 0, s, d, n => ⟨Int.le_refl _, by show s.c0 ≤ s.c0 + 0; omega, rfl, rfl, rfl, rfl⟩
  | k + 1, s, d, n => by
    obtain ⟨q0, q1, q2, q3, q4, q5⟩ := read_cs s d n
    unfold someN
    split
    · obtain ⟨p0, p1, p2, p3, p4, p5⟩ := someN_cs k (s.read d n).2.2 d n
      exact ⟨by omega, by omega, by rw [p2, q2], by rw [p3, q3], by rw [p4, q4], by rw [p5, q5]⟩
    · exact ⟨q0, by omega, q2, q3, q4, q5⟩

theorem someN_len : ∀ (k : Nat) (s : AK) (d n : Int), 0 ≤ n → ((someN k s d n).1.length : Int) ≤ n
  | 0, s, d, n, h => by simpa [someN] using h
  | k + 1, s, d, n, h => by
    unfold someN
    split
    · exact someN_len k _ d n h
    · exact read_len h

theorem someN_err : ∀ (k : Nat) (s : AK) (d n : Int), (someN k s d n).2.1 ≠ 0 → (someN k s d n).1 = []
  | 0, s, d, n, h => rfl
  | k + 1, s, d, n, h => by
    unfold someN at h ⊢
    split
    · rename_i hp
      rw [if_pos hp] at h
      exact someN_err k _ d n h
    · rename_i hp
      rw [if_neg hp] at h
      exact read_err h

theorem rsome_cs (s : AK) (d n : Int) : s.c0 ≤ (s.rsome d n).2.2.c0 ∧ (s.rsome d n).2.2.c0 ≤ s.c0 + 8192 ∧ (s.rsome d n).2.2.c1 = s.c1 ∧ (s.rsome d n).2.2.next = s.next ∧ (s.rsome d n).2.2.files = s.files ∧ (s.rsome d n).2.2.terms = s.terms := by
  unfold rsome
  split
  · exact ⟨Int.le_refl _, by dsimp only; omega, rfl, rfl, rfl, rfl⟩
  · exact someN_cs 8192 s d n

theorem rsome_err {s : AK} {d n : Int} (h : (s.rsome d n).2.1 ≠ 0) : (s.rsome d n).1 = [] := by
  unfold rsome at h ⊢
  split
  · rfl
  · rename_i hp
    rw [if_neg hp] at h
    exact someN_err 8192 s d n h

theorem rsome_len {s : AK} {d n : Int} (h : (s.rsome d n).2.1 = 0) : 1 ≤ n ∧ n ≤ 1048576 ∧ ((s.rsome d n).1.length : Int) ≤ n := by
  unfold rsome at h ⊢
  by_cases hp : n < 1 ∨ n > 1048576
  · rw [if_pos hp] at h; cases h
  · rw [if_neg hp]
    exact ⟨by omega, by omega, someN_len 8192 s d n (by omega)⟩

/-- A kernel of one file: it is opened. -/
theorem open_one (nm : ByteArray) (hn : namedS nm = true) (bs : List Int) (ps : List (Int × Int)) (fl : Int) (hf : flagged fl = true) (h32 : bitI fl 32 = 0) (h16 : bitI fl 16 = 0) :
    (new [(nm, bs)] [] ps).open_ nm fl = (1, 0, (new [(nm, bs)] [] ps).newD 0 fl) := by
  have hfo : (new [(nm, bs)] [] ps).fileOf nm = some (nm, 0) := by
    show List.find? _ [(nm, 0)] = _
    rw [List.find?_cons_of_pos (by simp)]
  have hto : (new [(nm, bs)] [] ps).termOf nm = none := rfl
  have hE : (new [(nm, bs)] [] ps).openE nm fl = 0 := by
    unfold openE
    rw [if_neg (by rw [hn]; simp), if_neg (by rw [hf]; simp), if_neg (by show ¬ 256 ≤ 0; omega), hfo, if_pos (.inl rfl), if_neg (by rw [h32]; simp)]
  unfold open_
  rw [if_neg (by rw [hE]; simp)]
  have hS : (new [(nm, bs)] [] ps).openS nm fl = (new [(nm, bs)] [] ps).newD 0 fl := by
    unfold openS
    rw [hto, hfo]
    dsimp only
    rw [if_neg (by rw [h16]; simp)]
  rw [hS]
  rfl

theorem fd_one (nm : ByteArray) (bs : List Int) (ps : List (Int × Int)) (fl : Int) : FD ((new [(nm, bs)] [] ps).newD 0 fl) 1 0 bs fl 0 :=
  ⟨⟨1, rfl⟩, rfl, Int.le_refl _⟩

end AK
end Go.Proofs.Ytbiofmgebbdflaa
