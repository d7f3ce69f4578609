/-
  Calls that are made again and again, as values: over a kernel's value. Conditions: as each says.
-/
import Derived.Test.YtbiofmgebbdflaaKeQ
set_option linter.unusedVariables false
namespace Go.Proofs.Ytbiofmgebbdflaa
open Go.Lw
namespace AK

def someN : Nat → AK → Int → Int → List Int × Int × AK
  | 0, s, d, n => ([], 81, s)
  | k + 1, s, d, n => if (s.read d n).2.1 = 22 ∨ (s.read d n).2.1 = 23 then someN k (s.read d n).2.2 d n else s.read d n

def rsome (s : AK) (d n : Int) : List Int × Int × AK := if n < 1 ∨ n > 1048576 then ([], 4, s) else someN 8192 s d n

def allN : Nat → AK → Int → Int → List Int → List Int × Int × AK
  | 0, s, d, n, acc => (acc, 0, s)
  | k + 1, s, d, n, acc =>
    if (s.rsome d (n - (acc.length : Int))).2.1 = 0 ∧ (s.rsome d (n - (acc.length : Int))).1.length ≠ 0 ∧ ((acc.length + (s.rsome d (n - (acc.length : Int))).1.length : Nat) : Int) < n then
      allN k (s.rsome d (n - (acc.length : Int))).2.2 d n (acc ++ (s.rsome d (n - (acc.length : Int))).1)
    else (acc ++ (s.rsome d (n - (acc.length : Int))).1, (s.rsome d (n - (acc.length : Int))).2.1, (s.rsome d (n - (acc.length : Int))).2.2)

theorem allN_succ (k : Nat) (s : AK) (d n : Int) (acc : List Int) : allN (k + 1) s d n acc =
    if (s.rsome d (n - (acc.length : Int))).2.1 = 0 ∧ (s.rsome d (n - (acc.length : Int))).1.length ≠ 0 ∧ ((acc.length + (s.rsome d (n - (acc.length : Int))).1.length : Nat) : Int) < n then
      allN k (s.rsome d (n - (acc.length : Int))).2.2 d n (acc ++ (s.rsome d (n - (acc.length : Int))).1)
    else (acc ++ (s.rsome d (n - (acc.length : Int))).1, (s.rsome d (n - (acc.length : Int))).2.1, (s.rsome d (n - (acc.length : Int))).2.2) := rfl

def rall (s : AK) (d n : Int) : List Int × Int × AK := allN (n.toNat + 1) s d n []

/-- A file's description: its place. -/
structure FD (s : AK) (d : Int) (i : Nat) (bs : List Int) (fl : Int) (at_ : Int) : Prop where
  ex : ∃ hd, s.desc d = some ⟨d, i, fl, at_, hd⟩
  ob : s.objs i = .file bs
  a0 : 0 ≤ at_

theorem read_fd {s : AK} {d n : Int} {i : Nat} {bs : List Int} {fl at_ : Int} (h : FD s d i bs fl at_) (hb : bitI fl 1 = 1) (h1 : 1 ≤ n) (h2 : n ≤ 1048576) :
    ((metF s.ps n).2 ≠ 0 → s.read d n = ([], (metF s.ps n).2, s.met0)) ∧
    ((metF s.ps n).2 = 0 → (s.read d n).1 = piece bs at_ (metF s.ps n).1 ∧ (s.read d n).2.1 = 0 ∧ FD (s.read d n).2.2 d i bs fl (at_ + ((piece bs at_ (metF s.ps n).1).length : Int)) ∧ (s.read d n).2.2.ps = s.ps.drop 1 ∧ (s.read d n).2.2.c0 = s.c0 + 1 ∧ (s.read d n).2.2.c1 = s.c1 ∧ (s.read d n).2.2.next = s.next) := by
  obtain ⟨hd, hx⟩ := h.ex
  have := read_file hx h.ob hb h1 h2
  constructor
  · intro e; rw [this, if_pos e]
  · intro e
    rw [this, if_neg (fun e' => e' e)]
    have ha := h.a0
    exact ⟨rfl, rfl, ⟨⟨hd, desc_setD_same (s := s.met0) hx⟩, h.ob, by omega⟩, rfl, rfl, rfl, rfl⟩

theorem someN_fd : ∀ (k : Nat) {s : AK} {d n : Int} {i : Nat} {bs : List Int} {fl at_ : Int}, FD s d i bs fl at_ → bitI fl 1 = 1 → 1 ≤ n → n ≤ 1048576 → (∀ p ∈ s.ps, mayP p) → s.ps.length < k →
    ∃ m, 1 ≤ m ∧ m ≤ n ∧ (someN k s d n).1 = piece bs at_ m ∧ (someN k s d n).2.1 = 0 ∧ FD (someN k s d n).2.2 d i bs fl (at_ + ((piece bs at_ m).length : Int)) ∧ (∀ p ∈ (someN k s d n).2.2.ps, mayP p) ∧
      (someN k s d n).2.2.ps.length ≤ s.ps.length ∧ (someN k s d n).2.2.c0 + ((someN k s d n).2.2.ps.length : Int) ≤ s.c0 + (s.ps.length : Int) + 1 ∧ (someN k s d n).2.2.c1 = s.c1 ∧ (someN k s d n).2.2.next = s.next
  | 0, s, d, n, i, bs, fl, at_, h, hb, h1, h2, hp, hk => by omega
  | k + 1, s, d, n, i, bs, fl, at_, h, hb, h1, h2, hp, hk => by
    obtain ⟨r1, r2⟩ := read_fd h hb h1 h2
    have hdp : ∀ p ∈ s.ps.drop 1, mayP p := fun p hq => hp p (List.mem_of_mem_drop hq)
    unfold someN
    rcases metF_ok hp h1 with ⟨e, g1, g2⟩ | ⟨_, e, hne⟩
    · obtain ⟨q1, q2, q3, q4, q5, q6, q7⟩ := r2 e
      rw [if_neg (by rw [q2]; omega)]
      refine ⟨_, g1, g2, q1, q2, q3, by rw [q4]; exact hdp, by rw [q4, List.length_drop]; omega, ?_, q6, q7⟩
      rw [q4, q5, List.length_drop]
      omega
    · have hz : (metF s.ps n).2 ≠ 0 := by omega
      rw [r1 hz, if_pos e]
      dsimp only
      have hl : 1 ≤ s.ps.length := by
        rcases List.eq_nil_or_concat s.ps with h | ⟨l, a, h⟩
        · exact absurd h hne
        · rw [h]; simp
      obtain ⟨hd, hx⟩ := h.ex
      have h' : FD s.met0 d i bs fl at_ := ⟨⟨hd, hx⟩, h.ob, h.a0⟩
      have hpl : s.met0.ps.length = s.ps.length - 1 := by show (s.ps.drop 1).length = _; rw [List.length_drop]
      obtain ⟨m, g1, g2, g3, g4, g5, g6, g7, g8, g9, g10⟩ := someN_fd k h' hb h1 h2 hdp (by omega)
      refine ⟨m, g1, g2, g3, g4, g5, g6, by omega, ?_, g9, g10⟩
      have : s.met0.c0 = s.c0 + 1 := rfl
      rw [this, hpl] at g8
      omega

theorem rsome_fd {s : AK} {d n : Int} {i : Nat} {bs : List Int} {fl at_ : Int} (h : FD s d i bs fl at_) (hb : bitI fl 1 = 1) (h1 : 1 ≤ n) (h2 : n ≤ 1048576) (hp : ∀ p ∈ s.ps, mayP p) (hl : s.ps.length ≤ 4096) :
    ∃ m, 1 ≤ m ∧ m ≤ n ∧ (s.rsome d n).1 = piece bs at_ m ∧ (s.rsome d n).2.1 = 0 ∧ FD (s.rsome d n).2.2 d i bs fl (at_ + ((piece bs at_ m).length : Int)) ∧ (∀ p ∈ (s.rsome d n).2.2.ps, mayP p) ∧
      (s.rsome d n).2.2.ps.length ≤ s.ps.length ∧ (s.rsome d n).2.2.c0 + ((s.rsome d n).2.2.ps.length : Int) ≤ s.c0 + (s.ps.length : Int) + 1 ∧ (s.rsome d n).2.2.c1 = s.c1 ∧ (s.rsome d n).2.2.next = s.next := by
  unfold rsome
  rw [if_neg (by omega)]
  exact someN_fd 8192 h hb h1 h2 hp (by omega)

end AK
end Go.Proofs.Ytbiofmgebbdflaa
