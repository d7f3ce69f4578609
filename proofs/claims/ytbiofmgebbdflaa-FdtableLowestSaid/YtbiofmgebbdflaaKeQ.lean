/-
  A kernel's beginning as a value, and what a check that passes says of it. Conditions: as each says.
-/
import Derived.Test.YtbiofmgebbdflaaKeP
set_option linter.unusedVariables false
namespace Go.Proofs.Ytbiofmgebbdflaa
open Go.Lw
namespace AK

def empty (ps : List (Int × Int)) : AK := ⟨[], [], fun _ => .file [], 0, [], 1, ps, 0, 0⟩
def withF : List (ByteArray × List Int) → AK → AK
  | [], s => s
  | f :: r, s => withF r (s.addF f.1 (.file f.2))
def withT : List (ByteArray × List (List Int)) → AK → AK
  | [], s => s
  | f :: r, s => withT r (s.addT f.1 (.term f.2 []))
def new (fs : List (ByteArray × List Int)) (ts : List (ByteArray × List (List Int))) (ps : List (Int × Int)) : AK := withT ts (withF fs (empty ps))

theorem freshK_zero {seen : List ByteArray} {s : ByteArray} : freshK seen s = 0 ↔ namedS s = true ∧ s ∉ seen := by
  unfold freshK
  cases hn : namedS s with
  | false => simp
  | true =>
    rw [if_neg (by simp)]
    by_cases hm : s ∈ seen
    · rw [if_pos hm]; simp [hm]
    · rw [if_neg hm]; simp [hm]

theorem ckFs_zero : ∀ {fs : List (ByteArray × List Int)} {seen : List ByteArray}, (ckFs fs seen).1 = 0 → seen.Nodup →
    (ckFs fs seen).2 = seen ++ fs.map (·.1) ∧ (seen ++ fs.map (·.1)).Nodup ∧ ∀ f ∈ fs, namedS f.1 = true ∧ f.2.length ≤ 1048576
  | [], seen, _, hn => ⟨by simp [ckFs], by simpa using hn, by simp⟩
  | f :: r, seen, h, hn => by
    rw [ckFs_cons] at h ⊢
    by_cases h1 : freshK seen f.1 ≠ 0
    · rw [if_pos h1] at h; exact absurd h h1
    · rw [if_neg h1] at h ⊢
      by_cases h2 : 1048576 < f.2.length
      · rw [if_pos h2] at h; cases h
      · rw [if_neg h2] at h ⊢
        obtain ⟨hf1, hf2⟩ := freshK_zero.1 (Decidable.not_not.1 h1)
        obtain ⟨e1, e2, e3⟩ := ckFs_zero h (nodup_snoc hn hf2)
        refine ⟨by rw [e1]; simp, by simpa using e2, fun g hg => ?_⟩
        rcases List.mem_cons.1 hg with rfl | hg
        · exact ⟨hf1, by omega⟩
        · exact e3 g hg

theorem ckTs_zero : ∀ {ts : List (ByteArray × List (List Int))} {seen : List ByteArray}, (ckTs ts seen).1 = 0 → seen.Nodup →
    (seen ++ ts.map (·.1)).Nodup ∧ ∀ f ∈ ts, namedS f.1 = true ∧ newT f.2 = 0
  | [], seen, _, hn => ⟨by simpa using hn, by simp⟩
  | f :: r, seen, h, hn => by
    rw [ckTs_cons] at h
    by_cases h1 : freshK seen f.1 ≠ 0
    · rw [if_pos h1] at h; exact absurd h h1
    · rw [if_neg h1] at h
      by_cases h2 : newT f.2 ≠ 0
      · rw [if_pos h2] at h; exact absurd h h2
      · rw [if_neg h2] at h
        obtain ⟨hf1, hf2⟩ := freshK_zero.1 (Decidable.not_not.1 h1)
        obtain ⟨e2, e3⟩ := ckTs_zero h (nodup_snoc hn hf2)
        refine ⟨by simpa using e2, fun g hg => ?_⟩
        rcases List.mem_cons.1 hg with rfl | hg
        · exact ⟨hf1, Decidable.not_not.1 h2⟩
        · exact e3 g hg

/-- What a check that passes says. -/
structure CkOk (fs : List (ByteArray × List Int)) (ts : List (ByteArray × List (List Int))) (ps : List (Int × Int)) : Prop where
  len : fs.length + ts.length ≤ 256
  nd : (fs.map (·.1) ++ ts.map (·.1)).Nodup
  fs : ∀ f ∈ fs, namedS f.1 = true ∧ f.2.length ≤ 1048576
  ts : ∀ f ∈ ts, namedS f.1 = true ∧ newT f.2 = 0
  pl : ps.length ≤ 4096
  pm : ∀ p ∈ ps, mayP p
  ck : ckF ps = 0

theorem ckF_zero {ps : List (Int × Int)} (h : ckF ps = 0) : ps.length ≤ 4096 ∧ ∀ p ∈ ps, mayP p := by
  unfold ckF at h
  by_cases h1 : 4096 < ps.length
  · rw [if_pos h1] at h; cases h
  · rw [if_neg h1] at h
    by_cases h2 : badF ps = none
    · refine ⟨by omega, fun p hp => ?_⟩
      unfold badF at h2
      rw [List.findIdx?_eq_none_iff] at h2
      have := h2 p hp
      simpa using this
    · rw [if_neg h2] at h; cases h

theorem check_zero {fs : List (ByteArray × List Int)} {ts : List (ByteArray × List (List Int))} {ps : List (Int × Int)} (h : checkK fs ts ps = 0) : CkOk fs ts ps := by
  unfold checkK at h
  by_cases h1 : 256 < fs.length + ts.length
  · rw [if_pos h1] at h; cases h
  · rw [if_neg h1] at h
    by_cases h2 : (ckFs fs []).1 ≠ 0
    · rw [if_pos h2] at h; exact absurd h h2
    · rw [if_neg h2] at h
      have h2 := Decidable.not_not.1 h2
      by_cases h3 : (ckTs ts (ckFs fs []).2).1 ≠ 0
      · rw [if_pos h3] at h; exact absurd h h3
      · rw [if_neg h3] at h
        have h3 := Decidable.not_not.1 h3
        obtain ⟨a1, a2, a3⟩ := ckFs_zero h2 (by simp)
        simp only [List.nil_append] at a1 a2
        rw [a1] at h3
        obtain ⟨b1, b2⟩ := ckTs_zero h3 a2
        obtain ⟨c1, c2⟩ := ckF_zero h
        exact ⟨by omega, b1, a3, b2, c1, c2, h⟩

theorem ok_empty {ps : List (Int × Int)} (h : ps.length ≤ 4096) (hm : ∀ p ∈ ps, mayP p) : (empty ps).Ok where
  fi := fun f hf => by cases hf
  ti := fun f hf => by cases hf
  di := fun f hf => by cases hf
  fn := by simp [empty]
  tn := by simp [empty]
  ft := fun f hf => by cases hf
  fo := by simp [empty]
  to := by simp [empty]
  dn := by simp [empty]
  nx := by simp [empty]
  dl := by simp [empty]
  fl := by simp [empty]
  ps := h
  pm := hm
  c0 := by simp [empty]
  c1 := by simp [empty]

theorem withF_snoc : ∀ (fs : List (ByteArray × List Int)) (f : ByteArray × List Int) (s : AK), withF (fs ++ [f]) s = (withF fs s).addF f.1 (.file f.2)
  | [], f, s => rfl
  | g :: r, f, s => withF_snoc r f _
theorem withT_snoc : ∀ (fs : List (ByteArray × List (List Int))) (f : ByteArray × List (List Int)) (s : AK), withT (fs ++ [f]) s = (withT fs s).addT f.1 (.term f.2 [])
  | [], f, s => rfl
  | g :: r, f, s => withT_snoc r f _

theorem withF_names : ∀ (fs : List (ByteArray × List Int)) (s : AK), (withF fs s).files.map (·.1) = s.files.map (·.1) ++ fs.map (·.1) ∧ (withF fs s).terms = s.terms ∧ (withF fs s).descs = s.descs ∧ (withF fs s).next = s.next ∧ (withF fs s).ps = s.ps ∧ (withF fs s).c0 = s.c0 ∧ (withF fs s).c1 = s.c1
  | [], s => ⟨by simp [withF], rfl, rfl, rfl, rfl, rfl, rfl⟩
  | f :: r, s => by
    obtain ⟨h1, h2⟩ := withF_names r (s.addF f.1 (.file f.2))
    refine ⟨?_, h2⟩
    show (withF r _).files.map (·.1) = _
    rw [h1]
    show (s.files ++ [(f.1, s.nob)]).map (·.1) ++ _ = _
    simp
theorem withT_names : ∀ (fs : List (ByteArray × List (List Int))) (s : AK), (withT fs s).terms.map (·.1) = s.terms.map (·.1) ++ fs.map (·.1) ∧ (withT fs s).files = s.files ∧ (withT fs s).descs = s.descs ∧ (withT fs s).next = s.next ∧ (withT fs s).ps = s.ps ∧ (withT fs s).c0 = s.c0 ∧ (withT fs s).c1 = s.c1
  | [], s => ⟨by simp [withT], rfl, rfl, rfl, rfl, rfl, rfl⟩
  | f :: r, s => by
    obtain ⟨h1, h2⟩ := withT_names r (s.addT f.1 (.term f.2 []))
    refine ⟨?_, h2⟩
    show (withT r _).terms.map (·.1) = _
    rw [h1]
    show (s.terms ++ [(f.1, s.nob)]).map (·.1) ++ _ = _
    simp

theorem new_is (fs : List (ByteArray × List Int)) (ts : List (ByteArray × List (List Int))) (ps : List (Int × Int)) :
    (new fs ts ps).files.map (·.1) = fs.map (·.1) ∧ (new fs ts ps).terms.map (·.1) = ts.map (·.1) ∧ (new fs ts ps).descs = [] ∧ (new fs ts ps).next = 1 ∧ (new fs ts ps).ps = ps ∧ (new fs ts ps).c0 = 0 ∧ (new fs ts ps).c1 = 0 := by
  obtain ⟨a1, a2, a3, a4, a5, a6, a7⟩ := withF_names fs (empty ps)
  obtain ⟨b1, b2, b3, b4, b5, b6, b7⟩ := withT_names ts (withF fs (empty ps))
  unfold new
  exact ⟨by rw [b2, a1]; rfl, by rw [b1, a2]; rfl, by rw [b3, a3]; rfl, by rw [b4, a4]; rfl, by rw [b5, a5]; rfl, by rw [b6, a6]; rfl, by rw [b7, a7]; rfl⟩

end AK
end Go.Proofs.Ytbiofmgebbdflaa
