/-
  A kernel's names. Conditions: as each says.
  What a kernel is made of, checked: names, each once. Conditions: as each says.
-/
import Derived.Test.YtpoaacnnhgebfaaGreatBas
import Derived.Test.YtpoaacnnhgebfaaGreatLay
import Derived.Test.YtpoaacnnhgebfaaGreatLKe
import Derived.Test.YtpoaacnnhgebfaaGreatMp
import Derived.Laws.RangeAny
import Derived.Lib.OthersKept
set_option linter.unusedVariables false
namespace Go.Proofs.YtpoaacnnhgebfaaGreat
open Go.Lw

def plainS (s : ByteArray) : Prop := ∀ i, (h : i < s.size) → 33 ≤ (s[i]'h).toNat ∧ (s[i]'h).toNat ≤ 126

instance (s : ByteArray) : Decidable (plainS s) := by unfold plainS; infer_instance

def namedS (s : ByteArray) : Bool := decide (s.size ≠ 0 ∧ s.size ≤ 64 ∧ plainS s)

theorem Kept.iterB (w : World) (k : Nat) (s : ByteArray) (p : Nat) : Kept (· = k) w (w.iterAt k s p) :=
  ⟨rfl, rfl, rfl, by rw [Lib.iterAt_size]; exact Nat.le_refl _, fun j _ hn => Lib.iterAt_other w k j s p hn⟩

theorem indexFunc_ok {w : World} (s : ByteArray) : CallR Tryz.prog 210 [.string s, .func (.func 161) #[] #[], .bool true] w fun v w' => ∃ n : Int, v = .int .i64 n ∧ (0 ≤ n ↔ ¬ plainS s) ∧ Kept No w w' := by
  refine C210 ?_
  unfold L210
  have hit : (w.iter s 0).heap[w.heap.size]? = some (.stringIter s 0) := World.iter_heap _ _ _
  have hk1 : Kept No w (w.iter s 0) := Kept.alloc _ _ _
  refine ⟨_, run_range_string w 9 s (by kernel_rfl), ?_⟩
  generalize w.iter s 0 = w1 at hit hk1 ⊢
  refine ⟨fun vs w' => vs = [] ∧ ∃ p : Nat, w'.heap[w.heap.size]? = some (.stringIter s p) ∧ Kept No w w' ∧ ∀ i, (h : i < s.size) → i < p → 33 ≤ (s[i]'h).toNat ∧ (s[i]'h).toNat ≤ 126,
    fun _ w' => match w'.heap[w.heap.size]? with | some (.stringIter _ p) => s.size - p | _ => 0, ⟨rfl, 0, hit, hk1, fun i _ h => by omega⟩, ?_⟩
  rintro _ w2 ⟨_, p, hp, hk2, hall⟩
  by_cases hps : p < s.size
  · right
    refine ⟨_, _, _, Lib.run_next_any_at w2 w.heap.size s p 0 hp hps, _, rfl, _, rfl, 161, #[], #[], rfl, by kernel_rfl, ?_⟩
    have hk3 := Kept.iterB w2 w.heap.size s (p + (Utf8.decode s p).2)
    have hit3 := Lib.iterAt_heap w2 w.heap.size s p (p + (Utf8.decode s p).2) hp
    have hk03 : Kept No w (w2.iterAt w.heap.size s (p + (Utf8.decode s p).2)) := hk2.fresh hk3 (fun x e => by omega)
    generalize w2.iterAt w.heap.size s (p + (Utf8.decode s p).2) = w3 at hk3 hit3 hk03 ⊢
    -- what the function says of the rune
    have stop : ¬ (33 ≤ (s[p]'hps).toNat ∧ (s[p]'hps).toNat ≤ 126) → ∃ n : Int, Value.int .i64 (p : Int) = .int .i64 n ∧ (0 ≤ n ↔ ¬ plainS s) ∧ Kept No w w3 := fun hb =>
      ⟨p, rfl, ⟨fun _ hpl => hb (hpl p hps), fun _ => by omega⟩, hk03⟩
    by_cases ha : (s[p]'hps).toNat < 128
    · rw [decode_ascii s p hps ha] at hit3 ⊢
      refine C161 (condP (fun hlt => ⟨_, rfl, condT rfl (stop (by omega))⟩) (fun hge => ⟨_, rfl, ?_⟩))
      refine condI (fun hb => stop ?_) (fun hb => ?_)
      · simp at hb; omega
      · have hb : ¬ (((s[p]'hps).toNat : Nat) : Int) > 126 := by simpa using hb
        refine ⟨⟨rfl, p + 1, hit3, hk03, fun i h hi => ?_⟩, ?_⟩
        · by_cases e : i = p
          · subst e; dsimp only at hge hb; omega
          · exact hall i h (by omega)
        · dsimp only; rw [hit3, hp]; dsimp only; omega
    · have hd := (decode_high s p hps (by omega)).1
      refine C161 (condF (by simp; omega) ⟨_, rfl, condT (by simp; omega) (stop (by omega))⟩)
  · left
    refine ⟨_, Lib.run_next_end_at w2 w.heap.size s p 0 hp hps, -1, rfl, ⟨fun h => by omega, fun h => absurd (fun i hi => hall i hi (by omega)) h⟩, hk2⟩

theorem named_ok {w : World} (s : ByteArray) : CallR Tryz.prog 62 [.string s] w fun v w' => v = .bool (namedS s) ∧ Kept No w w' := by
  refine C62 ?_
  unfold L62
  have hemp : (ByteArray.toList s == ByteArray.toList (ByteArray.mk #[])) = decide (s.size = 0) := by
    rw [ByteArray.toList_eq, ByteArray.toList_eq]
    show (s.data.toList == []) = _
    cases h : s.data.toList with
    | nil =>
      have : s.size = 0 := by show s.data.size = 0; rw [← Array.length_toList, h]; rfl
      simp [this]
    | cons x l =>
      have : s.size ≠ 0 := by show s.data.size ≠ 0; rw [← Array.length_toList, h]; simp
      simp [this]
  rw [hemp]
  refine condI (fun h1 => condP (fun h2 => ?_) (fun h2 => ⟨?_, Kept.refl _ _⟩)) (fun h1 => ⟨?_, Kept.refl _ _⟩)
  · have h1 : s.size ≠ 0 := by simpa using h1
    refine C160 (C203 (CallR.mono (indexFunc_ok s) ?_))
    rintro v w1 ⟨n, rfl, hn, hk⟩
    refine ⟨_, rfl, _, rfl, _, rfl, ?_, hk⟩
    unfold namedS
    by_cases hp : plainS s
    · have e1 : decide (n ≥ 0) = false := decide_eq_false (fun h => (hn.1 h) hp)
      have e2 : decide (s.size ≠ 0 ∧ s.size ≤ 64 ∧ plainS s) = true := decide_eq_true ⟨h1, by omega, hp⟩
      rw [e1, e2]; rfl
    · have e1 : decide (n ≥ 0) = true := decide_eq_true (hn.2 hp)
      have e2 : decide (s.size ≠ 0 ∧ s.size ≤ 64 ∧ plainS s) = false := decide_eq_false (fun h => hp h.2.2)
      rw [e1, e2]; rfl
  · unfold namedS
    have : ¬ s.size ≤ 64 := by omega
    simp [this]
  · have h1 : s.size = 0 := by simpa using h1
    unfold namedS
    simp [h1]

end Go.Proofs.YtpoaacnnhgebfaaGreat

namespace Go.Proofs.YtpoaacnnhgebfaaGreat
open Go.Lw

def seenM (seen : List ByteArray) : List (Value × Value) := seen.map fun s => (.string s, .bool true)

theorem seen_in {seen : List ByteArray} {s : ByteArray} (h : s ∈ seen) : ((.string s, .bool true) : Value × Value) ∈ seenM seen := List.mem_map.2 ⟨s, h, rfl⟩
theorem seen_out {seen : List ByteArray} {s : ByteArray} (h : s ∉ seen) : ∀ x ∈ seenM seen, x.1 ≠ .string s := by
  intro x hx e
  obtain ⟨t, ht, rfl⟩ := List.mem_map.1 hx
  simp only [Value.string.injEq] at e
  subst e
  exact h ht

instance instDecBytes : DecidableEq ByteArray := fun a b => decidable_of_iff (a.data = b.data) ⟨fun h => by cases a; cases b; simp only at h; rw [h], fun h => by rw [h]⟩

def decMem (s : ByteArray) : ∀ l : List ByteArray, Decidable (s ∈ l)
  | [] => isFalse (by simp)
  | t :: r => if h : s = t then isTrue (by simp [h]) else match decMem s r with
    | isTrue h2 => isTrue (.tail _ h2)
    | isFalse h2 => isFalse (by simp [h, h2])

instance instDecMem (s : ByteArray) (l : List ByteArray) : Decidable (s ∈ l) := decMem s l

def freshK (seen : List ByteArray) (s : ByteArray) : Int := if namedS s = false then 61 else if s ∈ seen then 6 else 0

theorem fresh_ok {w : World} {g r : Nat} {seen : List ByteArray} (hb : Blk w g #[.map (some r)]) (hm : MapO w r .string (seenM seen)) (hgr : g ≠ r) (s : ByteArray) :
    CallR Tryz.prog 61 [.string s, .pointer (some ⟨g, 0, none⟩)] w fun v w' => v = .int .i64 (freshK seen s) ∧ (freshK seen s = 0 → MapO w' r .string (seenM (seen ++ [s]))) ∧ Kept (· = r) w w' := by
  refine C61 ?_
  unfold L61
  refine CallR.mono (named_ok s) ?_
  rintro v w1 ⟨rfl, hk1⟩
  have hT : Tryz.prog.underlying 137 = some (.map 9 4) := by kernel_rfl
  have hS : Tryz.prog.underlying 9 = some .string := by kernel_rfl
  have hb1 := hb.keep hk1 (fun e => e)
  have hm1 := hm.keep hk1 (fun e => e)
  have k1 : Kept (· = r) w w1 := hk1.mono fun _ _ e => e.elim
  refine ⟨_, rfl, condI (fun h => ?_) (fun h => ?_)⟩
  · have h := notT h
    have e : freshK seen s = 61 := by unfold freshK; rw [if_pos h]
    rw [e]
    exact ⟨rfl, fun e => by omega, k1⟩
  · have h := notF h
    refine nnI ⟨some r, (hb1.cell 0).trans rfl, ?_⟩
    by_cases hin : s ∈ seen
    · have e : freshK seen s = 6 := by unfold freshK; rw [if_neg (by rw [h]; simp), if_pos hin]
      rw [e]
      refine ⟨true, w1, lookup_in hT hS hm1 (k := .string s) trivial (seen_in hin) false, condT rfl ⟨rfl, fun e => by omega, k1⟩⟩
    · have e : freshK seen s = 0 := by unfold freshK; rw [if_neg (by rw [h]; simp), if_neg hin]
      rw [e]
      refine ⟨false, w1, lookup_out hT hS hm1 (k := .string s) trivial (seen_out hin) (z := .bool false) (by kernel_rfl) false, condF rfl (nnI ⟨some r, (hb1.cell 0).trans rfl, ?_⟩)⟩
      obtain ⟨w2, hrun, hm2, hk2, _⟩ := update_new hT hS hm1 (k := .string s) trivial (seen_out hin) (.bool true)
      refine ⟨w2, hrun, rfl, fun _ => ?_, k1.trans hk2 fun _ _ e => e⟩
      have : seenM (seen ++ [s]) = seenM seen ++ [(.string s, .bool true)] := by simp [seenM]
      rw [this]
      exact hm2

end Go.Proofs.YtpoaacnnhgebfaaGreat
