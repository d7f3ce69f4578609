/-
  Words and lemmas on lists of byte slices, and on the conversions between bytes and strings. Conditions: none; they speak of whatever program.
-/
import Derived.Test.YtkjmlbplmffekaaGreatLm
import Derived.Deep.Slices
import Derived.OpenShut
import Derived.Laws.BytesArg
import Derived.Lib.SlBytesConst
namespace Go.Lw

abbrev Slc := Option Addr × Nat × Nat
def slv (e : Slc) : Value := .slice e.1 e.2.1 e.2.2
instance : Inhabited Slc := ⟨(none, 0, 0)⟩

theorem slv_one (es : List Slc) : ∀ u ∈ es.map slv, u.oneCell' = true := by
  intro u hu; rw [List.mem_map] at hu; obtain ⟨e, _, rfl⟩ := hu; rfl

/-- What is empty is kept whatever turns. -/
theorem RdS.keep0 {sz : Nat} {w w' : World} {a : Option Addr} {l c : Nat} {xs : List Value} (h : RdS sz w a l c xs) {S : Nat → Prop} (k : Kept S w w') (hn : xs ≠ [] → ∀ b, inA a b → ¬ S b) : RdS sz w' a l c xs := by
  cases xs with
  | nil => obtain ⟨hl, hlc, hz, _⟩ := h; exact ⟨hl, hlc, hz, fun ad _ i v hi => by simp at hi⟩
  | cons x xs => exact h.keep k (fun b _ hb => hn (by simp) b hb)

theorem RdB.keep0 {w w' : World} {a : Option Addr} {l c : Nat} {bs : List Int} (h : RdB w a l c bs) {S : Nat → Prop} (k : Kept S w w') (hn : bs ≠ [] → ∀ b, inA a b → ¬ S b) : RdB w' a l c bs :=
  RdS.keep0 h k fun hne => hn (fun e => hne (by rw [e]; rfl))

theorem RdB.old {w : World} {a : Option Addr} {l c : Nat} {bs : List Int} (h : RdB w a l c bs) (hne : bs ≠ []) : ∀ b, inA a b → b < w.heap.size :=
  RdS.old h fun e => hne (By_inj (b := []) e)

/-- Lists of bytes that are read; R: the memory they lie in. -/
def RdL (R : Nat → Prop) (w : World) (a : Option Addr) (l c : Nat) (xss : List (List Int)) : Prop :=
  ∃ es : List Slc, RdS 1 w a l c (es.map slv) ∧ es.length = xss.length ∧ (l ≠ 0 → ∀ k, inA a k → R k) ∧
    ∀ (i : Nat) (e : Slc) (xs : List Int), es[i]? = some e → xss[i]? = some xs → RdB w e.1 e.2.1 e.2.2 xs ∧ (xs ≠ [] → ∀ k, inA e.1 k → R k)

theorem RdL.len {R : Nat → Prop} {w : World} {a : Option Addr} {l c : Nat} {xss : List (List Int)} (h : RdL R w a l c xss) : xss.length = l := by
  obtain ⟨es, h1, h2, _⟩ := h
  have := h1.1
  simp at this; omega

theorem RdL.keep {R S : Nat → Prop} {w w' : World} {a : Option Addr} {l c : Nat} {xss : List (List Int)} (h : RdL R w a l c xss) (k : Kept S w w') (hn : ∀ x, R x → ¬ S x) : RdL R w' a l c xss := by
  have hlen := h.len
  obtain ⟨es, h1, h2, h3, h4⟩ := h
  refine ⟨es, h1.keep0 k (fun hne b hb => hn b (h3 (fun e => hne (List.eq_nil_of_length_eq_zero (by rw [List.length_map]; omega))) b hb)), h2, h3, fun i e xs he hx => ?_⟩
  obtain ⟨h5, h6⟩ := h4 i e xs he hx
  exact ⟨h5.keep0 k fun hne b hb => hn b (h6 hne b hb), h6⟩

theorem RdL.mono {R R' : Nat → Prop} {w : World} {a : Option Addr} {l c : Nat} {xss : List (List Int)} (h : RdL R w a l c xss) (hr : ∀ x, R x → R' x) : RdL R' w a l c xss := by
  obtain ⟨es, h1, h2, h3, h4⟩ := h
  exact ⟨es, h1, h2, fun hl k hk => hr k (h3 hl k hk), fun i e xs he hx => ⟨(h4 i e xs he hx).1, fun hne k hk => hr k ((h4 i e xs he hx).2 hne k hk)⟩⟩

theorem RdL.get {R : Nat → Prop} {w : World} {a : Option Addr} {l c : Nat} {xss : List (List Int)} (h : RdL R w a l c xss) {i : Nat} (hi : i < xss.length) :
    ∃ (q : Addr) (e : Slc), a = some q ∧ w.cell? (q.add i) = some (.slice e.1 e.2.1 e.2.2) ∧ RdB w e.1 e.2.1 e.2.2 xss[i] ∧ (xss[i] ≠ [] → ∀ k, inA e.1 k → R k) := by
  obtain ⟨es, h1, h2, h3, h4⟩ := h
  have hie : i < es.length := by omega
  cases a with
  | none =>
    have := (RdS.isNone h1 rfl).2.2
    have hl : (es.map slv).length = 0 := by rw [this]; rfl
    simp at hl; subst hl; simp at hie
  | some q =>
    have hc := h1.2.2.2 q rfl i (slv es[i]) (by simp [hie])
    obtain ⟨h5, h6⟩ := h4 i es[i] xss[i] (by simp) (by simp)
    exact ⟨q, es[i], rfl, hc, h5, h6⟩

theorem RdL.nil (R : Nat → Prop) (w : World) : RdL R w none 0 0 [] := ⟨[], RdS.nil 1 w, rfl, fun h => absurd rfl h, fun i e xs he => by simp at he⟩

theorem RdL.from {R : Nat → Prop} {w : World} {a : Option Addr} {l c : Nat} {xss : List (List Int)} (h : RdL R w a l c xss) (i : Nat) (hi : i ≤ l) : RdL R w (adv a i c 1) (l - i) (c - i) (xss.drop i) := by
  obtain ⟨es, h1, h2, h3, h4⟩ := h
  refine ⟨es.drop i, ?_, by simp [h2], fun hl k hk => h3 (by omega) k (inA_adv.1 hk), fun j e xs he hx => h4 (i + j) e xs (by rw [List.getElem?_drop] at he; exact he) (by rw [List.getElem?_drop] at hx; exact hx)⟩
  have := RdS.from h1 i hi
  rw [Nat.mul_one] at this
  rw [List.map_drop]; exact this

/-- A row's lists. -/
theorem rdL_of_view {W : World} {a : Option Addr} {l c : Nat} (hlc : l ≤ c) (hz : a = none → c = 0)
    (h : ∀ q : Addr, a = some q → ∀ i : Nat, i < l → ∃ (a' : Option Addr) (l' c' : Nat) (ns : List Int), RdS 1 W a' l' c' (ns.map (Value.int .u8)) ∧ (∀ n ∈ ns, (Lit.int .u8 n).wf = true) ∧ l' * 1 ≤ 140737488351232 ∧ W.cell? (q.add (i * 1)) = some (.slice a' l' c') ∧ True) :
    ∃ xss, RdL (· < W.heap.size) W a l c xss ∧ (∀ xs ∈ xss, xs.length ≤ 140737488351232) ∧ ∀ xs ∈ xss, ∀ n ∈ xs, 0 ≤ n ∧ n ≤ 255 := by
  cases a with
  | none =>
    have := hz rfl
    obtain rfl : l = 0 := by omega
    subst this
    exact ⟨[], RdL.nil _ _, by simp, by simp⟩
  | some q =>
    obtain ⟨f, hf⟩ := Deep.choose_lt (α := Slc × List Int) (n := l) (p := fun i x => RdB W x.1.1 x.1.2.1 x.1.2.2 x.2 ∧ x.1.2.1 ≤ 140737488351232 ∧ W.cell? (q.add i) = some (slv x.1) ∧ ∀ n ∈ x.2, 0 ≤ n ∧ n ≤ 255) (fun i hi => by
      obtain ⟨a', l', c', ns, h1, h2, h3, h4, _⟩ := h q rfl i hi
      exact ⟨((a', l', c'), ns), h1, by simpa using h3, by simpa [slv] using h4, fun n hn => bounds_u8 (h2 n hn)⟩)
    refine ⟨(List.range l).map fun i => (f i).2, ⟨(List.range l).map fun i => (f i).1, ⟨by simp, hlc, (fun h => by cases h), fun ad had i v hi => ?_⟩, by simp, fun hl k hk => ?_, fun i e xs he hx => ?_⟩, fun xs hx => ?_, fun xs hx => ?_⟩
    · cases had
      by_cases hil : i < l
      · simp [hil] at hi; subst hi; exact (hf i hil).2.2.1
      · simp [hil] at hi
    · obtain ⟨ad, had, rfl⟩ := hk
      cases had
      have := World.block_lt_of_cell? W _ (hf 0 (by omega)).2.2.1
      have hbe : (q.add 0).block = q.block := by unfold Addr.add; split <;> rfl
      omega
    · by_cases hil : i < l
      · simp [hil] at he hx; subst he hx; exact ⟨(hf i hil).1, fun hne k hk => (hf i hil).1.old hne k hk⟩
      · simp [hil] at he
    · obtain ⟨i, hi, rfl⟩ := List.mem_map.1 hx
      have hi := List.mem_range.1 hi
      have := (hf i hi).1.len
      have := (hf i hi).2.1
      omega
    · obtain ⟨i, hi, rfl⟩ := List.mem_map.1 hx
      exact (hf i (List.mem_range.1 hi)).2.2.2

/-! ## Conversions -/

section
variable {P : Program}

def u8T (P : Program) (t : TypeId) : Bool :=
  match P.underlying t with
  | some (.slice e) => match P.underlying e with | some (.int .u8) => true | _ => false
  | _ => false

theorem u8T_spec {t : TypeId} (h : u8T P t = true) : ∃ e, P.underlying t = some (.slice e) ∧ P.underlying e = some (.int .u8) := by
  unfold u8T at h
  split at h
  · rename_i e he
    split at h
    · rename_i hu; exact ⟨e, he, hu⟩
    · cases h
  · cases h

def u8E (P : Program) (t e : TypeId) : Bool :=
  match P.underlying t with
  | some (.slice e') => Nat.beq e' e && (match P.underlying e' with | some (.int .u8) => true | _ => false)
  | _ => false

theorem u8E_spec {t e : TypeId} (h : u8E P t e = true) : P.underlying t = some (.slice e) ∧ P.underlying e = some (.int .u8) := by
  unfold u8E at h
  split at h
  · rename_i e' he
    simp only [Bool.and_eq_true] at h
    have : e' = e := Nat.eq_of_beq_eq_true h.1
    subst this
    have h2 := h.2
    split at h2
    · rename_i hu; exact ⟨he, hu⟩
    · cases h2
  · cases h

/-- The bytes of a string's constant. -/
theorem run_const (w : World) {t e : TypeId} (ht : u8E P t e = true) (bs : List Int) :
    ∃ w', (convert t t (.slice (some ⟨w.heap.size, 0, none⟩) bs.length bs.length)).run P (w.alloc (.cells (By bs).toArray e)) = .ok (.slice (some ⟨w.heap.size, 0, none⟩) bs.length bs.length) w' ∧
      RdB w' (some ⟨w.heap.size, 0, none⟩) bs.length bs.length bs ∧ Kept No w w' ∧ w'.heap.size = w.heap.size + 1 := by
  obtain ⟨h1, h2⟩ := u8E_spec ht
  refine ⟨_, Lib.run_convert_bytes_const w t e (By bs).toArray bs.length bs.length h1 h2, ⟨by simp, Nat.le_refl _, (fun h => by cases h), fun ad had i v hi => ?_⟩, Kept.alloc _ _ _, by show (w.heap.push _).size = _; simp⟩
  cases had
  rw [add_none, Nat.zero_add]
  have hb := heap_alloc_new w (.cells (By bs).toArray e ((By bs).toArray.size, (By bs).toArray.size + 1))
  rw [cell_of_row _ _ i _ _ _ hb]
  simpa using hi

theorem run_str (w : World) {t ts : TypeId} (ht : u8T P t = true) (hs : isStringT P ts = true) {a : Option Addr} {l c : Nat} {bs : List Int} (h : RdB w a l c bs) :
    (convert t ts (.slice a l c)).run P w = .ok (.string (strOfNums bs)) w := by
  obtain ⟨e, h1, h2⟩ := u8T_spec ht
  have h3 : P.underlying ts = some .string := by
    unfold isStringT at hs
    split at hs
    · assumption
    · cases hs
  have hlen := h.len
  rw [run_convert_bytes_string w t ts e a l c h1 h2 h3]
  cases a with
  | none =>
    have := (RdS.isNone h rfl).2.2
    have hb : bs = [] := By_inj (b := []) this
    subst hb
    simp [Conv.bytesToString]
    rfl
  | some q =>
    have hl : (loadCells q l).run P w = .ok (bs.map (Value.int .u8)).toArray w := by
      have := run_loadCells_list (P := P) w q (bs.map (Value.int .u8)) (fun j v hj => h.2.2.2 q rfl j v hj)
      simpa [hlen] using this
    rw [run_bytesToString w q l c bs hl, foldl_push_bytes]
    simp [strOfNums, ByteArray.empty, ByteArray.emptyWithCapacity]
    rfl
end

end Go.Lw
