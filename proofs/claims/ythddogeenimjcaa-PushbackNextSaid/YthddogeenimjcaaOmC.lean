/-
  The page's reader of a mode's text, the program's printer, and the page's examples. Conditions: as each says.
-/
import Derived.Test.YthddogeenimjcaaOmB
set_option linter.unusedVariables false
namespace Go.Proofs.Ythddogeenimjcaa
open Go.Lw

/-! ## The printer -/

def txtJ (c : Int) (m : Md) : Nat → ByteArray
  | 0 => Utf8.encode c
  | j + 1 => if hasJ j m then txtJ c m j ++ Utf8.encode (IntKind.wrap .i32 (lc j)) else txtJ c m j

theorem txt_t {c : Int} {m : Md} {j : Nat} (h : hasJ j m = true) : txtJ c m (j + 1) = txtJ c m j ++ Utf8.encode (IntKind.wrap .i32 (lc j)) := by
  show (if hasJ j m then _ else _) = _
  rw [if_pos h]
theorem txt_f {c : Int} {m : Md} {j : Nat} (h : hasJ j m = false) : txtJ c m (j + 1) = txtJ c m j := by
  show (if hasJ j m then _ else _) = _
  rw [if_neg (by rw [h]; simp)]

def fitsM (c : Int) (m : Md) : Bool := decide ((parseM (txtJ c m 4)).2.1 = 0) && decide ((parseM (txtJ c m 4)).1 = m)

def printM (m : Md) : ByteArray × Int :=
  if fitsM 114 m then (txtJ 114 m 4, 0) else if fitsM 119 m then (txtJ 119 m 4, 0) else if fitsM 97 m then (txtJ 97 m 4, 0) else (ByteArray.mk #[], 91)

def rwa : ByteArray := ByteArray.mk #[114, 119, 97]
def cAt (p : Nat) : Int := match p with | 0 => 114 | 1 => 119 | _ => 97

theorem c0 : cAt 0 = 114 := rfl
theorem c1 : cAt 1 = 119 := rfl
theorem c2 : cAt 2 = 97 := rfl

theorem printM_at {m : Md} {p : Nat} (hp : p < 3) (hf : fitsM (cAt p) m = true) (hno : ∀ p', p' < p → fitsM (cAt p') m = false) : printM m = (txtJ (cAt p) m 4, 0) := by
  have h : p = 0 ∨ p = 1 ∨ p = 2 := by omega
  unfold printM
  rcases h with h | h | h
  · subst h
    rw [c0] at hf ⊢
    rw [if_pos hf]
  · subst h
    have f0 := hno 0 (by omega)
    rw [c0] at f0
    rw [c1] at hf ⊢
    rw [if_neg (by rw [f0]; simp), if_pos hf]
  · subst h
    have f0 := hno 0 (by omega)
    have f1 := hno 1 (by omega)
    rw [c0] at f0
    rw [c1] at f1
    rw [c2] at hf ⊢
    rw [if_neg (by rw [f0]; simp), if_neg (by rw [f1]; simp), if_pos hf]

theorem printM_none {m : Md} (hno : ∀ p', p' < 3 → fitsM (cAt p') m = false) : printM m = (ByteArray.mk #[], 91) := by
  have f0 := hno 0 (by omega)
  have f1 := hno 1 (by omega)
  have f2 := hno 2 (by omega)
  rw [c0] at f0
  rw [c1] at f1
  rw [c2] at f2
  unfold printM
  rw [if_neg (by rw [f0]; simp), if_neg (by rw [f1]; simp), if_neg (by rw [f2]; simp)]

theorem enc1 {j : Nat} (h : j < 4) : (Utf8.encode (IntKind.wrap .i32 (lc j))).size = 1 := by
  match j, h with
  | 0, _ => decide
  | 1, _ => decide
  | 2, _ => decide
  | 3, _ => decide

theorem encC {p : Nat} (h : p < 3) : (Utf8.encode (cAt p)).size = 1 := by
  match p, h with
  | 0, _ => decide
  | 1, _ => decide
  | 2, _ => decide

theorem txt_size {p : Nat} (hp : p < 3) (m : Md) : ∀ j, j ≤ 4 → (txtJ (cAt p) m j).size ≤ 1 + j
  | 0, _ => by unfold txtJ; rw [encC hp]; omega
  | j + 1, h => by
    have ih := txt_size hp m j (by omega)
    unfold txtJ
    split
    · rw [ByteArray.size_append, enc1 (by omega)]; omega
    · omega

theorem Kept.iter (w : World) (k : Nat) (s : ByteArray) (p : Nat) : Kept (· = k) w (w.iterAt k s p) :=
  ⟨rfl, rfl, rfl, by rw [Lib.iterAt_size]; exact Nat.le_refl _, fun j _ hn => Lib.iterAt_other w k j s p hn⟩

theorem rwa_at {p : Nat} (h : p < 3) : ∃ hq : p < rwa.size, ((rwa[p]'hq).toNat : Int) = cAt p ∧ (rwa[p]'hq).toNat < 128 := by
  match p, h with
  | 0, _ => exact ⟨by decide, by decide, by decide⟩
  | 1, _ => exact ⟨by decide, by decide, by decide⟩
  | 2, _ => exact ⟨by decide, by decide, by decide⟩

set_option maxHeartbeats 1000000 in
theorem oprint_ok {w : World} (m : Md) : CallR Try.prog 37 [.agg m.cs] w fun v w' => v = .tuple #[.string (printM m).1, .int .i64 (printM m).2] ∧ Kept No w w' := by
  refine C37 ?_
  unfold L37
  intro w1
  have hb1 : Blk w1 w.heap.size m.cs := Blk.alloc _ _ _
  have hk1 : Kept No w w1 := Kept.alloc _ _ _
  clear_value w1
  have hit2 : (w1.iter rwa 0).heap[w1.heap.size]? = some (.stringIter rwa 0) := World.iter_heap _ _ _
  have hk2 : Kept No w1 (w1.iter rwa 0) := Kept.alloc _ _ _
  refine ⟨_, run_range_string w1 9 rwa (by kernel_rfl), ?_⟩
  generalize w1.iter rwa 0 = w2 at hit2 hk2 ⊢
  have hne : w.heap.size ≠ w1.heap.size := by have := hb1.lt; omega
  have hKW : ∀ x, x = w1.heap.size → w.heap.size ≤ x := fun x e => by rw [e]; exact hk1.size
  refine ⟨fun vs w' => vs = [] ∧ ∃ p : Nat, p ≤ 3 ∧ w'.heap[w1.heap.size]? = some (.stringIter rwa p) ∧ Blk w' w.heap.size m.cs ∧ Kept No w w' ∧ ∀ p', p' < p → fitsM (cAt p') m = false,
    fun _ w' => match w'.heap[w1.heap.size]? with | some (.stringIter _ p) => 3 - p | _ => 0, ⟨rfl, 0, by omega, hit2, hb1.keep hk2 (fun e => e), hk1.no hk2, fun p' h => by omega⟩, ?_⟩
  intro _ w3 hI
  obtain ⟨_, p, hp, hit, hb3, hk3, hno⟩ := hI
  by_cases hp3 : p < 3
  · right
    obtain ⟨hps, hc, ha⟩ := rwa_at hp3
    refine ⟨_, _, _, Lib.run_next_ascii_at w3 w1.heap.size rwa p 0 hit hps ha, _, rfl, ?_⟩
    rw [hc]
    have hk5 := Kept.iter w3 w1.heap.size rwa (p + 1)
    have hit5 := Lib.iterAt_heap w3 w1.heap.size rwa p (p + 1) hit
    generalize w3.iterAt w1.heap.size rwa (p + 1) = w5 at hk5 hit5 ⊢
    have hb5 := hb3.keep hk5 hne
    have hk05 := hk3.fresh hk5 hKW
    have hk1lt : w1.heap.size < w5.heap.size := (Array.getElem?_eq_some_iff.1 hit5).1
    have keepIt : ∀ {w6 w7 : World} {S : Nat → Prop}, w6.heap[w1.heap.size]? = some (.stringIter rwa (p + 1)) → Kept S w6 w7 → ¬ S w1.heap.size → w7.heap[w1.heap.size]? = some (.stringIter rwa (p + 1)) := fun h k hn => by
      rw [k.block _ (Array.getElem?_eq_some_iff.1 h).1 hn]; exact h
    refine letters_to fun w6 hl6 hk6 => ⟨_, _, _, rfl, ?_⟩
    refine ⟨fun vs w' => ∃ j : Nat, vs = [.string (txtJ (cAt p) m j), .int .i64 (j : Int)] ∧ j ≤ 4 ∧ Blk w' w5.heap.size lets ∧ Blk w' w.heap.size m.cs ∧ w'.heap[w1.heap.size]? = some (.stringIter rwa (p + 1)) ∧ Kept No w w',
      fun vs _ => match vs with | [_, .int _ j] => (4 - j).toNat | _ => 0, ⟨0, rfl, by omega, hl6, hb5.keep hk6 (fun e => e), keepIt hit5 hk6 (fun e => e), hk05.no hk6⟩, ?_⟩
    intro _ s18 n19 w7 hJ
    obtain ⟨j, hvs, hj, hl7, hb7, hit7, hk7⟩ := hJ
    simp only [List.cons.injEq, Value.string.injEq, Value.int.injEq, true_and, and_true] at hvs
    obtain ⟨rfl, rfl⟩ := hvs
    have hszt := txt_size hp3 m
    refine condP (fun hjl => ?_) (fun hjg => ?_)
    · have hj4 : j < 4 := by omega
      obtain ⟨e0, e1, e2⟩ := lets_at hj4
      have hc0 : w7.cell? (Addr.add ⟨w5.heap.size, 0, none⟩ (Int.toNat (j : Int) * 3)) = some (.int .u8 (lc j)) := hl7.at e0
      have hc1 : w7.cell? (Addr.add (Addr.add ⟨w5.heap.size, 0, none⟩ (Int.toNat (j : Int) * 3)) 1) = some (.func (.func (hasf j)) #[] #[]) := by
        rw [Lw.add_add]; exact hl7.at e1
      have hc2 : w7.cell? (Addr.add (Addr.add ⟨w5.heap.size, 0, none⟩ (Int.toNat (j : Int) * 3)) 2) = some (.func (.func (setf j)) #[] #[]) := by
        rw [Lw.add_add]; exact hl7.at e2
      refine ⟨⟨by omega, by omega⟩, nnI ⟨_, _, _, hc0, hc1, hc2, ?_⟩⟩
      intro w31
      have hx31 : Blk w31 w7.heap.size #[.int .u8 0, .nilFunc, .nilFunc] := Blk.alloc _ _ _
      have hk31 : Kept No w7 w31 := Kept.alloc _ _ _
      clear_value w31
      refine stC_blk hx31 (by simp) fun w32 hx32 hk32 _ => oneF (stC_blk hx32 (by simp) fun w33 hx33 hk33 _ => oneF (stC_blk hx33 (by simp) fun w34 hx34 hk34 _ => ?_))
      have hk314 : Kept (· = w7.heap.size) w31 w34 := (hk32.trans hk33 fun _ _ e => e).trans hk34 fun _ _ e => e
      have hx35 : Blk w34 w7.heap.size #[.int .u8 (lc j), .func (.func (hasf j)) #[] #[], .func (.func (setf j)) #[] #[]] := hx34
      have hk305 : Kept No w7 w34 := hk31.fresh hk314 (fun x e => by rw [e]; exact Nat.le_refl _)
      have hl35 := hl7.keep hk305 (fun e => e)
      have hb35 := hb7.keep hk305 (fun e => e)
      have hit35 := keepIt hit7 hk305 (fun e => e)
      have hk35 := hk7.no hk305
      have hi64 : inI ((j : Int) + 1) := by unfold inI; omega
      have hmu : ((4 : Int) - ((j : Int) + 1)).toNat < ((4 : Int) - (j : Int)).toNat := by omega
      refine ⟨_, (hx35.cell 1).trans rfl, ld8 hb35 ⟨_, _, _, rfl, body_has hj4, (has_ok m hj4).mono fun v w36 ⟨hv36, hk36⟩ => ⟨_, hv36, ?_⟩⟩⟩
      have fin : ∀ s', s' = txtJ (cAt p) m (j + 1) → ∃ j' : Nat, [Value.string s', .int .i64 ((j : Int) + 1)] = [.string (txtJ (cAt p) m j'), .int .i64 (j' : Int)] ∧ j' ≤ 4 ∧ Blk w36 w5.heap.size lets ∧ Blk w36 w.heap.size m.cs ∧ w36.heap[w1.heap.size]? = some (.stringIter rwa (p + 1)) ∧ Kept No w w36 := fun s' hs' =>
        ⟨j + 1, by rw [hs']; rfl, by omega, hl35.keep hk36 (fun e => e), hb35.keep hk36 (fun e => e), keepIt hit35 hk36 (fun e => e), hk35.no hk36⟩
      refine condI (fun hh => ⟨_, ((hx35.keep hk36 (fun e => e)).cell 0).trans rfl, ?_, hi64, fin _ ?_, hmu⟩) (fun hh => ⟨hi64, fin _ ?_, hmu⟩)
      · have := hszt j (by omega)
        rw [enc1 hj4]; omega
      · exact (txt_t hh).symm
      · exact (txt_f hh).symm
    · have hj4 : j = 4 := by omega
      subst hj4
      have hs4 := hszt 4 (by omega)
      refine (oparse_ok (txtJ (cAt p) m 4) (by omega)).mono fun v w13 ⟨hv13, hk13⟩ => ⟨_, _, _, _, _, _, _, _, _, _, hv13, ?_⟩
      intro w14
      have hx14 : Blk w14 w13.heap.size Md.no.cs := Blk.alloc _ _ _
      have hk14 : Kept No w13 w14 := Kept.alloc _ _ _
      clear_value w14
      refine st8 hx14 rfl fun w22 hx22 hk22 _ => ?_
      have hx22 : Blk w22 w13.heap.size (parseM (txtJ (cAt p) m 4)).1.cs := hx22
      have hk722 : Kept No w7 w22 := (hk13.no hk14).fresh hk22 (fun x e => by rw [e]; exact hk13.size)
      have hb22 := hb7.keep hk722 (fun e => e)
      have hit22 := keepIt hit7 hk722 (fun e => e)
      have hk022 := hk7.no hk722
      have again : fitsM (cAt p) m = false → (([] : List Value) = [] ∧ ∃ p : Nat, p ≤ 3 ∧ w22.heap[w1.heap.size]? = some (.stringIter rwa p) ∧ Blk w22 w.heap.size m.cs ∧ Kept No w w22 ∧ ∀ p', p' < p → fitsM (cAt p') m = false) ∧
          (match w22.heap[w1.heap.size]? with | some (.stringIter _ p) => 3 - p | _ => 0) < (match w3.heap[w1.heap.size]? with | some (.stringIter _ p) => 3 - p | _ => 0) := fun hf => by
        refine ⟨⟨rfl, p + 1, by omega, hit22, hb22, hk022, fun p' hp' => ?_⟩, ?_⟩
        · by_cases hpp : p' = p
          · subst hpp; exact hf
          · exact hno p' (by omega)
        · rw [hit22, hit]; show 3 - (p + 1) < 3 - p; omega
      have nfit : ¬ (parseM (txtJ (cAt p) m 4)).2.1 = 0 → fitsM (cAt p) m = false := fun h => by unfold fitsM; simp [h]
      refine condI (fun hok => ?_) (fun hbad => again (nfit (by simpa using hbad)))
      have hok' : (parseM (txtJ (cAt p) m 4)).2.1 = 0 := by simpa using hok
      refine ld8 hx22 (ld8 hb22 ⟨_, w22, eqMd (parseM (txtJ (cAt p) m 4)).1 m, ?_⟩)
      refine condP (fun he => ⟨?_, hk022⟩) (fun hne' => again (by unfold fitsM; simp [hne']))
      have hfit : fitsM (cAt p) m = true := by unfold fitsM; simp [hok', he]
      have hpr : printM m = (txtJ (cAt p) m 4, 0) := printM_at hp3 hfit hno
      rw [hpr]
  · left
    have hpe : p = 3 := by omega
    subst hpe
    refine ⟨w3, Lib.run_next_end_at w3 w1.heap.size rwa 3 0 hit (by decide), ?_, hk3⟩
    have hpr := printM_none hno
    rw [hpr]

theorem ocheck_ok {w : World} (m : Md) : CallR Try.prog 28 [.agg m.cs] w fun v w' => v = .int .i64 (printM m).2 ∧ Kept No w w' := by
  refine C28 ?_
  unfold L28
  intro w1
  have hb1 : Blk w1 w.heap.size m.cs := Blk.alloc _ _ _
  have hk1 : Kept No w w1 := Kept.alloc _ _ _
  clear_value w1
  exact ld8 hb1 ((oprint_ok m).mono fun v w2 ⟨hv, hk⟩ => ⟨_, _, hv, rfl, hk1.no hk⟩)

end Go.Proofs.Ythddogeenimjcaa
