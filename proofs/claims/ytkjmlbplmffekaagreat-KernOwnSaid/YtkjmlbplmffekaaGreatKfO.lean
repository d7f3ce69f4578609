/-
  Kernels that no call made answer nothing; the terminals of a new kernel. Conditions: as each says.
-/
import Derived.Test.YtkjmlbplmffekaaGreatKaA
import Derived.Test.YtkjmlbplmffekaaGreatKf
import Derived.Test.YtkjmlbplmffekaaGreatLKo
set_option linter.unusedVariables false
namespace Go.Proofs.YtkjmlbplmffekaaGreat
open Go.Lw

/-- A kernel that is none, or that no call made. -/
def NoK (w : World) (p : Option Addr) : Prop := p = none ∨ ∃ t cur, p = some ⟨t, 0, none⟩ ∧ Blk w t cur ∧ cur[0]? = some (.bool false)

theorem NoK.no {w w' : World} {p : Option Addr} (h : NoK w p) (k : Kept No w w') : NoK w' p := by
  rcases h with h | ⟨t, cur, h1, h2, h3⟩
  · exact .inl h
  · exact .inr ⟨t, cur, h1, h2.keep k fun e => e, h3⟩

theorem nk_none {w : World} {p : Option Addr} (h : NoK w p) {Q : Value → World → Prop} (hq : Q (.bool true) w) : CallR Tryz.prog 87 [.pointer p] w Q := by
  refine C87 ?_
  unfold L87
  rcases h with rfl | ⟨t, cur, rfl, hb, h0⟩
  · exact condTr2 hq
  · exact condFa2 (nnI ⟨_, (hb.cell 0).trans h0, hq⟩)

theorem nk_find {w : World} {p : Option Addr} (h : NoK w p) (d way : Int) {Q : Value → World → Prop} (hq : Q (.tuple #[.pointer none, .int .i64 2]) w) : CallR Tryz.prog 92 [.pointer p, .int .i64 d, .int .i64 way] w Q := by
  refine C92 ?_
  unfold L92
  exact nk_none h ⟨_, rfl, condTr2 hq⟩

theorem nothing6_ok {w : World} {p : Option Addr} (h : NoK w p) : CallR Tryz.prog 34 [.pointer p] w fun v w' => v = .bool true ∧ Kept No w w' := by
  have n : ∀ {K : Value → World → Prop}, K (.int .i64 2) w → CallR Tryz.prog 16 [.int .i64 2] w K := fun hK => lnum_to hK
  have o : ∀ {Q : Value → World → Prop} (nm : ByteArray) (fl : Int), Q (.tuple #[.int .i64 0, .int .i64 2]) w → CallR Tryz.prog 19 [.pointer p, .string nm, .int .i64 fl] w Q := fun nm fl hq => C19 (by unfold L19; exact nk_none h ⟨_, rfl, condTr2 hq⟩)
  have pp : ∀ {Q : Value → World → Prop}, Q (.tuple #[.int .i64 0, .int .i64 0, .int .i64 2]) w → CallR Tryz.prog 26 [.pointer p] w Q := fun hq => C26 (by unfold L26; exact nk_none h ⟨_, rfl, condTr2 hq⟩)
  have rd : ∀ {Q : Value → World → Prop} (d m : Int), Q (.tuple #[.slice none 0 0, .int .i64 2]) w → CallR Tryz.prog 20 [.pointer p, .int .i64 d, .int .i64 m] w Q := fun d m hq => C20 (by unfold L20; exact nk_find h _ _ ⟨_, _, rfl, condTr2 hq⟩)
  have wr : ∀ {Q : Value → World → Prop} (d : Int) (a : Option Addr) (l c : Nat), Q (.tuple #[.int .i64 0, .int .i64 2]) w → CallR Tryz.prog 22 [.pointer p, .int .i64 d, .slice a l c] w Q := fun d a l c hq => C22 (by unfold L22; exact nk_find h _ _ ⟨_, _, rfl, condTr2 hq⟩)
  have sk : ∀ {Q : Value → World → Prop} (d x y : Int), Q (.tuple #[.int .i64 0, .int .i64 2]) w → CallR Tryz.prog 23 [.pointer p, .int .i64 d, .int .i64 x, .int .i64 y] w Q := fun d x y hq => C23 (by unfold L23; exact nk_find h _ _ ⟨_, _, rfl, condTr2 hq⟩)
  have kp : ∀ {Q : Value → World → Prop} (d : Int), Q (.int .i64 2) w → CallR Tryz.prog 111 [.pointer p, .int .i64 d] w Q := fun d hq => C111 (by unfold L111; exact nk_find h _ _ ⟨_, _, rfl, condTr2 hq⟩)
  have dr : ∀ {Q : Value → World → Prop} (d : Int), Q (.int .i64 2) w → CallR Tryz.prog 38 [.pointer p, .int .i64 d] w Q := fun d hq => C38 (by unfold L38; exact nk_find h _ _ ⟨_, _, rfl, condTr2 hq⟩)
  have cr : ∀ {Q : Value → World → Prop} (d : Int), Q (.bool false) w → CallR Tryz.prog 119 [.pointer p, .int .i64 d] w Q := fun d hq => C119 (by unfold L119; exact nk_find h _ _ ⟨_, _, rfl, condFa2 hq⟩)
  have cw : ∀ {Q : Value → World → Prop} (d m : Int), Q (.bool false) w → CallR Tryz.prog 121 [.pointer p, .int .i64 d, .int .i64 m] w Q := fun d m hq => C121 (by unfold L121; exact nk_find h _ _ ⟨_, _, rfl, condTr2 hq⟩)
  have kd : ∀ {Q : Value → World → Prop} (d : Int), Q (.int .i64 0) w → CallR Tryz.prog 37 [.pointer p, .int .i64 d] w Q := fun d hq => C37 (by unfold L37; exact nk_find h _ _ ⟨_, _, rfl, condTr2 hq⟩)
  have hd : ∀ {Q : Value → World → Prop} (d : Int), Q (.slice none 0 0) w → CallR Tryz.prog 123 [.pointer p, .int .i64 d] w Q := fun d hq => C123 (by unfold L123; exact nk_find h _ _ ⟨_, _, rfl, condTr2 hq⟩)
  have ca : ∀ {Q : Value → World → Prop}, Q (.tuple #[.int .i64 0, .int .i64 0]) w → CallR Tryz.prog 114 [.pointer p] w Q := fun hq => C114 (by unfold L114; exact nk_none h ⟨_, rfl, condTr2 hq⟩)
  have sc : ∀ {Q : Value → World → Prop} (nm : ByteArray), Q (.tuple #[.slice none 0 0, .bool false]) w → CallR Tryz.prog 117 [.pointer p, .string nm] w Q := fun nm hq => C117 (by unfold L117; exact nk_none h ⟨_, rfl, condTr2 hq⟩)
  have re : ∀ {Q : Value → World → Prop}, Q (.slice none 0 0) w → CallR Tryz.prog 27 [.pointer p] w Q := fun hq => C27 (by unfold L27; exact nk_none h ⟨_, rfl, condTr2 hq⟩)
  have fi : ∀ {Q : Value → World → Prop}, Q (.slice none 0 0) w → CallR Tryz.prog 25 [.pointer p] w Q := fun hq => C25 (by unfold L25; exact nk_none h ⟨_, rfl, condTr2 hq⟩)
  refine C34 ?_
  unfold L34
  refine o _ _ ⟨_, _, rfl, pp ⟨_, _, _, rfl, rd _ _ ⟨_, _, _, _, rfl, wr _ _ _ _ ⟨_, _, rfl, sk _ _ _ ⟨_, _, rfl, ca ⟨_, _, rfl, sc _ ⟨_, _, _, _, rfl, ?_⟩⟩⟩⟩⟩⟩⟩
  refine n ⟨_, rfl, condTr2 (n ⟨_, rfl, condTr2 (n ⟨_, rfl, condTr2 (n ⟨_, rfl, condTr2 (n ⟨_, rfl, condTr2 (kp _ ⟨_, rfl, n ⟨_, rfl, condTr2 (dr _ ⟨_, rfl, n ⟨_, rfl, condTr2 (cr _ ⟨_, rfl, condTr2 (cw _ _ ⟨_, rfl, condTr2 (kd _ ⟨_, rfl, condTr2 ⟨⟨by decide, by decide⟩, condTr2 (re ⟨_, _, _, rfl, fi ⟨_, _, _, rfl, ⟨by decide, by decide⟩, hd _ ⟨_, _, _, rfl, ⟨by decide, by decide⟩, condTr2 ⟨rfl, Kept.refl _ _⟩⟩⟩⟩)⟩⟩)⟩)⟩)⟩⟩)⟩⟩)⟩)⟩)⟩)⟩)⟩

namespace AK

theorem withT_at : ∀ (ts : List (ByteArray × List (List Int))) (s : AK),
    (withT ts s).terms.length = s.terms.length + ts.length ∧ (∀ k, k < s.terms.length → (withT ts s).terms[k]? = s.terms[k]?) ∧ (∀ j, j < s.nob → (withT ts s).objs j = s.objs j) ∧
    ∀ i, (h : i < ts.length) → (withT ts s).terms[s.terms.length + i]? = some (ts[i].1, s.nob + i) ∧ (withT ts s).objs (s.nob + i) = .term ts[i].2 []
  | [], s => ⟨by simp [withT], fun k _ => rfl, fun j _ => rfl, fun i h => by simp at h⟩
  | t :: r, s => by
    obtain ⟨h0, h1, h2, h3⟩ := withT_at r (s.addT t.1 (.term t.2 []))
    have hl : (s.addT t.1 (.term t.2 [])).terms.length = s.terms.length + 1 := by show (s.terms ++ [_]).length = _; simp
    have hn : (s.addT t.1 (.term t.2 [])).nob = s.nob + 1 := rfl
    rw [hl] at h0 h1 h3
    rw [hn] at h2 h3
    refine ⟨by show (withT r _).terms.length = _; rw [h0]; simp; omega, fun k hk => ?_, fun j hj => ?_, fun i hi => ?_⟩
    · show (withT r _).terms[k]? = _
      rw [h1 k (by omega)]
      show (s.terms ++ [(t.1, s.nob)])[k]? = _
      rw [List.getElem?_append_left hk]
    · show (withT r _).objs j = _
      rw [h2 j (by omega)]
      show (if j = s.nob then _ else s.objs j) = _
      rw [if_neg (by omega)]
    · cases i with
      | zero =>
        refine ⟨?_, ?_⟩
        · show (withT r _).terms[s.terms.length + 0]? = _
          rw [h1 _ (by omega)]
          show (s.terms ++ [(t.1, s.nob)])[s.terms.length + 0]? = _
          rw [List.getElem?_append_right (by omega)]
          simp
        · show (withT r _).objs (s.nob + 0) = _
          rw [h2 _ (by omega)]
          show (if s.nob + 0 = s.nob then _ else _) = _
          rw [if_pos (by omega)]
          rfl
      | succ i =>
        have hi' : i < r.length := by simpa using hi
        obtain ⟨a, b⟩ := h3 i hi'
        refine ⟨?_, ?_⟩
        · show (withT r _).terms[s.terms.length + (i + 1)]? = _
          rw [show s.terms.length + (i + 1) = s.terms.length + 1 + i by omega, a]
          simp; omega
        · show (withT r _).objs (s.nob + (i + 1)) = _
          rw [show s.nob + (i + 1) = s.nob + 1 + i by omega, b]
          rfl

theorem termOf_mem {s : AK} (h : (s.terms.map (·.1)).Nodup) {f : ByteArray × Nat} (hf : f ∈ s.terms) : s.termOf f.1 = some f := by
  unfold termOf
  cases hd : s.terms.find? (fun g => decide (g.1 = f.1)) with
  | none =>
    rw [List.find?_eq_none] at hd
    have := hd f hf
    simp at this
  | some g =>
    have hg := List.mem_of_find?_eq_some hd
    have hn : g.1 = f.1 := by simpa using List.find?_some hd
    obtain ⟨i, hi, rfl⟩ := List.mem_iff_getElem.1 hf
    obtain ⟨j, hj, rfl⟩ := List.mem_iff_getElem.1 hg
    have : (s.terms.map (·.1))[j]'(by simpa using hj) = (s.terms.map (·.1))[i]'(by simpa using hi) := by rw [List.getElem_map, List.getElem_map]; exact hn
    have := (List.getElem_inj h).1 this
    subst this
    rfl

/-- A terminal of a new kernel. -/
theorem new_term (fs : List (ByteArray × List Int)) (ts : List (ByteArray × List (List Int))) (ps : List (Int × Int)) : ∃ n0, ∀ i, (h : i < ts.length) → (ts[i].1, n0 + i) ∈ (new fs ts ps).terms ∧ (new fs ts ps).objs (n0 + i) = .term ts[i].2 [] := by
  refine ⟨(withF fs (empty ps)).nob, fun i h => ?_⟩
  have ht : (withF fs (empty ps)).terms = [] := by rw [(withF_names fs (empty ps)).2.1]; rfl
  obtain ⟨_, _, _, h3⟩ := withT_at ts (withF fs (empty ps))
  obtain ⟨a, b⟩ := h3 i h
  exact ⟨List.mem_of_getElem? a, b⟩

/-- A kernel whose terminals are as the setup's from i on, and that has nothing open. -/
structure TermsAt (n0 : Nat) (ts : List (ByteArray × List (List Int))) (s : AK) (i : Nat) : Prop where
  ds : s.descs = []
  tn : (s.terms.map (·.1)).Nodup
  mem : ∀ j, (h : j < ts.length) → (ts[j].1, n0 + j) ∈ s.terms
  ob : ∀ j, (h : j < ts.length) → i ≤ j → s.objs (n0 + j) = .term ts[j].2 []

theorem open_term {n0 : Nat} {ts : List (ByteArray × List (List Int))} {s : AK} {i : Nat} (h : TermsAt n0 ts s i) (hi : i < ts.length) (hn : namedS ts[i].1 = true) : s.open_ ts[i].1 1 = (s.next, 0, s.newD (n0 + i) 1) := by
  have ht := termOf_mem h.tn (h.mem i hi)
  have hE : s.openE ts[i].1 1 = 0 := by
    unfold openE
    rw [if_neg (by rw [hn]; simp), if_neg (by rw [show flagged 1 = true by kernel_rfl]; simp), if_neg (by rw [h.ds]; simp), ht, if_pos (.inr rfl), if_neg (by rw [show bitI 1 32 = 0 by kernel_rfl]; simp)]
  unfold open_
  rw [if_neg (by rw [hE]; simp)]
  unfold openS
  rw [ht]

theorem newD_desc {s : AK} (h : s.descs = []) (i : Nat) (fl : Int) : (s.newD i fl).desc s.next = some ⟨s.next, i, fl, 0, 1⟩ := by
  unfold desc newD
  dsimp only
  rw [h]
  simp

theorem term_kind {n0 : Nat} {ts : List (ByteArray × List (List Int))} {s : AK} {i : Nat} (h : TermsAt n0 ts s i) (hi : i < ts.length) : (s.newD (n0 + i) 1).kind s.next = 2 := by
  have hd := newD_desc h.ds (n0 + i) 1
  rw [kind_some hd]
  show kindN (s.objs (n0 + i)).kd = 2
  rw [h.ob i hi (Nat.le_refl _)]
  rfl

/-- Dropped at once. -/
theorem term_drop {n0 : Nat} {ts : List (ByteArray × List (List Int))} {s : AK} {i : Nat} (h : TermsAt n0 ts s i) (hi : i < ts.length) :
    ((s.newD (n0 + i) 1).drop s.next).1 = 0 ∧ TermsAt n0 ts ((s.newD (n0 + i) 1).drop s.next).2 (i + 1) ∧ ((s.newD (n0 + i) 1).drop s.next).2.next = s.next + 1 ∧ ((s.newD (n0 + i) 1).drop s.next).2.ps = s.ps ∧ ((s.newD (n0 + i) 1).drop s.next).2.c0 = s.c0 := by
  have hd := newD_desc h.ds (n0 + i) 1
  have ho : ((s.newD (n0 + i) 1).delD s.next).objs (n0 + i) = .term ts[i].2 [] := h.ob i hi (Nat.le_refl _)
  unfold drop
  rw [if_neg (fun e => e (find_of hd (by kernel_rfl))), hd]
  dsimp only
  rw [if_pos rfl]
  unfold leave
  dsimp only
  rw [ho]
  refine ⟨rfl, ⟨?_, h.tn, h.mem, fun j hj hij => h.ob j hj (by omega)⟩, rfl, rfl, rfl⟩
  show ((s.descs ++ [_]).filter _) = []
  rw [h.ds]
  simp

/-- Read, then dropped. -/
theorem term_read {n0 : Nat} {ts : List (ByteArray × List (List Int))} {s : AK} {i : Nat} (h : TermsAt n0 ts s i) (hi : i < ts.length) (hps : s.ps = []) (hne : ts[i].2 ≠ []) (hT : newT ts[i].2 = 0) :
    ∃ x, ts[i].2[0]? = some x ∧ ((s.newD (n0 + i) 1).read s.next 1048576).1 = x ∧ ((s.newD (n0 + i) 1).read s.next 1048576).2.1 = 0 ∧
      TermsAt n0 ts ((((s.newD (n0 + i) 1).read s.next 1048576).2.2).drop s.next).2 (i + 1) ∧ ((((s.newD (n0 + i) 1).read s.next 1048576).2.2).drop s.next).2.next = s.next + 1 ∧ ((((s.newD (n0 + i) 1).read s.next 1048576).2.2).drop s.next).2.ps = [] := by
  have hd := newD_desc h.ds (n0 + i) 1
  have ho : (s.newD (n0 + i) 1).objs (n0 + i) = .term ts[i].2 [] := h.ob i hi (Nat.le_refl _)
  generalize hL : ts[i].2 = LL at hne hT ho
  cases LL with
  | nil => exact absurd rfl hne
  | cons x r =>
    have hxl : x.length ≤ 4096 := by
      unfold newT at hT
      split at hT
      · cases hT
      · split at hT
        · rename_i ha
          have := List.all_eq_true.1 ha x (List.mem_cons_self)
          simpa using this
        · cases hT
    have hw : (s.newD (n0 + i) 1).waits ⟨s.next, n0 + i, 1, 0, 1⟩ = false := by unfold waits; rw [ho]
    have hps' : (s.newD (n0 + i) 1).ps = [] := hps
    have hr : (s.newD (n0 + i) 1).read s.next 1048576 = (x, 0, ((s.newD (n0 + i) 1).met0).setO (n0 + i) (.term r [])) := by
      unfold read
      rw [if_neg (fun e => e (find_of hd (by kernel_rfl))), if_neg (by omega), if_neg (by omega), hd]
      dsimp only
      rw [if_neg (by rw [hw]; simp), hps', show metF [] 1048576 = (1048576, 0) from rfl, if_neg (by simp)]
      unfold rdO
      rw [show ((s.newD (n0 + i) 1).met0).objs (n0 + i) = (s.newD (n0 + i) 1).objs (n0 + i) from rfl, ho]
      dsimp only
      unfold readT
      rw [if_neg (by omega)]
      dsimp only
      have e1 : Int.toNat 1048576 = 1048576 := rfl
      rw [e1, List.take_of_length_le (by omega), if_pos (by omega)]
    rw [hr]
    refine ⟨x, rfl, rfl, rfl, ?_⟩
    have hd2 : (((s.newD (n0 + i) 1).met0).setO (n0 + i) (.term r [])).desc s.next = some ⟨s.next, n0 + i, 1, 0, 1⟩ := hd
    have ho2 : ((((s.newD (n0 + i) 1).met0).setO (n0 + i) (.term r [])).delD s.next).objs (n0 + i) = .term r [] := objs_setO_same _ _ _
    unfold drop
    rw [if_neg (fun e => e (find_of hd2 (by kernel_rfl))), hd2]
    dsimp only
    rw [if_pos rfl]
    unfold leave
    dsimp only
    rw [ho2]
    refine ⟨⟨?_, h.tn, h.mem, fun j hj hij => ?_⟩, rfl, ?_⟩
    · show ((s.descs ++ [_]).filter _) = []
      rw [h.ds]
      simp
    · show (((s.newD (n0 + i) 1).met0).setO (n0 + i) (.term r [])).objs (n0 + j) = _
      rw [objs_setO_ne _ _ (by omega)]
      exact h.ob j hj (by omega)
    · show s.ps.drop 1 = []
      rw [hps]; rfl

end AK
end Go.Proofs.YtkjmlbplmffekaaGreat
