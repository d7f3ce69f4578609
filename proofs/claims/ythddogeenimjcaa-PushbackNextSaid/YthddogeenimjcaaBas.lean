/-
  Copies of bytes, and whether they are the same: contracts. Conditions: as each says.
-/
import Derived.Test.YthddogeenimjcaaLX
namespace Go.Proofs.Ythddogeenimjcaa
open Go.Lw

/-- A copy of some bytes, in new memory; nil of nil. -/
def Cloned (w : World) (a : Option Addr) (bs : List Int) (a' : Option Addr) (c' : Nat) (w' : World) : Prop :=
  OB w' a' bs.length c' bs ∧ Kept No w w' ∧ Fresh w a' ∧ (a' = none ↔ a = none)

theorem clone_ok {w : World} {a : Option Addr} {l c : Nat} {bs : List Int} (h : RdB w a l c bs) (hl : l ≤ 140737488355328) :
    CallR Try.prog 38 [.slice a l c] w fun v w' => ∃ a' c', v = .slice a' l c' ∧ Cloned w a bs a' c' w' := by
  refine C38 ?_
  unfold L38
  have hlen := h.len
  refine condI (fun hn => ?_) (fun hn => ?_)
  · have ha : a = none := by simpa using hn
    obtain ⟨h1, _, h3⟩ := RdS.isNone h ha
    have : bs = [] := List.eq_nil_of_length_eq_zero (by omega)
    subst this h1 ha
    exact ⟨none, 0, rfl, OB.nil w, Kept.refl _ _, Fresh.none w, by simp⟩
  · intro w1
    have hk1 : Kept No w w1 := Kept.alloc _ w _
    have hs0 : SlO 1 w1 (some ⟨w.heap.size, 0, none⟩) 0 0 (By []) := SlO.of_blk (Blk.alloc w #[] _) (by simp)
    obtain ⟨a', c', w2, hrun, hs, hk, hat, hnn⟩ := run_app_sl (P := Try.prog) (t := 22) (t2 := 22) (ty := 22) (by kernel_rfl : slTyB Try.prog 22 1 1 = true) (by kernel_rfl) hs0 (RdB.keep h hk1 (fun _ _ _ e => e)) (By_one bs) (by omega) (by omega)
    simp only [Nat.zero_add] at hrun hs
    refine ⟨a', l, c', w2, hrun, a', c', rfl, ?_, ?_, ?_, ?_⟩
    · rw [hlen]; exact hs
    · exact hk1.trans hk (fun b hb hin => by rw [inA_some] at hin; subst hin; omega)
    · exact hat.fresh (fun b hb => by rw [inA_some] at hb; omega) (by exact hk1.size)
    · constructor
      · intro e; exact absurd (hnn e).1 (by simp)
      · intro e; subst e; simp at hn

/-! ## Plain words -/

theorem notT {b : Bool} (h : (!b) = true) : b = false := by cases b <;> first | rfl | cases h
theorem notF {b : Bool} (h : (!b) = false) : b = true := by cases b <;> first | rfl | cases h

def ix (vs : List Value) : Nat := match vs with
  | .int _ n :: _ => n.toNat
  | _ => 0

theorem same_ok {w : World} {a : Option Addr} {l c : Nat} {xs : List Int} (h : RdB w a l c xs) {a2 : Option Addr} {l2 c2 : Nat} {ys : List Int} (h2 : RdB w a2 l2 c2 ys) (hl : l ≤ 140737488355328) :
    CallR Try.prog 16 [.slice a l c, .slice a2 l2 c2] w fun v w' => v = .bool (decide (xs = ys)) ∧ Kept No w w' ∧ w'.heap = w.heap := by
  refine C16 ?_
  unfold L16
  have hlen := h.len
  have hlen2 := h2.len
  refine condI (fun hne => ⟨?_, Kept.refl _ _, rfl⟩) (fun heq => ?_)
  · have : xs ≠ ys := by rintro rfl; simp at hne; omega
    simp [this]
  · have hll : l = l2 := by simp at heq; omega
    refine ⟨fun vs w' => (Kept No w w' ∧ w'.heap = w.heap) ∧ ∃ n : Nat, vs = [.int .i64 (n : Int)] ∧ n ≤ l ∧ xs.take n = ys.take n, fun vs _ => l - ix vs, ⟨⟨Kept.refl _ _, rfl⟩, 0, rfl, Nat.zero_le _, by simp⟩, fun _ n4 w1 hI => ?_⟩
    obtain ⟨⟨hk, hh⟩, n, hv, hn, htk⟩ := hI
    simp only [List.cons.injEq, Value.int.injEq, true_and, and_true] at hv
    subst hv
    refine condP (fun hlt => ?_) (fun hge => ?_)
    · have hx : n < xs.length := by omega
      have hy : n < ys.length := by omega
      obtain ⟨q, ha, hg⟩ := (h.keep hk (fun _ _ _ e => e)).get hx
      obtain ⟨q2, ha2, hg2⟩ := (h2.keep hk (fun _ _ _ e => e)).get hy
      subst ha ha2
      refine ⟨⟨by omega, hlt⟩, _, by simpa using hg, ⟨by omega, by omega⟩, _, by simpa using hg2, fun nd => ?_⟩
      refine condI (fun hne => ⟨?_, hk.trans (Kept.drewN No _ _) (fun _ _ h => h), hh⟩) (fun he => ⟨by unfold inI; omega, ⟨⟨hk.trans (Kept.drewN No _ _) (fun _ _ h => h), hh⟩, n + 1, by simp, by omega, ?_⟩, ?_⟩)
      · have : xs ≠ ys := by rintro rfl; simp at hne
        simp [this]
      · rw [List.take_add_one, List.take_add_one, htk, List.getElem?_eq_getElem hx, List.getElem?_eq_getElem hy]
        simp at he; rw [he]
      · simp only [ix]; omega
    · have : n = l := by omega
      subst this
      rw [List.take_of_length_le (by omega), List.take_of_length_le (by omega)] at htk
      exact ⟨by simp [htk], hk, hh⟩

theorem copyb_ok {w : World} {a : Option Addr} {l c : Nat} {bs : List Int} (h : RdB w a l c bs) (hl : l ≤ 140737488355328) :
    CallR Try.prog 18 [.slice a l c] w fun v w' => ∃ a' c', v = .slice a' l c' ∧ OB w' a' l c' bs ∧ Kept No w w' ∧ Fresh w a' := by
  refine C18 ?_
  unfold L18
  obtain ⟨a', c', w2, hrun, hs, hk, hat, hnn⟩ := run_app_sl (P := Try.prog) (t := 22) (t2 := 22) (ty := 22) (by kernel_rfl : slTyB Try.prog 22 1 1 = true) (by kernel_rfl) (SlO.nil 1 w) h (By_one bs) (by omega) (by omega)
  simp only [Nat.zero_add, List.nil_append] at hrun hs
  exact ⟨a', l, c', w2, hrun, a', c', rfl, hs, hk.mono (fun b _ hb => inA_none b hb), hat.fresh (Fresh.none w) (Nat.le_refl _)⟩

/-- What Spoil makes of bytes. -/
def spoil (bs : List Int) : List Int := bs.map fun n => IntKind.wrap .u8 ↑(BitVec.ofInt (IntKind.bits .u8) n ^^^ BitVec.ofInt (IntKind.bits .u8) 85).toNat

theorem spoil_ok {w : World} {a : Option Addr} {l c : Nat} {bs : List Int} (h : OB w a l c bs) (hl : l ≤ 140737488355328) :
    CallR Try.prog 19 [.slice a l c] w fun v w' => v = .tuple #[] ∧ OB w' a l c (spoil bs) ∧ Kept (inA a) w w' := by
  refine C19 ?_
  unfold L19
  have hlen := h.len
  refine ⟨fun vs w' => ∃ n : Nat, vs = [.int .i64 (n : Int)] ∧ n ≤ l ∧ OB w' a l c ((spoil bs).take n ++ bs.drop n) ∧ Kept (inA a) w w', fun vs _ => l - ix vs, ⟨0, rfl, Nat.zero_le _, by simpa using h, Kept.refl _ _⟩, fun _ n4 w1 hI => ?_⟩
  obtain ⟨n, hv, hn, ho, hk⟩ := hI
  simp only [List.cons.injEq, Value.int.injEq, true_and, and_true] at hv
  subst hv
  have hsl : (spoil bs).length = l := by simp [spoil, hlen]
  refine condP (fun hlt => ?_) (fun hge => ?_)
  · have hn' : n < bs.length := by omega
    have hsn : n < (spoil bs).length := by omega
    have htl : ((spoil bs).take n).length = n := by rw [List.length_take]; omega
    have hnl : n < ((spoil bs).take n ++ bs.drop n).length := by simp; omega
    obtain ⟨q, ha, hg⟩ := ho.rd.get hnl
    subst ha
    have hget : ((spoil bs).take n ++ bs.drop n)[n] = bs[n] := by
      rw [List.getElem_append_right (by omega)]
      simp [htl]
    rw [hget] at hg
    refine ⟨⟨by omega, hlt⟩, _, by simpa using hg, ⟨by omega, hlt⟩, ?_⟩
    refine nnI (stC_slo (j := n) ho rfl (by omega) fun w' ho' hk' hsz => ⟨by unfold inI; omega, ⟨n + 1, by simp, by omega, ?_, hk.trans hk' (fun _ _ h => h)⟩, by simp only [ix]; omega⟩)
    rw [By_set] at ho'
    have he : ((spoil bs).take n ++ bs.drop n).set n (IntKind.wrap .u8 ↑(BitVec.ofInt (IntKind.bits .u8) bs[n] ^^^ BitVec.ofInt (IntKind.bits .u8) 85).toNat) = (spoil bs).take (n + 1) ++ bs.drop (n + 1) := by
      rw [List.set_append_right _ _ (by omega), htl, Nat.sub_self, List.drop_eq_getElem_cons hn', List.set_cons_zero, List.take_add_one, List.getElem?_eq_getElem hsn]
      simp [spoil]
    rw [he] at ho'
    exact ho'
  · have : n = l := by omega
    subst this
    rw [List.take_of_length_le (by omega), List.drop_of_length_le (by omega), List.append_nil] at ho
    exact ⟨rfl, ho, hk⟩

theorem rd_alloc (w : World) (bs : List Int) (e : TypeId) : RdB (w.alloc (.cells (By bs).toArray e)) (some ⟨w.heap.size, 0, none⟩) bs.length bs.length bs := by
  have := (SlO.of_blk (sz := 1) (n := bs.length) (Blk.alloc w (By bs).toArray e) (by simp)).rd
  simpa [RdB] using this

theorem tyB : ∃ e i, SlTy Try.prog 22 e i (.int .u8 0) 1 1 := slTyZ (by kernel_rfl) (by kernel_rfl)

abbrev pt (b : Nat) : Value := .pointer (some ⟨b, 0, none⟩)

theorem ext_getD {a b : List Int} (hl : a.length = b.length) (h : ∀ k, k < a.length → a.getD k 0 = b.getD k 0) : a = b := by
  apply List.ext_getElem hl
  intro i h1 h2
  have := h i h1
  simpa [List.getD, h1, h2] using this

end Go.Proofs.Ythddogeenimjcaa
