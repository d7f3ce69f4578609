/-
  What the file layer's functions do: contracts. Conditions: as each says.
-/
import Derived.Test.YtapnpbfbebdjjaaLA
namespace Go.Proofs.Ytapnpbfbebdjjaa
open Go.Lw

/-- A copy of some bytes, in new memory; nil of nil. -/
def Cloned (w : World) (a : Option Addr) (bs : List Int) (a' : Option Addr) (c' : Nat) (w' : World) : Prop :=
  OB w' a' bs.length c' bs ∧ Kept No w w' ∧ Fresh w a' ∧ (a' = none ↔ a = none)

theorem clone_ok {w : World} {a : Option Addr} {l c : Nat} {bs : List Int} (h : RdB w a l c bs) (hl : l ≤ 140737488355328) :
    CallR Try.prog 54 [.slice a l c] w fun v w' => ∃ a' c', v = .slice a' l c' ∧ Cloned w a bs a' c' w' := by
  refine C54 ?_
  unfold L54
  have hlen := h.len
  refine condI (fun hn => ?_) (fun hn => ?_)
  · have ha : a = none := by simpa using hn
    obtain ⟨h1, _, h3⟩ := RdS.isNone h ha
    have : bs = [] := List.eq_nil_of_length_eq_zero (by omega)
    subst this h1 ha
    exact ⟨none, 0, rfl, OB.nil w, Kept.refl _ _, Fresh.none w, by simp⟩
  · intro w1
    have hk1 : Kept No w w1 := Kept.alloc _ w _
    have hs0 : SlO 1 w1 (some ⟨w.heap.size, 0, none⟩) 0 0 (By []) := SlO.of_blk (Blk.alloc w #[] _) (by simp)
    obtain ⟨a', c', w2, hrun, hs, hk, hat, hnn⟩ := run_app_sl (P := Try.prog) (t := 22) (t2 := 22) (ty := 22) (by kernel_rfl : slTyB Try.prog 22 1 1 = true) (by kernel_rfl) hs0 (RdB.keep h hk1 (fun _ _ _ e => e)) (By_one bs) (by omega) (by omega)
    simp only [Nat.zero_add] at hrun hs
    refine ⟨a', l, c', w2, hrun, a', c', rfl, ?_, ?_, ?_, ?_⟩
    · rw [hlen]; exact hs
    · exact hk1.trans hk (fun b hb hin => by rw [inA_some] at hin; subst hin; omega)
    · exact hat.fresh (fun b hb => by rw [inA_some] at hb; omega) (by exact hk1.size)
    · constructor
      · intro e; exact absurd (hnn e).1 (by simp)
      · intro e; subst e; simp at hn

/-! ## Plain words -/

theorem notT {b : Bool} (h : (!b) = true) : b = false := by cases b <;> first | rfl | cases h
theorem notF {b : Bool} (h : (!b) = false) : b = true := by cases b <;> first | rfl | cases h

def ix (vs : List Value) : Nat := match vs with
  | .int _ n :: _ => n.toNat
  | _ => 0

def okN (n : Int) : Bool := decide (0 ≤ n ∧ n ≤ 1048576)

theorem within_ok {w : World} {a : Option Addr} {l c : Nat} {ns : List Int} (h : RdS 1 w a l c (In ns)) (hl : l ≤ 140737488355328) :
    CallR Try.prog 55 [.slice a l c] w fun v w' => v = .bool (ns.all okN) ∧ w' = w := by
  refine C55 ?_
  unfold L55
  have hlen : ns.length = l := by have := h.1; simpa using this
  refine ⟨fun vs w' => w' = w ∧ ∃ n : Nat, vs = [.int .i64 (n : Int)] ∧ n ≤ ns.length ∧ (ns.take n).all okN = true, fun vs _ => l - ix vs, ⟨rfl, 0, rfl, Nat.zero_le _, by simp⟩, fun _ n4 w1 hI => ?_⟩
  obtain ⟨rfl, n, hv, hn, hall⟩ := hI
  simp only [List.cons.injEq, Value.int.injEq, true_and, and_true] at hv
  subst hv
  refine condP (fun hlt => ?_) (fun hge => ?_)
  · have hlt' : n < ns.length := by omega
    refine ⟨⟨by omega, hlt⟩, ?_⟩
    cases a with
    | none => obtain ⟨h1, _, _⟩ := RdS.isNone h rfl; omega
    | some q =>
      have hg := h.2.2.2 q rfl n _ (In_get ns n hlt')
      refine ⟨_, by simpa using hg, ?_⟩
      have hsplit : ns.all okN = ((ns.take n).all okN && (okN ns[n] && (ns.drop (n + 1)).all okN)) := by
        rw [← List.all_cons, ← List.drop_eq_getElem_cons hlt', ← List.all_append, List.take_append_drop]
      refine condP (fun hneg => ⟨?_, rfl⟩) (fun hneg => condP (fun hbig => ⟨?_, rfl⟩) (fun hbig => ⟨by unfold inI; omega, ⟨rfl, n + 1, by simp, by omega, ?_⟩, ?_⟩))
      · rw [hsplit]; have : okN ns[n] = false := by unfold okN; simp; omega
        simp [this]
      · rw [hsplit]; have : okN ns[n] = false := by unfold okN; simp; omega
        simp [this]
      · rw [List.take_add_one]; simp only [List.getElem?_eq_getElem hlt', Option.toList_some, List.all_append, hall, Bool.true_and]
        have : okN ns[n] = true := by unfold okN; simp; omega
        simp [this]
      · simp only [ix]; omega
  · have : n = ns.length := by omega
    subst this
    rw [List.take_length] at hall
    exact ⟨by rw [hall], rfl⟩

theorem same_ok {w : World} {a : Option Addr} {l c : Nat} {xs : List Int} (h : RdB w a l c xs) {a2 : Option Addr} {l2 c2 : Nat} {ys : List Int} (h2 : RdB w a2 l2 c2 ys) (hl : l ≤ 140737488355328) :
    CallR Try.prog 20 [.slice a l c, .slice a2 l2 c2] w fun v w' => v = .bool (decide (xs = ys)) ∧ Kept No w w' ∧ w'.heap = w.heap := by
  refine C20 ?_
  unfold L20
  have hlen := h.len
  have hlen2 := h2.len
  refine condI (fun hne => ⟨?_, Kept.refl _ _, rfl⟩) (fun heq => ?_)
  · have : xs ≠ ys := by rintro rfl; simp at hne; omega
    simp [this]
  · have hll : l = l2 := by simp at heq; omega
    refine ⟨fun vs w' => (Kept No w w' ∧ w'.heap = w.heap) ∧ ∃ n : Nat, vs = [.int .i64 (n : Int)] ∧ n ≤ l ∧ xs.take n = ys.take n, fun vs _ => l - ix vs, ⟨⟨Kept.refl _ _, rfl⟩, 0, rfl, Nat.zero_le _, by simp⟩, fun _ n4 w1 hI => ?_⟩
    obtain ⟨⟨hk, hh⟩, n, hv, hn, htk⟩ := hI
    simp only [List.cons.injEq, Value.int.injEq, true_and, and_true] at hv
    subst hv
    refine condP (fun hlt => ?_) (fun hge => ?_)
    · have hx : n < xs.length := by omega
      have hy : n < ys.length := by omega
      obtain ⟨q, ha, hg⟩ := (h.keep hk (fun _ _ _ e => e)).get hx
      obtain ⟨q2, ha2, hg2⟩ := (h2.keep hk (fun _ _ _ e => e)).get hy
      subst ha ha2
      refine ⟨⟨by omega, hlt⟩, _, by simpa using hg, ⟨by omega, by omega⟩, _, by simpa using hg2, fun nd => ?_⟩
      refine condI (fun hne => ⟨?_, hk.trans (Kept.drewN No _ _) (fun _ _ h => h), hh⟩) (fun he => ⟨by unfold inI; omega, ⟨⟨hk.trans (Kept.drewN No _ _) (fun _ _ h => h), hh⟩, n + 1, by simp, by omega, ?_⟩, ?_⟩)
      · have : xs ≠ ys := by rintro rfl; simp at hne
        simp [this]
      · rw [List.take_add_one, List.take_add_one, htk, List.getElem?_eq_getElem hx, List.getElem?_eq_getElem hy]
        simp at he; rw [he]
      · simp only [ix]; omega
    · have : n = l := by omega
      subst this
      rw [List.take_of_length_le (by omega), List.take_of_length_le (by omega)] at htk
      exact ⟨by simp [htk], hk, hh⟩

theorem copyb_ok {w : World} {a : Option Addr} {l c : Nat} {bs : List Int} (h : RdB w a l c bs) (hl : l ≤ 140737488355328) :
    CallR Try.prog 36 [.slice a l c] w fun v w' => ∃ a' c', v = .slice a' l c' ∧ OB w' a' l c' bs ∧ Kept No w w' ∧ Fresh w a' := by
  refine C36 ?_
  unfold L36
  obtain ⟨a', c', w2, hrun, hs, hk, hat, hnn⟩ := run_app_sl (P := Try.prog) (t := 22) (t2 := 22) (ty := 22) (by kernel_rfl : slTyB Try.prog 22 1 1 = true) (by kernel_rfl) (SlO.nil 1 w) h (By_one bs) (by omega) (by omega)
  simp only [Nat.zero_add, List.nil_append] at hrun hs
  exact ⟨a', l, c', w2, hrun, a', c', rfl, hs, hk.mono (fun b _ hb => inA_none b hb), hat.fresh (Fresh.none w) (Nat.le_refl _)⟩

/-- What Spoil makes of bytes. -/
def spoil (bs : List Int) : List Int := bs.map fun n => IntKind.wrap .u8 ↑(BitVec.ofInt (IntKind.bits .u8) n ^^^ BitVec.ofInt (IntKind.bits .u8) 85).toNat

theorem spoil_ok {w : World} {a : Option Addr} {l c : Nat} {bs : List Int} (h : OB w a l c bs) (hl : l ≤ 140737488355328) :
    CallR Try.prog 40 [.slice a l c] w fun v w' => v = .tuple #[] ∧ OB w' a l c (spoil bs) ∧ Kept (inA a) w w' := by
  refine C40 ?_
  unfold L40
  have hlen := h.len
  refine ⟨fun vs w' => ∃ n : Nat, vs = [.int .i64 (n : Int)] ∧ n ≤ l ∧ OB w' a l c ((spoil bs).take n ++ bs.drop n) ∧ Kept (inA a) w w', fun vs _ => l - ix vs, ⟨0, rfl, Nat.zero_le _, by simpa using h, Kept.refl _ _⟩, fun _ n4 w1 hI => ?_⟩
  obtain ⟨n, hv, hn, ho, hk⟩ := hI
  simp only [List.cons.injEq, Value.int.injEq, true_and, and_true] at hv
  subst hv
  have hsl : (spoil bs).length = l := by simp [spoil, hlen]
  refine condP (fun hlt => ?_) (fun hge => ?_)
  · have hn' : n < bs.length := by omega
    have hsn : n < (spoil bs).length := by omega
    have htl : ((spoil bs).take n).length = n := by rw [List.length_take]; omega
    have hnl : n < ((spoil bs).take n ++ bs.drop n).length := by simp; omega
    obtain ⟨q, ha, hg⟩ := ho.rd.get hnl
    subst ha
    have hget : ((spoil bs).take n ++ bs.drop n)[n] = bs[n] := by
      rw [List.getElem_append_right (by omega)]
      simp [htl]
    rw [hget] at hg
    refine ⟨⟨by omega, hlt⟩, _, by simpa using hg, ⟨by omega, hlt⟩, ?_⟩
    refine nnI (stC_slo (j := n) ho rfl (by omega) fun w' ho' hk' hsz => ⟨by unfold inI; omega, ⟨n + 1, by simp, by omega, ?_, hk.trans hk' (fun _ _ h => h)⟩, by simp only [ix]; omega⟩)
    rw [By_set] at ho'
    have he : ((spoil bs).take n ++ bs.drop n).set n (IntKind.wrap .u8 ↑(BitVec.ofInt (IntKind.bits .u8) bs[n] ^^^ BitVec.ofInt (IntKind.bits .u8) 85).toNat) = (spoil bs).take (n + 1) ++ bs.drop (n + 1) := by
      rw [List.set_append_right _ _ (by omega), htl, Nat.sub_self, List.drop_eq_getElem_cons hn', List.set_cons_zero, List.take_add_one, List.getElem?_eq_getElem hsn]
      simp [spoil]
    rw [he] at ho'
    exact ho'
  · have : n = l := by omega
    subst this
    rw [List.take_of_length_le (by omega), List.drop_of_length_le (by omega), List.append_nil] at ho
    exact ⟨rfl, ho, hk⟩

end Go.Proofs.Ytapnpbfbebdjjaa
