/-
  Memory in which every cell keeps its kind: what is owned stays owned, whatever is written into it of the same kind. Conditions: as each says.
-/
import Derived.Test.YtpoaacnnhgebfaaGreatKeC
set_option linter.unusedVariables false
namespace Go.Proofs.YtpoaacnnhgebfaaGreat
open Go.Lw

def Alk (v v' : Value) : Prop := v' = v ∨ (∃ s s', v = .string s ∧ v' = .string s') ∨ (∃ k n n', v = .int k n ∧ v' = .int k n')

theorem Alk.refl (v : Value) : Alk v v := .inl rfl
theorem Alk.trans {a b c : Value} (h : Alk a b) (k : Alk b c) : Alk a c := by
  rcases h with rfl | ⟨s, s', rfl, rfl⟩ | ⟨t, n, n', rfl, rfl⟩
  · exact k
  · rcases k with rfl | ⟨u, u', e, rfl⟩ | ⟨t, n, n', e, _⟩
    · exact .inr (.inl ⟨_, _, rfl, rfl⟩)
    · exact .inr (.inl ⟨_, _, rfl, rfl⟩)
    · cases e
  · rcases k with rfl | ⟨u, u', e, _⟩ | ⟨t', m, m', e, rfl⟩
    · exact .inr (.inr ⟨_, _, _, rfl, rfl⟩)
    · cases e
    · cases e; exact .inr (.inr ⟨_, _, _, rfl, rfl⟩)
theorem Alk.sl {a : Option Addr} {l c : Nat} {v' : Value} (h : Alk (.slice a l c) v') : v' = .slice a l c := by
  rcases h with rfl | ⟨s, s', e, _⟩ | ⟨t, n, n', e, _⟩
  · rfl
  · cases e
  · cases e
theorem Alk.int {k : IntKind} {n : Int} {v' : Value} (h : Alk (.int k n) v') : ∃ m, v' = .int k m := by
  rcases h with rfl | ⟨s, s', e, _⟩ | ⟨t, n, n', e, rfl⟩
  · exact ⟨_, rfl⟩
  · cases e
  · cases e; exact ⟨_, rfl⟩
theorem Alk.str {s : ByteArray} {v' : Value} (h : Alk (.string s) v') : ∃ t, v' = .string t := by
  rcases h with rfl | ⟨s, s', e, rfl⟩ | ⟨t, n, n', e, _⟩
  · exact ⟨_, rfl⟩
  · exact ⟨_, rfl⟩
  · cases e

/-- Nothing but blocks of S turned, and these keep their kinds. -/
structure Sk (S : Nat → Prop) (w w' : World) : Prop where
  kept : Kept S w w'
  alike : ∀ g cur, Blk w g cur → ∃ cur', Blk w' g cur' ∧ cur'.size = cur.size ∧ ∀ (i : Nat) (v : Value), cur[i]? = some v → ∃ v', cur'[i]? = some v' ∧ Alk v v'

theorem Sk.of_no {S : Nat → Prop} {w w' : World} (k : Kept No w w') : Sk S w w' :=
  ⟨k.mono fun _ _ e => e.elim, fun g cur h => ⟨cur, h.keep k fun e => e, rfl, fun i v hv => ⟨v, hv, .refl v⟩⟩⟩
theorem Sk.refl {S : Nat → Prop} (w : World) : Sk S w w := .of_no (Kept.refl _ _)
theorem Sk.trans {S : Nat → Prop} {w w1 w2 : World} (h : Sk S w w1) (k : Sk S w1 w2) : Sk S w w2 :=
  ⟨h.kept.trans k.kept fun _ _ e => e, fun g cur hb => by
    obtain ⟨c1, h1, z1, a1⟩ := h.alike g cur hb
    obtain ⟨c2, h2, z2, a2⟩ := k.alike g c1 h1
    refine ⟨c2, h2, z2.trans z1, fun i v hv => ?_⟩
    obtain ⟨v1, e1, k1⟩ := a1 i v hv
    obtain ⟨v2, e2, k2⟩ := a2 i v1 e1
    exact ⟨v2, e2, k1.trans k2⟩⟩

theorem Blk.uniq {w : World} {g : Nat} {c1 c2 : Array Value} (h : Blk w g c1) (k : Blk w g c2) : c1 = c2 := by
  obtain ⟨e1, h⟩ := h
  obtain ⟨e2, k⟩ := k
  rw [h] at k
  cases k; rfl

theorem Sk.store {S : Nat → Prop} {w : World} {g i : Nat} {cur : Array Value} {v0 v : Value} {K : World → Prop} (h : Blk w g cur) (hv : cur[i]? = some v0) (ha : Alk v0 v) (hS : S g)
    (hk : ∀ w', Sk S w w' → w'.heap.size = w.heap.size → K w') : stC ⟨g, i, none⟩ v w K := by
  have hi : i < cur.size := (Array.getElem?_eq_some_iff.1 hv).1
  refine stC_blk h hi fun w' hb' hk' hz => hk w' ⟨hk'.mono fun b _ e => by rw [e]; exact hS, fun g2 cur2 h2 => ?_⟩ hz
  by_cases e : g2 = g
  · subst e
    obtain rfl := h2.uniq h
    refine ⟨_, hb', by simp, fun j u hj => ?_⟩
    by_cases e2 : i = j
    · subst e2
      rw [hv] at hj
      cases hj
      exact ⟨v, by simp [hi], ha⟩
    · exact ⟨u, by rw [Array.getElem?_setIfInBounds_ne e2]; exact hj, .refl u⟩
  · exact ⟨cur2, h2.keep hk' e, rfl, fun j u hj => ⟨u, hj, .refl u⟩⟩

theorem Sk.slo {S : Nat → Prop} {w w' : World} {sz : Nat} {a : Option Addr} {l c : Nat} {xs : List Value} (h : SlO sz w a l c xs) (k : Sk S w w') :
    ∃ xs', SlO sz w' a l c xs' ∧ ∀ (i : Nat) (v : Value), xs[i]? = some v → ∃ v', xs'[i]? = some v' ∧ Alk v v' := by
  rcases h.2 with ⟨rfl, rfl, rfl⟩ | ⟨g, off, cur, rfl, hb, hlc, hcs, htk⟩
  · exact ⟨xs, ⟨h.1, .inl ⟨rfl, rfl, rfl⟩⟩, fun i v hv => ⟨v, hv, .refl v⟩⟩
  · obtain ⟨cur', hb', hz, ha⟩ := k.alike g cur hb
    have hlcs : l * sz ≤ c * sz := Nat.mul_le_mul_right _ hlc
    refine ⟨(cur'.toList.drop off).take (l * sz), ⟨?_, .inr ⟨g, off, cur', rfl, hb', hlc, by omega, rfl⟩⟩, fun i v hv => ?_⟩
    · rw [List.length_take, List.length_drop, Array.length_toList]; omega
    · rw [← htk, List.getElem?_take] at hv
      by_cases hi : i < l * sz
      · rw [if_pos hi, List.getElem?_drop, Array.getElem?_toList] at hv
        obtain ⟨v', e, k⟩ := ha _ v hv
        exact ⟨v', by rw [List.getElem?_take, if_pos hi, List.getElem?_drop, Array.getElem?_toList]; exact e, k⟩
      · rw [if_neg hi] at hv; cases hv

theorem Sk.st {S : Nat → Prop} {w : World} {sz : Nat} {a : Option Addr} {l c : Nat} {xs : List Value} (h : SlO sz w a l c xs) {q : Addr} (hq : a = some q) {j : Nat} {v0 v : Value} (hv : xs[j]? = some v0) (ha : Alk v0 v) (hS : ∀ b, inA a b → S b) {K : World → Prop}
    (hk : ∀ w', Sk S w w' → w'.heap.size = w.heap.size → K w') : stC (q.add j) v w K := by
  rcases h.2 with ⟨rfl, rfl, rfl⟩ | ⟨g, off, cur, rfl, hb, hlc, hcs, htk⟩
  · cases hq
  · cases hq
    rw [add_none]
    rw [← htk, List.getElem?_take] at hv
    by_cases hi : j < l * sz
    · rw [if_pos hi, List.getElem?_drop, Array.getElem?_toList] at hv
      exact Sk.store hb hv ha (hS g ((inA_some _ _ _ _).2 rfl)) hk
    · rw [if_neg hi] at hv; cases hv

theorem Sk.cellAt {w : World} {sz : Nat} {a : Option Addr} {l c : Nat} {xs : List Value} (h : SlO sz w a l c xs) {q : Addr} (hq : a = some q) {j : Nat} {v : Value} (hv : xs[j]? = some v) : w.cell? (q.add j) = some v := h.rd.2.2.2 q hq j v hv

theorem Sk.ob {S : Nat → Prop} {w w' : World} {a : Option Addr} {l c : Nat} {bs : List Int} (h : OB w a l c bs) (k : Sk S w w') : ∃ bs', OB w' a l c bs' := by
  obtain ⟨xs, hx, ha⟩ := Sk.slo h k
  have hl : xs.length = l := by have := hx.1; simpa using this
  have hbl := h.len
  refine ⟨xs.map fun v => match v with | .int _ n => n | _ => 0, ?_⟩
  have : By (xs.map fun v => match v with | .int _ n => n | _ => 0) = xs := by
    apply List.ext_getElem?
    intro i
    unfold By
    rw [List.map_map, List.getElem?_map]
    by_cases hi : i < l
    · obtain ⟨v', e, kk⟩ := ha i (.int .u8 bs[i]) (by unfold By; rw [List.getElem?_map, List.getElem?_eq_getElem (by omega)]; rfl)
      obtain ⟨m, rfl⟩ := kk.int
      rw [e]; rfl
    · rw [List.getElem?_eq_none (by omega)]; rfl
  show SlO 1 w' a l c (By _)
  rw [this]; exact hx

theorem spoilSk_ok {S : Nat → Prop} {w : World} {a : Option Addr} {l c : Nat} {bs : List Int} (h : OB w a l c bs) (hS : ∀ b, inA a b → S b) (hbd : l ≤ 140737488355328) :
    CallR Tryz.prog 45 [.slice a l c] w fun v w' => v = .tuple #[] ∧ Sk S w w' := by
  refine C45 ?_
  unfold L45
  refine ⟨fun vs w' => ∃ n : Nat, vs = [.int .i64 (n : Int)] ∧ n ≤ l ∧ Sk S w w', fun vs _ => l - ix vs, ⟨0, rfl, Nat.zero_le _, .refl _⟩, ?_⟩
  rintro _ n4 w1 ⟨n, hv, hn, hk⟩
  simp only [List.cons.injEq, Value.int.injEq, true_and, and_true] at hv
  subst hv
  refine condP (fun hlt => ?_) (fun hge => ⟨rfl, hk⟩)
  obtain ⟨bs', ho⟩ := Sk.ob h hk
  have hbl := ho.len
  obtain ⟨q, haq⟩ : ∃ q, a = some q := by
    cases ha : a with
    | none => subst ha; have := RdS.isNone ho.rd rfl; omega
    | some q => exact ⟨q, rfl⟩
  have hx : (By bs')[n]? = some (.int .u8 bs'[n]) := by unfold By; rw [List.getElem?_map, List.getElem?_eq_getElem (by omega)]; rfl
  have e0 : Int.toNat (n : Int) = n := Int.toNat_natCast n
  rw [e0]
  refine ⟨⟨by omega, by omega⟩, nnE2 haq ⟨_, Sk.cellAt ho haq hx, ⟨by omega, by omega⟩, nnE2 haq (Sk.st ho haq hx (.inr (.inr ⟨_, _, _, rfl, rfl⟩)) hS fun w2 hk2 _ => ⟨⟨by omega, by omega⟩, ⟨n + 1, rfl, by omega, hk.trans hk2⟩, by simp only [ix]; omega⟩)⟩⟩

end Go.Proofs.YtpoaacnnhgebfaaGreat
