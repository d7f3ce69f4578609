/-
  Part 7 of 7 of the proof of FdtablePlays (the last part has its theorem): the program's functions as they are read, what each does, the law. Conditions: as each says; the theorem's: none.
-/
import Derived.Test.YtpoaacnnhgebfaaGreatRows
import Derived.JoinedOf
import Derived.WalkKit
import Derived.Deep.Quiet
import Derived.OrdersHeld
import Derived.ProofKit
import Derived.SizedLaws
import Derived.Carry
import Derived.OpenShut
import Derived.ChangeSame
import Derived.ChangeArms
import Derived.Deep.Slices
import Derived.Laws.BytesArg
import Derived.Lib.SlBytesConst
import Derived.Test.YtpoaacnnhgebfaaGreatProg
import Derived.RangeFuncIn
import Derived.RangeFuncLeaves
import Derived.RangeFuncRecord
import Derived.TacticsIn
import Derived.MapKept
import Derived.Laws.RangeAny
import Derived.Lib.OthersKept
import Derived.FollowTie
import Derived.Test.YtpoaacnnhgebfaaGreatChecked
import Derived.Shelf.Sort.AssemblysIn
import Derived.Sort.EveryDepth
import Derived.Maps.RangeRun
import Derived.Sort.KeysCollected
import Derived.Sort.OwnSorted
import Derived.Laws.StructEq
import Derived.LaidEql
import Derived.Test.YtpoaacnnhgebfaaGreatKFdtablePlays6
set_option linter.unusedVariables false
set_option maxRecDepth 512
namespace Go.Proofs.YtpoaacnnhgebfaaGreat
open Go.Lw
structure SV where
  what : Int
  nm : ByteArray
  a : Int
  b : Int
  c : Int
  sl : Slc
  bs : List Int
instance : Inhabited SV := ⟨⟨0, ByteArray.mk #[], 0, 0, 0, (none, 0, 0), []⟩⟩
structure SVat (w : World) (q : Addr) (x : SV) : Prop where
  e0 : w.cell? q = some (.int .i64 x.what)
  e1 : w.cell? (q.add 1) = some (.string x.nm)
  e2 : w.cell? (q.add 2) = some (.int .i64 x.a)
  e3 : w.cell? (q.add 3) = some (.int .i64 x.b)
  e4 : w.cell? (q.add 4) = some (.int .i64 x.c)
  e5 : w.cell? (q.add 5) = some (.slice x.sl.1 x.sl.2.1 x.sl.2.2)
  rd : RdB w x.sl.1 x.sl.2.1 x.sl.2.2 x.bs
  le : x.sl.2.1 ≤ 140737488351232
theorem SVat.no {w w' : World} {q : Addr} {x : SV} (h : SVat w q x) (k : Kept No w w') : SVat w' q x :=
  ⟨k.cell h.e0 fun e => e, k.cell h.e1 fun e => e, k.cell h.e2 fun e => e, k.cell h.e3 fun e => e, k.cell h.e4 fun e => e, k.cell h.e5 fun e => e, h.rd.keep k fun _ _ _ e => e, h.le⟩
def StepsO (w : World) (a : Option Addr) (l : Nat) (xs : List SV) : Prop := xs.length = l ∧ ∀ i, (h : i < xs.length) → ∃ q, a = some q ∧ SVat w (q.add (i * 6)) xs[i]
theorem StepsO.no {w w' : World} {a : Option Addr} {l : Nat} {xs : List SV} (h : StepsO w a l xs) (k : Kept No w w') : StepsO w' a l xs :=
  ⟨h.1, fun i hi => by
    obtain ⟨q, hq, hs⟩ := h.2 i hi
    exact ⟨q, hq, hs.no k⟩⟩
theorem setup_of_view {W : World} {a1 : Option Addr} {l1 c1 : Nat} (h1 : l1 ≤ c1) (h2 : a1 = none → c1 = 0) (h3 : l1 * 40 ≤ 140737488351232)
    (h4 : ∀ q : Addr, a1 = some q → ∀ i : Nat, i < l1 → ∃ s : ByteArray, s.size ≤ 140737488351232 ∧ ∃ (a' : Option Addr) (l' c' : Nat) (ns : List Int), RdS 1 W a' l' c' (ns.map (Value.int .u8)) ∧ (∀ n ∈ ns, (Lit.int .u8 n).wf = true) ∧ l' * 1 ≤ 140737488351232 ∧ W.cell? (q.add (i * 2)) = some (.string s) ∧ W.cell? ((q.add (i * 2)).add 1) = some (.slice a' l' c') ∧ True)
    {a2 : Option Addr} {l2 c2 : Nat} (g1 : l2 ≤ c2) (g2 : a2 = none → c2 = 0) (g3 : l2 * 40 ≤ 140737488351232)
    (g4 : ∀ q : Addr, a2 = some q → ∀ i : Nat, i < l2 → ∃ s : ByteArray, s.size ≤ 140737488351232 ∧ ∃ (a' : Option Addr) (l' c' : Nat), l' ≤ c' ∧ (a' = none → c' = 0) ∧ l' * 24 ≤ 140737488351232 ∧
      (∀ q' : Addr, a' = some q' → ∀ j : Nat, j < l' → ∃ (a'' : Option Addr) (l'' c'' : Nat) (ns : List Int), RdS 1 W a'' l'' c'' (ns.map (Value.int .u8)) ∧ (∀ n ∈ ns, (Lit.int .u8 n).wf = true) ∧ l'' * 1 ≤ 140737488351232 ∧ W.cell? (q'.add (j * 1)) = some (.slice a'' l'' c'') ∧ True) ∧
      W.cell? (q.add (i * 2)) = some (.string s) ∧ W.cell? ((q.add (i * 2)).add 1) = some (.slice a' l' c') ∧ True)
    {a3 : Option Addr} {l3 c3 : Nat} (k1 : l3 ≤ c3) (k2 : a3 = none → c3 = 0) (k3 : l3 * 16 ≤ 140737488351232)
    (k4 : ∀ q : Addr, a3 = some q → ∀ i : Nat, i < l3 → ∃ n1, (Lit.int .i64 n1).wf = true ∧ ∃ n2, (Lit.int .i64 n2).wf = true ∧ W.cell? (q.add (i * 2)) = some (.int .i64 n1) ∧ W.cell? ((q.add (i * 2)).add 1) = some (.int .i64 n2) ∧ True) :
    ∃ fs ts ps, SetupO W fs ts ps a1 l1 c1 a2 l2 c2 a3 l3 c3 := by
  obtain ⟨fs, ef, hf, _, hfb⟩ := rdN_of (R := RB) (B := fun bs => bs.length ≤ 140737488355328) h1 h2 (fun q hq i hi => by
    obtain ⟨s, _, a', l', c', ns, r1, _, r2, r3, r4, _⟩ := h4 q hq i hi
    have r1 : RdB W a' l' c' ns := r1
    exact ⟨s, (a', l', c'), ns, r1, by have := r1.len; omega, r3, r4⟩)
  obtain ⟨ts, et, ht, _, htb⟩ := rdN_of (R := RL) (B := fun LL => LL.length * 24 ≤ 140737488355328) g1 g2 (fun q hq i hi => by
    obtain ⟨s, _, a', l', c', r1, r2, r3, r4, r5, r6, _⟩ := g4 q hq i hi
    obtain ⟨xss, e1, e2, _⟩ := rdL_of_view r1 r2 r4
    exact ⟨s, (a', l', c'), xss, ⟨e1.mono fun _ _ => trivial, fun x hx => by have := e2 x hx; omega⟩, by have := e1.len; omega, r5, r6⟩)
  obtain ⟨ps, hp, _⟩ := rdF_of_view k1 k2 k4
  exact ⟨fs, ts, ps, ⟨ef, hf⟩, ⟨et, ht⟩, hp, by omega, by omega, by omega, hfb, htb⟩
end Go.Proofs.YtpoaacnnhgebfaaGreat
namespace Go.Proofs.YtpoaacnnhgebfaaGreat
open Go.Lw
def Alk (v v' : Value) : Prop := v' = v ∨ (∃ s s', v = .string s ∧ v' = .string s') ∨ (∃ k n n', v = .int k n ∧ v' = .int k n')
theorem Alk.refl (v : Value) : Alk v v := .inl rfl
theorem Alk.trans {a b c : Value} (h : Alk a b) (k : Alk b c) : Alk a c := by
  rcases h with rfl | ⟨s, s', rfl, rfl⟩ | ⟨t, n, n', rfl, rfl⟩
  · exact k
  · rcases k with rfl | ⟨u, u', e, rfl⟩ | ⟨t, n, n', e, _⟩
    · exact .inr (.inl ⟨_, _, rfl, rfl⟩)
    · exact .inr (.inl ⟨_, _, rfl, rfl⟩)
    · cases e
  · rcases k with rfl | ⟨u, u', e, _⟩ | ⟨t', m, m', e, rfl⟩
    · exact .inr (.inr ⟨_, _, _, rfl, rfl⟩)
    · cases e
    · cases e; exact .inr (.inr ⟨_, _, _, rfl, rfl⟩)
theorem Alk.sl {a : Option Addr} {l c : Nat} {v' : Value} (h : Alk (.slice a l c) v') : v' = .slice a l c := by
  rcases h with rfl | ⟨s, s', e, _⟩ | ⟨t, n, n', e, _⟩
  · rfl
  · cases e
  · cases e
theorem Alk.int {k : IntKind} {n : Int} {v' : Value} (h : Alk (.int k n) v') : ∃ m, v' = .int k m := by
  rcases h with rfl | ⟨s, s', e, _⟩ | ⟨t, n, n', e, rfl⟩
  · exact ⟨_, rfl⟩
  · cases e
  · cases e; exact ⟨_, rfl⟩
theorem Alk.str {s : ByteArray} {v' : Value} (h : Alk (.string s) v') : ∃ t, v' = .string t := by
  rcases h with rfl | ⟨s, s', e, rfl⟩ | ⟨t, n, n', e, _⟩
  · exact ⟨_, rfl⟩
  · exact ⟨_, rfl⟩
  · cases e
structure Sk (S : Nat → Prop) (w w' : World) : Prop where
  kept : Kept S w w'
  alike : ∀ g cur, Blk w g cur → ∃ cur', Blk w' g cur' ∧ cur'.size = cur.size ∧ ∀ (i : Nat) (v : Value), cur[i]? = some v → ∃ v', cur'[i]? = some v' ∧ Alk v v'
theorem Sk.of_no {S : Nat → Prop} {w w' : World} (k : Kept No w w') : Sk S w w' :=
  ⟨k.mono fun _ _ e => e.elim, fun g cur h => ⟨cur, h.keep k fun e => e, rfl, fun i v hv => ⟨v, hv, .refl v⟩⟩⟩
theorem Sk.refl {S : Nat → Prop} (w : World) : Sk S w w := .of_no (Kept.refl _ _)
theorem Sk.trans {S : Nat → Prop} {w w1 w2 : World} (h : Sk S w w1) (k : Sk S w1 w2) : Sk S w w2 :=
  ⟨h.kept.trans k.kept fun _ _ e => e, fun g cur hb => by
    obtain ⟨c1, h1, z1, a1⟩ := h.alike g cur hb
    obtain ⟨c2, h2, z2, a2⟩ := k.alike g c1 h1
    refine ⟨c2, h2, z2.trans z1, fun i v hv => ?_⟩
    obtain ⟨v1, e1, k1⟩ := a1 i v hv
    obtain ⟨v2, e2, k2⟩ := a2 i v1 e1
    exact ⟨v2, e2, k1.trans k2⟩⟩
theorem Blk.uniq {w : World} {g : Nat} {c1 c2 : Array Value} (h : Blk w g c1) (k : Blk w g c2) : c1 = c2 := by
  obtain ⟨e1, h⟩ := h
  obtain ⟨e2, k⟩ := k
  rw [h] at k
  cases k; rfl
theorem Sk.store {S : Nat → Prop} {w : World} {g i : Nat} {cur : Array Value} {v0 v : Value} {K : World → Prop} (h : Blk w g cur) (hv : cur[i]? = some v0) (ha : Alk v0 v) (hS : S g)
    (hk : ∀ w', Sk S w w' → w'.heap.size = w.heap.size → K w') : stC ⟨g, i, none⟩ v w K := by
  have hi : i < cur.size := (Array.getElem?_eq_some_iff.1 hv).1
  refine stC_blk h hi fun w' hb' hk' hz => hk w' ⟨hk'.mono fun b _ e => by rw [e]; exact hS, fun g2 cur2 h2 => ?_⟩ hz
  by_cases e : g2 = g
  · subst e
    obtain rfl := h2.uniq h
    refine ⟨_, hb', by simp, fun j u hj => ?_⟩
    by_cases e2 : i = j
    · subst e2
      rw [hv] at hj
      cases hj
      exact ⟨v, by simp [hi], ha⟩
    · exact ⟨u, by rw [Array.getElem?_setIfInBounds_ne e2]; exact hj, .refl u⟩
  · exact ⟨cur2, h2.keep hk' e, rfl, fun j u hj => ⟨u, hj, .refl u⟩⟩
theorem Sk.slo {S : Nat → Prop} {w w' : World} {sz : Nat} {a : Option Addr} {l c : Nat} {xs : List Value} (h : SlO sz w a l c xs) (k : Sk S w w') :
    ∃ xs', SlO sz w' a l c xs' ∧ ∀ (i : Nat) (v : Value), xs[i]? = some v → ∃ v', xs'[i]? = some v' ∧ Alk v v' := by
  rcases h.2 with ⟨rfl, rfl, rfl⟩ | ⟨g, off, cur, rfl, hb, hlc, hcs, htk⟩
  · exact ⟨xs, ⟨h.1, .inl ⟨rfl, rfl, rfl⟩⟩, fun i v hv => ⟨v, hv, .refl v⟩⟩
  · obtain ⟨cur', hb', hz, ha⟩ := k.alike g cur hb
    have hlcs : l * sz ≤ c * sz := Nat.mul_le_mul_right _ hlc
    refine ⟨(cur'.toList.drop off).take (l * sz), ⟨?_, .inr ⟨g, off, cur', rfl, hb', hlc, by omega, rfl⟩⟩, fun i v hv => ?_⟩
    · rw [List.length_take, List.length_drop, Array.length_toList]; omega
    · rw [← htk, List.getElem?_take] at hv
      by_cases hi : i < l * sz
      · rw [if_pos hi, List.getElem?_drop, Array.getElem?_toList] at hv
        obtain ⟨v', e, k⟩ := ha _ v hv
        exact ⟨v', by rw [List.getElem?_take, if_pos hi, List.getElem?_drop, Array.getElem?_toList]; exact e, k⟩
      · rw [if_neg hi] at hv; cases hv
theorem Sk.st {S : Nat → Prop} {w : World} {sz : Nat} {a : Option Addr} {l c : Nat} {xs : List Value} (h : SlO sz w a l c xs) {q : Addr} (hq : a = some q) {j : Nat} {v0 v : Value} (hv : xs[j]? = some v0) (ha : Alk v0 v) (hS : ∀ b, inA a b → S b) {K : World → Prop}
    (hk : ∀ w', Sk S w w' → w'.heap.size = w.heap.size → K w') : stC (q.add j) v w K := by
  rcases h.2 with ⟨rfl, rfl, rfl⟩ | ⟨g, off, cur, rfl, hb, hlc, hcs, htk⟩
  · cases hq
  · cases hq
    rw [add_none]
    rw [← htk, List.getElem?_take] at hv
    by_cases hi : j < l * sz
    · rw [if_pos hi, List.getElem?_drop, Array.getElem?_toList] at hv
      exact Sk.store hb hv ha (hS g ((inA_some _ _ _ _).2 rfl)) hk
    · rw [if_neg hi] at hv; cases hv
theorem Sk.ob {S : Nat → Prop} {w w' : World} {a : Option Addr} {l c : Nat} {bs : List Int} (h : OB w a l c bs) (k : Sk S w w') : ∃ bs', OB w' a l c bs' := by
  obtain ⟨xs, hx, ha⟩ := Sk.slo h k
  have hl : xs.length = l := by have := hx.1; simpa using this
  have hbl := h.len
  refine ⟨xs.map fun v => match v with | .int _ n => n | _ => 0, ?_⟩
  have : By (xs.map fun v => match v with | .int _ n => n | _ => 0) = xs := by
    apply List.ext_getElem?
    intro i
    unfold By
    rw [List.map_map, List.getElem?_map]
    by_cases hi : i < l
    · obtain ⟨v', e, kk⟩ := ha i (.int .u8 bs[i]) (by unfold By; rw [List.getElem?_map, List.getElem?_eq_getElem (by omega)]; rfl)
      obtain ⟨m, rfl⟩ := kk.int
      rw [e]; rfl
    · rw [List.getElem?_eq_none (by omega)]; rfl
  show SlO 1 w' a l c (By _)
  rw [this]; exact hx
end Go.Proofs.YtpoaacnnhgebfaaGreat
namespace Go.Proofs.YtpoaacnnhgebfaaGreat
open Go.Lw
structure Duo (W w : World) (gk pk : Nat) (s : AK) (L M : KL) (tl : Nat → Nat) (nm : Nat → ByteArray) : Prop where
  hk : KernO w gk s L
  hp : PagO w pk s M tl nm
  hi : PInv s
  ap : ∀ z, L.own z ≠ none → M.own z = none
  nk : ∀ z, L.own z ≠ none → W.heap.size ≤ z
  nm : ∀ z, M.own z ≠ none → W.heap.size ≤ z
  kp : Kept No W w
theorem Duo.no {W w w' : World} {gk pk : Nat} {s : AK} {L M : KL} {tl : Nat → Nat} {nm : Nat → ByteArray} (h : Duo W w gk pk s L M tl nm) (k : Kept No w w') : Duo W w' gk pk s L M tl nm := ⟨h.hk.no k, h.hp.no k, h.hi, h.ap, h.nk, h.nm, h.kp.no k⟩
theorem Duo.pa {W w : World} {gk pk : Nat} {s : AK} {L M : KL} {tl : Nat → Nat} {nm : Nat → ByteArray} (h : Duo W w gk pk s L M tl nm) {z : Nat} (hz : M.own z ≠ none) : L.own z = none := by
  cases ho : L.own z with
  | none => rfl
  | some t => exact absurd (h.ap z (by rw [ho]; simp)) hz
theorem Duo.old {W w : World} {gk pk : Nat} {s : AK} {L M : KL} {tl : Nat → Nat} {nm : Nat → ByteArray} (h : Duo W w gk pk s L M tl nm) {z : Nat} (hz : z < W.heap.size) : L.own z = none ∧ M.own z = none := by
  constructor
  · cases ho : L.own z with
    | none => rfl
    | some t => have := h.nk z (by rw [ho]; simp); omega
  · cases ho : M.own z with
    | none => rfl
    | some t => have := h.nm z (by rw [ho]; simp); omega
theorem Duo.both {W w w1 w2 : World} {gk pk : Nat} {s s' : AK} {L M L' M' : KL} {tl tl' : Nat → Nat} {nm nm' : Nat → ByteArray} (h : Duo W w gk pk s L M tl nm) (hK : KernO w1 gk s' L') (st : KStep w w1 L L') (hP : PagO w2 pk s' M' tl' nm') (st' : KStep w1 w2 M M') (hi : PInv s') : Duo W w2 gk pk s' L' M' tl' nm' := by
  have ap1 : ∀ z, L'.own z ≠ none → M.own z = none := fun z hz => by
    rcases st.grew z hz with e | e
    · exact h.ap z e
    · cases ho : M.own z with
      | none => rfl
      | some t => have := h.hp.lt z (by rw [ho]; simp); omega
  have k1 : Kept No W w1 := h.kp.trans st.kept fun y hy e => by have := h.nk y e; omega
  have hz0 : w.heap.size ≤ w1.heap.size := st.kept.size
  have hz1 : W.heap.size ≤ w.heap.size := h.kp.size
  refine ⟨hK.keep st'.kept fun x hx => ?_, hP, hi, fun z hz => ?_, fun z hz => ?_, fun z hz => ?_, k1.trans st'.kept fun y hy e => by have := h.nm y e; omega⟩
  · cases ho : L'.own x with
    | none => rfl
    | some t => exact absurd (ap1 x (by rw [ho]; simp)) hx
  · cases ho : M'.own z with
    | none => rfl
    | some t =>
      rcases st'.grew z (by rw [ho]; simp) with e | e
      · exact absurd (ap1 z hz) e
      · have := hK.lt z hz; omega
  · rcases st.grew z hz with e | e
    · exact h.nk z e
    · omega
  · rcases st'.grew z hz with e | e
    · exact h.nm z e
    · omega
theorem page_ok {w : World} {fs : List (ByteArray × List Int)} {ts : List (ByteArray × List (List Int))} {ps : List (Int × Int)} {af : Option Addr} {lf cf : Nat} {at_ : Option Addr} {lt ct : Nat} {ap : Option Addr} {lp cp : Nat}
    (h : SetupO w fs ts ps af lf cf at_ lt ct ap lp cp) :
    CallR Tryz.prog 10 [.agg #[.slice af lf cf, .slice at_ lt ct, .slice ap lp cp]] w fun v w' => Kept No w w' ∧ ((checkK fs ts ps ≠ 0 ∧ v = .pointer none) ∨
      (checkK fs ts ps = 0 ∧ ∃ pk L tl nm, v = pd pk ∧ PagO w' pk (AK.new fs ts ps) L tl nm ∧ ∀ z, L.own z ≠ none → w.heap.size ≤ z)) := by
  obtain ⟨ef, hef⟩ := h.ef
  obtain ⟨et, het⟩ := h.et
  have q1 := h.lf
  have q2 := h.lt
  refine C10 ?_
  unfold L10
  intro w1
  have hb : Blk w1 w.heap.size #[.slice af lf cf, .slice at_ lt ct, .slice ap lp cp] := Blk.alloc _ _ _
  have hk1 : Kept No w w1 := Kept.alloc _ _ _
  clear_value w1
  have h1 := h.no hk1
  refine ⟨_, _, _, (hb.cell 0).trans rfl, _, _, _, (hb.cell 1).trans rfl, _, _, _, (hb.cell 2).trans rfl, CallR.mono (pcheck_ok (hef.no (fun _ _ _ _ h k => h.no k) hk1) (het.no (fun _ _ _ _ h k => h.no k) hk1) h1.pp (by omega) (by omega)) ?_⟩
  rintro v w2 ⟨rfl, hk2⟩
  have hb2 := hb.keep hk2 fun e => e
  have k2 := hk1.no hk2
  refine ⟨_, rfl, condI (fun hc => ⟨k2, .inl ⟨bne_iff_ne.1 hc, rfl⟩⟩) (fun hc => ?_)⟩
  have hz : checkK fs ts ps = 0 := by
    cases hd : decide (checkK fs ts ps = 0) with
    | true => exact of_decide_eq_true hd
    | false => rw [bne_iff_ne.2 (of_decide_eq_false hd)] at hc; cases hc
  have kd : Kept No w w2.drew := k2.no (Kept.drew No _)
  have hbd : Blk w2.drew w.heap.size #[.slice af lf cf, .slice at_ lt ct, .slice ap lp cp] := hb2.drew
  refine ⟨fun w' => Blk w' w.heap.size #[.slice af lf cf, .slice at_ lt ct, .slice ap lp cp], hbd, _, _, _, fun wS hS => (hS.cell 0).trans rfl, _, _, _, fun wS hS => (hS.cell 1).trans rfl, _, _, _, fun wS hS => (hS.cell 2).trans rfl, CallR.mono (copyFaults_ok (h.no kd).pp h.lp) ?_⟩
  rintro v w4 ⟨a', c', rfl, hk4, ho, hf⟩
  refine ⟨_, _, _, rfl, hbd.keep hk4 fun e => e, CallR.mono (pnew_ok (kd.no hk4) hef het ho (AK.check_zero hz) (by omega) (by omega) fun b hb => ?_) ?_⟩
  · have := hf b hb
    have := kd.size
    omega
  · rintro v w5 ⟨pk, L, tl, nm, rfl, hP, hl, hk5⟩
    exact ⟨_, rfl, hk5, .inr ⟨hz, pk, L, tl, nm, rfl, hP, hl⟩⟩
end Go.Proofs.YtpoaacnnhgebfaaGreat
namespace Go.Proofs.YtpoaacnnhgebfaaGreat
open Go.Lw
theorem AK.scr_bound {w : World} {gk : Nat} {s : AK} {L : KL} (h : KernO w gk s L) (nm : ByteArray) : (s.screenV nm).1.length ≤ 1048576 := by
  unfold AK.screenV
  split
  · rename_i g hg
    unfold AK.termOf at hg
    have hm := List.mem_of_find?_eq_some hg
    have hO := h.ob g.2 (h.ok.ti g hm).1
    show (scrO (s.objs g.2)).length ≤ 1048576
    cases ho : s.objs g.2 with
    | term LL scr =>
      rw [ho] at hO
      have hT : TermO _ _ w (L.loc g.2) LL scr := hO
      exact hT.scr
    | file bs => simp [scrO]
    | pipe bs e0 e1 => simp [scrO]
  · simp
theorem AK.held_bound {w : World} {gk : Nat} {s : AK} {L : KL} (h : KernO w gk s L) (d : Int) : (s.held d).length ≤ 1048576 := by
  unfold AK.held
  split
  · simp
  · split
    · simp
    · rename_i x hx
      have hO := h.ofO hx
      cases ho : s.objs x.ob with
      | term LL scr => simp
      | file bs => simp
      | pipe bs e0 e1 =>
        rw [ho] at hO
        have hT : PipeO w (L.loc x.ob) bs e0 e1 := hO.1
        have := hT.len
        show bs.length ≤ 1048576
        omega
theorem same6_ok {W w : World} {gk pk : Nat} {s : AK} {L M : KL} {tl : Nat → Nat} {nm : Nat → ByteArray} (h : Duo W w gk pk s L M tl nm) (hn : s.next ≤ 4611686018427387903) :
    CallR Tryz.prog 14 [pd gk, pd pk] w fun v w' => v = .bool true ∧ Kept No w w' := by
  obtain ⟨T, ta, tc, da, dc, hB⟩ := h.hp.kb
  refine C14 ?_
  unfold L14
  refine CallR.mono (calls_ok h.hk) ?_
  rintro v w1 ⟨rfl, hk1⟩
  have kd : Kept No w w1.drew := hk1.no (Kept.drew No _)
  have keepB : ∀ {w' : World}, Kept No w w' → PKb w' pk s M tl T ta tc da dc := fun k => hB.keep h.hp.oK k fun z t e => e.elim
  refine ⟨_, _, rfl, fun w' => Kept No w w', kd, nnI ⟨_, fun wS hS => (keepB hS).b.at (i := 4) rfl, condF (by simp) (nnI ⟨_, fun wS hS => (keepB hS).b.at (i := 5) rfl, condF (by simp) (CallR.mono (kernFiles_ok (h.no kd).hk) ?_)⟩)⟩⟩
  rintro v w3 ⟨a, l, c, es, rfl, hf, hk3⟩
  have k3 := kd.no hk3
  refine ⟨_, _, _, rfl, k3, CallR.mono (pfiles_ok (h.no k3).hp (keepB k3)) ?_⟩
  rintro v w4 ⟨a', c', es', rfl, hf', hk4⟩
  have k4 := k3.no hk4
  have hfl : l = s.filesV.length := by have := hf.len_eq; omega
  have hok := h.hk.ok.fl
  have hfv := AK.filesV_len s
  refine ⟨_, _, _, rfl, k4, CallR.mono (sameNamed_ok (hf.no hk4).rd hf'.rd (by omega) fun f hf => by have := AK.filesV_bound h.hk f hf; omega) ?_⟩
  rintro v w5 ⟨rfl, hk5⟩
  have k5 := k4.no hk5
  have heq := files_eq h.hp.ok hB.pm hB.so
  refine ⟨_, rfl, k5, condF (by rw [heq]; simp) ?_⟩
  obtain ⟨fa, fl, fc, hpg, hfr, _⟩ := h.hp.pl
  have keepP : ∀ {w' : World}, Kept No w w' → Blk w' M.pg #[.slice fa fl fc] := fun k => hpg.keep k fun e => e
  have keepF : ∀ {w' : World}, Kept No w w' → RdS 2 w' fa fl fc (Fv s.ps) := fun k => hfr.keep k fun _ _ _ e => e
  refine nnI ⟨_, fun wS hS => (keepB hS).b.at (i := 3) rfl, nnI ⟨_, _, _, fun wS hS => (keepP hS).at0 rfl, CallR.mono (rest_ok (h.no k5).hk) ?_⟩⟩
  rintro v w6 ⟨a6, c6, rfl, hr6, hk6, hf6⟩
  have k6 := k5.no hk6
  have := h.hk.ok.ps
  refine ⟨_, _, _, rfl, k6, CallR.mono (sameFaults_ok hr6.rd (keepF k6) (by omega)) ?_⟩
  rintro v w7 ⟨rfl, hk7⟩
  have k7 := k6.no hk7
  refine ⟨_, rfl, condF (by simp) (CallR.mono (pscreens_ok (h.no k7).hp (keepB k7)) ?_)⟩
  rintro v w8 ⟨a8, c8, es8, rfl, hs8, hk8⟩
  have k8 := k7.no hk8
  have hsc : ∀ {w' : World}, Kept No w8 w' → RdN RB w' a8 (ofK s .scr scrO T).length c8 (ofK s .scr scrO T) es8 := fun k => (hs8.no k).rd
  have hsm : ∀ f ∈ ofK s .scr scrO T, s.screenV f.1 = (f.2, true) := fun f hf => screen_mem h.hp.ok hB.pm hf
  have hsl : (ofK s .scr scrO T).length ≤ 140737488355328 := by
    have h1 := ofK_len s .scr scrO T
    have h2 := hB.pm.length_eq
    rw [List.length_append] at h2
    have h3 := h.hk.ok.fl
    omega
  generalize ofK s .scr scrO T = G at hs8 hsc hsm hsl
  refine ⟨_, _, _, rfl, fun vs w' => ∃ n : Nat, vs = [.int .i64 (n : Int)] ∧ n ≤ G.length ∧ Kept No w8 w', fun vs _ => G.length - ix vs, ⟨0, rfl, Nat.zero_le _, Kept.refl _ _⟩, ?_⟩
  rintro _ n29 w9 ⟨n, hv, hnl, hk9⟩
  simp only [List.cons.injEq, Value.int.injEq, true_and, and_true] at hv
  subst hv
  refine condP (fun hlt => ?_) (fun hge => ?_)
  · have hi : n < G.length := by omega
    obtain ⟨q, _, haq, e1, _, _, _⟩ := (hsc hk9).at hi
    have e0 : Int.toNat (n : Int) = n := Int.toNat_natCast n
    rw [e0]
    refine ⟨by omega, nnE2 haq ⟨_, e1, CallR.mono (screen_ok ((h.no k8).no hk9).hk _) ?_⟩⟩
    rw [hsm _ (List.getElem_mem hi)]
    rintro v w10 ⟨ax, lx, cx, rfl, ho, hk10, _⟩
    have kx := hk9.no hk10
    obtain ⟨q', sl, haq', _, e2, hR, _⟩ := (hsc kx).at hi
    refine ⟨_, _, _, _, rfl, condF (by simp) ⟨by omega, nnE2 haq' ⟨_, _, _, e2, CallR.mono (same_ok ho.rd hR ?_) ?_⟩⟩⟩
    · have h1 := ho.rd.len
      have h2 := AK.scr_bound h.hk G[n].1
      rw [hsm _ (List.getElem_mem hi)] at h2
      omega
    · rintro v w11 ⟨rfl, hk11, _⟩
      exact ⟨_, rfl, condF (by simp) ⟨⟨by omega, by omega⟩, ⟨n + 1, rfl, by omega, kx.no hk11⟩, by simp only [ix]; omega⟩⟩
  have k9 := k8.no hk9
  refine ⟨fun vs w' => ∃ n : Nat, vs = [.int .i64 (n : Int)] ∧ (n : Int) ≤ s.next + 1 ∧ Kept No w w', fun vs _ => (s.next + 1).toNat - ix vs, ⟨0, rfl, ?_, k9⟩, ?_⟩
  · have := h.hk.ok.nx
    omega
  rintro _ n41 w12 ⟨d, hv, hd, k12⟩
  simp only [List.cons.injEq, Value.int.injEq, true_and, and_true] at hv
  subst hv
  refine nnI ⟨_, (keepB k12).b.at (i := 2) rfl, ⟨by omega, by omega⟩, condP (fun hlt => ?_) (fun hge => ⟨rfl, k12⟩)⟩
  have h12 := h.no k12
  refine CallR.mono (kind_ok h12.hk _) ?_
  rintro v w13 ⟨rfl, hk13⟩
  have h13 := h12.no hk13
  refine ⟨_, rfl, pkind_ok h13.hp _ ⟨_, rfl, condF (by simp) (CallR.mono (canread_ok h13.hk _) ?_)⟩⟩
  rintro v w15 ⟨rfl, hk15⟩
  have h15 := h13.no hk15
  refine ⟨_, rfl, pcanread_ok h15.hp _ ⟨_, rfl, condF (by simp) (CallR.mono (canwrite_ok h15.hk _ _) ?_)⟩⟩
  rintro v w17 ⟨rfl, hk17⟩
  have h17 := h15.no hk17
  refine ⟨_, rfl, pcanwrite_ok h17.hp h17.hi _ _ ⟨_, rfl, condF (by simp) (CallR.mono (kernHeld_ok h17.hk _) ?_)⟩⟩
  rintro v w19 ⟨a19, l19, c19, rfl, ho, hf19, hk19⟩
  have h19 := h17.no hk19
  refine ⟨_, _, _, rfl, CallR.mono (pheld_ok h19.hp _) ?_⟩
  rintro v w20 ⟨rfl, a20, l20, c20, rfl, hr20⟩
  refine ⟨_, _, _, rfl, CallR.mono (same_ok ho.rd hr20 ?_) ?_⟩
  · have h1 := ho.rd.len
    have h2 := AK.held_bound h.hk (d : Int)
    omega
  rintro v w21 ⟨rfl, hk21, _⟩
  exact ⟨_, rfl, condF (by simp) ⟨⟨by omega, by omega⟩, ⟨d + 1, rfl, by omega, (((((k12.no hk13).no hk15).no hk17).no hk19).no hk21)⟩, by simp only [ix]; omega⟩⟩
end Go.Proofs.YtpoaacnnhgebfaaGreat
namespace Go.Proofs.YtpoaacnnhgebfaaGreat
open Go.Lw
def closeN : Nat → Nat → List (Int × Bool) × AK → List (Int × Bool) × AK
  | 0, _, p => p
  | n + 1, i, p => closeN n (i + 1) (closeS p i)
theorem closeS_slots (p : List (Int × Bool) × AK) (i : Nat) : (closeS p i).1 = p.1 ∨ (closeS p i).1 = p.1.set i (0, false) := by
  unfold closeS tClose
  split
  · exact .inl rfl
  · exact .inr (by simp)
theorem closeS_get (p : List (Int × Bool) × AK) {i j : Nat} (h : i ≠ j) : (closeS p i).1.getD j (0, false) = p.1.getD j (0, false) := by
  rcases closeS_slots p i with e | e
  · rw [e]
  · rw [e, List.getD_eq_getElem?_getD, List.getD_eq_getElem?_getD, List.getElem?_set_ne h]
theorem closeS_free {p : List (Int × Bool) × AK} {i : Nat} (h : (p.1.getD i (0, false)).1 = 0) : closeS p i = p := by
  unfold closeS tClose tAt
  rw [Int.toNat_natCast, if_pos h]
  split
  · rename_i h2
    split at h2
    · cases p; rfl
    · cases p; rfl
  · rename_i h2
    split at h2 <;> cases h2
theorem closeN_used (sl : List (Int × Bool)) : ∀ (n i : Nat) (p : List (Int × Bool) × AK), (∀ j, i ≤ j → p.1.getD j (0, false) = sl.getD j (0, false)) → closeN n i p = (usedL sl i n).foldl closeS p
  | 0, _, _, _ => rfl
  | n + 1, i, p, h => by
    have hnext : ∀ j, i + 1 ≤ j → (closeS p i).1.getD j (0, false) = sl.getD j (0, false) := fun j hj => by
      rw [closeS_get p (by omega)]; exact h j (by omega)
    show closeN n (i + 1) (closeS p i) = _
    unfold usedL
    rw [closeN_used sl n (i + 1) _ hnext]
    split
    · rfl
    · rename_i hz
      have hz : (sl.getD i (0, false)).1 = 0 := by simpa using hz
      rw [closeS_free (by rw [h i (Nat.le_refl _)]; exact hz)]
theorem closeAll_eq (sl : List (Int × Bool)) (s : AK) : closeN 64 0 (sl, s) = tCloseAll sl s := closeN_used sl 64 0 (sl, s) fun _ _ => rfl
theorem freeL_tail (sl : List (Int × Bool)) : ∀ (n i a : Nat) (r : List Nat), freeL sl i n = a :: r → r = freeL sl (a + 1) (i + n - (a + 1))
  | 0, i, a, r, h => by cases h
  | n + 1, i, a, r, h => by
    unfold freeL at h
    split at h
    · obtain ⟨rfl, rfl⟩ := List.cons.inj h
      rw [show i + (n + 1) - (i + 1) = n by omega]
    · have := freeL_tail sl n (i + 1) a r h
      rw [show i + (n + 1) - (a + 1) = i + 1 + n - (a + 1) by omega]
      exact this
def freeFrom (sl : List (Int × Bool)) (i : Nat) : Nat := (freeL sl i (64 - i)).headD 64
end Go.Proofs.YtpoaacnnhgebfaaGreat
namespace Go.Proofs.YtpoaacnnhgebfaaGreat
open Go.Lw
def PagE (w : World) (pk : Nat) (s : AK) (M : KL) : Prop := ∃ tl nm, PagO w pk s M tl nm
theorem PagE.keep {w w' : World} {pk : Nat} {s : AK} {M : KL} (h : PagE w pk s M) {S : Nat → Prop} (k : Kept S w w') (hS : ∀ x, S x → M.own x = none) : PagE w' pk s M := by
  obtain ⟨tl, nm, h⟩ := h; exact ⟨tl, nm, h.keep k hS⟩
theorem PagE.no {w w' : World} {pk : Nat} {s : AK} {M : KL} (h : PagE w pk s M) (k : Kept No w w') : PagE w' pk s M := h.keep k fun _ e => e.elim
theorem PagE.new_none {w : World} {pk : Nat} {s : AK} {M : KL} (h : PagE w pk s M) {z : Nat} (hz : w.heap.size ≤ z) : M.own z = none := by
  obtain ⟨tl, nm, h⟩ := h; exact h.new_none hz
theorem PagE.lt {w : World} {pk : Nat} {s : AK} {M : KL} (h : PagE w pk s M) : ∀ k, M.own k ≠ none → k < w.heap.size := by
  obtain ⟨tl, nm, h⟩ := h; exact h.lt
theorem PagE.keepT {w w' : World} {pk u : Nat} {s : AK} {M : KL} (h : PagE w pk s M) (hn : M.own u = none) (k : Kept (· = u) w w') : PagE w' pk s M := h.keep k fun x e => by rw [e]; exact hn
theorem freeFrom_nil {sl : List (Int × Bool)} (h : freeIx sl = []) : freeFrom sl 0 = 64 := by
  show (freeIx sl).headD 64 = 64
  rw [h]; rfl
theorem freeFrom_cons {sl : List (Int × Bool)} {i : Nat} {r : List Nat} (h : freeIx sl = i :: r) : freeFrom sl 0 = i := by
  show (freeIx sl).headD 64 = i
  rw [h]; rfl
theorem freeFrom_next {sl : List (Int × Bool)} {i : Nat} {r : List Nat} (h : freeIx sl = i :: r) (hi : i < 64) : freeFrom sl (i + 1) = r.headD 64 := by
  have := freeL_tail sl 64 0 i r h
  unfold freeFrom
  rw [this, show 0 + 64 - (i + 1) = 64 - (i + 1) by omega]
theorem pfree_to {w : World} {u pk : Nat} {sl : List (Int × Bool)} (hT : TabO w u pk sl) {i : Nat} (hi : i ≤ 64) {Q : Value → World → Prop} (hq : Q (.int .i64 ((freeFrom sl i : Nat) : Int)) w) : CallR Tryz.prog 187 [pd u, .int .i64 (i : Int)] w Q := by
  refine C187 ?_
  unfold L187
  have hlen := hT.len
  refine ⟨fun vs w' => ∃ j : Nat, vs = [.int .i64 (j : Int)] ∧ j ≤ 64 ∧ freeFrom sl i = freeFrom sl j ∧ w' = w, fun vs _ => 64 - ix vs, ⟨i, rfl, hi, rfl, rfl⟩, ?_⟩
  rintro _ n5 w1 ⟨j, hvs, hj, hrel, rfl⟩
  simp only [List.cons.injEq, Value.int.injEq, true_and, and_true] at hvs
  subst hvs
  refine condP (fun hlt => ?_) (fun hge => ?_)
  · have hjl : j < sl.length := by omega
    have hg := getD_at hjl
    obtain ⟨k, hk⟩ : ∃ k, 64 - j = k + 1 := ⟨63 - j, by omega⟩
    have hk' : 64 - (j + 1) = k := by omega
    have hf : freeFrom sl j = if sl[j].1 = 0 then j else freeFrom sl (j + 1) := by
      unfold freeFrom
      rw [hk, hk']
      show (if (sl.getD j (0, false)).1 = 0 then j :: freeL sl (j + 1) k else freeL sl (j + 1) k).headD 64 = _
      rw [hg]
      split <;> rfl
    refine nnI ⟨⟨by omega, by omega⟩, _, by rw [Int.toNat_natCast]; exact hT.desc hjl, condI (fun hz => ?_) (fun hz => ?_)⟩
    · have hz : sl[j].1 = 0 := by simpa using hz
      rw [if_pos hz] at hf
      rw [hrel, hf] at hq
      exact hq
    · have hz : ¬ sl[j].1 = 0 := by simpa using hz
      rw [if_neg hz] at hf
      refine ⟨⟨by omega, by omega⟩, ⟨j + 1, rfl, by omega, by rw [hrel, hf], rfl⟩, ?_⟩
      simp only [ix]; omega
  · have : j = 64 := by omega
    subst this
    rw [hrel] at hq
    exact hq
theorem pused_to {w : World} {u pk : Nat} {sl : List (Int × Bool)} (hT : TabO w u pk sl) (fd : Int) {Q : Value → World → Prop} (hq : Q (.bool (tAt sl fd).isSome) w) : CallR Tryz.prog 188 [pd u, .int .i64 fd] w Q := by
  refine C188 ?_
  unfold L188
  have hlen := hT.len
  unfold tAt at hq
  refine condP (fun h1 => condP (fun h2 => ?_) (fun h2 => ?_)) (fun h1 => ?_)
  · rw [if_pos ⟨by omega, by omega⟩] at hq
    have hi : fd.toNat < sl.length := by omega
    rw [getD_at hi] at hq
    refine nnI ⟨⟨by omega, by omega⟩, _, hT.desc hi, ?_⟩
    by_cases hz : sl[fd.toNat].1 = 0
    · rw [if_pos hz] at hq
      rw [hz]
      exact hq
    · rw [if_neg hz] at hq
      have : (sl[fd.toNat].1 != 0) = true := by simpa using hz
      rw [this]
      exact hq
  · rw [if_neg (by omega)] at hq; exact hq
  · rw [if_neg (by omega)] at hq; exact hq
theorem tAt_some {sl : List (Int × Bool)} (hl : sl.length = 64) {fd : Int} {x : Int × Bool} (h : tAt sl fd = some x) : 0 ≤ fd ∧ fd < 64 ∧ ∃ hi : fd.toNat < sl.length, x = sl[fd.toNat] := by
  unfold tAt at h
  split at h
  · rename_i hr
    split at h
    · cases h
    · rw [getD_at (by omega)] at h
      exact ⟨hr.1, hr.2, by omega, (Option.some.inj h).symm⟩
  · cases h
set_option maxRecDepth 100000 in
theorem ptnew_ok {w : World} (pk : Nat) : CallR Tryz.prog 19 [pd pk] w fun v w' => v = pd w.heap.size ∧ TabO w' w.heap.size pk slots0 ∧ Kept No w w' := by
  refine C19 ?_
  unfold L19
  intro w1
  have hk : Kept No w w1 := Kept.alloc _ _ _
  have hb : ∃ cs, w1 = w.alloc (.cells cs 179) ∧ cs = (#[pd pk] ++ ((List.replicate 64 [Value.int .i64 0, Value.bool false]).flatten).toArray) := ⟨_, rfl, by kernel_rfl⟩
  clear_value w1
  obtain ⟨cs, rfl, rfl⟩ := hb
  exact ⟨rfl, tab_new (Blk.alloc _ _ _), hk⟩
theorem ptopen_ok {w : World} {u pk : Nat} {sl : List (Int × Bool)} {s : AK} {M : KL} (hT : TabO w u pk sl) (hP : PagE w pk s M) (hn : M.own u = none) (nm : ByteArray) (fl : Int) (hx : s.next ≤ 4611686018427387904) :
    CallR Tryz.prog 97 [pd u, .string nm, .int .i64 fl] w fun v w' => v = .tuple #[.int .i64 (tOpen sl s nm fl).1, .int .i64 (tOpen sl s nm fl).2.1] ∧ ∃ M', TabO w' u pk (tOpen sl s nm fl).2.2.1 ∧ PagE w' pk (tOpen sl s nm fl).2.2.2 M' ∧ TStep u w w' M M' := by
  refine C97 ?_
  unfold L97
  have hlen := hT.len
  refine pfree_to hT (i := 0) (by omega) ⟨_, rfl, ?_⟩
  unfold tOpen
  cases hh : freeIx sl with
  | nil =>
    rw [freeFrom_nil hh]
    exact condTr2 ⟨rfl, M, hT, hP, .refl _ _ _⟩
  | cons i r =>
    have hi64 := freeIx_some hlen i (by rw [hh]; simp)
    rw [freeFrom_cons hh]
    dsimp -zeta only
    obtain ⟨tl, nm', hP⟩ := hP
    refine condF (by simp; omega) (nnI ⟨_, hT.at0, CallR.mono (popen_ok hP nm fl hx) ?_⟩)
    rintro v w3 ⟨rfl, M3, tl3, nm3, h3, st3⟩
    have hT3 := hT.step hn st3
    refine ⟨_, _, rfl, condN (fun he => ?_) (fun he => ?_)⟩
    · rw [if_pos he]
      exact ⟨rfl, M3, hT3, ⟨_, _, h3⟩, .of_k st3⟩
    · rw [if_neg (fun e => e he)]
      refine nnI ⟨⟨by omega, by omega⟩, ?_⟩
      rw [Int.toNat_natCast]
      refine hT3.st (by omega) fun w5 hT5 hk5 hs5 => ⟨rfl, M3, hT5, PagE.keepT ⟨_, _, h3⟩ (st3.own' hn hT.lt) hk5, (TStep.of_k st3).trans (.of_t hk5)⟩
theorem ptinstall_ok {w : World} {u pk : Nat} {sl : List (Int × Bool)} {s : AK} {M : KL} (hT : TabO w u pk sl) (hP : PagE w pk s M) (hn : M.own u = none) (d : Int) :
    CallR Tryz.prog 101 [pd u, .int .i64 d] w fun v w' => v = .tuple #[.int .i64 (tInstall sl s d).1, .int .i64 (tInstall sl s d).2.1] ∧ ∃ M', TabO w' u pk (tInstall sl s d).2.2.1 ∧ PagE w' pk (tInstall sl s d).2.2.2 M' ∧ TStep u w w' M M' := by
  refine C101 ?_
  unfold L101
  have hlen := hT.len
  refine pfree_to hT (i := 0) (by omega) ⟨_, rfl, ?_⟩
  unfold tInstall
  cases hh : freeIx sl with
  | nil =>
    rw [freeFrom_nil hh]
    exact condTr2 ⟨rfl, M, hT, hP, .refl _ _ _⟩
  | cons i r =>
    have hi64 := freeIx_some hlen i (by rw [hh]; simp)
    rw [freeFrom_cons hh]
    dsimp -zeta only
    obtain ⟨tl, nm', hP⟩ := hP
    refine condF (by simp; omega) (nnI ⟨_, hT.at0, CallR.mono (pkeep_ok hP d) ?_⟩)
    rintro v w3 ⟨rfl, M3, h3, st3⟩
    have hT3 := hT.step hn st3
    refine ⟨_, rfl, condN (fun he => ?_) (fun he => ?_)⟩
    · rw [if_pos he]
      exact ⟨rfl, M3, hT3, ⟨_, _, h3⟩, .of_k st3⟩
    · rw [if_neg (fun e => e he)]
      refine nnI ⟨⟨by omega, by omega⟩, ?_⟩
      rw [Int.toNat_natCast]
      refine hT3.st (by omega) fun w5 hT5 hk5 hs5 => ⟨rfl, M3, hT5, PagE.keepT ⟨_, _, h3⟩ (st3.own' hn hT.lt) hk5, (TStep.of_k st3).trans (.of_t hk5)⟩
theorem ptpipe_ok {w : World} {u pk : Nat} {sl : List (Int × Bool)} {s : AK} {M : KL} (hT : TabO w u pk sl) (hP : PagE w pk s M) (hn : M.own u = none) (hx : s.next ≤ 4611686018427387903) :
    CallR Tryz.prog 99 [pd u] w fun v w' => v = .tuple #[.int .i64 (tPipe sl s).1, .int .i64 (tPipe sl s).2.1, .int .i64 (tPipe sl s).2.2.1] ∧ ∃ M', TabO w' u pk (tPipe sl s).2.2.2.1 ∧ PagE w' pk (tPipe sl s).2.2.2.2 M' ∧ TStep u w w' M M' := by
  refine C99 ?_
  unfold L99
  have hlen := hT.len
  refine pfree_to hT (i := 0) (by omega) ⟨_, rfl, ?_⟩
  unfold tPipe
  match hh : freeIx sl with
  | [] =>
    rw [freeFrom_nil hh]
    exact condTr2 ⟨rfl, M, hT, hP, .refl _ _ _⟩
  | [i] =>
    have hi64 := freeIx_some hlen i (by rw [hh]; simp)
    rw [freeFrom_cons hh]
    refine condF (by simp; omega) ⟨⟨by omega, by omega⟩, pfree_to hT (i := i + 1) (by omega) ⟨_, rfl, ?_⟩⟩
    rw [freeFrom_next hh hi64]
    exact condTr2 ⟨rfl, M, hT, hP, .refl _ _ _⟩
  | i :: j :: r =>
    have hi64 := freeIx_some hlen i (by rw [hh]; simp)
    have hj64 := freeIx_some hlen j (by rw [hh]; simp)
    have hne : freeFrom sl (i + 1) = j := freeFrom_next hh hi64
    rw [freeFrom_cons hh]
    refine condF (by simp; omega) ⟨⟨by omega, by omega⟩, pfree_to hT (i := i + 1) (by omega) ⟨_, rfl, ?_⟩⟩
    rw [hne]
    dsimp -zeta only
    obtain ⟨tl, nm', hP⟩ := hP
    refine condF (by simp; omega) (nnI ⟨_, hT.at0, CallR.mono (ppipe_ok hP hx) ?_⟩)
    rintro v w3 ⟨rfl, M3, tl3, nm3, h3, st3⟩
    have hT3 := hT.step hn st3
    refine ⟨_, _, _, rfl, condN (fun he => ?_) (fun he => ?_)⟩
    · rw [if_pos he]
      exact ⟨rfl, M3, hT3, ⟨_, _, h3⟩, .of_k st3⟩
    · rw [if_neg (fun e => e he)]
      refine ⟨⟨by omega, by omega⟩, pfree_to hT3 (i := i + 1) (by omega) ⟨_, rfl, ?_⟩⟩
      rw [hne]
      have hn3 := st3.own' hn hT.lt
      refine nnI ⟨⟨by omega, by omega⟩, ?_⟩
      rw [Int.toNat_natCast, Int.toNat_natCast]
      refine hT3.st (by omega) fun w5 hT5 hk5 hs5 => nnI ⟨⟨by omega, by omega⟩, hT5.st (by rw [List.length_set]; omega) fun w7 hT7 hk7 hs7 => ?_⟩
      exact ⟨rfl, M3, hT7, (PagE.keepT ⟨_, _, h3⟩ hn3 hk5).keepT hn3 hk7, ((TStep.of_k st3).trans (.of_t hk5)).trans (.of_t hk7)⟩
theorem ptclose_ok {w : World} {u pk : Nat} {sl : List (Int × Bool)} {s : AK} {M : KL} (hT : TabO w u pk sl) (hP : PagE w pk s M) (hn : M.own u = none) (fd : Int) :
    CallR Tryz.prog 102 [pd u, .int .i64 fd] w fun v w' => v = .int .i64 (tClose sl s fd).1 ∧ ∃ M', TabO w' u pk (tClose sl s fd).2.1 ∧ PagE w' pk (tClose sl s fd).2.2 M' ∧ TStep u w w' M M' := by
  refine C102 ?_
  unfold L102
  have hlen := hT.len
  refine pused_to hT fd ⟨_, rfl, ?_⟩
  unfold tClose
  cases ha : tAt sl fd with
  | none => exact condTr2 ⟨rfl, M, hT, hP, .refl _ _ _⟩
  | some x =>
    obtain ⟨h0, h1, hi, rfl⟩ := tAt_some hlen ha
    refine condFa2 ?_
    intro w2
    have hk2 : Kept No w w2 := Kept.drew _ _
    clear_value w2
    have hT2 := hT.keep hk2 fun e => e
    obtain ⟨tl, nm', hP⟩ := hP.no hk2
    refine nnI ⟨_, hT2.at0, nnI ⟨⟨by omega, by omega⟩, _, hT2.desc hi, CallR.mono (pdrop_ok hP _) ?_⟩⟩
    rintro v w3 ⟨rfl, M3, h3, st3⟩
    have hT3 := hT2.step hn st3
    refine ⟨_, rfl, nnI ⟨⟨by omega, by omega⟩, hT3.st hi fun w5 hT5 hk5 hs5 => ?_⟩⟩
    exact ⟨rfl, M3, hT5, PagE.keepT ⟨_, _, h3⟩ ((st3.fresh hk2).own' hn hT.lt) hk5, (TStep.of_k (st3.fresh hk2)).trans (.of_t hk5)⟩
theorem ptdup_ok {w : World} {u pk : Nat} {sl : List (Int × Bool)} {s : AK} {M : KL} (hT : TabO w u pk sl) (hP : PagE w pk s M) (hn : M.own u = none) (fd : Int) :
    CallR Tryz.prog 103 [pd u, .int .i64 fd] w fun v w' => v = .tuple #[.int .i64 (tDup sl s fd).1, .int .i64 (tDup sl s fd).2.1] ∧ ∃ M', TabO w' u pk (tDup sl s fd).2.2.1 ∧ PagE w' pk (tDup sl s fd).2.2.2 M' ∧ TStep u w w' M M' := by
  refine C103 ?_
  unfold L103
  have hlen := hT.len
  refine pused_to hT fd ⟨_, rfl, ?_⟩
  unfold tDup
  cases ha : tAt sl fd with
  | none => exact condTr2 ⟨rfl, M, hT, hP, .refl _ _ _⟩
  | some x =>
    obtain ⟨h0, h1, hi, rfl⟩ := tAt_some hlen ha
    refine condFa2 (nnI ⟨⟨by omega, by omega⟩, _, hT.desc hi, CallR.mono (ptinstall_ok hT hP hn _) ?_⟩)
    rintro v w2 ⟨rfl, h⟩
    exact ⟨_, _, rfl, rfl, h⟩
theorem tClose_other {sl : List (Int × Bool)} {s : AK} {to : Int} : (tClose sl s to).2.1.length = sl.length := by
  unfold tClose
  split
  · rfl
  · simp
theorem ptdupto_ok {w : World} {u pk : Nat} {sl : List (Int × Bool)} {s : AK} {M : KL} (hT : TabO w u pk sl) (hP : PagE w pk s M) (hn : M.own u = none) (fd to : Int) :
    CallR Tryz.prog 104 [pd u, .int .i64 fd, .int .i64 to] w fun v w' => v = .int .i64 (tDupTo sl s fd to).1 ∧ ∃ M', TabO w' u pk (tDupTo sl s fd to).2.1 ∧ PagE w' pk (tDupTo sl s fd to).2.2 M' ∧ TStep u w w' M M' := by
  refine C104 ?_
  unfold L104
  have hlen := hT.len
  refine pused_to hT fd ⟨_, rfl, ?_⟩
  unfold tDupTo
  cases ha : tAt sl fd with
  | none => exact condTr2 ⟨rfl, M, hT, hP, .refl _ _ _⟩
  | some x =>
    obtain ⟨h0, h1, hi, rfl⟩ := tAt_some hlen ha
    dsimp -zeta only
    refine condFa2 (condP (fun e => ?_) (fun e1 => condP (fun e => ?_) (fun e2 => condI (fun e => ?_) (fun e3 => ?_))))
    · rw [if_pos (.inl e)]; exact ⟨rfl, M, hT, hP, .refl _ _ _⟩
    · rw [if_pos (.inr e)]; exact ⟨rfl, M, hT, hP, .refl _ _ _⟩
    · rw [if_neg (by omega), if_pos (by simpa using e)]; exact ⟨rfl, M, hT, hP, .refl _ _ _⟩
    have e3 : to ≠ fd := by simpa using e3
    rw [if_neg (by omega), if_neg e3]
    obtain ⟨tl, nm', hP⟩ := hP
    refine nnI ⟨⟨by omega, by omega⟩, _, hT.desc hi, nnI ⟨_, hT.at0, CallR.mono (pkeep_ok hP _) ?_⟩⟩
    rintro v w3 ⟨rfl, M3, h3, st3⟩
    have hT3 := hT.step hn st3
    have hn3 := st3.own' hn hT.lt
    refine ⟨_, rfl, condN (fun he => ?_) (fun he => ?_)⟩
    · rw [if_pos he]; exact ⟨rfl, M3, hT3, ⟨_, _, h3⟩, .of_k st3⟩
    rw [if_neg (fun e => e he)]
    refine CallR.mono (ptclose_ok hT3 ⟨_, _, h3⟩ hn3 to) ?_
    rintro v w4 ⟨rfl, M4, hT4, h4, st4⟩
    refine ⟨_, rfl, nnI ⟨⟨by omega, by omega⟩, hT4.st (by rw [tClose_other]; omega) fun w7 hT7 hk7 hs7 => ?_⟩⟩
    exact ⟨rfl, M4, hT7, h4.keepT (st4.own hn3 hT3.lt) hk7, ((TStep.of_k st3).trans st4).trans (.of_t hk7)⟩
theorem ptmark_ok {w : World} {u pk : Nat} {sl : List (Int × Bool)} (hT : TabO w u pk sl) (fd : Int) (on : Bool) :
    CallR Tryz.prog 105 [pd u, .int .i64 fd, .bool on] w fun v w' => v = .int .i64 (tMark sl fd on).1 ∧ TabO w' u pk (tMark sl fd on).2 ∧ Kept (· = u) w w' := by
  refine C105 ?_
  unfold L105
  have hlen := hT.len
  refine pused_to hT fd ⟨_, rfl, ?_⟩
  unfold tMark
  cases ha : tAt sl fd with
  | none => exact condTr2 ⟨rfl, hT, Kept.refl _ _⟩
  | some x =>
    obtain ⟨h0, h1, hi, rfl⟩ := tAt_some hlen ha
    exact condFa2 (nnI ⟨⟨by omega, by omega⟩, hT.stM hi fun w2 hT2 hk2 hs2 => ⟨rfl, hT2, hk2⟩⟩)
def tMarked (sl : List (Int × Bool)) (fd : Int) : Bool × Int := match tAt sl fd with
  | none => (false, 71)
  | some x => (x.2, 0)
def tDesc (sl : List (Int × Bool)) (fd : Int) : Int × Int := match tAt sl fd with
  | none => (0, 71)
  | some x => (x.1, 0)
theorem ptmarked_to {w : World} {u pk : Nat} {sl : List (Int × Bool)} (hT : TabO w u pk sl) (fd : Int) {Q : Value → World → Prop} (hq : Q (.tuple #[.bool (tMarked sl fd).1, .int .i64 (tMarked sl fd).2]) w) : CallR Tryz.prog 115 [pd u, .int .i64 fd] w Q := by
  refine C115 ?_
  unfold L115
  have hlen := hT.len
  refine pused_to hT fd ⟨_, rfl, ?_⟩
  unfold tMarked at hq
  cases ha : tAt sl fd with
  | none => rw [ha] at hq; exact condTr2 hq
  | some x =>
    rw [ha] at hq
    obtain ⟨h0, h1, hi, rfl⟩ := tAt_some hlen ha
    exact condFa2 (nnI ⟨⟨by omega, by omega⟩, _, hT.mark hi, hq⟩)
theorem ptdesc_to {w : World} {u pk : Nat} {sl : List (Int × Bool)} (hT : TabO w u pk sl) (fd : Int) {Q : Value → World → Prop} (hq : Q (.tuple #[.int .i64 (tDesc sl fd).1, .int .i64 (tDesc sl fd).2]) w) : CallR Tryz.prog 117 [pd u, .int .i64 fd] w Q := by
  refine C117 ?_
  unfold L117
  have hlen := hT.len
  refine pused_to hT fd ⟨_, rfl, ?_⟩
  unfold tDesc at hq
  cases ha : tAt sl fd with
  | none => rw [ha] at hq; exact condTr2 hq
  | some x =>
    rw [ha] at hq
    obtain ⟨h0, h1, hi, rfl⟩ := tAt_some hlen ha
    exact condFa2 (nnI ⟨⟨by omega, by omega⟩, _, hT.desc hi, hq⟩)
def tWrite (sl : List (Int × Bool)) (s : AK) (fd : Int) (ds : List Int) : Int × Int × AK := match tAt sl fd with
  | none => (0, 71, s)
  | some x => s.write x.1 ds
def tSeek (sl : List (Int × Bool)) (s : AK) (fd off wh : Int) : Int × Int × AK := match tAt sl fd with
  | none => (0, 71, s)
  | some x => s.seek x.1 off wh
theorem ptread_ok {w : World} {u pk : Nat} {sl : List (Int × Bool)} {s : AK} {M : KL} (hT : TabO w u pk sl) (hP : PagE w pk s M) (fd n : Int) (hc : s.c0 ≤ 4611686018427387904) :
    CallR Tryz.prog 107 [pd u, .int .i64 fd, .int .i64 n] w fun v w' => ∃ a l c M', v = .tuple #[.slice a l c, .int .i64 (tRead sl s fd n).2.1] ∧ RdB w' a l c (tRead sl s fd n).1 ∧ PagE w' pk (tRead sl s fd n).2.2 M' ∧ KStep w w' M M' := by
  refine C107 ?_
  unfold L107
  have hlen := hT.len
  refine pused_to hT fd ⟨_, rfl, ?_⟩
  unfold tRead
  cases ha : tAt sl fd with
  | none => exact condTr2 ⟨none, 0, 0, M, rfl, (OB.nil _).rd, hP, KStep.refl _ _⟩
  | some x =>
    obtain ⟨h0, h1, hi, rfl⟩ := tAt_some hlen ha
    refine condFa2 ?_
    intro w2
    have hk2 : Kept No w w2 := Kept.drew _ _
    clear_value w2
    have hT2 := hT.keep hk2 fun e => e
    obtain ⟨tl, nm', hP⟩ := hP.no hk2
    refine nnI ⟨_, hT2.at0, nnI ⟨⟨by omega, by omega⟩, _, hT2.desc hi, CallR.mono (pread_ok hP _ n hc) ?_⟩⟩
    rintro v w3 ⟨a, l, c, M3, rfl, hr, h3, st3⟩
    exact ⟨_, _, _, _, rfl, a, l, c, M3, rfl, hr, ⟨_, _, h3⟩, st3.fresh hk2⟩
theorem ptwrite_ok {w : World} {u pk : Nat} {sl : List (Int × Bool)} {s : AK} {M : KL} (hT : TabO w u pk sl) (hP : PagE w pk s M) (fd : Int) {a : Option Addr} {l c : Nat} {ds : List Int} (hd : RdB w a l c ds) (hap : ds ≠ [] → ∀ k, inA a k → M.own k = none) (hc : s.c1 ≤ 4611686018427387904) :
    CallR Tryz.prog 109 [pd u, .int .i64 fd, .slice a l c] w fun v w' => v = .tuple #[.int .i64 (tWrite sl s fd ds).1, .int .i64 (tWrite sl s fd ds).2.1] ∧ ∃ M', PagE w' pk (tWrite sl s fd ds).2.2 M' ∧ KStep w w' M M' := by
  refine C109 ?_
  unfold L109
  have hlen := hT.len
  refine pused_to hT fd ⟨_, rfl, ?_⟩
  unfold tWrite
  cases ha : tAt sl fd with
  | none => exact condTr2 ⟨rfl, M, hP, KStep.refl _ _⟩
  | some x =>
    obtain ⟨h0, h1, hi, rfl⟩ := tAt_some hlen ha
    refine condFa2 ?_
    intro w2
    have hk2 : Kept No w w2 := Kept.drew _ _
    clear_value w2
    have hT2 := hT.keep hk2 fun e => e
    obtain ⟨tl, nm', hP⟩ := hP.no hk2
    refine nnI ⟨_, hT2.at0, nnI ⟨⟨by omega, by omega⟩, _, hT2.desc hi, CallR.mono (pwrite_ok hP _ (hd.keep hk2 fun _ _ _ e => e) hap hc) ?_⟩⟩
    rintro v w3 ⟨rfl, M3, h3, st3⟩
    exact ⟨_, _, rfl, rfl, M3, ⟨_, _, h3⟩, st3.fresh hk2⟩
theorem ptseek_ok {w : World} {u pk : Nat} {sl : List (Int × Bool)} {s : AK} {M : KL} (hT : TabO w u pk sl) (hP : PagE w pk s M) (fd off wh : Int) :
    CallR Tryz.prog 111 [pd u, .int .i64 fd, .int .i64 off, .int .i64 wh] w fun v w' => v = .tuple #[.int .i64 (tSeek sl s fd off wh).1, .int .i64 (tSeek sl s fd off wh).2.1] ∧ ∃ M', PagE w' pk (tSeek sl s fd off wh).2.2 M' ∧ KStep w w' M M' := by
  refine C111 ?_
  unfold L111
  have hlen := hT.len
  refine pused_to hT fd ⟨_, rfl, ?_⟩
  unfold tSeek
  cases ha : tAt sl fd with
  | none => exact condTr2 ⟨rfl, M, hP, KStep.refl _ _⟩
  | some x =>
    obtain ⟨h0, h1, hi, rfl⟩ := tAt_some hlen ha
    refine condFa2 ?_
    intro w2
    have hk2 : Kept No w w2 := Kept.drew _ _
    clear_value w2
    have hT2 := hT.keep hk2 fun e => e
    obtain ⟨tl, nm', hP⟩ := hP.no hk2
    refine nnI ⟨_, hT2.at0, nnI ⟨⟨by omega, by omega⟩, _, hT2.desc hi, CallR.mono (pseek_ok hP _ off wh) ?_⟩⟩
    rintro v w3 ⟨rfl, M3, h3, st3⟩
    exact ⟨_, _, rfl, rfl, M3, ⟨_, _, h3⟩, st3.fresh hk2⟩
theorem ptcloseall_ok {w : World} {u pk : Nat} {sl : List (Int × Bool)} {s : AK} {M : KL} (hT : TabO w u pk sl) (hP : PagE w pk s M) (hn : M.own u = none) :
    CallR Tryz.prog 113 [pd u] w fun v w' => v = .tuple #[] ∧ ∃ M', TabO w' u pk (tCloseAll sl s).1 ∧ PagE w' pk (tCloseAll sl s).2 M' ∧ TStep u w w' M M' := by
  refine C113 ?_
  unfold L113
  refine ⟨fun vs w' => ∃ (i : Nat) (sl' : List (Int × Bool)) (s' : AK) (M' : KL), vs = [.int .i64 (i : Int)] ∧ i ≤ 64 ∧ tCloseAll sl s = closeN (64 - i) i (sl', s') ∧ TabO w' u pk sl' ∧ PagE w' pk s' M' ∧ TStep u w w' M M', fun vs _ => 64 - ix vs,
    ⟨0, sl, s, M, rfl, by omega, (closeAll_eq sl s).symm, hT, hP, .refl _ _ _⟩, ?_⟩
  rintro _ n4 w1 ⟨i, sl', s', M', hvs, hi, hrel, hT1, hP1, st1⟩
  simp only [List.cons.injEq, Value.int.injEq, true_and, and_true] at hvs
  subst hvs
  refine condP (fun hlt => ?_) (fun hge => ?_)
  · obtain ⟨k, hk⟩ : ∃ k, 64 - i = k + 1 := ⟨63 - i, by omega⟩
    have hk' : 64 - (i + 1) = k := by omega
    rw [hk] at hrel
    refine CallR.mono (ptclose_ok hT1 hP1 (st1.own hn hT.lt) _) ?_
    rintro v w2 ⟨rfl, M2, hT2, hP2, st2⟩
    refine ⟨_, rfl, ⟨by omega, by omega⟩, ⟨i + 1, _, _, M2, rfl, by omega, by rw [hrel, hk']; rfl, hT2, hP2, st1.trans st2⟩, ?_⟩
    simp only [ix]; omega
  · have : 64 - i = 0 := by omega
    rw [this] at hrel
    rw [hrel]
    exact ⟨rfl, M', hT1, hP1, st1⟩
theorem ptlist_ok {w : World} {u pk : Nat} {sl : List (Int × Bool)} (hT : TabO w u pk sl) :
    CallR Tryz.prog 25 [pd u] w fun v w' => ∃ a l c, v = .slice a l c ∧ SlO 1 w' a l c (In (castI (usedIx sl))) ∧ Fresh w a ∧ Kept No w w' := by
  refine C25 ?_
  unfold L25
  have hlen := hT.len
  refine ⟨fun vs w' => ∃ (i : Nat) (pre : List Nat) (a : Option Addr) (c : Nat), vs = [.slice a pre.length c, .int .i64 (i : Int)] ∧ i ≤ 64 ∧ pre.length ≤ i ∧ usedIx sl = pre ++ usedL sl i (64 - i) ∧ SlO 1 w' a pre.length c (In (castI pre)) ∧ (∀ b, inA a b → w.heap.size ≤ b) ∧ Kept No w w',
    fun vs _ => match vs with | [_, .int _ n] => 64 - n.toNat | _ => 0, ⟨0, [], none, 0, rfl, by omega, Nat.le_refl _, rfl, SlO.nil 1 _, fun b hb => absurd hb (inA_none b), Kept.refl _ _⟩, ?_⟩
  rintro _ a8 l8 c8 n9 w2 ⟨i, pre, a, c, hvs, hi, hpl, hpre, hs, hf, hk⟩
  simp only [List.cons.injEq, Value.int.injEq, Value.slice.injEq, true_and, and_true] at hvs
  obtain ⟨⟨rfl, rfl, rfl⟩, rfl⟩ := hvs
  refine condP (fun hlt => ?_) (fun hge => ?_)
  · have hil : i < sl.length := by omega
    have hg := getD_at hil
    obtain ⟨k, hk'⟩ : ∃ k, 64 - i = k + 1 := ⟨63 - i, by omega⟩
    have hk'' : 64 - (i + 1) = k := by omega
    rw [hk'] at hpre
    have hu : usedL sl i (k + 1) = if sl[i].1 ≠ 0 then i :: usedL sl (i + 1) k else usedL sl (i + 1) k := by rw [← hg]; rfl
    rw [hu] at hpre
    have hT2 := hT.keep hk fun e => e
    refine nnI ⟨⟨by omega, by omega⟩, _, by rw [Int.toNat_natCast]; exact hT2.desc hil, condN (fun hd => ?_) (fun hd => ?_)⟩
    · rw [if_pos hd] at hpre
      intro w6
      have hk6 : Kept No w2 w6 := Kept.alloc _ _ _
      have hone : RdS 1 w6 (some ⟨w2.heap.size, 0, none⟩) 1 1 (In [(i : Int)]) := (SlO.of_blk (sz := 1) (n := 1) (Blk.alloc w2 #[.int .i64 (i : Int)] _) (by simp)).rd
      clear_value w6
      obtain ⟨a13, c13, w7, hrun, hs7, hk7, hat, _⟩ := run_app_sl (P := Tryz.prog) (t := 57) (t2 := 57) (ty := 57) (by kernel_rfl : slTyB Tryz.prog 57 1 8 = true) (by kernel_rfl) (hs.keep hk6 fun _ _ e => e) hone (In_one _) (by omega) (by omega)
      have htk : In (castI pre) ++ In [(i : Int)] = In (castI (pre ++ [i])) := by
        rw [← In_append]
        unfold castI
        rw [List.map_append]
        rfl
      rw [htk] at hs7
      have hz2 := hk.size
      refine ⟨a13, pre.length + 1, c13, w7, hrun, ⟨by omega, by omega⟩, ⟨i + 1, pre ++ [i], a13, c13, by rw [List.length_append]; rfl, by omega, by rw [List.length_append, List.length_singleton]; omega, by rw [hpre, hk'', List.append_assoc]; rfl, by rw [List.length_append]; exact hs7, fun b hb => ?_, (hk.no hk6).fresh hk7 hf⟩, ?_⟩
      · rcases hat.in hb with e | e
        · exact hf b e
        · have := hk6.size; omega
      · show 64 - Int.toNat ((i : Int) + 1) < 64 - Int.toNat (i : Int)
        omega
    · rw [if_neg (fun e => e hd)] at hpre
      refine ⟨⟨by omega, by omega⟩, ⟨i + 1, pre, _, _, rfl, by omega, by omega, by rw [hpre, hk''], hs, hf, hk⟩, ?_⟩
      show 64 - Int.toNat ((i : Int) + 1) < 64 - Int.toNat (i : Int)
      omega
  · have : 64 - i = 0 := by omega
    rw [this] at hpre
    have hpre : usedIx sl = pre := by rw [hpre]; exact List.append_nil _
    rw [hpre]
    exact ⟨_, _, _, rfl, hs, hf, hk⟩
theorem ptfork_ok {w : World} {u pk : Nat} {sl : List (Int × Bool)} {s : AK} {M : KL} (hT : TabO w u pk sl) (hP : PagE w pk s M) (hn : M.own u = none) :
    CallR Tryz.prog 21 [pd u] w fun v w' => ∃ c M', v = pd c ∧ w.heap.size ≤ c ∧ TabO w' c pk (tFork sl s).1 ∧ PagE w' pk (tFork sl s).2 M' ∧ M'.own c = none ∧ KStep w w' M M' := by
  refine C21 ?_
  unfold L21
  have hlen := hT.len
  refine nnI ⟨_, hT.at0, CallR.mono (ptnew_ok pk) ?_⟩
  rintro v w2 ⟨rfl, hC2, hk2⟩
  have hT2 := hT.keep hk2 fun e => e
  have hclt := hC2.lt
  have htlt := hT.lt
  refine ⟨_, rfl, fun vs w' => ∃ (i : Nat) (c : List (Int × Bool)) (s' : AK) (M' : KL), vs = [.int .i64 (i : Int)] ∧ i ≤ 64 ∧ tFork sl s = forkL sl (64 - i) i c s' ∧ TabO w' w.heap.size pk c ∧ TabO w' u pk sl ∧ PagE w' pk s' M' ∧ M'.own w.heap.size = none ∧ M'.own u = none ∧ KStep w w' M M' ∧ w2.heap.size ≤ w'.heap.size,
    fun vs _ => 64 - ix vs, ⟨0, slots0, s, M, rfl, by omega, rfl, hC2, hT2, hP.no hk2, hP.new_none (Nat.le_refl _), hn, .of_no hk2, Nat.le_refl _⟩, ?_⟩
  rintro _ n12 w3 ⟨i, c, s', M', hvs, hi, hrel, hC3, hT3, hP3, hnc, hnt, st3, hz3⟩
  simp only [List.cons.injEq, Value.int.injEq, true_and, and_true] at hvs
  subst hvs
  refine condP (fun hlt => ?_) (fun hge => ?_)
  · have hil : i < sl.length := by omega
    have hg := getD_at hil
    obtain ⟨k, hk⟩ : ∃ k, 64 - i = k + 1 := ⟨63 - i, by omega⟩
    have hk' : 64 - (i + 1) = k := by omega
    rw [hk] at hrel
    have hrel : tFork sl s = if sl[i].1 ≠ 0 ∧ sl[i].2 = false then (if (s'.keep sl[i].1).1 = 0 then forkL sl k (i + 1) (c.set i (sl[i].1, false)) (s'.keep sl[i].1).2 else forkL sl k (i + 1) c (s'.keep sl[i].1).2) else forkL sl k (i + 1) c s' := by
      rw [hrel, ← hg]; rfl
    intro w7
    have k7 : Kept No w3 w7 := Kept.drew _ _
    clear_value w7
    have hz7 := k7.size
    have hC7 := hC3.keep k7 fun e => e
    have hT7 := hT3.keep k7 fun e => e
    have hP7 := hP3.no k7
    have st7 := st3.no k7
    have hrg : 0 ≤ (i : Int) ∧ (i : Int) < ((64 : Nat) : Int) := by omega
    have skip : ¬ (sl[i].1 ≠ 0 ∧ sl[i].2 = false) → inI ((i : Int) + 1) ∧ (∃ (i' : Nat) (c : List (Int × Bool)) (s' : AK) (M' : KL), [Value.int .i64 ((i : Int) + 1)] = [.int .i64 (i' : Int)] ∧ i' ≤ 64 ∧ tFork sl s = forkL sl (64 - i') i' c s' ∧ TabO w7 w.heap.size pk c ∧ TabO w7 u pk sl ∧ PagE w7 pk s' M' ∧ M'.own w.heap.size = none ∧ M'.own u = none ∧ KStep w w7 M M' ∧ w2.heap.size ≤ w7.heap.size) ∧ 64 - ix [Value.int .i64 ((i : Int) + 1)] < 64 - ix [Value.int .i64 (i : Int)] := by
      intro h
      rw [if_neg h] at hrel
      refine ⟨⟨by omega, by omega⟩, ⟨i + 1, c, s', M', rfl, by omega, by rw [hk', hrel], hC7, hT7, hP7, hnc, hnt, st7, by omega⟩, ?_⟩
      simp only [ix]; omega
    rw [Int.toNat_natCast]
    refine nnI ⟨hrg, _, hT7.desc hil, condN (fun hd => nnI ⟨hrg, _, hT7.mark hil, condI (fun hm => ?_) (fun hm => ?_)⟩) (fun hd => skip (fun e => e.1 hd))⟩
    · have hm : sl[i].2 = false := notT hm
      rw [if_pos ⟨hd, hm⟩] at hrel
      obtain ⟨tl, nm', hP7⟩ := hP7
      refine nnI ⟨_, hT7.at0, nnI ⟨hrg, _, hT7.desc hil, CallR.mono (pkeep_ok hP7 sl[i].1) ?_⟩⟩
      rintro v w8 ⟨rfl, M8, h8, st8⟩
      have hC8 := hC7.step hnc st8
      have hT8 := hT7.step hnt st8
      have hnc8 : M8.own w.heap.size = none := st8.own' hnc (by omega)
      have hnt8 : M8.own u = none := st8.own' hnt (by omega)
      have hz8 := st8.size
      refine ⟨_, rfl, condI (fun he => ?_) (fun he => ?_)⟩
      · have he : (s'.keep sl[i].1).1 = 0 := by simpa using he
        rw [if_pos he] at hrel
        intro w9
        have hk9 : Kept No w8 w9 := Kept.drew _ _
        clear_value w9
        have hC9 := hC8.keep hk9 fun e => e
        have hT9 := hT8.keep hk9 fun e => e
        have hcl := hC9.len
        have hz9 := hk9.size
        refine nnI ⟨hrg, _, hT9.desc hil, nnI ⟨hrg, hC9.st (by omega) fun w10 hC10 hk10 hs10 => ?_⟩⟩
        refine ⟨⟨by omega, by omega⟩, ⟨i + 1, _, _, M8, rfl, by omega, by rw [hk', hrel], hC10, hT9.keep hk10 (by omega), (PagE.no ⟨_, _, h8⟩ hk9).keepT hnc8 hk10, hnc8, hnt8, ((st7.trans st8).no hk9).own hk10 (Nat.le_refl _), by omega⟩, ?_⟩
        simp only [ix]; omega
      · have he : ¬ (s'.keep sl[i].1).1 = 0 := by simpa using he
        rw [if_neg he] at hrel
        refine ⟨⟨by omega, by omega⟩, ⟨i + 1, c, _, M8, rfl, by omega, by rw [hk', hrel], hC8, hT8, ⟨_, _, h8⟩, hnc8, hnt8, st7.trans st8, by omega⟩, ?_⟩
        simp only [ix]; omega
    · exact skip (fun e => by rw [e.2] at hm; cases hm)
  · have : 64 - i = 0 := by omega
    rw [this] at hrel
    rw [hrel]
    exact ⟨w.heap.size, M', rfl, Nat.le_refl _, hC3, hP3, hnc, st3⟩
end Go.Proofs.YtpoaacnnhgebfaaGreat
namespace Go.Proofs.YtpoaacnnhgebfaaGreat
open Go.Lw
theorem tmarked_to {w : World} {t gk : Nat} {sl : List (Int × Bool)} (hT : TabO w t gk sl) (fd : Int) {Q : Value → World → Prop} (hq : Q (.tuple #[.bool (tMarked sl fd).1, .int .i64 (tMarked sl fd).2]) w) : CallR Tryz.prog 114 [pd t, .int .i64 fd] w Q := by
  refine C114 ?_
  unfold L114
  refine CallR.mono (at_ok hT fd) ?_
  unfold tMarked at hq
  rintro v w1 ⟨rfl, ⟨ha, rfl⟩ | ⟨x, ha, h0, h1, hx, hxz, rfl⟩⟩
  · rw [ha] at hq; exact ⟨_, _, rfl, condTr2 hq⟩
  · rw [ha] at hq
    have hlen := hT.len
    have hi : fd.toNat < sl.length := by omega
    have hxg : x = sl[fd.toNat] := hx.trans (getD_at hi)
    subst hxg
    exact ⟨_, _, rfl, condFa2 (nnI ⟨_, hT.mark hi, hq⟩)⟩
theorem tdesc_to {w : World} {t gk : Nat} {sl : List (Int × Bool)} (hT : TabO w t gk sl) (fd : Int) {Q : Value → World → Prop} (hq : Q (.tuple #[.int .i64 (tDesc sl fd).1, .int .i64 (tDesc sl fd).2]) w) : CallR Tryz.prog 116 [pd t, .int .i64 fd] w Q := by
  refine CallR.mono (tdesc_ok hT fd) ?_
  unfold tDesc at hq
  rintro v w1 ⟨rfl, ⟨ha, rfl⟩ | ⟨x, ha, rfl⟩⟩
  · rw [ha] at hq; exact hq
  · rw [ha] at hq; exact hq
theorem twrite_okT {w : World} {t gk : Nat} {sl : List (Int × Bool)} {s : AK} {L : KL} (hT : TabO w t gk sl) (hK : KernO w gk s L) (fd : Int) {a : Option Addr} {l c : Nat} {ds : List Int} (hd : RdB w a l c ds) (hap : ds ≠ [] → ∀ k, inA a k → L.own k = none) (hc : s.c1 ≤ 4611686018427387904) :
    CallR Tryz.prog 108 [pd t, .int .i64 fd, .slice a l c] w fun v w' => v = .tuple #[.int .i64 (tWrite sl s fd ds).1, .int .i64 (tWrite sl s fd ds).2.1] ∧ ∃ L', KernO w' gk (tWrite sl s fd ds).2.2 L' ∧ KStep w w' L L' := by
  refine C108 ?_
  unfold L108
  refine CallR.mono (handle_ok hT fd) ?_
  unfold tWrite
  rintro v w1 ⟨hk1, ⟨ha, rfl⟩ | ⟨x, ha, rfl⟩⟩
  · rw [ha]
    exact ⟨_, _, _, rfl, newPair fun w4 hb4 hk4 hz4 => condTr2 ⟨rfl, L, (hK.no hk1).no hk4, .of_no (hk1.no hk4)⟩⟩
  · rw [ha]
    refine ⟨_, _, _, rfl, newPair fun w4 hb4 hk4 hz4 => condFa2 ⟨_, _, (hb4.cell 0).trans rfl, (hb4.cell 1).trans rfl, ?_⟩⟩
    have k4 := hk1.no hk4
    refine CallR.mono (hwrite_ok (hK.no k4) x.1 (hd.keep k4 fun _ _ _ e => e) hap hc) ?_
    rintro v w5 ⟨rfl, L5, h5, st5⟩
    exact ⟨_, _, rfl, rfl, L5, h5, st5.fresh k4⟩
theorem tseek_okT {w : World} {t gk : Nat} {sl : List (Int × Bool)} {s : AK} {L : KL} (hT : TabO w t gk sl) (hK : KernO w gk s L) (fd off wh : Int) :
    CallR Tryz.prog 110 [pd t, .int .i64 fd, .int .i64 off, .int .i64 wh] w fun v w' => v = .tuple #[.int .i64 (tSeek sl s fd off wh).1, .int .i64 (tSeek sl s fd off wh).2.1] ∧ ∃ L', KernO w' gk (tSeek sl s fd off wh).2.2 L' ∧ KStep w w' L L' := by
  refine C110 ?_
  unfold L110
  refine CallR.mono (handle_ok hT fd) ?_
  unfold tSeek
  rintro v w1 ⟨hk1, ⟨ha, rfl⟩ | ⟨x, ha, rfl⟩⟩
  · rw [ha]
    exact ⟨_, _, _, rfl, newPair fun w4 hb4 hk4 hz4 => condTr2 ⟨rfl, L, (hK.no hk1).no hk4, .of_no (hk1.no hk4)⟩⟩
  · rw [ha]
    refine ⟨_, _, _, rfl, newPair fun w4 hb4 hk4 hz4 => condFa2 ⟨_, _, (hb4.cell 0).trans rfl, (hb4.cell 1).trans rfl, ?_⟩⟩
    have k4 := hk1.no hk4
    refine CallR.mono (hseek_ok (hK.no k4) x.1 off wh) ?_
    rintro v w5 ⟨rfl, L5, h5, st5⟩
    exact ⟨_, _, rfl, rfl, L5, h5, st5.fresh k4⟩
structure DuT (W w : World) (gk pk t u : Nat) (sl : List (Int × Bool)) (s : AK) (L M : KL) : Prop where
  du : ∃ tl nm, Duo W w gk pk s L M tl nm
  ht : TabO w t gk sl
  hu : TabO w u pk sl
  lt : L.own t = none
  lu : L.own u = none
  mt : M.own t = none
  mu : M.own u = none
  tu : t ≠ u
  wt : W.heap.size ≤ t
  wu : W.heap.size ≤ u
theorem DuT.hk {W w : World} {gk pk t u : Nat} {sl : List (Int × Bool)} {s : AK} {L M : KL} (h : DuT W w gk pk t u sl s L M) : KernO w gk s L := by
  obtain ⟨tl, nm, d⟩ := h.du; exact d.hk
theorem DuT.hp {W w : World} {gk pk t u : Nat} {sl : List (Int × Bool)} {s : AK} {L M : KL} (h : DuT W w gk pk t u sl s L M) : PagE w pk s M := by
  obtain ⟨tl, nm, d⟩ := h.du; exact ⟨_, _, d.hp⟩
theorem DuT.hi {W w : World} {gk pk t u : Nat} {sl : List (Int × Bool)} {s : AK} {L M : KL} (h : DuT W w gk pk t u sl s L M) : PInv s := by
  obtain ⟨tl, nm, d⟩ := h.du; exact d.hi
theorem DuT.kp {W w : World} {gk pk t u : Nat} {sl : List (Int × Bool)} {s : AK} {L M : KL} (h : DuT W w gk pk t u sl s L M) : Kept No W w := by
  obtain ⟨tl, nm, d⟩ := h.du; exact d.kp
theorem DuT.ok {W w : World} {gk pk t u : Nat} {sl : List (Int × Bool)} {s : AK} {L M : KL} (h : DuT W w gk pk t u sl s L M) : s.Ok := h.hk.ok
theorem DuT.no {W w w' : World} {gk pk t u : Nat} {sl : List (Int × Bool)} {s : AK} {L M : KL} (h : DuT W w gk pk t u sl s L M) (k : Kept No w w') : DuT W w' gk pk t u sl s L M := by
  obtain ⟨tl, nm, d⟩ := h.du
  exact ⟨⟨tl, nm, d.no k⟩, h.ht.keep k (fun e => e), h.hu.keep k (fun e => e), h.lt, h.lu, h.mt, h.mu, h.tu, h.wt, h.wu⟩
theorem DuT.low {W w : World} {gk pk t u : Nat} {sl : List (Int × Bool)} {s : AK} {L M : KL} (h : DuT W w gk pk t u sl s L M) {z : Nat} (hz : z < W.heap.size) : L.own z = none ∧ M.own z = none := by
  obtain ⟨tl, nm, d⟩ := h.du; exact d.old hz
theorem DuT.midP {W w w1 : World} {gk pk t u : Nat} {sl : List (Int × Bool)} {s : AK} {L M L' : KL} (h : DuT W w gk pk t u sl s L M) (st : TStep t w w1 L L') : PagE w1 pk s M := h.hp.keep st.kept fun x hx => by
  obtain ⟨tl, nm, d⟩ := h.du
  rcases hx with hx | rfl
  · exact d.ap x hx
  · exact h.mt
theorem DuT.midU {W w w1 : World} {gk pk t u : Nat} {sl : List (Int × Bool)} {s : AK} {L M L' : KL} (h : DuT W w gk pk t u sl s L M) (st : TStep t w w1 L L') : TabO w1 u pk sl := h.hu.keep st.kept fun hx => by
  rcases hx with hx | hx
  · exact hx h.lu
  · exact h.tu hx.symm
theorem DuT.midK {W w w1 : World} {gk pk t u : Nat} {sl : List (Int × Bool)} {s : AK} {L M L' : KL} (h : DuT W w gk pk t u sl s L M) (st : TStep t w w1 L L') : Kept No W w1 := h.kp.trans st.kept fun y hy e => by
  obtain ⟨tl, nm, d⟩ := h.du
  rcases e with e | rfl
  · have := d.nk y e; omega
  · have := h.wt; omega
theorem DuT.both {W w w1 w2 : World} {gk pk t u : Nat} {sl sl' : List (Int × Bool)} {s s' : AK} {L M L' M' : KL} (h : DuT W w gk pk t u sl s L M) (hT : TabO w1 t gk sl') (hK : KernO w1 gk s' L') (st : TStep t w w1 L L') (hU : TabO w2 u pk sl') (hP : PagE w2 pk s' M') (st' : TStep u w1 w2 M M') (hi : PInv s') : DuT W w2 gk pk t u sl' s' L' M' := by
  obtain ⟨tl, nm, d⟩ := h.du
  obtain ⟨tl', nm', hP⟩ := hP
  have hz0 : w.heap.size ≤ w1.heap.size := st.kept.size
  have hz1 : W.heap.size ≤ w.heap.size := d.kp.size
  have htl := h.ht.lt
  have hul := h.hu.lt
  have ap1 : ∀ z, L'.own z ≠ none → M.own z = none := fun z hz => by
    rcases st.grew z hz with e | e
    · exact d.ap z e
    · cases ho : M.own z with
      | none => rfl
      | some t => have := d.hp.lt z (by rw [ho]; simp); omega
  have lt' : L'.own t = none := st.own h.lt htl
  have lu' : L'.own u = none := st.own h.lu hul
  have mt' : M'.own t = none := st'.own h.mt (by omega)
  have mu' : M'.own u = none := st'.own h.mu (by omega)
  refine ⟨⟨tl', nm', hK.keep st'.kept fun x hx => ?_, hP, hi, fun z hz => ?_, fun z hz => ?_, fun z hz => ?_, (h.midK st).trans st'.kept fun y hy e => ?_⟩, hT.keep st'.kept fun hx => ?_, hU, lt', lu', mt', mu', h.tu, h.wt, h.wu⟩
  · rcases hx with hx | rfl
    · cases ho : L'.own x with
      | none => rfl
      | some t => exact absurd (ap1 x (by rw [ho]; simp)) hx
    · exact lu'
  · cases ho : M'.own z with
    | none => rfl
    | some t =>
      rcases st'.grew z (by rw [ho]; simp) with e | e
      · exact absurd (ap1 z hz) e
      · have := hK.lt z hz; omega
  · rcases st.grew z hz with e | e
    · exact d.nk z e
    · omega
  · rcases st'.grew z hz with e | e
    · exact d.nm z e
    · omega
  · rcases e with e | rfl
    · have := d.nm y e; omega
    · have := h.wu; omega
  · rcases hx with hx | hx
    · exact hx h.mt
    · exact h.tu hx
structure SV7 where
  what : Int
  nm : ByteArray
  a : Int
  b : Int
  c : Int
  on : Bool
  sl : Slc
  bs : List Int
theorem PInv.tclose {s : AK} (h : PInv s) (sl : List (Int × Bool)) (fd : Int) : PInv (tClose sl s fd).2.2 := by
  unfold tClose
  split
  · exact h
  · exact h.drop _
theorem PInv.tinstall {s : AK} (h : PInv s) (sl : List (Int × Bool)) (d : Int) : PInv (tInstall sl s d).2.2.2 := by
  unfold tInstall
  split
  · exact h
  · split <;> exact h.keep _
theorem foldClose_inv : ∀ (l : List Nat) (p : List (Int × Bool) × AK), PInv p.2 → PInv (l.foldl closeS p).2
  | [], p, h => h
  | i :: l, p, h => foldClose_inv l _ (h.tclose p.1 _)
theorem tclose_cs (sl : List (Int × Bool)) (s : AK) (fd : Int) : (tClose sl s fd).2.2.c0 = s.c0 ∧ (tClose sl s fd).2.2.c1 = s.c1 ∧ (tClose sl s fd).2.2.next = s.next := by
  unfold tClose
  split
  · exact ⟨rfl, rfl, rfl⟩
  · rename_i x hx
    have := AK.drop_cs s x.1
    exact ⟨by dsimp only; omega, by dsimp only; omega, by dsimp only; omega⟩
theorem foldClose_cs : ∀ (l : List Nat) (p : List (Int × Bool) × AK), (l.foldl closeS p).2.c0 = p.2.c0 ∧ (l.foldl closeS p).2.c1 = p.2.c1 ∧ (l.foldl closeS p).2.next = p.2.next
  | [], p => ⟨rfl, rfl, rfl⟩
  | i :: l, p => by
    obtain ⟨a, b, c⟩ := foldClose_cs l (closeS p i)
    obtain ⟨a', b', c'⟩ := tclose_cs p.1 p.2 (i : Int)
    exact ⟨a.trans a', b.trans b', c.trans c'⟩
theorem forkL_cs (sl : List (Int × Bool)) : ∀ (n i : Nat) (c : List (Int × Bool)) (s : AK), (forkL sl n i c s).2.c0 = s.c0 ∧ (forkL sl n i c s).2.c1 = s.c1 ∧ (forkL sl n i c s).2.next = s.next ∧ (PInv s → PInv (forkL sl n i c s).2)
  | 0, _, _, s => ⟨rfl, rfl, rfl, id⟩
  | n + 1, i, c, s => by
    unfold forkL
    have k := AK.keep_cs s (sl.getD i (0, false)).1
    split
    · split
      · obtain ⟨p1, p2, p3, p4⟩ := forkL_cs sl n (i + 1) (c.set i ((sl.getD i (0, false)).1, false)) (s.keep (sl.getD i (0, false)).1).2
        exact ⟨by omega, by omega, by omega, fun h => p4 (h.keep _)⟩
      · obtain ⟨p1, p2, p3, p4⟩ := forkL_cs sl n (i + 1) c (s.keep (sl.getD i (0, false)).1).2
        exact ⟨by omega, by omega, by omega, fun h => p4 (h.keep _)⟩
    · exact forkL_cs sl n (i + 1) c s
theorem tstep_cs (sl : List (Int × Bool)) (s : AK) : (∀ nm fl, (tOpen sl s nm fl).2.2.2.next ≤ s.next + 2 ∧ (tOpen sl s nm fl).2.2.2.c0 ≤ s.c0 + 1 ∧ (tOpen sl s nm fl).2.2.2.c1 ≤ s.c1 + 1) ∧
    ((tPipe sl s).2.2.2.2.next ≤ s.next + 2 ∧ (tPipe sl s).2.2.2.2.c0 ≤ s.c0 + 1 ∧ (tPipe sl s).2.2.2.2.c1 ≤ s.c1 + 1) ∧
    (∀ d, (tInstall sl s d).2.2.2.next ≤ s.next + 2 ∧ (tInstall sl s d).2.2.2.c0 ≤ s.c0 + 1 ∧ (tInstall sl s d).2.2.2.c1 ≤ s.c1 + 1) ∧
    (∀ d, (tDup sl s d).2.2.2.next ≤ s.next + 2 ∧ (tDup sl s d).2.2.2.c0 ≤ s.c0 + 1 ∧ (tDup sl s d).2.2.2.c1 ≤ s.c1 + 1) ∧
    (∀ d t, (tDupTo sl s d t).2.2.next ≤ s.next + 2 ∧ (tDupTo sl s d t).2.2.c0 ≤ s.c0 + 1 ∧ (tDupTo sl s d t).2.2.c1 ≤ s.c1 + 1) ∧
    (∀ d n, (tRead sl s d n).2.2.next ≤ s.next + 2 ∧ (tRead sl s d n).2.2.c0 ≤ s.c0 + 1 ∧ (tRead sl s d n).2.2.c1 ≤ s.c1 + 1) ∧
    (∀ d n, (tWrite sl s d n).2.2.next ≤ s.next + 2 ∧ (tWrite sl s d n).2.2.c0 ≤ s.c0 + 1 ∧ (tWrite sl s d n).2.2.c1 ≤ s.c1 + 1) ∧
    (∀ d n m, (tSeek sl s d n m).2.2.next ≤ s.next + 2 ∧ (tSeek sl s d n m).2.2.c0 ≤ s.c0 + 1 ∧ (tSeek sl s d n m).2.2.c1 ≤ s.c1 + 1) := by
  have ins : ∀ d, (tInstall sl s d).2.2.2.next ≤ s.next + 2 ∧ (tInstall sl s d).2.2.2.c0 ≤ s.c0 + 1 ∧ (tInstall sl s d).2.2.2.c1 ≤ s.c1 + 1 := fun d => by
    have := AK.keep_cs s d
    unfold tInstall
    split
    · exact ⟨by dsimp only; omega, by dsimp only; omega, by dsimp only; omega⟩
    · split <;> exact ⟨by dsimp only; omega, by dsimp only; omega, by dsimp only; omega⟩
  refine ⟨fun nm fl => ?_, ?_, ins, fun d => ?_, fun d t => ?_, fun d n => ?_, fun d n => ?_, fun d n m => ?_⟩
  · have := AK.open_cs s nm fl
    unfold tOpen
    split
    · exact ⟨by dsimp only; omega, by dsimp only; omega, by dsimp only; omega⟩
    · split <;> exact ⟨by dsimp only; omega, by dsimp only; omega, by dsimp only; omega⟩
  · have := AK.pipe_cs s
    unfold tPipe
    split
    · split <;> exact ⟨by dsimp only; omega, by dsimp only; omega, by dsimp only; omega⟩
    · exact ⟨by dsimp only; omega, by dsimp only; omega, by dsimp only; omega⟩
  · unfold tDup
    split
    · exact ⟨by dsimp only; omega, by dsimp only; omega, by dsimp only; omega⟩
    · exact ins _
  · unfold tDupTo
    split
    · exact ⟨by dsimp only; omega, by dsimp only; omega, by dsimp only; omega⟩
    · rename_i x hx
      have h1 := AK.keep_cs s x.1
      have h2 := tclose_cs sl (s.keep x.1).2 t
      repeat' split
      all_goals exact ⟨by dsimp only; omega, by dsimp only; omega, by dsimp only; omega⟩
  · unfold tRead
    split
    · exact ⟨by dsimp only; omega, by dsimp only; omega, by dsimp only; omega⟩
    · rename_i x hx
      have := AK.read_cs s x.1 n
      exact ⟨by omega, by omega, by omega⟩
  · unfold tWrite
    split
    · exact ⟨by dsimp only; omega, by dsimp only; omega, by dsimp only; omega⟩
    · rename_i x hx
      have := AK.write_cs s x.1 n
      exact ⟨by omega, by omega, by omega⟩
  · unfold tSeek
    split
    · exact ⟨by dsimp only; omega, by dsimp only; omega, by dsimp only; omega⟩
    · rename_i x hx
      have := AK.seek_cs s x.1 n m
      exact ⟨by omega, by omega, by omega⟩
theorem tstep_inv (sl : List (Int × Bool)) {s : AK} (h : PInv s) (hok : s.Ok) : (∀ nm fl, PInv (tOpen sl s nm fl).2.2.2) ∧ PInv (tPipe sl s).2.2.2.2 ∧ (∀ d, PInv (tDup sl s d).2.2.2) ∧ (∀ d t, PInv (tDupTo sl s d t).2.2) ∧ (∀ d n, PInv (tRead sl s d n).2.2) ∧ (∀ d n, PInv (tWrite sl s d n).2.2) ∧ (∀ d n m, PInv (tSeek sl s d n m).2.2) := by
  refine ⟨fun nm fl => ?_, ?_, fun d => ?_, fun d t => ?_, fun d n => ?_, fun d n => ?_, fun d n m => ?_⟩
  · unfold tOpen
    split
    · exact h
    · split <;> exact h.open_ hok _ _
  · unfold tPipe
    split
    · split <;> exact h.pipe hok
    · exact h
  · unfold tDup
    split
    · exact h
    · exact h.tinstall _ _
  · unfold tDupTo
    split
    · exact h
    · repeat' split
      all_goals first | exact h | exact h.keep _ | exact (h.keep _).tclose _ _
  · unfold tRead
    split
    · exact h
    · exact h.read _ _
  · unfold tWrite
    split
    · exact h
    · exact h.write _ _
  · unfold tSeek
    split
    · exact h
    · exact h.seek _ _ _
end Go.Proofs.YtpoaacnnhgebfaaGreat
namespace Go.Proofs.YtpoaacnnhgebfaaGreat
open Go.Lw
set_option maxHeartbeats 4000000 in
theorem worn_ok {W w : World} {gk pk t u : Nat} {sl : List (Int × Bool)} {s : AK} {L M : KL} (h : DuT W w gk pk t u sl s L M) (x : SV7) (hrd : RdB W x.sl.1 x.sl.2.1 x.sl.2.2 x.bs) (hn : s.next ≤ 4611686018427387000) (h0 : s.c0 ≤ 4611686018427387000) (h1 : s.c1 ≤ 4611686018427387000) :
    CallR Tryz.prog 22 [pd t, pd u, .agg #[.int .i64 x.what, .string x.nm, .int .i64 x.a, .int .i64 x.b, .int .i64 x.c, .bool x.on, .slice x.sl.1 x.sl.2.1 x.sl.2.2]] w fun v w' => v = .bool true ∧ ∃ sl' s' L' M', DuT W w' gk pk t u sl' s' L' M' ∧ s'.next ≤ s.next + 2 ∧ s'.c0 ≤ s.c0 + 1 ∧ s'.c1 ≤ s.c1 + 1 := by
  refine C22 ?_
  unfold L22
  intro w1
  have hb : Blk w1 w.heap.size #[.int .i64 x.what, .string x.nm, .int .i64 x.a, .int .i64 x.b, .int .i64 x.c, .bool x.on, .slice x.sl.1 x.sl.2.1 x.sl.2.2] := Blk.alloc _ _ _
  have hka : Kept No w w1 := Kept.alloc _ _ _
  clear_value w1
  have hold : ∀ {w' : World}, Kept No W w' → RdB w' x.sl.1 x.sl.2.1 x.sl.2.2 x.bs := fun k => hrd.keep k fun _ _ _ e => e
  have hlow : x.bs ≠ [] → ∀ k, inA x.sl.1 k → k < W.heap.size := fun hne k hk => RdS.old hrd (fun e => hne (By_inj (b := []) e)) k hk
  have hnL : L.own w.heap.size = none := h.hk.new_none (Nat.le_refl _)
  have hnM : M.own w.heap.size = none := h.hp.new_none (Nat.le_refl _)
  have het : w.heap.size ≠ t := by have := h.ht.lt; omega
  have heu : w.heap.size ≠ u := by have := h.hu.lt; omega
  replace h := h.no hka
  clear hka
  generalize w.heap.size = e at hb hnL hnM het heu
  have hok := h.ok
  obtain ⟨c1, c2, c3, c4, c5, c6, c7, c8⟩ := tstep_cs sl s
  obtain ⟨i1, i2, i4, i5, i6, i7, i8⟩ := tstep_inv sl h.hi hok
  have kpL : ∀ {wa wb : World} {L' : KL}, Blk wa e #[.int .i64 x.what, .string x.nm, .int .i64 x.a, .int .i64 x.b, .int .i64 x.c, .bool x.on, .slice x.sl.1 x.sl.2.1 x.sl.2.2] → TStep t wa wb L L' → Blk wb e #[.int .i64 x.what, .string x.nm, .int .i64 x.a, .int .i64 x.b, .int .i64 x.c, .bool x.on, .slice x.sl.1 x.sl.2.1 x.sl.2.2] := fun hb st => hb.keep st.kept fun hx => by
    rcases hx with hx | hx
    · exact hx hnL
    · exact het hx
  have kpM : ∀ {wa wb : World} {M' : KL}, Blk wa e #[.int .i64 x.what, .string x.nm, .int .i64 x.a, .int .i64 x.b, .int .i64 x.c, .bool x.on, .slice x.sl.1 x.sl.2.1 x.sl.2.2] → TStep u wa wb M M' → Blk wb e #[.int .i64 x.what, .string x.nm, .int .i64 x.a, .int .i64 x.b, .int .i64 x.c, .bool x.on, .slice x.sl.1 x.sl.2.1 x.sl.2.2] := fun hb st => hb.keep st.kept fun hx => by
    rcases hx with hx | hx
    · exact hx hnM
    · exact heu hx
  have kd : Kept No w1 w1.drew := Kept.drew _ _
  have hd := h.no kd
  have hbd := hb.keep kd fun e => e
  refine ⟨fun vs w' => vs = [] ∧ Blk w' e #[.int .i64 x.what, .string x.nm, .int .i64 x.a, .int .i64 x.b, .int .i64 x.c, .bool x.on, .slice x.sl.1 x.sl.2.1 x.sl.2.2] ∧ ∃ sl' s' L' M', DuT W w' gk pk t u sl' s' L' M' ∧ s'.next ≤ s.next + 2 ∧ s'.c0 ≤ s.c0 + 1 ∧ s'.c1 ≤ s.c1 + 1, ⟨_, (hb.cell 0).trans rfl, ?_⟩, ?_⟩
  · refine condI (fun _ => ⟨_, (hb.cell 1).trans rfl, _, (hb.cell 2).trans rfl, CallR.mono (topen_ok h.ht h.hk h.lt _ _ (by omega)) ?_⟩) (fun _ => condI (fun _ => CallR.mono (tpipe_ok h.ht h.hk h.lt (by omega)) ?_) (fun _ => condI (fun _ => ⟨_, (hb.cell 2).trans rfl, CallR.mono (tinstall_ok h.ht h.hk h.lt _) ?_⟩) (fun _ => condI (fun _ => ?_) (fun _ => condI (fun _ => ⟨_, (hb.cell 2).trans rfl, CallR.mono (tdup_ok h.ht h.hk h.lt _) ?_⟩) (fun _ => condI (fun _ => ?_) (fun _ => condI (fun _ => ?_) (fun _ => condI (fun _ => ⟨_, (hb.cell 2).trans rfl, _, (hb.cell 3).trans rfl, CallR.mono (tread_okT h.ht h.hk _ _ (by omega)) ?_⟩) (fun _ => condI (fun _ => ⟨_, (hb.cell 2).trans rfl, _, _, _, (hb.cell 6).trans rfl, CallR.mono (twrite_okT h.ht h.hk _ (hold h.kp) (fun hne k hk => (h.low (hlow hne k hk)).1) (by omega)) ?_⟩) (fun _ => condI (fun _ => ⟨_, (hb.cell 2).trans rfl, _, (hb.cell 3).trans rfl, _, (hb.cell 4).trans rfl, CallR.mono (tseek_okT h.ht h.hk _ _ _) ?_⟩) (fun _ => condI (fun _ => CallR.mono (tcloseall_ok h.ht h.hk h.lt) ?_) (fun _ => ⟨rfl, hb, sl, s, L, M, h, by omega, by omega, by omega⟩)))))))))))
    · rintro v w2 ⟨rfl, L', hT', hK', st⟩
      have hb2 := kpL hb st
      refine ⟨_, _, rfl, _, (hb2.cell 1).trans rfl, _, (hb2.cell 2).trans rfl, CallR.mono (ptopen_ok (h.midU st) (h.midP st) h.mu _ _ (by omega)) ?_⟩
      rintro v w3 ⟨rfl, M', hU', hP', st'⟩
      obtain ⟨o1, o2, o3⟩ := c1 x.nm x.a
      exact ⟨_, _, rfl, condT (by simp) (tnum_to ⟨_, rfl, by simp, _, _, _, _, h.both hT' hK' st hU' hP' st' (i1 _ _), o1, o2, o3⟩)⟩
    · rintro v w2 ⟨rfl, L', hT', hK', st⟩
      refine ⟨_, _, _, rfl, CallR.mono (ptpipe_ok (h.midU st) (h.midP st) h.mu (by omega)) ?_⟩
      rintro v w3 ⟨rfl, M', hU', hP', st'⟩
      obtain ⟨o1, o2, o3⟩ := c2
      exact ⟨_, _, _, rfl, condT (by simp) (condT (by simp) (tnum_to ⟨_, rfl, by simp, _, _, _, _, h.both hT' hK' st hU' hP' st' i2, o1, o2, o3⟩))⟩
    · rintro v w2 ⟨rfl, L', hT', hK', st⟩
      have hb2 := kpL hb st
      refine ⟨_, _, rfl, _, (hb2.cell 2).trans rfl, CallR.mono (ptinstall_ok (h.midU st) (h.midP st) h.mu _) ?_⟩
      rintro v w3 ⟨rfl, M', hU', hP', st'⟩
      obtain ⟨o1, o2, o3⟩ := c3 x.a
      exact ⟨_, _, rfl, condT (by simp) (tnum_to ⟨_, rfl, by simp, _, _, _, _, h.both hT' hK' st hU' hP' st' (h.hi.tinstall _ _), o1, o2, o3⟩)⟩
    · refine ⟨fun w' => Blk w' e #[.int .i64 x.what, .string x.nm, .int .i64 x.a, .int .i64 x.b, .int .i64 x.c, .bool x.on, .slice x.sl.1 x.sl.2.1 x.sl.2.2], hbd, _, fun wS hS => (hS.cell 2).trans rfl, _, fun wS hS => (hS.cell 2).trans rfl, CallR.mono (tclose_ok hd.ht hd.hk hd.lt _) ?_⟩
      rintro v w2 ⟨rfl, L', hT', hK', st⟩
      have hb2 := kpL hbd st
      refine ⟨_, rfl, hb2, tnum_to ⟨_, rfl, hb2, CallR.mono (ptclose_ok (hd.midU st) (hd.midP st) hd.mu _) ?_⟩⟩
      rintro v w3 ⟨rfl, M', hU', hP', st'⟩
      obtain ⟨o1, o2, o3⟩ := tclose_cs sl s x.a
      exact ⟨_, rfl, by simp, _, _, _, _, hd.both hT' hK' st hU' hP' st' (hd.hi.tclose _ _), by omega, by omega, by omega⟩
    · rintro v w2 ⟨rfl, L', hT', hK', st⟩
      have hb2 := kpL hb st
      refine ⟨_, _, rfl, _, (hb2.cell 2).trans rfl, CallR.mono (ptdup_ok (h.midU st) (h.midP st) h.mu _) ?_⟩
      rintro v w3 ⟨rfl, M', hU', hP', st'⟩
      obtain ⟨o1, o2, o3⟩ := c4 x.a
      exact ⟨_, _, rfl, condT (by simp) (tnum_to ⟨_, rfl, by simp, _, _, _, _, h.both hT' hK' st hU' hP' st' (i4 _), o1, o2, o3⟩)⟩
    · refine ⟨fun w' => Blk w' e #[.int .i64 x.what, .string x.nm, .int .i64 x.a, .int .i64 x.b, .int .i64 x.c, .bool x.on, .slice x.sl.1 x.sl.2.1 x.sl.2.2], hbd, _, fun wS hS => (hS.cell 2).trans rfl, _, fun wS hS => (hS.cell 3).trans rfl, _, fun wS hS => (hS.cell 2).trans rfl, _, fun wS hS => (hS.cell 3).trans rfl, CallR.mono (tdupto_ok hd.ht hd.hk hd.lt _ _) ?_⟩
      rintro v w2 ⟨rfl, L', hT', hK', st⟩
      have hb2 := kpL hbd st
      refine ⟨_, rfl, hb2, tnum_to ⟨_, rfl, hb2, CallR.mono (ptdupto_ok (hd.midU st) (hd.midP st) hd.mu _ _) ?_⟩⟩
      rintro v w3 ⟨rfl, M', hU', hP', st'⟩
      obtain ⟨o1, o2, o3⟩ := c5 x.a x.b
      exact ⟨_, rfl, by simp, _, _, _, _, hd.both hT' hK' st hU' hP' st' (i5 _ _), o1, o2, o3⟩
    · refine ⟨fun w' => Blk w' e #[.int .i64 x.what, .string x.nm, .int .i64 x.a, .int .i64 x.b, .int .i64 x.c, .bool x.on, .slice x.sl.1 x.sl.2.1 x.sl.2.2], hbd, _, fun wS hS => (hS.cell 2).trans rfl, _, fun wS hS => (hS.cell 5).trans rfl, _, fun wS hS => (hS.cell 2).trans rfl, _, fun wS hS => (hS.cell 5).trans rfl, CallR.mono (tmark_ok hd.ht _ _) ?_⟩
      rintro v w2 ⟨rfl, hT', hk'⟩
      have st : TStep t _ w2 L L := .of_t hk'
      have hb2 := kpL hbd st
      refine ⟨_, rfl, hb2, tnum_to ⟨_, rfl, hb2, CallR.mono (ptmark_ok (hd.midU st) _ _) ?_⟩⟩
      rintro v w3 ⟨rfl, hU', hk''⟩
      have st' : TStep u w2 w3 M M := .of_t hk''
      have hP2 := hd.midP st
      exact ⟨_, rfl, by simp, _, _, _, _, hd.both hT' (hd.hk.keepT hd.lt hk') st hU' (hP2.keepT hd.mu hk'') st' hd.hi, by omega, by omega, by omega⟩
    · rintro v w2 ⟨a, l, c, L', rfl, ho, hf, hK', ks, _⟩
      have st : TStep t _ w2 L L' := .of_k ks
      have hb2 := kpL hb st
      refine ⟨_, _, _, _, rfl, _, (hb2.cell 2).trans rfl, _, (hb2.cell 3).trans rfl, CallR.mono (ptread_ok (h.midU st) (h.midP st) _ _ (by omega)) ?_⟩
      rintro v w3 ⟨a', l', c', M', rfl, hr', hP', ks'⟩
      have st' : TStep u w2 w3 M M' := .of_k ks'
      have ho3 := ho.keep ks'.kept fun b hb e => by have := hf b hb; have := h.hp.lt b e; omega
      have hln : l ≤ 140737488355328 := by
        have h1 := ho.rd.len
        have h2 : (tRead sl s x.a x.b).1.length ≤ 1048576 := by
          unfold tRead
          split
          · simp
          · exact AK.read_bound s _ x.b
        omega
      obtain ⟨o1, o2, o3⟩ := c6 x.a x.b
      refine ⟨_, _, _, _, rfl, CallR.mono (same_ok ho3.rd hr' hln) ?_⟩
      rintro v w4 ⟨rfl, hk4, _⟩
      have hB := h.both (h.ht.step h.lt ks) hK' st ((h.midU st).step h.mu ks') hP' st' (i6 _ _)
      exact ⟨_, rfl, condT (by simp) (tnum_to ⟨_, rfl, by simp, _, _, _, _, hB.no hk4, o1, o2, o3⟩)⟩
    · rintro v w2 ⟨rfl, L', hK', ks⟩
      have st : TStep t _ w2 L L' := .of_k ks
      have hb2 := kpL hb st
      refine ⟨_, _, rfl, _, (hb2.cell 2).trans rfl, _, _, _, (hb2.cell 6).trans rfl, CallR.mono (ptwrite_ok (h.midU st) (h.midP st) _ (hold (h.midK st)) (fun hne k hk => (h.low (hlow hne k hk)).2) (by omega)) ?_⟩
      rintro v w3 ⟨rfl, M', hP', ks'⟩
      have st' : TStep u w2 w3 M M' := .of_k ks'
      obtain ⟨o1, o2, o3⟩ := c7 x.a x.bs
      exact ⟨_, _, rfl, condT (by simp) (tnum_to ⟨_, rfl, by simp, _, _, _, _, h.both (h.ht.step h.lt ks) hK' st ((h.midU st).step h.mu ks') hP' st' (i7 _ _), o1, o2, o3⟩)⟩
    · rintro v w2 ⟨rfl, L', hK', ks⟩
      have st : TStep t _ w2 L L' := .of_k ks
      have hb2 := kpL hb st
      refine ⟨_, _, rfl, _, (hb2.cell 2).trans rfl, _, (hb2.cell 3).trans rfl, _, (hb2.cell 4).trans rfl, CallR.mono (ptseek_ok (h.midU st) (h.midP st) _ _ _) ?_⟩
      rintro v w3 ⟨rfl, M', hP', ks'⟩
      have st' : TStep u w2 w3 M M' := .of_k ks'
      obtain ⟨o1, o2, o3⟩ := c8 x.a x.b x.c
      exact ⟨_, _, rfl, condT (by simp) (tnum_to ⟨_, rfl, by simp, _, _, _, _, h.both (h.ht.step h.lt ks) hK' st ((h.midU st).step h.mu ks') hP' st' (i8 _ _ _), o1, o2, o3⟩)⟩
    · rintro v w2 ⟨rfl, L', hT', hK', st⟩
      have hb2 := kpL hb st
      refine ⟨rfl, CallR.mono (ptcloseall_ok (h.midU st) (h.midP st) h.mu) ?_⟩
      rintro v w3 ⟨rfl, M', hU', hP', st'⟩
      obtain ⟨o1, o2, o3⟩ := foldClose_cs (usedIx sl) (sl, s)
      have o1 : (tCloseAll sl s).2.c0 = s.c0 := o1
      have o2 : (tCloseAll sl s).2.c1 = s.c1 := o2
      have o3 : (tCloseAll sl s).2.next = s.next := o3
      exact ⟨rfl, rfl, kpM hb2 st', _, _, _, _, h.both hT' hK' st hU' hP' st' (foldClose_inv _ _ h.hi), by omega, by omega, by omega⟩
  · rintro _ w38 ⟨_, hb38, sl', s', L', M', h38, b1, b2, b3⟩
    refine ⟨_, (hb38.cell 2).trans rfl, tmarked_to h38.ht _ ⟨_, _, rfl, _, (hb38.cell 2).trans rfl, ptmarked_to h38.hu _ ⟨_, _, rfl, _, (hb38.cell 2).trans rfl, tdesc_to h38.ht _ ⟨_, _, rfl, _, (hb38.cell 2).trans rfl, ptdesc_to h38.hu _ ⟨_, _, rfl, ?_⟩⟩⟩⟩⟩
    exact condT (by simp) (tnum_to ⟨_, rfl, condT (by simp) (condT (by simp) (tnum_to ⟨_, rfl, by simp, sl', s', L', M', h38, b1, b2, b3⟩))⟩)
end Go.Proofs.YtpoaacnnhgebfaaGreat
namespace Go.Proofs.YtpoaacnnhgebfaaGreat
open Go.Lw
theorem fork_both {W w w1 w2 : World} {gk pk t u c c' : Nat} {sl : List (Int × Bool)} {s : AK} {L M L' M' : KL} (h : DuT W w gk pk t u sl s L M) (hc : w.heap.size ≤ c) (hT : TabO w1 c gk (tFork sl s).1) (hK : KernO w1 gk (tFork sl s).2 L') (hn : L'.own c = none) (st : KStep w w1 L L') (hc' : w1.heap.size ≤ c') (hU : TabO w2 c' pk (tFork sl s).1) (hP : PagE w2 pk (tFork sl s).2 M') (hn' : M'.own c' = none) (st' : KStep w1 w2 M M') :
    DuT W w2 gk pk c c' (tFork sl s).1 (tFork sl s).2 L' M' := by
  obtain ⟨tl, nm, d⟩ := h.du
  obtain ⟨tl', nm', hP⟩ := hP
  have hz := h.kp.size
  have hcl := hT.lt
  have hmc : M.own c = none := d.hp.new_none hc
  exact ⟨⟨tl', nm', d.both hK st hP st' ((forkL_cs sl 64 0 slots0 s).2.2.2 h.hi)⟩, hT.keep st'.kept fun e => e hmc, hU, hn, hK.new_none hc', st'.own' hmc hcl, hn', by omega, by omega, by have := st.kept.size; omega⟩
set_option maxHeartbeats 8000000 in
theorem walk_fdtablePlays {W : World} {args : List Value} (h : V4 W args) : CallR Tryz.prog 4 args W fun v w' => v = .bool true ∧ Kept No W w' := by
  obtain ⟨a1, l1, c1, h1, h2, h3, h4, a2, l2, c2, g1, g2, g3, g4, a3, l3, c3, k1, k2, k3, k4, a4, l4, c4, s1, s2, s3, s4, rfl⟩ := h
  obtain ⟨fs, ts, ps, hset⟩ := setup_of_view h1 h2 h3 h4 g1 g2 g3 g4 k1 k2 k3 k4
  have hl4b : l4 * 80 ≤ 140737488351232 := s3
  refine C4 ?_
  unfold L4
  intro w1
  have hb1 : Blk w1 W.heap.size #[.slice a1 l1 c1, .slice a2 l2 c2, .slice a3 l3 c3] := Blk.alloc _ _ _
  have hk1 : Kept No W w1 := Kept.alloc _ _ _
  clear_value w1
  refine ⟨_, _, _, _, _, _, _, _, _, (hb1.cell 0).trans rfl, (hb1.cell 1).trans rfl, (hb1.cell 2).trans rfl, CallR.mono (config_ok (hset.no hk1)) ?_⟩
  rintro v w2 ⟨af, cf, at_, ct, ap, cp, rfl, hk2, hset2⟩
  obtain ⟨ef, hef⟩ := hset2.ef
  obtain ⟨et, het⟩ := hset2.et
  have q1 := hset2.lf
  have q2 := hset2.lt
  refine ⟨_, _, _, _, _, _, _, _, _, rfl, CallR.mono (kernNew_ok hef het hset2.pp (by omega) (by omega)) ?_⟩
  rintro v w7 ⟨hk7, hv7⟩
  obtain ⟨p15, n16, rfl, hr⟩ : ∃ (p : Option Addr) (n : Int), v = .tuple #[.pointer p, .int .i64 n] ∧ ((checkK fs ts ps ≠ 0 ∧ p = none ∧ n = checkK fs ts ps) ∨ (checkK fs ts ps = 0 ∧ n = 0 ∧ ∃ gk L, p = some ⟨gk, 0, none⟩ ∧ KernO w7 gk (AK.new fs ts ps) L ∧ ∀ z, L.own z ≠ none → w2.heap.size ≤ z)) := by
    rcases hv7 with ⟨a, rfl⟩ | ⟨a, gk, L, rfl, b, c⟩
    · exact ⟨_, _, rfl, .inl ⟨a, rfl, rfl⟩⟩
    · exact ⟨_, _, rfl, .inr ⟨a, rfl, gk, L, rfl, b, c⟩⟩
  have hn16 : n16 = checkK fs ts ps := by
    rcases hr with ⟨_, _, e⟩ | ⟨a, e, _⟩
    · exact e
    · rw [e, a]
  clear hv7
  have k2' : Kept No W w2 := hk1.no hk2
  have k7 := k2'.no hk7
  have hb7 := (hb1.keep hk2 fun e => e).keep hk7 fun e => e
  refine ⟨_, _, rfl, _, _, _, _, _, _, _, _, _, (hb7.cell 0).trans rfl, (hb7.cell 1).trans rfl, (hb7.cell 2).trans rfl, CallR.mono (page_ok (hset.no k7)) ?_⟩
  rintro v w9 ⟨hk9, hv9⟩
  have k9 := k7.no hk9
  obtain ⟨p26, rfl, hr'⟩ : ∃ (p : Option Addr), v = .pointer p ∧ ((checkK fs ts ps ≠ 0 ∧ p = none) ∨ (checkK fs ts ps = 0 ∧ ∃ pk L tl nm, p = some ⟨pk, 0, none⟩ ∧ PagO w9 pk (AK.new fs ts ps) L tl nm ∧ ∀ z, L.own z ≠ none → w7.heap.size ≤ z)) := by
    rcases hv9 with ⟨a, rfl⟩ | ⟨a, pk, L, tl, nm, rfl, b, c⟩
    · exact ⟨_, rfl, .inl ⟨a, rfl⟩⟩
    · exact ⟨_, rfl, .inr ⟨a, pk, L, tl, nm, rfl, b, c⟩⟩
  clear hv9
  subst hn16
  have kd : Kept No w9 w9.drew := Kept.drew _ _
  have hb9 := hb7.keep hk9 fun e => e
  have hbd := hb9.keep kd fun e => e
  refine ⟨_, rfl, fun w' => Blk w' W.heap.size #[.slice a1 l1 c1, .slice a2 l2 c2, .slice a3 l3 c3], hbd, _, _, _, fun wS hS => (hS.cell 0).trans rfl, _, _, _, fun wS hS => (hS.cell 1).trans rfl, _, _, _, fun wS hS => (hS.cell 2).trans rfl, tnum_to ⟨_, rfl, hbd, ?_⟩⟩
  have k9d := k9.no kd
  have hset9 := hset.no k9d
  obtain ⟨ef9, hef9⟩ := hset9.ef
  obtain ⟨et9, het9⟩ := hset9.et
  refine CallR.mono (pcheck_ok hef9 het9 hset9.pp (by omega) (by omega)) ?_
  rintro v w12 ⟨rfl, hk12⟩
  have k12 := k9d.no hk12
  refine ⟨_, rfl, condF (by simp) ?_⟩
  rcases hr with ⟨hck, rfl, _⟩ | ⟨hck, _, gk, L, rfl, hK7, hnL⟩
  · rcases hr' with ⟨_, rfl⟩ | ⟨hck', _⟩
    · refine condFa2 (condTr2 (CallR.mono alive7_ok ?_))
      rintro v w14 ⟨rfl, hk14⟩
      exact ⟨_, rfl, rfl, k12.no hk14⟩
    · exact absurd hck' hck
  rcases hr' with ⟨hck', _⟩ | ⟨_, pk, M, tl, nm, rfl, hP9, hnM⟩
  · exact absurd hck hck'
  have hD : Duo W w12 gk pk (AK.new fs ts ps) L M tl nm := ⟨((hK7.no hk9).no kd).no hk12, (hP9.no kd).no hk12, PInv.new _ _ _, fun z hz => by
      cases ho : M.own z with
      | none => rfl
      | some t =>
        have a := hnM z (by rw [ho]; simp)
        have b := hK7.lt z hz
        omega, fun z hz => by have := hnL z hz; have := k2'.size; omega, fun z hz => by have := hnM z hz; have := k7.size; omega, k12⟩
  clear hK7 hnL hnM hP9
  refine condFa2 (condFa2 (CallR.mono (tnew_okT gk) ?_))
  rintro v w13 ⟨rfl, hT13, hk13⟩
  refine ⟨_, rfl, CallR.mono (ptnew_ok pk) ?_⟩
  rintro v w14 ⟨rfl, hU14, hk14⟩
  refine ⟨_, rfl, condFa2 ?_⟩
  have hz12 := k12.size
  have hz13 := hk13.size
  have hT13l := hT13.lt
  have hDT : DuT W w14 gk pk w12.heap.size w13.heap.size slots0 (AK.new fs ts ps) L M := ⟨⟨tl, nm, (hD.no hk13).no hk14⟩, hT13.keep hk14 (fun e => e), hU14, hD.hk.new_none (Nat.le_refl _), hD.hk.new_none hz13, hD.hp.new_none (Nat.le_refl _), hD.hp.new_none hz13, by omega, by omega, by omega⟩
  obtain ⟨I, hI⟩ : ∃ I : List Value → World → Prop, I = fun vs w' => ∃ (i : Nat) (t u : Nat) (sl : List (Int × Bool)) (s : AK) (L M : KL), vs = [pd t, pd u, .int .i64 (i : Int)] ∧ i ≤ l4 ∧ s.next ≤ 1 + 2 * (i : Int) ∧ s.c0 ≤ (i : Int) ∧ s.c1 ≤ (i : Int) ∧ DuT W w' gk pk t u sl s L M := ⟨_, rfl⟩
  obtain ⟨mu, hmu⟩ : ∃ mu : List Value → World → Nat, mu = fun vs _ => match vs with | [_, _, .int _ n] => l4 - n.toNat | _ => 0 := ⟨_, rfl⟩
  refine ⟨I, mu, by rw [hI]; exact ⟨0, _, _, _, _, L, M, rfl, by omega, by rw [(AK.new_is _ _ _).2.2.2.1]; omega, by rw [(AK.new_is _ _ _).2.2.2.2.2.1]; omega, by rw [(AK.new_is _ _ _).2.2.2.2.2.2]; omega, hDT⟩, ?_⟩
  clear hDT hD hset2 hef het hset9 hef9 het9 q1 q2 hT13 hU14 hb9 hbd hb7 hb1
  clear L M tl nm
  intro _ p36 p37 n38 w15 hInv
  rw [hI] at hInv
  obtain ⟨i, t, u, sl, s, L, M, hvs, hi, hnx, hc0, hc1, h15⟩ := hInv
  simp only [List.cons.injEq, Value.int.injEq, Value.pointer.injEq, true_and, and_true] at hvs
  obtain ⟨rfl, rfl, rfl⟩ := hvs
  have lists : ∀ {sl : List (Int × Bool)} {w' : World} {a : Option Addr} {l c : Nat}, SlO 1 w' a l c (In (castI (usedIx sl))) → l ≤ 140737488355328 := by
    intro sl w' a l c hs
    have h1 := (usedL_lt sl 64 0).1
    have h2 := In_len hs.rd
    have h3 : (castI (usedIx sl)).length = (usedIx sl).length := by unfold castI; rw [List.length_map]
    unfold usedIx at h3 h2
    omega
  have fin : ∀ {w' : World} {t' u' : Nat} {sl' : List (Int × Bool)} {s' : AK} {L' M' : KL}, DuT W w' gk pk t' u' sl' s' L' M' → s'.next ≤ s.next + 2 → s'.c0 ≤ s.c0 + 1 → s'.c1 ≤ s.c1 + 1 → i < l4 → inI ((i : Int) + 1) ∧ I [pd t', pd u', .int .i64 ((i : Int) + 1)] w' ∧ mu [pd t', pd u', .int .i64 ((i : Int) + 1)] w' < mu [pd t, pd u, .int .i64 (i : Int)] w15 := by
    intro w' t' u' sl' s' L' M' hT b1 b2 b3 hlt
    refine ⟨⟨by omega, by omega⟩, ?_, ?_⟩
    · rw [hI]
      exact ⟨i + 1, t', u', sl', s', L', M', rfl, by omega, by omega, by omega, by omega, hT⟩
    · rw [hmu]
      show l4 - Int.toNat ((i : Int) + 1) < l4 - Int.toNat (i : Int)
      omega
  refine condP (fun hlt => ?_) (fun hge => ?_)
  · have hil : i < l4 := by omega
    obtain ⟨q, haq⟩ : ∃ q, a4 = some q := by
      cases ha : a4 with
      | none => have := s2 ha; omega
      | some q => exact ⟨q, rfl⟩
    obtain ⟨n1, _, sn, _, n2, _, n3, _, n4, _, bb, da, dl, dc, ns, r1, _, _, e0, e1, e2, e3, e4, e5, e6, _⟩ := s4 q haq i hil
    have hrd : RdB W da dl dc ns := r1
    have hrg : 0 ≤ (i : Int) ∧ (i : Int) < ((l4 : Nat) : Int) := by omega
    have e0n : Int.toNat (i : Int) = i := Int.toNat_natCast i
    rw [e0n]
    refine ⟨hrg, nnE2 haq ⟨_, h15.kp.cell e0 fun e => e, condI (fun _ => ?_) (fun _ => ?_)⟩⟩
    · refine CallR.mono (tfork_ok h15.ht h15.hk h15.lt) ?_
      rintro v w16 ⟨c, L', rfl, hc, hT16, hK16, hn16, st16⟩
      refine ⟨_, rfl, condFa2 ?_⟩
      have st : TStep t w15 w16 L L' := .of_k st16
      refine CallR.mono (ptfork_ok (h15.midU st) (h15.midP st) h15.mu) ?_
      rintro v w17 ⟨c', M', rfl, hc', hU17, hP17, hn17, st17⟩
      have h17 := fork_both h15 hc hT16 hK16 hn16 st16 hc' hU17 hP17 hn17 st17
      obtain ⟨f1, f2, f3, _⟩ := forkL_cs sl 64 0 slots0 s
      have f1 : (tFork sl s).2.c0 = s.c0 := f1
      have f2 : (tFork sl s).2.c1 = s.c1 := f2
      have f3 : (tFork sl s).2.next = s.next := f3
      have k17 := h17.kp
      refine ⟨_, rfl, hrg, nnE2 haq ⟨_, _, _, _, _, _, _, _, _, k17.cell e0 (fun e => e), k17.cell e1 (fun e => e), k17.cell e2 (fun e => e), k17.cell e3 (fun e => e), k17.cell e4 (fun e => e), k17.cell e5 (fun e => e), k17.cell e6 (fun e => e), CallR.mono (worn_ok h17 ⟨n1, sn, n2, n3, n4, bb, (da, dl, dc), ns⟩ hrd (by omega) (by omega) (by omega)) ?_⟩⟩
      rintro v w18 ⟨rfl, sl', s', L2, M2, h18, b1, b2, b3⟩
      refine ⟨_, rfl, condFa2 (CallR.mono (tlist_ok h18.ht) ?_)⟩
      rintro v w19 ⟨a55, l55, c55, rfl, hs19, _, hk19⟩
      refine ⟨_, _, _, rfl, CallR.mono (ptlist_ok (h18.no hk19).hu) ?_⟩
      rintro v w20 ⟨a57, l57, c57, rfl, hs20, _, hk20⟩
      have hs19' := hs19.keep hk20 fun _ _ e => e
      refine ⟨_, _, _, rfl, CallR.mono (sameInts_ok hs19'.rd hs20.rd (lists hs19)) ?_⟩
      rintro v w21 ⟨rfl, hk21⟩
      exact ⟨_, rfl, condF (by simp) (fin (((h18.no hk19).no hk20).no hk21) (by omega) (by omega) (by omega) hil)⟩
    · have k17 := h15.kp
      refine ⟨hrg, nnE2 haq ⟨_, _, _, _, _, _, _, _, _, k17.cell e0 (fun e => e), k17.cell e1 (fun e => e), k17.cell e2 (fun e => e), k17.cell e3 (fun e => e), k17.cell e4 (fun e => e), k17.cell e5 (fun e => e), k17.cell e6 (fun e => e), CallR.mono (worn_ok h15 ⟨n1, sn, n2, n3, n4, bb, (da, dl, dc), ns⟩ hrd (by omega) (by omega) (by omega)) ?_⟩⟩
      rintro v w18 ⟨rfl, sl', s', L2, M2, h18, b1, b2, b3⟩
      refine ⟨_, rfl, condFa2 (CallR.mono (tlist_ok h18.ht) ?_)⟩
      rintro v w19 ⟨a55, l55, c55, rfl, hs19, _, hk19⟩
      refine ⟨_, _, _, rfl, CallR.mono (ptlist_ok (h18.no hk19).hu) ?_⟩
      rintro v w20 ⟨a57, l57, c57, rfl, hs20, _, hk20⟩
      have hs19' := hs19.keep hk20 fun _ _ e => e
      refine ⟨_, _, _, rfl, CallR.mono (sameInts_ok hs19'.rd hs20.rd (lists hs19)) ?_⟩
      rintro v w21 ⟨rfl, hk21⟩
      exact ⟨_, rfl, condF (by simp) (fin (((h18.no hk19).no hk20).no hk21) (by omega) (by omega) (by omega) hil)⟩
  · obtain ⟨tl, nm, d⟩ := h15.du
    refine CallR.mono (same6_ok d (by omega)) ?_
    rintro v w17 ⟨rfl, hk17⟩
    refine ⟨_, rfl, condTr2 (CallR.mono alive7_ok ?_)⟩
    rintro v w18 ⟨rfl, hk18⟩
    exact ⟨_, rfl, rfl, (h15.kp.no hk17).no hk18⟩
end Go.Proofs.YtpoaacnnhgebfaaGreat
set_option maxRecDepth 100000
namespace Go.Proofs.YtpoaacnnhgebfaaGreat.fdtablePlays
open Go.Lw Go.ChangeShapes Go.WideShapes Go.RowKit
theorem lifted (os : Os) (started : os.Started) (H : Type) (enc : TypeId × Value → H) :
    ReturnsInHanded {} Tryz.checked os 4 .any (Rows.fdtablePlaysSpec.pre6 enc Tryz.prog Tryz.f4 Rows.fdtablePlaysRow.domain false) (Rows.fdtablePlaysSpec.post enc Tryz.prog Tryz.f4 false true false false) := by
  refine returnsInHanded_of_change_sized (C := Tryz.checked) (by kernel_rfl) started (by kernel_rfl) Tryz.func4
    (ChangeSpec.witness6 (enc := enc) (C := Tryz.checked) false ⟨#[], #[.agg #[.slice none 0 0, .slice none 0 0, .slice none 0 0], .slice none 0 0], []⟩ 8 (by kernel_rfl) (by kernel_rfl) (by kernel_rfl) (by kernel_rfl)) ?_
  intro W base args ds gs before hval hW _ hsz _
  exact law_contract (P := Tryz.prog) (fn := Tryz.f4) (s := Rows.fdtablePlaysSpec) (ts := [26, 46]) rfl (by kernel_rfl) (by kernel_rfl) (by kernel_rfl) (tb := 4) rfl Tryz.underlying4 rfl
    (fun ds h => by match ds, h with | [x0, x1], _ => rfl) (fun W args h => walk_fdtablePlays (O4 h)) W base args ds gs before hval hW hsz
theorem iPlace : Tryz.prog.inPlace 4 = Rows.fdtablePlaysRow.inPlace := by kernel_rfl
theorem iUnf : Tryz.prog.unfollowed 4 = Rows.fdtablePlaysRow.unfollowed := by kernel_rfl
theorem iRec : Tryz.prog.recurses 4 = Rows.fdtablePlaysRow.recurses := by kernel_rfl
theorem iVars : Tryz.prog.varsNamed 4 = Rows.fdtablePlaysRow.named := by kernel_rfl
theorem closed : joinedFacts Tryz.prog 4 Tryz.f4 Rows.fdtablePlaysSpec Rows.fdtablePlaysRow = true := by
  unfold joinedFacts
  rw [jLaid, jMaps, jKeys, jHeard, jEnter, jLift, jMake, iPlace, iUnf, iRec, iVars]
  kernel_rfl
theorem proved : Rows.FdtablePlaysSaid :=
  OpenClaim.holds_of_wide 4 Tryz.f4 rfl rfl rfl rfl rfl rfl rfl ⟨rfl, rfl, rfl, rfl, rfl⟩ rfl rfl rfl rfl rfl (by kernel_rfl) Tryz.func4 closed
    (of_decide_eq_true (by kernel_rfl)) (by unfold Func.isWrapper; first | (rw [if_pos (by decide +kernel)]; kernel_rfl) | (rw [if_neg (by decide +kernel)]; exact ⟨rfl, rfl⟩))
    (fun os started H enc _ => lifted os started H enc)
end Go.Proofs.YtpoaacnnhgebfaaGreat.fdtablePlays
