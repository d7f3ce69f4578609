/-
  Part 5 of 6 of the proof of RetryPlays (the last part has its theorem): the program's functions as they are read, what each does, the law. Conditions: as each says; the theorem's: none.
-/
import Derived.Test.YtpoaacnnhgebfaaGreatRows
import Derived.JoinedOf
import Derived.WalkKit
import Derived.Deep.Quiet
import Derived.OrdersHeld
import Derived.ProofKit
import Derived.SizedLaws
import Derived.Carry
import Derived.OpenShut
import Derived.ChangeSame
import Derived.ChangeArms
import Derived.Deep.Slices
import Derived.Laws.BytesArg
import Derived.Lib.SlBytesConst
import Derived.Test.YtpoaacnnhgebfaaGreatProg
import Derived.RangeFuncIn
import Derived.RangeFuncLeaves
import Derived.RangeFuncRecord
import Derived.TacticsIn
import Derived.MapKept
import Derived.Laws.RangeAny
import Derived.Lib.OthersKept
import Derived.FollowTie
import Derived.Test.YtpoaacnnhgebfaaGreatChecked
import Derived.Shelf.Sort.AssemblysIn
import Derived.Sort.EveryDepth
import Derived.Maps.RangeRun
import Derived.Sort.KeysCollected
import Derived.Sort.OwnSorted
import Derived.Laws.StructEq
import Derived.LaidEql
import Derived.Test.YtpoaacnnhgebfaaGreatKRetryPlays4
set_option linter.unusedVariables false
set_option maxRecDepth 512
namespace Go.Proofs.YtpoaacnnhgebfaaGreat
open Go.Lw
def thC (nm : ByteArray) (k : TK) (b : Nat) : Array Value := match k with
  | .disk => #[.string nm, .int .i64 1, pd b, .pointer none, .pointer none]
  | .scr => #[.string nm, .int .i64 2, .pointer none, pd b, .pointer none]
  | .con => #[.string nm, .int .i64 3, .pointer none, .pointer none, pd b]
def PObjF (F R : Nat → Prop) (w : World) (b : Nat) : AObj → Prop
  | .file bs => RefO F w b bs
  | .term LL scr => RefT F R w b LL scr
  | .pipe bs e0 e1 => RefP w b F bs e0 e1
theorem PObjF.keep {F R S : Nat → Prop} {w w' : World} {b : Nat} {o : AObj} (h : PObjF F R w b o) (k : Kept S w w') (hf : ∀ z, F z → ¬ S z) (hr : ∀ z, R z → ¬ S z) : PObjF F R w' b o := by
  cases o with
  | file bs => exact RefO.keep h k hf
  | term LL scr => exact RefT.keep h k hf hr
  | pipe bs e0 e1 => exact RefP.keep h k hf
theorem PObjF.lt {F R : Nat → Prop} {w : World} {b : Nat} {o : AObj} (h : PObjF F R w b o) : ∀ z, F z → z < w.heap.size := by
  cases o with
  | file bs => exact RefO.lt h
  | term LL scr => exact fun z hz => RefT.lt h z (.inl hz)
  | pipe bs e0 e1 => exact h.2.1
theorem PObjF.congr {F F' R R' : Nat → Prop} {w : World} {b : Nat} {o : AObj} (h : PObjF F R w b o) (hf : ∀ z, F z ↔ F' z) (hr : ∀ z, R z ↔ R' z) : PObjF F' R' w b o := by
  have e1 : F = F' := funext fun z => propext (hf z)
  have e2 : R = R' := funext fun z => propext (hr z)
  rw [← e1, ← e2]; exact h
def PObj (L : KL) (w : World) (i : Nat) (o : AObj) : Prop := PObjF (fun z => L.own z = some (.obj i)) (fun z => L.own z = some (.lines i)) w (L.loc i) o
def pdC (n : Int) (t : Nat) (fl at_ hd : Int) : Array Value := #[.int .i64 n, pd t, .int .i64 fl, .int .i64 at_, .int .i64 hd]
def nmLe (a b : ByteArray × Nat) : Prop := a.1.data.toList ≤ b.1.data.toList
structure PKb (w : World) (pk : Nat) (s : AK) (L : KL) (tl : Nat → Nat) (T : List (ByteArray × Nat)) (ta : Option Addr) (tc : Nat) (da : Option Addr) (dc : Nat) : Prop where
  b : Blk w pk #[.slice ta T.length tc, .slice da s.descs.length dc, .int .i64 s.next, pd L.pg, .int .i64 s.c0, .int .i64 s.c1]
  ts : SlO 1 w ta T.length tc (T.map fun t => pd (tl t.2))
  to : ∀ b, inA ta b → L.own b = some .mf
  ds : SlO 1 w da s.descs.length dc (s.descs.map fun d => pd (L.dloc d.num))
  dw : ∀ b, inA da b → L.own b = some .md
  pm : T.Perm (s.files ++ s.terms)
  so : T.Pairwise nmLe
structure PagO (w : World) (pk : Nat) (s : AK) (L : KL) (tl : Nat → Nat) (nm : Nat → ByteArray) : Prop where
  kb : ∃ T ta tc da dc, PKb w pk s L tl T ta tc da dc
  th : ∀ i, i < s.nob → Blk w (tl i) (thC (nm i) (s.objs i).kd (L.loc i)) ∧ L.own (tl i) = some .mt
  nn : ∀ f ∈ s.files ++ s.terms, nm f.2 = f.1
  ob : ∀ i, i < s.nob → PObj L w i (s.objs i)
  ds : ∀ d ∈ s.descs, Blk w (L.dloc d.num) (pdC d.num (tl d.ob) d.fl d.at_ d.hd)
  pl : ∃ a l c, Blk w L.pg #[.slice a l c] ∧ RdS 2 w a l c (Fv s.ps) ∧ ∀ b, inA a b → L.own b = some .flts
  oK : L.own pk = some .kern
  oP : L.own L.pg = some .plan
  od : ∀ d ∈ s.descs, L.own (L.dloc d.num) = some (.desc d.num)
  lt : ∀ k, L.own k ≠ none → k < w.heap.size
  ok : s.Ok
theorem PKb.keep {w w' : World} {pk : Nat} {s : AK} {L : KL} {tl : Nat → Nat} {T : List (ByteArray × Nat)} {ta : Option Addr} {tc : Nat} {da : Option Addr} {dc : Nat} (h : PKb w pk s L tl T ta tc da dc) (hK : L.own pk = some .kern) {S : Nat → Prop} (k : Kept S w w')
    (hS : ∀ z t, S z → L.own z = some t → t ≠ .kern ∧ t ≠ .mf ∧ t ≠ .md) : PKb w' pk s L tl T ta tc da dc :=
  ⟨h.b.keep k fun e => (hS _ _ e hK).1 rfl, h.ts.keep k fun b hb e => (hS _ _ e (h.to b hb)).2.1 rfl, h.to, h.ds.keep k fun b hb e => (hS _ _ e (h.dw b hb)).2.2 rfl, h.dw, h.pm, h.so⟩
theorem PagO.keep {w w' : World} {pk : Nat} {s : AK} {L : KL} {tl : Nat → Nat} {nm : Nat → ByteArray} (h : PagO w pk s L tl nm) {S : Nat → Prop} (k : Kept S w w') (hS : ∀ x, S x → L.own x = none) : PagO w' pk s L tl nm where
  kb := by
    obtain ⟨T, ta, tc, da, dc, hb⟩ := h.kb
    exact ⟨T, ta, tc, da, dc, hb.keep h.oK k fun z t e o => by have := hS z e; rw [o] at this; cases this⟩
  th := fun i hi => ⟨(h.th i hi).1.keep k (fun e => by have := hS _ e; rw [(h.th i hi).2] at this; cases this), (h.th i hi).2⟩
  nn := h.nn
  ob := fun i hi => PObjF.keep (h.ob i hi) k (fun x hx e => by have := hS _ e; rw [hx] at this; cases this) (fun x hx e => by have := hS _ e; rw [hx] at this; cases this)
  ds := fun d hd => (h.ds d hd).keep k fun e => by have := hS _ e; rw [h.od d hd] at this; cases this
  pl := by
    obtain ⟨a, l, c, h1, h2, h3⟩ := h.pl
    exact ⟨a, l, c, h1.keep k (fun e => by have := hS _ e; rw [h.oP] at this; cases this), h2.keep k (fun b _ hb e => by have := hS _ e; rw [h3 b hb] at this; cases this), h3⟩
  oK := h.oK
  oP := h.oP
  od := h.od
  lt := fun x hx => Nat.lt_of_lt_of_le (h.lt x hx) k.size
  ok := h.ok
theorem PagO.no {w w' : World} {pk : Nat} {s : AK} {L : KL} {tl : Nat → Nat} {nm : Nat → ByteArray} (h : PagO w pk s L tl nm) (k : Kept No w w') : PagO w' pk s L tl nm := h.keep k fun _ e => e.elim
theorem PagO.new_none {w : World} {pk : Nat} {s : AK} {L : KL} {tl : Nat → Nat} {nm : Nat → ByteArray} (h : PagO w pk s L tl nm) {z : Nat} (hz : w.heap.size ≤ z) : L.own z = none := by
  cases ho : L.own z with
  | none => rfl
  | some t => have := h.lt z (by rw [ho]; simp); omega
open Classical in
noncomputable def KL.setT (L : KL) (t : Tag) (F : Nat → Prop) : KL :=
  { L with own := fun z => if F z then some t else if L.own z = some t then none else L.own z }
theorem KL.setT_eq (L : KL) (t : Tag) (F : Nat → Prop) (z : Nat) : (L.setT t F).own z = some t ↔ F z := by
  unfold KL.setT
  dsimp only
  by_cases h : F z
  · simp [h]
  · rw [if_neg h]
    by_cases e : L.own z = some t
    · simp [e, h]
    · rw [if_neg e]; exact ⟨fun h => absurd h e, fun e => absurd e h⟩
theorem KL.setT_ne (L : KL) {t : Tag} {F : Nat → Prop} (hF : ∀ z, F z → L.own z = some t ∨ L.own z = none) (z : Nat) {u : Tag} (hu : u ≠ t) : (L.setT t F).own z = some u ↔ L.own z = some u := by
  unfold KL.setT
  dsimp only
  by_cases h : F z
  · rw [if_pos h]
    rcases hF z h with e | e
    · rw [e]
    · rw [e]; simp [Ne.symm hu]
  · rw [if_neg h]
    by_cases e : L.own z = some t
    · rw [if_pos e, e]; simp [Ne.symm hu]
    · rw [if_neg e]
theorem KL.setT_some (L : KL) (t : Tag) (F : Nat → Prop) {z : Nat} (h : (L.setT t F).own z ≠ none) : F z ∨ L.own z ≠ none := by
  unfold KL.setT at h
  dsimp only at h
  by_cases e : F z
  · exact .inl e
  · rw [if_neg e] at h
    by_cases e2 : L.own z = some t
    · rw [if_pos e2] at h; exact absurd rfl h
    · rw [if_neg e2] at h; exact .inr h
theorem own_old {w : World} {pk : Nat} {s : AK} {L : KL} {tl : Nat → Nat} {nm : Nat → ByteArray} (h : PagO w pk s L tl nm) {t : Tag} {F : Nat → Prop} (hF : ∀ z, F z → L.own z = some t ∨ w.heap.size ≤ z) : ∀ z, F z → L.own z = some t ∨ L.own z = none := fun z hz => by
  rcases hF z hz with e | e
  · exact .inl e
  · exact .inr (h.new_none e)
theorem PagO.objD {w w' : World} {pk : Nat} {s : AK} {L : KL} {tl : Nat → Nat} {nm : Nat → ByteArray} (h : PagO w pk s L tl nm) {i : Nat} {d : Int} {S : Nat → Prop} (k : Kept S w w')
    (hS : ∀ z, S z → L.own z = some (.obj i) ∨ L.own z = some (.desc d)) {o : AObj} (ho : o.kd = (s.objs i).kd) {F : Nat → Prop} (hF : ∀ z, F z → L.own z = some (.obj i) ∨ w.heap.size ≤ z)
    (hO : PObjF F (fun z => L.own z = some (.lines i)) w' (L.loc i) o) {at' hd' : Int} (hD : ∀ y ∈ s.descs, y.num = d → Blk w' (L.dloc d) (pdC d (tl y.ob) y.fl at' hd')) (hr : 0 ≤ at' ∧ at' ≤ 1048576 ∧ 1 ≤ hd' ∧ hd' ≤ 1024) :
    ∃ L', PagO w' pk ((s.setO i o).setD d at' hd') L' tl nm ∧ KStep w w' L L' ∧ L'.loc = L.loc ∧ L'.dloc = L.dloc := by
  have hF' := own_old h hF
  have ne := fun z {u : Tag} (hu : u ≠ .obj i) => L.setT_ne hF' z hu
  have eq := L.setT_eq (.obj i) F
  have no : ∀ z t, L.own z = some t → t ≠ .obj i → t ≠ .desc d → ¬ S z := by
    intro z t hz h1 h2 hs
    rcases hS z hs with e | e
    · rw [hz] at e; simp only [Option.some.injEq] at e; exact h1 e
    · rw [hz] at e; simp only [Option.some.injEq] at e; exact h2 e
  have hkd : ∀ j, ((s.setO i o).objs j).kd = (s.objs j).kd := fun j => by
    show (if j = i then o else s.objs j).kd = _
    by_cases e : j = i
    · rw [if_pos e, ho, e]
    · rw [if_neg e]
  have hlen : (((s.setO i o).setD d at' hd').descs).length = s.descs.length := by show (s.descs.map _).length = _; simp
  have hptr : ((s.setO i o).setD d at' hd').descs.map (fun y => pd (L.dloc y.num)) = s.descs.map fun y => pd (L.dloc y.num) := by
    show (s.descs.map fun x => if x.num = d then { x with at_ := at', hd := hd' } else x).map _ = _
    rw [List.map_map]
    apply List.map_congr_left
    intro y _
    show pd (L.dloc (if y.num = d then ({ y with at_ := at', hd := hd' } : AD) else y).num) = _
    split <;> rfl
  refine ⟨L.setT (.obj i) F, ⟨?_, fun j hj => ?_, h.nn, fun j hj => ?_, fun y hy => ?_, ?_, (ne _ (by simp)).2 h.oK, (ne _ (by simp)).2 h.oP, fun y hy => ?_, fun z hz => ?_, (h.ok.setO ho).setD hr⟩, ⟨k.mono fun z _ hz => ?_, fun z hz => ?_⟩, rfl, rfl⟩
  · obtain ⟨T, ta, tc, da, dc, hb⟩ := h.kb
    refine ⟨T, ta, tc, da, dc, ?_, hb.ts.keep k fun b hb' => no _ _ (hb.to b hb') (by simp) (by simp), fun b hb' => (ne _ (by simp)).2 (hb.to b hb'), ?_, fun b hb' => (ne _ (by simp)).2 (hb.dw b hb'), hb.pm, hb.so⟩
    · rw [hlen]; exact hb.b.keep k (no _ _ h.oK (by simp) (by simp))
    · rw [hlen]
      show SlO 1 w' da _ dc (((s.setO i o).setD d at' hd').descs.map fun y => pd (L.dloc y.num))
      rw [hptr]
      exact hb.ds.keep k fun b hb' => no _ _ (hb.dw b hb') (by simp) (by simp)
  · have hj : j < s.nob := hj
    show Blk w' (tl j) (thC (nm j) ((s.setO i o).objs j).kd (L.loc j)) ∧ _
    rw [hkd]
    exact ⟨(h.th j hj).1.keep k (no _ _ (h.th j hj).2 (by simp) (by simp)), (ne _ (by simp)).2 (h.th j hj).2⟩
  · have hj' : j < s.nob := hj
    show PObjF _ _ w' (L.loc j) (if j = i then o else s.objs j)
    by_cases e : j = i
    · subst e
      rw [if_pos rfl]
      exact hO.congr (fun z => (eq z).symm) (fun z => (ne z (by simp)).symm)
    · rw [if_neg e]
      exact ((h.ob j hj').keep k (fun z hz => no _ _ hz (by simpa using e) (by simp)) (fun z hz => no _ _ hz (by simp) (by simp))).congr (fun z => (ne z (by simpa using e)).symm) (fun z => (ne z (by simp)).symm)
  · obtain ⟨y', hy', ⟨hn, rfl⟩ | ⟨hn, rfl⟩⟩ := AK.setD_mem hy
    · show Blk w' (L.dloc y'.num) (pdC y'.num (tl y'.ob) y'.fl at' hd')
      rw [hn]; exact hD y' hy' hn
    · exact (h.ds y hy').keep k (no _ _ (h.od y hy') (by simp) (by simpa using hn))
  · obtain ⟨a, l, c, h1, h2, h3⟩ := h.pl
    exact ⟨a, l, c, h1.keep k (no _ _ h.oP (by simp) (by simp)), h2.keep k fun b _ hb => no _ _ (h3 b hb) (by simp) (by simp), fun b hb => (ne _ (by simp)).2 (h3 b hb)⟩
  · obtain ⟨y', hy', ⟨hn, rfl⟩ | ⟨hn, rfl⟩⟩ := AK.setD_mem hy
    · exact (ne _ (by simp)).2 (h.od y' hy')
    · exact (ne _ (by simp)).2 (h.od y hy')
  · rcases L.setT_some _ _ hz with e | e
    · exact hO.lt z e
    · exact Nat.lt_of_lt_of_le (h.lt z e) k.size
  · rcases hS z hz with e | e
    · rw [e]; simp
    · rw [e]; simp
  · rcases L.setT_some _ _ hz with e | e
    · rcases hF z e with e | e
      · exact .inl (by rw [e]; simp)
      · exact .inr e
    · exact .inl e
theorem PagO.count {w w' : World} {pk : Nat} {s : AK} {L : KL} {tl : Nat → Nat} {nm : Nat → ByteArray} (h : PagO w pk s L tl nm) {S : Nat → Prop} (k : Kept S w w') (hS : ∀ z, S z → z = pk ∨ z = L.pg) {s' : AK} (e1 : s'.files = s.files) (e2 : s'.terms = s.terms) (e3 : s'.objs = s.objs) (e4 : s'.nob = s.nob) (e5 : s'.descs = s.descs) (e6 : s'.next = s.next)
    {T : List (ByteArray × Nat)} {ta : Option Addr} {tc : Nat} {da : Option Addr} {dc : Nat} (hB : PKb w pk s L tl T ta tc da dc) (hb : Blk w' pk #[.slice ta T.length tc, .slice da s.descs.length dc, .int .i64 s.next, pd L.pg, .int .i64 s'.c0, .int .i64 s'.c1])
    (hp : ∃ a l c, Blk w' L.pg #[.slice a l c] ∧ RdS 2 w' a l c (Fv s'.ps) ∧ ∀ b, inA a b → L.own b = some .flts) (hok : s'.Ok) : PagO w' pk s' L tl nm ∧ KStep w w' L L := by
  have no : ∀ z t, L.own z = some t → t ≠ .kern → t ≠ .plan → ¬ S z := by
    intro z t hz h1 h2 hs
    rcases hS z hs with rfl | rfl
    · rw [h.oK] at hz; cases hz; exact h1 rfl
    · rw [h.oP] at hz; cases hz; exact h2 rfl
  refine ⟨⟨?_, fun i hi => ?_, fun f hf => h.nn f (by rwa [e1, e2] at hf), fun i hi => ?_, fun d hd => ?_, hp, h.oK, h.oP, fun d hd => h.od d (by rwa [e5] at hd), fun x hx => Nat.lt_of_lt_of_le (h.lt x hx) k.size, hok⟩, ⟨k.mono fun z _ hz => ?_, fun z hz => .inl hz⟩⟩
  · refine ⟨T, ta, tc, da, dc, by rw [e5, e6]; exact hb, hB.ts.keep k fun b hb => no _ _ (hB.to b hb) (by simp) (by simp), hB.to, by rw [e5]; exact hB.ds.keep k fun b hb => no _ _ (hB.dw b hb) (by simp) (by simp), hB.dw, by rw [e1, e2]; exact hB.pm, hB.so⟩
  · rw [e4] at hi
    rw [e3]
    exact ⟨(h.th i hi).1.keep k (no _ _ (h.th i hi).2 (by simp) (by simp)), (h.th i hi).2⟩
  · rw [e4] at hi
    rw [e3]
    exact PObjF.keep (h.ob i hi) k (fun x hx => no _ _ hx (by simp) (by simp)) (fun x hx => no _ _ hx (by simp) (by simp))
  · rw [e5] at hd
    exact (h.ds d hd).keep k (no _ _ (h.od d hd) (by simp) (by simp))
  · rcases hS z hz with rfl | rfl
    · rw [h.oK]; simp
    · rw [h.oP]; simp
end Go.Proofs.YtpoaacnnhgebfaaGreat
namespace Go.Proofs.YtpoaacnnhgebfaaGreat
open Go.Lw
theorem slo_cell {sz : Nat} {w : World} {a : Option Addr} {l c : Nat} {xs : List Value} (h : SlO sz w a l c xs) (hl : 0 < l) {j : Nat} {v : Value} (hv : xs[j]? = some v) : ∃ q, a = some q ∧ w.cell? (q.add j) = some v := by
  cases ha : a with
  | none => subst ha; have := RdS.isNone h.rd rfl; omega
  | some q => exact ⟨q, rfl, h.rd.2.2.2 q ha j v hv⟩
theorem pflagged_ok {w : World} (f : Int) {Q : Value → World → Prop} (hq : Q (.bool (AK.flagged f)) w) : CallR Tryz.prog 125 [.int .i64 f] w Q := by
  refine C125 ?_
  unfold L125
  have b3 : IntKind.wrap .i64 ↑(BitVec.ofInt (IntKind.bits .i64) f &&& BitVec.ofInt (IntKind.bits .i64) 3).toNat = bitI f 3 := rfl
  have b2 : IntKind.wrap .i64 ↑(BitVec.ofInt (IntKind.bits .i64) f &&& BitVec.ofInt (IntKind.bits .i64) 2).toNat = bitI f 2 := rfl
  have b20 : IntKind.wrap .i64 ↑(BitVec.ofInt (IntKind.bits .i64) f &&& BitVec.ofInt (IntKind.bits .i64) 20).toNat = bitI f 20 := rfl
  have b8 : IntKind.wrap .i64 ↑(BitVec.ofInt (IntKind.bits .i64) f &&& BitVec.ofInt (IntKind.bits .i64) 8).toNat = bitI f 8 := rfl
  have b32 : IntKind.wrap .i64 ↑(BitVec.ofInt (IntKind.bits .i64) f &&& BitVec.ofInt (IntKind.bits .i64) 32).toNat = bitI f 32 := rfl
  rw [b3, b2, b20, b8, b32]
  have fl : AK.flagged f = (decide (f ≥ 0 ∧ f ≤ 63) && (bitI f 3 != 0) && ((bitI f 2 != 0) || (bitI f 20 == 0)) && ((bitI f 8 != 0) || (bitI f 32 == 0))) := rfl
  rw [fl] at hq
  refine condP (fun h0 => ?_) (fun h0 => condP (fun h1 => ?_) (fun h1 => ?_))
  · rw [decide_eq_false (by omega)] at hq; exact hq
  · rw [decide_eq_false (by omega)] at hq; exact hq
  rw [decide_eq_true (by omega : f ≥ 0 ∧ f ≤ 63)] at hq
  by_cases h3 : bitI f 3 = 0
  · rw [h3] at hq ⊢; exact condTr2 hq
  refine condF (by simpa using h3) ?_
  rw [show (bitI f 3 != 0) = true by simpa using h3] at hq
  have tail : (Q (.bool ((bitI f 8 != 0) || (bitI f 32 == 0))) w) → cond (bitI f 32 == 0) (Q (.bool true) w) (Q (.bool (bitI f 8 != 0)) w) := fun hq => by
    by_cases h32 : bitI f 32 = 0
    · rw [h32] at hq ⊢; exact condTr2 (by simpa using hq)
    · rw [show (bitI f 32 == 0) = false by simpa using h32] at hq ⊢
      exact condFa2 (by simpa using hq)
  by_cases h20 : bitI f 20 = 0
  · rw [h20] at hq ⊢
    exact condFa2 (tail (by simpa using hq))
  refine condT (by simpa using h20) ?_
  rw [show (bitI f 20 == 0) = false by simpa using h20] at hq
  by_cases h2 : bitI f 2 = 0
  · rw [h2] at hq ⊢
    exact condTr2 (by simpa using hq)
  · refine condF (by simpa using h2) (tail ?_)
    rw [show (bitI f 2 != 0) = true by simpa using h2] at hq
    simpa using hq
theorem pnamed_ok {w : World} (s : ByteArray) {Q : Value → World → Prop} (hq : Q (.bool (namedS s)) w) : CallR Tryz.prog 56 [.string s] w Q := by
  refine C56 ?_
  unfold L56
  have he : (ByteArray.toList s == ByteArray.toList (ByteArray.mk #[])) = decide (s.size = 0) := by
    rw [strEq]
    refine decide_eq_decide.2 ⟨fun h => by rw [h]; rfl, fun h => ?_⟩
    have h : s.data.size = 0 := h
    cases s with
    | mk d =>
      have : d = #[] := Array.eq_empty_of_size_eq_zero h
      rw [this]
  rw [he]
  refine condP (fun h0 => ?_) (fun h0 => condP (fun h1 => ?_) (fun h1 => ?_))
  · rw [show namedS s = false by unfold namedS; rw [decide_eq_false]; exact fun h => h.1 h0] at hq; exact hq
  · rw [show namedS s = false by unfold namedS; rw [decide_eq_false]; exact fun h => by have := h.2.1; omega] at hq; exact hq
  refine ⟨fun vs w' => ∃ n : Nat, vs = [.int .i64 (n : Int)] ∧ n ≤ s.size ∧ w' = w ∧ ∀ i, (h : i < s.size) → i < n → 33 ≤ (s[i]'h).toNat ∧ (s[i]'h).toNat ≤ 126, fun vs _ => s.size - ix vs, ⟨0, rfl, Nat.zero_le _, rfl, fun i h h2 => by omega⟩, ?_⟩
  rintro _ n4 w1 ⟨n, hv, hn, hw, hpl⟩
  simp only [List.cons.injEq, Value.int.injEq, true_and, and_true] at hv
  subst hv
  subst hw
  have bad : ∀ i, (h : i < s.size) → ¬ (33 ≤ (s[i]'h).toNat ∧ (s[i]'h).toNat ≤ 126) → Q (.bool false) w1 := fun i h hne => by
    rw [show namedS s = false by unfold namedS; rw [decide_eq_false]; exact fun hh => hne (hh.2.2 i h)] at hq; exact hq
  refine condP (fun hlt => ?_) (fun hge => ?_)
  · have hns : n < s.size := by omega
    have hb : byteAt s (n : Int) = ((s[n]'hns).toNat : Int) := by
      unfold byteAt
      have : Int.toNat (n : Int) = n := Int.toNat_natCast n
      simp only [this]
      have e : s.data.toList[n]? = some (s[n]'hns) := by rw [Array.getElem?_toList, Array.getElem?_eq_getElem hns]; rfl
      rw [e]; rfl
    refine ⟨⟨by omega, by omega⟩, condP (fun hl => bad n hns (by omega)) (fun hl => ⟨⟨by omega, by omega⟩, condP (fun hg => bad n hns (by omega)) (fun hg => ⟨⟨by omega, by omega⟩, ⟨n + 1, rfl, by omega, rfl, fun i h hi => ?_⟩, by simp only [ix]; omega⟩)⟩)⟩
    by_cases e : i = n
    · subst e; omega
    · exact hpl i h (by omega)
  · have : namedS s = true := by
      unfold namedS
      rw [decide_eq_true]
      exact ⟨h0, by omega, fun i h => hpl i h (by omega)⟩
    rw [this] at hq; exact hq
theorem pfind_ok {w : World} {pk : Nat} {s : AK} {L : KL} {tl : Nat → Nat} {nm : Nat → ByteArray} (h : PagO w pk s L tl nm) (d : Int) :
    CallR Tryz.prog 168 [pd pk, .int .i64 d] w fun v w' => w' = w ∧ ((s.desc d = none ∧ v = .pointer none) ∨ ∃ x, s.desc d = some x ∧ v = pd (L.dloc d)) := by
  refine C168 ?_
  unfold L168
  obtain ⟨T, ta, tc, da, dc, hB⟩ := h.kb
  have hdl := h.ok.dl
  refine ⟨fun vs w' => ∃ n : Nat, vs = [.int .i64 (n : Int)] ∧ n ≤ s.descs.length ∧ w' = w ∧ ∀ i, (hi : i < s.descs.length) → i < n → s.descs[i].num ≠ d, fun vs _ => s.descs.length - ix vs, ⟨0, rfl, Nat.zero_le _, rfl, fun i h h2 => by omega⟩, ?_⟩
  rintro _ n5 w1 ⟨n, hv, hn, hw, hno⟩
  simp only [List.cons.injEq, Value.int.injEq, true_and, and_true] at hv
  subst hv
  subst hw
  refine nnI ⟨_, _, _, hB.b.at (i := 1) rfl, condP (fun hlt => ?_) (fun hge => ⟨rfl, .inl ⟨?_, rfl⟩⟩)⟩
  · have hnl : n < s.descs.length := by omega
    have hmem := List.getElem_mem hnl
    obtain ⟨q, haq, hc⟩ := slo_cell hB.ds (by omega) (j := n) (v := pd (L.dloc s.descs[n].num)) (by rw [List.getElem?_map, List.getElem?_eq_getElem hnl]; rfl)
    have e0 : Int.toNat (n : Int) = n := Int.toNat_natCast n
    rw [e0]
    have hr : 0 ≤ (n : Int) ∧ (n : Int) < ((s.descs.length : Nat) : Int) := by omega
    refine nnI ⟨_, _, _, hB.b.at (i := 1) rfl, hr, nnE2 haq ⟨_, hc, nnI ⟨_, (h.ds _ hmem).at0 rfl, condI (fun he => ?_) (fun hne => ?_)⟩⟩⟩
    · have he : s.descs[n].num = d := by simpa using he
      refine nnI ⟨_, _, _, hB.b.at (i := 1) rfl, hr, nnE2 haq ⟨_, hc, rfl, .inr ⟨s.descs[n], ?_, by rw [he]⟩⟩⟩
      cases hd : s.desc d with
      | none => exact absurd he (AK.desc_none hd _ hmem)
      | some x =>
        obtain ⟨hx, hxn⟩ := AK.desc_some hd
        have := h.ok.dn
        obtain ⟨i, hi, rfl⟩ := List.mem_iff_getElem.1 hx
        have e1 : (s.descs.map (·.num))[i]'(by simpa using hi) = (s.descs.map (·.num))[n]'(by simpa using hnl) := by rw [List.getElem_map, List.getElem_map]; exact hxn.trans he.symm
        have := (List.getElem_inj this).1 e1
        subst this
        rfl
    · have hne : s.descs[n].num ≠ d := by simpa using hne
      refine ⟨⟨by omega, by omega⟩, ⟨n + 1, rfl, by omega, rfl, fun i hi hin => ?_⟩, by simp only [ix]; omega⟩
      by_cases e : i = n
      · subst e; exact hne
      · exact hno i hi (by omega)
  · cases hd : s.desc d with
    | none => rfl
    | some x =>
      obtain ⟨hx, hxn⟩ := AK.desc_some hd
      obtain ⟨i, hi, rfl⟩ := List.mem_iff_getElem.1 hx
      exact absurd hxn (hno i hi (by omega))
def AK.thing (s : AK) (nm : ByteArray) : Option (ByteArray × Nat) := match s.termOf nm with
  | some t => some t
  | none => s.fileOf nm
theorem AK.thing_of {s : AK} (h : s.Ok) {t : ByteArray × Nat} (ht : t ∈ s.files ++ s.terms) : s.thing t.1 = some t := by
  unfold AK.thing
  rcases List.mem_append.1 ht with e | e
  · cases htt : s.termOf t.1 with
    | none => exact AK.fileOf_mem h e
    | some u =>
      obtain ⟨hu, hn⟩ := AK.termOf_some htt
      exact absurd hn.symm (h.ft t e u hu)
  · rw [AK.termOf_mem h.tn e]
theorem AK.thing_mem {s : AK} {nm : ByteArray} {t : ByteArray × Nat} (h : s.thing nm = some t) : t ∈ s.files ++ s.terms ∧ t.1 = nm := by
  unfold AK.thing at h
  split at h
  · rename_i u hu
    cases h
    obtain ⟨a, b⟩ := AK.termOf_some hu
    exact ⟨List.mem_append.2 (.inr a), b⟩
  · obtain ⟨a, b⟩ := AK.fileOf_some h
    exact ⟨List.mem_append.2 (.inl a), b⟩
theorem PagO.nobT {w : World} {pk : Nat} {s : AK} {L : KL} {tl : Nat → Nat} {nm : Nat → ByteArray} (h : PagO w pk s L tl nm) {t : ByteArray × Nat} (ht : t ∈ s.files ++ s.terms) : t.2 < s.nob := by
  rcases List.mem_append.1 ht with e | e
  · exact (h.ok.fi t e).1
  · exact (h.ok.ti t e).1
theorem PagO.thName {w : World} {pk : Nat} {s : AK} {L : KL} {tl : Nat → Nat} {nm : Nat → ByteArray} (h : PagO w pk s L tl nm) {t : ByteArray × Nat} (ht : t ∈ s.files ++ s.terms) : w.cell? ⟨tl t.2, 0, none⟩ = some (.string t.1) := by
  have hb := (h.th t.2 (h.nobT ht)).1
  rw [h.nn t ht] at hb
  cases hk : (s.objs t.2).kd <;> rw [hk] at hb <;> exact (hb.cell 0).trans rfl
theorem pthing_ok {w : World} {pk : Nat} {s : AK} {L : KL} {tl : Nat → Nat} {nm : Nat → ByteArray} (h : PagO w pk s L tl nm) (name : ByteArray) :
    CallR Tryz.prog 126 [pd pk, .string name] w fun v w' => w' = w ∧ ((s.thing name = none ∧ v = .pointer none) ∨ ∃ t, s.thing name = some t ∧ v = pd (tl t.2)) := by
  refine C126 ?_
  unfold L126
  obtain ⟨T, ta, tc, da, dc, hB⟩ := h.kb
  have hfl := h.ok.fl
  have hTl : T.length ≤ 256 := by have := hB.pm.length_eq; rw [List.length_append] at this; omega
  refine ⟨fun vs w' => ∃ n : Nat, vs = [.int .i64 (n : Int)] ∧ n ≤ T.length ∧ w' = w ∧ ∀ i, (hi : i < T.length) → i < n → T[i].1 ≠ name, fun vs _ => T.length - ix vs, ⟨0, rfl, Nat.zero_le _, rfl, fun i h h2 => by omega⟩, ?_⟩
  rintro _ n5 w1 ⟨n, hv, hn, hw, hno⟩
  simp only [List.cons.injEq, Value.int.injEq, true_and, and_true] at hv
  subst hv
  subst hw
  refine nnI ⟨_, _, _, hB.b.at0 rfl, condP (fun hlt => ?_) (fun hge => ⟨rfl, .inl ⟨?_, rfl⟩⟩)⟩
  · have hnl : n < T.length := by omega
    have hmem := hB.pm.mem_iff.1 (List.getElem_mem hnl)
    obtain ⟨q, haq, hc⟩ := slo_cell hB.ts (by omega) (j := n) (v := pd (tl T[n].2)) (by rw [List.getElem?_map, List.getElem?_eq_getElem hnl]; rfl)
    have e0 : Int.toNat (n : Int) = n := Int.toNat_natCast n
    rw [e0]
    have hr : 0 ≤ (n : Int) ∧ (n : Int) < ((T.length : Nat) : Int) := by omega
    refine nnI ⟨_, _, _, hB.b.at0 rfl, hr, nnE2 haq ⟨_, hc, nnI ⟨_, h.thName hmem, ?_⟩⟩⟩
    rw [strEq]
    refine condP (fun he => ?_) (fun hne => ?_)
    · refine nnI ⟨_, _, _, hB.b.at0 rfl, hr, nnE2 haq ⟨_, hc, rfl, .inr ⟨T[n], ?_, rfl⟩⟩⟩
      rw [← he]; exact AK.thing_of h.ok hmem
    · refine ⟨⟨by omega, by omega⟩, ⟨n + 1, rfl, by omega, rfl, fun i hi hin => ?_⟩, by simp only [ix]; omega⟩
      by_cases e : i = n
      · subst e; exact hne
      · exact hno i hi (by omega)
  · cases hd : s.thing name with
    | none => rfl
    | some t =>
      obtain ⟨hm, hne⟩ := AK.thing_mem hd
      obtain ⟨i, hi, rfl⟩ := List.mem_iff_getElem.1 (hB.pm.mem_iff.2 hm)
      exact absurd hne (hno i hi (by omega))
end Go.Proofs.YtpoaacnnhgebfaaGreat
namespace Go.Proofs.YtpoaacnnhgebfaaGreat
open Go.Lw
theorem addD_own (L : KL) {d : Int} {nb : Nat} (hn : L.own nb = none) (z : Nat) {t : Tag} (ht : t ≠ .desc d) : (L.addD d nb).own z = some t ↔ L.own z = some t := by
  show (if z = nb then some (Tag.desc d) else L.own z) = some t ↔ _
  by_cases e : z = nb
  · rw [if_pos e, e, hn]; simp [Ne.symm ht]
  · rw [if_neg e]
set_option maxHeartbeats 1000000 in
theorem pdesc_ok {w : World} {pk : Nat} {s : AK} {L : KL} {tl : Nat → Nat} {nm : Nat → ByteArray} (h : PagO w pk s L tl nm) {i : Nat} (hi : i < s.nob) (fl : Int) (hn2 : s.next ≤ 4611686018427387904) (hl : s.descs.length < 256) :
    CallR Tryz.prog 122 [pd pk, pd (tl i), .int .i64 fl] w fun v w' => v = .int .i64 s.next ∧ ∃ L', PagO w' pk (s.newD i fl) L' tl nm ∧ KStep w w' L L' ∧ L'.loc = L.loc := by
  refine C122 ?_
  unfold L122
  obtain ⟨T, ta, tc, da, dc, hB⟩ := h.kb
  have hn1 := h.ok.nx
  refine ⟨fun wS => Blk wS pk #[.slice ta T.length tc, .slice da s.descs.length dc, .int .i64 s.next, pd L.pg, .int .i64 s.c0, .int .i64 s.c1], hB.b.drew, ?_⟩
  intro w1
  have hk1 : Kept No w w1 := Kept.drew _ _
  have hz1 : w1.heap.size = w.heap.size := rfl
  have hb1 := hB.b.keep hk1 fun e => e
  clear_value w1
  refine nnI ⟨_, _, _, fun wS hS => hS.at (i := 1) rfl, nnI ⟨_, fun wS hS => hS.at (i := 2) rfl, ?_⟩⟩
  intro w2
  have hd2 : Blk w2 w1.heap.size (pdC s.next (tl i) fl 0 1) := Blk.alloc _ _ _
  have hk2 : Kept No w1 w2 := Kept.alloc _ _ _
  have hz2 : w2.heap.size = w1.heap.size + 1 := by simp [w2]
  clear_value w2
  refine ⟨hb1.keep hk2 fun e => e, ?_⟩
  intro w3
  have ht3 : SlO 1 w3 (some ⟨w2.heap.size, 0, none⟩) 1 1 [pd w1.heap.size] := SlO.of_blk (sz := 1) (n := 1) (Blk.alloc w2 #[pd w1.heap.size] _) rfl
  have hk3 : Kept No w2 w3 := Kept.alloc _ _ _
  have hz3 : w3.heap.size = w2.heap.size + 1 := by simp [w3]
  clear_value w3
  have k3 := (hk1.no hk2).no hk3
  refine ⟨(hb1.keep hk2 fun e => e).keep hk3 fun e => e, ?_⟩
  obtain ⟨a9, c9, w4, hrun, hs4, hk4, hat, _⟩ := run_app_sl (P := Tryz.prog) (t := 151) (t2 := 151) (ty := 151) (by kernel_rfl : slTyB Tryz.prog 151 1 8 = true) (by kernel_rfl) (hB.ds.keep k3 fun _ _ e => e) ht3.rd (by intro u hu; simp only [List.mem_singleton] at hu; subst hu; rfl) (by omega) (by omega)
  have hpkd : ¬ inA da pk := fun e => by have := hB.dw pk e; rw [h.oK] at this; cases this
  have hb4 := (hB.b.keep k3 fun e => e).keep hk4 hpkd
  have hpklt := hB.b.lt
  have hpka : ¬ inA a9 pk := fun e => by
    rcases hat.in e with e | e
    · exact hpkd e
    · omega
  refine ⟨a9, _, c9, w4, hrun, nnI (stC_at hb4 (i := 1) (by simp) fun w5 hb5 hk5 hz5 => nnI ⟨_, hb5.at (i := 2) rfl, ⟨by omega, by omega⟩, nnI (stC_at hb5 (i := 2) (by simp) fun w6 hb6 hk6 hz6 => nnI ⟨_, hb6.at (i := 2) rfl, ⟨by omega, by omega⟩, ?_⟩)⟩)⟩
  have hb6 : Blk w6 pk #[.slice ta T.length tc, .slice a9 (s.descs.length + 1) c9, .int .i64 (s.next + 1), pd L.pg, .int .i64 s.c0, .int .i64 s.c1] := hb6
  have hval : (Value.int .i64 (s.next + 1 - 1)) = .int .i64 s.next := by rw [Int.add_sub_cancel]
  refine ⟨hval, ?_⟩
  obtain ⟨nb, hnb⟩ : ∃ nb, nb = w1.heap.size := ⟨_, rfl⟩
  rw [← hnb] at hd2 hs4
  have hnbn : L.own nb = none := h.new_none (by omega)
  have hA : ∀ z, inA a9 z → L.own z = some .md ∨ w3.heap.size ≤ z := fun z hz => by
    rcases hat.in hz with e | e
    · exact .inl (hB.dw z e)
    · exact .inr (by omega)
  have hA' : ∀ z, inA a9 z → L.own z = some .md ∨ L.own z = none := fun z hz => by
    rcases hA z hz with e | e
    · exact .inl e
    · exact .inr (h.new_none (by omega))
  have hnb1 : (L.setT .md (inA a9)).own nb = none := by
    cases ho : (L.setT .md (inA a9)).own nb with
    | none => rfl
    | some t =>
      rcases L.setT_some _ _ (by rw [ho]; simp) with e | e
      · rcases hA nb e with e | e
        · rw [hnbn] at e; cases e
        · omega
      · exact absurd hnbn e
  have kA : Kept (fun z => z = pk ∨ inA da z) w w6 := (((k3.mono fun _ _ e => e.elim : Kept (fun z => z = pk ∨ inA da z) w w3).trans (hk4.mono fun _ _ e => .inr e) fun _ _ e => e).trans (hk5.mono fun _ _ e => .inl e) fun _ _ e => e).trans (hk6.mono fun _ _ e => .inl e) fun _ _ e => e
  have no : ∀ z t, L.own z = some t → t ≠ .kern → t ≠ .md → ¬ (z = pk ∨ inA da z) := by
    rintro z t hz h1 h2 (rfl | e)
    · rw [h.oK] at hz; cases hz; exact h1 rfl
    · rw [hB.dw z e] at hz; cases hz; exact h2 rfl
  let L' := (L.setT .md (inA a9)).addD s.next nb
  have ow : ∀ z t, t ≠ .md → t ≠ .desc s.next → (L'.own z = some t ↔ L.own z = some t) := fun z t h1 h2 => (addD_own _ hnb1 z h2).trans (L.setT_ne hA' z h1)
  have hdl : ∀ y ∈ s.descs, L'.dloc y.num = L.dloc y.num := fun y hy => by
    have := (h.ok.di y hy).2.2.2.2.2.2
    show (if y.num = s.next then nb else L.dloc y.num) = _
    rw [if_neg (by omega)]
  have hdn : L'.dloc s.next = nb := if_pos rfl
  refine ⟨L', ⟨⟨T, ta, tc, a9, c9, ?_, ?_, fun b hb => (ow _ _ (by simp) (by simp)).2 (hB.to b hb), ?_, fun b hb => ?_, hB.pm, hB.so⟩, fun j hj => ?_, h.nn, fun j hj => ?_, fun y hy => ?_, ?_, (ow _ _ (by simp) (by simp)).2 h.oK, (ow _ _ (by simp) (by simp)).2 h.oP, fun y hy => ?_, fun z hz => ?_, h.ok.newD hi fl hl⟩, ⟨kA.mono fun z _ hz => ?_, fun z hz => ?_⟩, rfl⟩
  · show Blk w6 pk #[.slice ta T.length tc, .slice a9 (s.descs ++ [_]).length c9, .int .i64 (s.next + 1), pd L.pg, .int .i64 s.c0, .int .i64 s.c1]
    rw [List.length_append]; exact hb6
  · exact hB.ts.keep kA fun b hb => no _ _ (hB.to b hb) (by simp) (by simp)
  · show SlO 1 w6 a9 (s.descs ++ [_]).length c9 ((s.descs ++ [(⟨s.next, i, fl, 0, 1⟩ : AD)]).map fun d => pd (L'.dloc d.num))
    have e1 : (s.descs ++ [(⟨s.next, i, fl, 0, 1⟩ : AD)]).map (fun d => pd (L'.dloc d.num)) = (s.descs.map fun d => pd (L.dloc d.num)) ++ [pd nb] := by
      rw [List.map_append, List.map_cons, List.map_nil, hdn]
      exact congrArg (· ++ [pd nb]) (List.map_congr_left fun y hy => by rw [hdl y hy])
    rw [e1, List.length_append]
    exact (hs4.keep hk5 fun b hb e => hpka (e ▸ hb)).keep hk6 fun b hb e => hpka (e ▸ hb)
  · exact (addD_own _ hnb1 b (by simp)).2 ((L.setT_eq .md (inA a9) b).2 hb)
  · exact ⟨(h.th j hj).1.keep kA (no _ _ (h.th j hj).2 (by simp) (by simp)), (ow _ _ (by simp) (by simp)).2 (h.th j hj).2⟩
  · exact (PObjF.keep (h.ob j hj) kA (fun z hz => no _ _ hz (by simp) (by simp)) (fun z hz => no _ _ hz (by simp) (by simp))).congr (fun z => (ow z _ (by simp) (by simp)).symm) (fun z => (ow z _ (by simp) (by simp)).symm)
  · have hy : y ∈ s.descs ++ [(⟨s.next, i, fl, 0, 1⟩ : AD)] := hy
    rcases List.mem_append.1 hy with e | e
    · rw [hdl y e]
      exact (h.ds y e).keep kA (no _ _ (h.od y e) (by simp) (by simp))
    · rw [List.mem_singleton] at e
      subst e
      show Blk w6 (L'.dloc s.next) _
      rw [hdn]
      exact (((hd2.keep hk3 fun e => e).keep hk4 fun e => by have := hB.dw _ e; rw [hnbn] at this; cases this).keep hk5 fun e => by omega).keep hk6 fun e => by omega
  · obtain ⟨a, l, c, p1, p2, p3⟩ := h.pl
    exact ⟨a, l, c, p1.keep kA (no _ _ h.oP (by simp) (by simp)), p2.keep kA fun b _ hb => no _ _ (p3 b hb) (by simp) (by simp), fun b hb => (ow _ _ (by simp) (by simp)).2 (p3 b hb)⟩
  · have hy : y ∈ s.descs ++ [(⟨s.next, i, fl, 0, 1⟩ : AD)] := hy
    rcases List.mem_append.1 hy with e | e
    · rw [hdl y e]
      have := (h.ok.di y e).2.2.2.2.2.2
      exact (ow _ _ (by simp) (by simp; omega)).2 (h.od y e)
    · rw [List.mem_singleton] at e
      subst e
      show L'.own (L'.dloc s.next) = _
      rw [hdn]
      exact if_pos rfl
  · have hz : (if z = nb then some (Tag.desc s.next) else (L.setT .md (inA a9)).own z) ≠ none := hz
    by_cases e : z = nb
    · have := kA.size; have := hk4.size; have := hk5.size; have := hk6.size; omega
    · rw [if_neg e] at hz
      rcases L.setT_some _ _ hz with e | e
      · exact Nat.lt_of_lt_of_le (SlO.lt hs4 z e) (by omega)
      · exact Nat.lt_of_lt_of_le (h.lt z e) kA.size
  · rcases hz with rfl | e
    · rw [h.oK]; simp
    · rw [hB.dw z e]; simp
  · have hz : (if z = nb then some (Tag.desc s.next) else (L.setT .md (inA a9)).own z) ≠ none := hz
    by_cases e : z = nb
    · exact .inr (by omega)
    · rw [if_neg e] at hz
      rcases L.setT_some _ _ hz with e | e
      · rcases hA z e with e | e
        · exact .inl (by rw [e]; simp)
        · exact .inr (by omega)
      · exact .inl e
theorem PagO.newO {w w' : World} {pk : Nat} {s : AK} {L : KL} {tl : Nat → Nat} {nm : Nat → ByteArray} (h : PagO w pk s L tl nm) (k : Kept No w w') {b tb : Nat} {F R : Nat → Prop} {o : AObj} {name : ByteArray} (hO : PObjF F R w' b o) (hF : ∀ z, F z → w.heap.size ≤ z) (hR : ∀ z, R z → w.heap.size ≤ z ∧ z < w'.heap.size ∧ ¬ F z)
    (ht : Blk w' tb (thC name o.kd b)) (htb : w.heap.size ≤ tb) (htF : ¬ F tb) (htR : ¬ R tb) :
    ∃ L', PagO w' pk (s.newO o) L' (fun j => if j = s.nob then tb else tl j) (fun j => if j = s.nob then name else nm j) ∧ KStep w w' L L' := by
  obtain ⟨L', hL'⟩ : ∃ L' : KL, L' = { L.addO s.nob b F R with own := fun z => if z = tb then some .mt else (L.addO s.nob b F R).own z } := ⟨_, rfl⟩
  have old : ∀ z t, L.own z = some t → t ≠ .obj s.nob → t ≠ .lines s.nob → L'.own z = some t := by
    intro z t hz h1 h2
    have := h.lt z (by rw [hz]; simp)
    rw [hL']
    unfold KL.addO
    dsimp only
    rw [if_neg (by omega), if_neg (fun e => by have := hF z e; omega), if_neg (fun e => by have := (hR z e).1; omega), hz, if_neg]
    simp [h1, h2]
  have back : ∀ z t, t ≠ .obj s.nob → t ≠ .lines s.nob → t ≠ .mt → L'.own z = some t → L.own z = some t := by
    intro z t h1 h2 h3 hz
    rw [hL'] at hz
    unfold KL.addO at hz
    dsimp only at hz
    by_cases ht : z = tb
    · rw [if_pos ht] at hz; simp only [Option.some.injEq] at hz; exact absurd hz.symm h3
    rw [if_neg ht] at hz
    by_cases hf : F z
    · rw [if_pos hf] at hz; simp only [Option.some.injEq] at hz; exact absurd hz.symm h1
    rw [if_neg hf] at hz
    by_cases hr : R z
    · rw [if_pos hr] at hz; simp only [Option.some.injEq] at hz; exact absurd hz.symm h2
    rw [if_neg hr] at hz
    split at hz
    · cases hz
    · exact hz
  have none_obj : ∀ z, L.own z ≠ some (.obj s.nob) ∧ L.own z ≠ some (.lines s.nob) ∨ True := fun _ => .inr trivial
  have newF : ∀ z, L'.own z = some (.obj s.nob) ↔ F z := fun z => by
    rw [hL']
    unfold KL.addO
    dsimp only
    by_cases ht : z = tb
    · rw [if_pos ht, ht]; simp [htF]
    rw [if_neg ht]
    by_cases hf : F z
    · simp [hf]
    · rw [if_neg hf]
      by_cases hr : R z
      · simp [hr, hf]
      · rw [if_neg hr]
        split
        · simp [hf]
        · rename_i hn
          exact ⟨fun e => absurd (.inl e) hn, fun e => absurd e hf⟩
  have newR : ∀ z, L'.own z = some (.lines s.nob) ↔ R z := fun z => by
    rw [hL']
    unfold KL.addO
    dsimp only
    by_cases ht : z = tb
    · rw [if_pos ht, ht]; simp [htR]
    rw [if_neg ht]
    by_cases hf : F z
    · have : ¬ R z := fun e => (hR z e).2.2 hf
      simp [hf, this]
    · rw [if_neg hf]
      by_cases hr : R z
      · simp [hr]
      · rw [if_neg hr]
        split
        · simp [hr]
        · rename_i hn
          exact ⟨fun e => absurd (.inr e) hn, fun e => absurd e hr⟩
  have some_ : ∀ z, L'.own z ≠ none → z = tb ∨ F z ∨ R z ∨ L.own z ≠ none := by
    intro z hz
    rw [hL'] at hz
    unfold KL.addO at hz
    dsimp only at hz
    by_cases ht : z = tb
    · exact .inl ht
    rw [if_neg ht] at hz
    by_cases hf : F z
    · exact .inr (.inl hf)
    rw [if_neg hf] at hz
    by_cases hr : R z
    · exact .inr (.inr (.inl hr))
    rw [if_neg hr] at hz
    split at hz
    · exact absurd rfl hz
    · exact .inr (.inr (.inr hz))
  have loc : ∀ j, j < s.nob → L'.loc j = L.loc j := fun j hj => by
    rw [hL']
    show (if j = s.nob then b else L.loc j) = _
    rw [if_neg (by omega)]
  have locn : L'.loc s.nob = b := by
    rw [hL']
    exact if_pos rfl
  have hdl : L'.dloc = L.dloc := by rw [hL']; rfl
  have hpg : L'.pg = L.pg := by rw [hL']; rfl
  have tlo : ∀ j, j < s.nob → (if j = s.nob then tb else tl j) = tl j := fun j hj => if_neg (by omega)
  have nmo : ∀ j, j < s.nob → (if j = s.nob then name else nm j) = nm j := fun j hj => if_neg (by omega)
  refine ⟨L', ⟨?_, fun j hj => ?_, fun f hf => ?_, fun j hj => ?_, fun y hy => ?_, ?_, old _ _ h.oK (by simp) (by simp), by rw [hpg]; exact old _ _ h.oP (by simp) (by simp), fun y hy => by rw [hdl]; exact old _ _ (h.od y hy) (by simp) (by simp), fun z hz => ?_, h.ok.newO o⟩, ⟨k.mono fun z _ hz => hz.elim, fun z hz => ?_⟩⟩
  · obtain ⟨T, ta, tc, da, dc, hB⟩ := h.kb
    refine ⟨T, ta, tc, da, dc, by rw [hpg]; exact hB.b.keep k fun e => e, ?_, fun b hb => old _ _ (hB.to b hb) (by simp) (by simp), by rw [hdl]; exact hB.ds.keep k fun _ _ e => e, fun b hb => old _ _ (hB.dw b hb) (by simp) (by simp), hB.pm, hB.so⟩
    have : (T.map fun t => pd (if t.2 = s.nob then tb else tl t.2)) = T.map fun t => pd (tl t.2) := List.map_congr_left fun t ht => by rw [tlo _ (h.nobT (hB.pm.mem_iff.1 ht))]
    rw [this]
    exact hB.ts.keep k fun _ _ e => e
  · have hj : j < s.nob + 1 := hj
    by_cases e : j = s.nob
    · subst e
      rw [if_pos rfl, if_pos rfl, locn]
      have : (s.newO o).objs s.nob = o := if_pos rfl
      rw [this]
      exact ⟨ht, by rw [hL']; exact if_pos rfl⟩
    · have hj' : j < s.nob := by omega
      rw [tlo j hj', nmo j hj', loc j hj', AK.newO_old s o hj']
      exact ⟨(h.th j hj').1.keep k fun e => e, old _ _ (h.th j hj').2 (by simp) (by simp)⟩
  · rw [nmo _ (h.nobT hf)]; exact h.nn f hf
  · have hj : j < s.nob + 1 := hj
    by_cases e : j = s.nob
    · subst e
      show PObjF _ _ w' (L'.loc s.nob) (if s.nob = s.nob then o else _)
      rw [if_pos rfl, locn]
      exact hO.congr (fun z => (newF z).symm) (fun z => (newR z).symm)
    · have hj' : j < s.nob := by omega
      rw [AK.newO_old s o hj']
      show PObjF _ _ w' (L'.loc j) _
      rw [loc j hj']
      exact (PObjF.keep (h.ob j hj') k (fun _ _ e => e) (fun _ _ e => e)).congr (fun z => ⟨fun hz => old _ _ hz (by simpa using e) (by simp), fun hz => back _ _ (by simpa using e) (by simp) (by simp) hz⟩) (fun z => ⟨fun hz => old _ _ hz (by simp) (by simpa using e), fun hz => back _ _ (by simp) (by simpa using e) (by simp) hz⟩)
  · have hy : y ∈ s.descs := hy
    have := (h.ok.di y hy).1
    rw [hdl, tlo _ this]
    exact (h.ds y hy).keep k fun e => e
  · obtain ⟨a, l, c, p1, p2, p3⟩ := h.pl
    rw [hpg]
    exact ⟨a, l, c, p1.keep k fun e => e, p2.keep k fun _ _ _ e => e, fun b hb => old _ _ (p3 b hb) (by simp) (by simp)⟩
  · rcases some_ z hz with e | e | e | e
    · rw [e]; exact ht.lt
    · exact hO.lt z e
    · exact (hR z e).2.1
    · exact Nat.lt_of_lt_of_le (h.lt z e) k.size
  · rcases some_ z hz with e | e | e | e
    · exact .inr (by omega)
    · exact .inr (hF z e)
    · exact .inr (hR z e).1
    · exact .inl e
end Go.Proofs.YtpoaacnnhgebfaaGreat
namespace Go.Proofs.YtpoaacnnhgebfaaGreat
open Go.Lw
theorem ins_step {α : Type} (T : List α) (t : α) {n : Nat} (h1 : 1 ≤ n) (h2 : n ≤ T.length) : ((T.take n ++ t :: T.drop n).set n (T[n - 1]'(by omega))).set (n - 1) t = T.take (n - 1) ++ t :: T.drop (n - 1) := by
  obtain ⟨m, rfl⟩ : ∃ m, n = m + 1 := ⟨n - 1, by omega⟩
  have hm : m < T.length := by omega
  simp only [Nat.add_sub_cancel]
  have e1 : T.take (m + 1) = T.take m ++ [T[m]] := by rw [List.take_add_one, List.getElem?_eq_getElem hm]; rfl
  have e2 : T.drop m = T[m] :: T.drop (m + 1) := List.drop_eq_getElem_cons hm
  have hl : (T.take m).length = m := by rw [List.length_take]; omega
  rw [e1, e2, List.append_assoc]
  show ((T.take m ++ T[m] :: t :: T.drop (m + 1)).set (m + 1) T[m]).set m t = _
  rw [List.set_append_right _ _ (by omega), hl, List.set_append_right _ _ (by omega), hl, Nat.sub_self, show m + 1 - m = 1 by omega]
  rfl
theorem ins_at {α : Type} (T : List α) (t : α) {n k : Nat} (h2 : n ≤ T.length) (hk : k < n) : (T.take n ++ t :: T.drop n)[k]? = some (T[k]'(by omega)) := by
  rw [List.getElem?_append_left (by rw [List.length_take]; omega), List.getElem?_take, if_pos hk, List.getElem?_eq_getElem (by omega)]
theorem ins_new {α : Type} (T : List α) (t : α) {n : Nat} (h2 : n ≤ T.length) : (T.take n ++ t :: T.drop n)[n]? = some t := by
  have hl : (T.take n).length = n := by rw [List.length_take]; omega
  rw [List.getElem?_append_right (by omega), hl, Nat.sub_self]
  rfl
theorem ins_len {α : Type} (T : List α) (t : α) {n : Nat} (h2 : n ≤ T.length) : (T.take n ++ t :: T.drop n).length = T.length + 1 := by
  simp; omega
theorem nmLe_trans {a b c : ByteArray × Nat} (h : nmLe a b) (k : nmLe b c) : nmLe a c := List.le_trans h k
theorem ins_sorted {T : List (ByteArray × Nat)} (hs : T.Pairwise nmLe) {t : ByteArray × Nat} {n : Nat} (hn : n ≤ T.length) (h1 : ∀ x ∈ T.drop n, nmLe t x) (h2 : ∀ (h : 1 ≤ n), nmLe (T[n - 1]'(by omega)) t) : (T.take n ++ t :: T.drop n).Pairwise nmLe := by
  have hs' := hs
  rw [← List.take_append_drop n T, List.pairwise_append] at hs
  obtain ⟨a, b, c⟩ := hs
  rw [List.pairwise_append]
  refine ⟨a, List.pairwise_cons.2 ⟨h1, b⟩, fun x hx y hy => ?_⟩
  rcases List.mem_cons.1 hy with rfl | hy
  · obtain ⟨k, hk, rfl⟩ := List.mem_iff_getElem.1 hx
    rw [List.length_take] at hk
    rw [List.getElem_take]
    by_cases e : k = n - 1
    · subst e; exact h2 (by omega)
    · exact nmLe_trans (List.pairwise_iff_getElem.1 hs' k (n - 1) (by omega) (by omega) (by omega)) (h2 (by omega))
  · exact c x hx y hy
theorem lessB_eq : ∀ (x y : List UInt8), Op.bytesLess x y = decide (x < y)
  | [], [] => by simp [Op.bytesLess]
  | _ :: _, [] => by simp [Op.bytesLess]
  | [], _ :: _ => by simp [Op.bytesLess]
  | a :: x, b :: y => by
    unfold Op.bytesLess
    rw [lessB_eq x y, Bool.eq_iff_iff]
    simp [List.cons_lt_cons_iff]
theorem gtr_le {x y : ByteArray} (h : (!(Op.bytesLess (ByteArray.toList x) (ByteArray.toList y) || (ByteArray.toList x == ByteArray.toList y))) = true) : y.data.toList ≤ x.data.toList := by
  rw [ByteArray.toList_eq, ByteArray.toList_eq, lessB_eq] at h
  simp only [Bool.not_eq_true', Bool.or_eq_false_iff, decide_eq_false_iff_not] at h
  exact h.1
theorem gtr_not {x y : ByteArray} (h : (!(Op.bytesLess (ByteArray.toList x) (ByteArray.toList y) || (ByteArray.toList x == ByteArray.toList y))) = false) : x.data.toList ≤ y.data.toList := by
  rw [ByteArray.toList_eq, ByteArray.toList_eq, lessB_eq] at h
  simp only [Bool.not_eq_false', Bool.or_eq_true, decide_eq_true_eq, beq_iff_eq] at h
  rcases h with h | h
  · exact List.le_of_lt h
  · rw [h]; exact List.le_refl _
theorem PagO.nameAt {w : World} {pk : Nat} {s : AK} {L : KL} {tl : Nat → Nat} {nm : Nat → ByteArray} (h : PagO w pk s L tl nm) {i : Nat} (hi : i < s.nob) : ∃ A, Blk w (tl i) A ∧ A[0]? = some (.string (nm i)) := by
  have hb := (h.th i hi).1
  refine ⟨_, hb, ?_⟩
  cases (s.objs i).kd <;> rfl
set_option maxHeartbeats 2000000 in
theorem padd_ok {w : World} {pk : Nat} {s : AK} {L : KL} {tl : Nat → Nat} {nm : Nat → ByteArray} (h : PagO w pk s L tl nm) {i : Nat} (hi : i < s.nob) (hlen : s.files.length + s.terms.length < 256) {fs' ts' : List (ByteArray × Nat)} (hp : ((s.files ++ s.terms) ++ [(nm i, i)]).Perm (fs' ++ ts')) (hok : AK.Ok { s with files := fs', terms := ts' }) :
    CallR Tryz.prog 128 [pd pk, pd (tl i)] w fun v w' => v = .tuple #[] ∧ ∃ L', PagO w' pk { s with files := fs', terms := ts' } L' tl nm ∧ KStep w w' L L' := by
  refine C128 ?_
  unfold L128
  obtain ⟨T, ta, tc, da, dc, hB⟩ := h.kb
  have hTl : T.length < 256 := by have := hB.pm.length_eq; rw [List.length_append] at this; omega
  refine nnI ⟨_, _, _, hB.b.at0 rfl, ?_⟩
  intro w1
  have ht1 : SlO 1 w1 (some ⟨w.heap.size, 0, none⟩) 1 1 [pd (tl i)] := SlO.of_blk (sz := 1) (n := 1) (Blk.alloc w #[pd (tl i)] _) rfl
  have hk1 : Kept No w w1 := Kept.alloc _ _ _
  have hz1 : w1.heap.size = w.heap.size + 1 := by simp [w1]
  clear_value w1
  obtain ⟨a5, c5, w2, hrun, hs2, hk2, hat, _⟩ := run_app_sl (P := Tryz.prog) (t := 150) (t2 := 150) (ty := 150) (by kernel_rfl : slTyB Tryz.prog 150 1 8 = true) (by kernel_rfl) (hB.ts.keep hk1 fun _ _ e => e) ht1.rd (by intro u hu; simp only [List.mem_singleton] at hu; subst hu; rfl) (by omega) (by omega)
  have hpkt : ¬ inA ta pk := fun e => by have := hB.to pk e; rw [h.oK] at this; cases this
  have hpklt := hB.b.lt
  have hA : ∀ z, inA a5 z → L.own z = some .mf ∨ w1.heap.size ≤ z := fun z hz => by
    rcases hat.in hz with e | e
    · exact .inl (hB.to z e)
    · exact .inr (by omega)
  have hpka : ¬ inA a5 pk := fun e => by
    rcases hA pk e with e | e
    · rw [h.oK] at e; cases e
    · omega
  have hb2 := (hB.b.keep hk1 fun e => e).keep hk2 hpkt
  refine ⟨a5, _, c5, w2, hrun, nnI (stC_blk hb2 (by simp) fun w3 hb3 hk3 hz3 => ?_)⟩
  have hb3 : Blk w3 pk #[.slice a5 (T.length + 1) c5, .slice da s.descs.length dc, .int .i64 s.next, pd L.pg, .int .i64 s.c0, .int .i64 s.c1] := hb3
  obtain ⟨S, hS⟩ : ∃ S : Nat → Prop, S = fun z => z = pk ∨ L.own z = some .mf ∨ w.heap.size ≤ z := ⟨_, rfl⟩
  have k3 : Kept S w w3 := ((hk1.mono fun _ _ e => e.elim : Kept S w w1).trans (hk2.mono fun b _ e => by rw [hS]; exact .inr (.inl (hB.to b e)) : Kept S w1 w2) fun _ _ e => e).trans (hk3.mono fun b _ e => by rw [hS]; exact .inl e) fun _ _ e => e
  have no : ∀ z t, L.own z = some t → t ≠ .kern → t ≠ .mf → ¬ S z := by
    intro z t hz h1 h2 e
    rw [hS] at e
    rcases e with rfl | e | e
    · rw [h.oK] at hz; cases hz; exact h1 rfl
    · rw [hz] at e; cases e; exact h2 rfl
    · rw [h.new_none e] at hz; cases hz
  refine nnI ⟨_, _, _, hb3.at0 rfl, ⟨by omega, by omega⟩, ?_⟩
  obtain ⟨I, hI⟩ : ∃ I : List Value → World → Prop, I = fun vs w' => ∃ n : Nat, n ≤ T.length ∧ vs = [.int .i64 (n : Int)] ∧ SlO 1 w' a5 (T.length + 1) c5 ((T.take n ++ (nm i, i) :: T.drop n).map fun t => pd (tl t.2)) ∧ (∀ x ∈ T.drop n, nmLe (nm i, i) x) ∧ Kept S w w' ∧ Blk w' pk #[.slice a5 (T.length + 1) c5, .slice da s.descs.length dc, .int .i64 s.next, pd L.pg, .int .i64 s.c0, .int .i64 s.c1] := ⟨_, rfl⟩
  obtain ⟨mu, hmu⟩ : ∃ mu : List Value → World → Nat, mu = fun vs _ => ix vs := ⟨_, rfl⟩
  have e0 : (((T.length + 1 : Nat) : Int) - 1) = ((T.length : Nat) : Int) := by omega
  rw [e0]
  refine ⟨I, mu, ?_, ?_⟩
  · rw [hI]
    refine ⟨T.length, Nat.le_refl _, rfl, ?_, fun x hx => by simp at hx, k3, hb3⟩
    have : (T.take T.length ++ (nm i, i) :: T.drop T.length).map (fun t => pd (tl t.2)) = (T.map fun t => pd (tl t.2)) ++ [pd (tl i)] := by simp
    rw [this]
    exact hs2.keep hk3 fun b hb e => hpka (e ▸ hb)
  intro _ n11 w4 hInv
  rw [hI] at hInv
  obtain ⟨n, hn, hv, hs4, hge4, k4, hb4⟩ := hInv
  simp only [List.cons.injEq, Value.int.injEq, true_and, and_true] at hv
  subst hv
  have fin : ∀ {w' : World}, Kept No w4 w' → (∀ (h : 1 ≤ n), nmLe (T[n - 1]'(by omega)) (nm i, i)) → ((.tuple #[] : Value) = .tuple #[] ∧ ∃ L', PagO w' pk { s with files := fs', terms := ts' } L' tl nm ∧ KStep w w' L L') := by
    intro w' k4' hle
    refine ⟨rfl, ?_⟩
    have kW : Kept S w w' := k4.no k4'
    have hA' : ∀ z, inA a5 z → L.own z = some .mf ∨ L.own z = none := fun z hz => by
      rcases hA z hz with e | e
      · exact .inl e
      · exact .inr (h.new_none (by omega))
    have ne := fun z {u : Tag} (hu : u ≠ .mf) => L.setT_ne hA' z hu
    have hl := ins_len T (nm i, i) hn
    refine ⟨L.setT .mf (inA a5), ⟨⟨T.take n ++ (nm i, i) :: T.drop n, a5, c5, da, dc, ?_, ?_, fun b hb => (L.setT_eq _ _ _).2 hb, hB.ds.keep kW fun b hb => no _ _ (hB.dw b hb) (by simp) (by simp), fun b hb => (ne _ (by simp)).2 (hB.dw b hb), ?_, ins_sorted hB.so hn hge4 hle⟩, fun j hj => ⟨(h.th j hj).1.keep kW (no _ _ (h.th j hj).2 (by simp) (by simp)), (ne _ (by simp)).2 (h.th j hj).2⟩, fun f hf => ?_, fun j hj => ?_, fun d hd => (h.ds d hd).keep kW (no _ _ (h.od d hd) (by simp) (by simp)), ?_, (ne _ (by simp)).2 h.oK, (ne _ (by simp)).2 h.oP, fun d hd => (ne _ (by simp)).2 (h.od d hd), fun z hz => ?_, hok⟩, ⟨?_, fun z hz => ?_⟩⟩
    · rw [hl]; exact hb4.keep k4' fun e => e
    · rw [hl]; exact hs4.keep k4' fun _ _ e => e
    · have e1 : (T.take n ++ (nm i, i) :: T.drop n).Perm (T ++ [(nm i, i)]) := by
        refine List.perm_middle.trans ?_
        rw [List.take_append_drop]
        exact (List.perm_append_singleton _ _).symm
      exact (e1.trans (hB.pm.append_right _)).trans hp
    · have hf : f ∈ fs' ++ ts' := hf
      rcases List.mem_append.1 (hp.mem_iff.2 hf) with e | e
      · exact h.nn f e
      · rw [List.mem_singleton] at e; subst e; rfl
    · exact (PObjF.keep (h.ob j hj) kW (fun z hz => no _ _ hz (by simp) (by simp)) (fun z hz => no _ _ hz (by simp) (by simp))).congr (fun z => (ne z (by simp)).symm) (fun z => (ne z (by simp)).symm)
    · obtain ⟨a, l, c, p1, p2, p3⟩ := h.pl
      exact ⟨a, l, c, p1.keep kW (no _ _ h.oP (by simp) (by simp)), p2.keep kW fun b _ hb => no _ _ (p3 b hb) (by simp) (by simp), fun b hb => (ne _ (by simp)).2 (p3 b hb)⟩
    · rcases L.setT_some _ _ hz with e | e
      · exact Nat.lt_of_lt_of_le (SlO.lt hs4 z e) k4'.size
      · exact Nat.lt_of_lt_of_le (h.lt z e) kW.size
    · refine kW.mono fun z hz e => ?_
      rw [hS] at e
      rcases e with rfl | e | e
      · rw [h.oK]; simp
      · rw [e]; simp
      · omega
    · rcases L.setT_some _ _ hz with e | e
      · rcases hA z e with e | e
        · exact .inl (by rw [e]; simp)
        · exact .inr (by omega)
      · exact .inl e
  refine condP (fun hpos => ?_) (fun hz => ?_)
  · have hnl : n - 1 < T.length := by omega
    have e1 : Int.toNat ((n : Int) - 1) = n - 1 := by omega
    have e2 : Int.toNat (n : Int) = n := Int.toNat_natCast n
    rw [e1, e2]
    have hc1 : ∀ {w' : World}, Kept No w4 w' → ∃ q, a5 = some q ∧ w'.cell? (q.add (n - 1)) = some (pd (tl T[n - 1].2)) ∧ w'.cell? (q.add n) = some (pd (tl i)) := fun k => by
      obtain ⟨q, haq, hc⟩ := slo_cell (hs4.keep k fun _ _ e => e) (by omega) (j := n - 1) (v := pd (tl T[n - 1].2)) (by rw [List.getElem?_map, ins_at T _ hn (by omega)]; rfl)
      exact ⟨q, haq, hc, (hs4.keep k fun _ _ e => e).rd.2.2.2 q haq n _ (by rw [List.getElem?_map, ins_new T _ hn]; rfl)⟩
    have hmem := hB.pm.mem_iff.1 (List.getElem_mem hnl)
    obtain ⟨A1, hA1, hA10⟩ := h.nameAt (h.nobT hmem)
    rw [h.nn _ hmem] at hA10
    obtain ⟨A2, hA2, hA20⟩ := h.nameAt hi
    have hn1 := ((hA1.keep k4 (no _ _ (h.th _ (h.nobT hmem)).2 (by simp) (by simp))).cell 0).trans hA10
    have hn2 := ((hA2.keep k4 (no _ _ (h.th _ hi).2 (by simp) (by simp))).cell 0).trans hA20
    obtain ⟨q, haq, hq1, hq2⟩ := hc1 (Kept.refl No w4)
    refine nnI ⟨_, _, _, hb4.at0 rfl, ⟨by omega, by omega⟩, ⟨by omega, by omega⟩, nnE2 haq ⟨_, hq1, nnI ⟨_, hn1, nnI ⟨_, hn2, ?_⟩⟩⟩⟩
    intro nd w5
    have hk5 : Kept No w4 w5 := Kept.drewN _ _ _
    clear_value w5
    refine condI (fun hgt => ?_) (fun hle => fin hk5 fun _ => gtr_not hle)
    intro w6
    have hk6 : Kept No w4 w6 := hk5.no (Kept.drew _ _)
    have hz6 : w6.heap.size = w5.heap.size := rfl
    clear_value w6
    have hb6 := hb4.keep hk6 fun e => e
    obtain ⟨q', haq', hq1', hq2'⟩ := hc1 hk6
    have hq : q' = q := by rw [haq] at haq'; cases haq'; rfl
    subst hq
    refine nnI ⟨_, _, _, hb6.at0 rfl, nnI ⟨_, _, _, hb6.at0 rfl, ⟨by omega, by omega⟩, nnI ⟨_, _, _, hb6.at0 rfl, ⟨by omega, by omega⟩, ⟨by omega, by omega⟩, nnE2 haq ⟨_, hq1', nnI ⟨_, _, _, hb6.at0 rfl, ⟨by omega, by omega⟩, nnE2 haq ⟨_, hq2', ⟨by omega, by omega⟩, nnE2 haq ?_⟩⟩⟩⟩⟩⟩
    refine stC_slo (hs4.keep hk6 fun _ _ e => e) haq (j := n) (by omega) fun w7 hs7 hk7 hz7 => ⟨⟨by omega, by omega⟩, nnE2 haq (stC_slo hs7 haq (j := n - 1) (by omega) fun w8 hs8 hk8 hz8 => ⟨⟨by omega, by omega⟩, ?_, ?_⟩)⟩
    · rw [hI]
      refine ⟨n - 1, by omega, by rw [show ((n : Int) - 1) = ((n - 1 : Nat) : Int) by omega], ?_, fun x hx => ?_, ?_, ?_⟩
      · rw [← List.map_set (f := fun t : ByteArray × Nat => pd (tl t.2)) (a := T[n - 1]), ← List.map_set (f := fun t : ByteArray × Nat => pd (tl t.2)) (a := (nm i, i)), ins_step T _ (by omega) hn] at hs8
        exact hs8
      · rw [show n = (n - 1) + 1 by omega] at hge4
        rw [List.drop_eq_getElem_cons hnl] at hx
        rcases List.mem_cons.1 hx with rfl | hx
        · exact gtr_le hgt
        · exact hge4 x hx
      · refine ((k4.no hk6).trans (hk7.mono fun b hb e => ?_) fun _ _ e => e).trans (hk8.mono fun b hb e => ?_) fun _ _ e => e
        all_goals
          rw [hS]
          rcases hA b e with e | e
          · exact .inr (.inl e)
          · exact .inr (.inr (by omega))
      · exact (hb6.keep hk7 hpka).keep hk8 hpka
    · rw [hmu]; simp only [ix]; omega
  · intro nd w5
    exact fin (Kept.drewN _ _ _) fun h1 => by omega
end Go.Proofs.YtpoaacnnhgebfaaGreat
namespace Go.Proofs.YtpoaacnnhgebfaaGreat
open Go.Lw
theorem bit_way1 (n : Int) : bitI n 1 = 0 ∨ bitI n 1 = 1 := by
  unfold bitI
  rw [show BitVec.ofInt (IntKind.bits .i64) 1 = BitVec.twoPow (IntKind.bits .i64) 0 from rfl, BitVec.and_twoPow]
  split
  · exact .inr rfl
  · exact .inl rfl
theorem bit_way2 (n : Int) : bitI n 2 = 0 ∨ bitI n 2 = 2 := by
  unfold bitI
  rw [show BitVec.ofInt (IntKind.bits .i64) 2 = BitVec.twoPow (IntKind.bits .i64) 1 from rfl, BitVec.and_twoPow]
  split
  · exact .inr rfl
  · exact .inl rfl
theorem lay2c {w : World} {e : TypeId} {v0 v1 u0 u1 : Value} {K : World → Prop} (hk : ∀ w', Blk w' w.heap.size #[v0, v1] → Kept No w w' → K w') :
    let w2 := World.alloc w (.cells #[u0, u1] e)
    stC (Addr.mk w.heap.size 0 none) v0 w2 fun w1 => stC (Addr.mk w.heap.size 1 none) v1 w1 K := by
  intro w2
  have hb : Blk w2 w.heap.size #[u0, u1] := Blk.alloc _ _ _
  have hk1 : Kept No w w2 := Kept.alloc _ _ _
  clear_value w2
  refine stC_blk hb (by simp) fun w1 h1 k1 _ => stC_blk h1 (by simp) fun w2 h2 k2 _ => ?_
  have h2' : Blk w2 w.heap.size #[v0, v1] := by simpa using h2
  exact hk w2 h2' ((hk1.fresh k1 fun x e => by omega).fresh k2 fun x e => by omega)
theorem pnext_ok {w : World} {g : Nat} {a : Option Addr} {l c : Nat} {fs : List (Int × Int)} {n : Int} (hb : Blk w g #[.slice a l c]) (hr : RdS 2 w a l c (Fv fs)) (hne : ∀ b, inA a b → b ≠ g) (h1 : 1 ≤ n) (h2 : n ≤ 1048576) (hl : fs.length ≤ 4096) :
    CallR Tryz.prog 170 [pd g, .int .i64 n] w fun v w' => v = .tuple #[.int .i64 (metF fs n).1, .int .i64 (metF fs n).2] ∧ (∃ a' l' c', (∀ b, inA a' b → inA a b) ∧ Blk w' g #[.slice a' l' c'] ∧ RdS 2 w' a' l' c' (Fv (fs.drop 1))) ∧ Kept (· = g) w w' := by
  have hlen : fs.length = l := by have := hr.1; rw [Fv_len] at this; omega
  refine C170 ?_
  unfold L170
  refine condF (by simp; omega) (condF (by simp; omega) (nnI ⟨_, _, _, hb.at0 rfl, condI (fun h0 => ?_) (fun h0 => ?_)⟩))
  · have h0 : l = 0 := by simp at h0; omega
    have : fs = [] := List.length_eq_zero_iff.1 (by omega)
    subst this
    exact ⟨rfl, ⟨a, l, c, fun _ h => h, hb, hr⟩, Kept.refl _ _⟩
  · have h0 : 0 < fs.length := by simp at h0; omega
    obtain ⟨e1, e2⟩ := Fv_at h0
    cases ha : a with
    | none => have := RdS.isNone hr ha; omega
    | some q =>
      rw [ha] at hb hr hne
      have hcl : l ≤ c := hr.2.1
      have hq1 := hr.2.2.2 q rfl _ _ e1
      have hq2 := hr.2.2.2 q rfl _ _ e2
      rw [← Lw.add_add] at hq2
      refine nnI ⟨_, _, _, hb.at0 rfl, ⟨by omega, by omega⟩, nnI ⟨_, _, hq1, hq2, lay2c fun w3 hf3 hk3 => ?_⟩⟩
      have hglt := hb.lt
      have hb3 := hb.keep hk3 fun e => e
      have hr3 := hr.keep hk3 fun _ _ _ e => e
      refine nnI ⟨_, _, _, hb3.at0 rfl, ⟨by omega, by omega⟩, nnI (stC_blk hb3 (by simp) fun w4 hb4 hk4 _ => ?_)⟩
      have hb4 : Blk w4 g #[.slice (adv (some q) 1 c 2) (l - 1) (c - 1)] := hb4
      have hf4 := hf3.keep hk4 fun e => by omega
      have hr4 := hr3.keep hk4 fun b _ hb' e => hne b hb' e
      have k04 : Kept (· = g) w w4 := (hk3.mono fun _ _ e => e.elim : Kept (· = g) w w3).trans hk4 fun _ _ e => e
      have done : ∀ {n1 n2 : Int}, (n1, n2) = metF fs n → ((.tuple #[.int .i64 n1, .int .i64 n2] : Value) = .tuple #[.int .i64 (metF fs n).1, .int .i64 (metF fs n).2] ∧ (∃ a' l' c', (∀ b, inA a' b → inA (some q) b) ∧ Blk w4 g #[.slice a' l' c'] ∧ RdS 2 w4 a' l' c' (Fv (fs.drop 1))) ∧ Kept (· = g) w w4) := fun e => by
        refine ⟨by rw [← e], ⟨_, _, _, fun b hb' => inA_adv.1 hb', hb4, ?_⟩, k04⟩
        have := hr4.from 1 (by omega)
        rw [Fv_drop]
        exact this
      have hm : metF fs n = if fs[0].1 = 1 then (min n fs[0].2, 0) else if fs[0].1 = 2 then (0, 22) else if fs[0].1 = 3 then (0, 23) else (n, 0) := by
        cases fs with
        | nil => simp at h0
        | cons f r => rfl
      refine ⟨_, (hf4.cell 0).trans rfl, condI (fun h1 => ⟨_, (hf4.cell 1).trans rfl, done ?_⟩) (fun h1 => condI (fun h2 => done ?_) (fun h2 => condI (fun h3 => done ?_) (fun h3 => done ?_)))⟩
      · rw [hm, if_pos (by simpa using h1), mn_eq]
      · rw [hm, if_neg (by simpa using h1), if_pos (by simpa using h2)]
      · rw [hm, if_neg (by simpa using h1), if_neg (by simpa using h2), if_pos (by simpa using h3)]
      · rw [hm, if_neg (by simpa using h1), if_neg (by simpa using h2), if_neg (by simpa using h3)]
theorem PagO.ofX {w : World} {pk : Nat} {s : AK} {L : KL} {tl : Nat → Nat} {nm : Nat → ByteArray} (h : PagO w pk s L tl nm) {d : Int} {x : AD} (hx : s.desc d = some x) :
    x.num = d ∧ x ∈ s.descs ∧ x.ob < s.nob ∧ Blk w (L.dloc d) (pdC d (tl x.ob) x.fl x.at_ x.hd) ∧ Blk w (tl x.ob) (thC (nm x.ob) (s.objs x.ob).kd (L.loc x.ob)) ∧ PObj L w x.ob (s.objs x.ob) := by
  obtain ⟨hm, hn⟩ := AK.desc_some hx
  have hb := (h.ok.di x hm).1
  have := h.ds x hm
  rw [hn] at this
  exact ⟨hn, hm, hb, this, (h.th x.ob hb).1, h.ob x.ob hb⟩
theorem setD_noop (s : AK) (h : s.Ok) (a b : Int) : s.setD 0 a b = s := by
  have : (s.descs.map fun x => if x.num = 0 then { x with at_ := a, hd := b } else x) = s.descs := by
    conv => rhs; rw [← List.map_id s.descs]
    apply List.map_congr_left
    intro x hx
    have := (h.di x hx).2.2.2.2.2.1
    rw [if_neg (by omega)]
    try rfl
  unfold AK.setD
  rw [this]
theorem PagO.obj {w w' : World} {pk : Nat} {s : AK} {L : KL} {tl : Nat → Nat} {nm : Nat → ByteArray} (h : PagO w pk s L tl nm) {i : Nat} {S : Nat → Prop} (k : Kept S w w')
    (hS : ∀ z, S z → L.own z = some (.obj i)) {o : AObj} (ho : o.kd = (s.objs i).kd) {F : Nat → Prop} (hF : ∀ z, F z → L.own z = some (.obj i) ∨ w.heap.size ≤ z)
    (hO : PObjF F (fun z => L.own z = some (.lines i)) w' (L.loc i) o) : ∃ L', PagO w' pk (s.setO i o) L' tl nm ∧ KStep w w' L L' := by
  obtain ⟨L', h1, h2, _⟩ := h.objD (d := 0) k (fun z hz => .inl (hS z hz)) ho hF hO (at' := 0) (hd' := 1) (fun y hy e => by have := (h.ok.di y hy).2.2.2.2.2.1; omega) ⟨by omega, by omega, by omega, by omega⟩
  rw [setD_noop _ (h.ok.setO ho)] at h1
  exact ⟨L', h1, h2⟩
theorem PagO.desc {w w' : World} {pk : Nat} {s : AK} {L : KL} {tl : Nat → Nat} {nm : Nat → ByteArray} (h : PagO w pk s L tl nm) {d : Int} {x : AD} (hx : s.desc d = some x) (k : Kept (· = L.dloc d) w w')
    {at' hd' : Int} (hD : Blk w' (L.dloc d) (pdC d (tl x.ob) x.fl at' hd')) (hr : 0 ≤ at' ∧ at' ≤ 1048576 ∧ 1 ≤ hd' ∧ hd' ≤ 1024) : ∃ L', PagO w' pk (s.setD d at' hd') L' tl nm ∧ KStep w w' L L' := by
  obtain ⟨hn, hm, hb, hdb, htb, hob⟩ := h.ofX hx
  have hod := h.od x hm
  rw [hn] at hod
  have ne : ∀ z t, L.own z = some t → t ≠ .desc d → ¬ z = L.dloc d := fun z t hz ht e => by rw [e, hod] at hz; cases hz; exact ht rfl
  have hD' : ∀ y ∈ s.descs, y.num = d → Blk w' (L.dloc d) (pdC d (tl y.ob) y.fl at' hd') := fun y hy e => by
    have : y = x := by
      obtain ⟨i, hi, rfl⟩ := List.mem_iff_getElem.1 hy
      obtain ⟨j, hj, rfl⟩ := List.mem_iff_getElem.1 hm
      have e1 : (s.descs.map (·.num))[i]'(by simpa using hi) = (s.descs.map (·.num))[j]'(by simpa using hj) := by rw [List.getElem_map, List.getElem_map]; exact e.trans hn.symm
      have := (List.getElem_inj h.ok.dn).1 e1
      subst this; rfl
    subst this
    exact hD
  obtain ⟨L', h1, h2, _⟩ := h.objD (i := x.ob) (d := d) k (fun z hz => .inr (by rw [hz]; exact hod)) rfl (F := fun z => L.own z = some (.obj x.ob)) (fun z hz => .inl hz)
    (PObjF.keep hob k (fun z hz => ne _ _ hz (by simp)) (fun z hz => ne _ _ hz (by simp))) (at' := at') (hd' := hd') hD' hr
  rw [AK.setO_same] at h1
  exact ⟨L', h1, h2⟩
theorem metF_bound {ps : List (Int × Int)} (hm : ∀ p ∈ ps, mayP p) {n : Int} (h1 : 1 ≤ n) (h2 : n ≤ 1048576) (h0 : (metF ps n).2 = 0) : 1 ≤ (metF ps n).1 ∧ (metF ps n).1 ≤ n := by
  unfold metF at h0 ⊢
  cases ps with
  | nil => exact ⟨h1, Int.le_refl _⟩
  | cons f r =>
    dsimp only at h0 ⊢
    by_cases e1 : f.1 = 1
    · rw [if_pos e1]
      rcases hm f (List.mem_cons_self) with ⟨_, a, b⟩ | ⟨a, _⟩
      · dsimp only; omega
      · omega
    · rw [if_neg e1] at h0 ⊢
      by_cases e2 : f.1 = 2
      · rw [if_pos e2] at h0; cases h0
      rw [if_neg e2] at h0 ⊢
      by_cases e3 : f.1 = 3
      · rw [if_pos e3] at h0; cases h0
      rw [if_neg e3]; exact ⟨h1, Int.le_refl _⟩
theorem pmet_ok {w : World} {pk : Nat} {s : AK} {L : KL} {tl : Nat → Nat} {nm : Nat → ByteArray} (h : PagO w pk s L tl nm) {wr : Bool} {n : Int} (h1 : 1 ≤ n) (h2 : n ≤ 1048576) {w1 : World} {T : List (ByteArray × Nat)} {ta : Option Addr} {tc : Nat} {da : Option Addr} {dc : Nat} (hB : PKb w pk s L tl T ta tc da dc)
    (hb : Blk w1 pk #[.slice ta T.length tc, .slice da s.descs.length dc, .int .i64 s.next, pd L.pg, .int .i64 (if wr then s.c0 else s.c0 + 1), .int .i64 (if wr then s.c1 + 1 else s.c1)]) (k1 : Kept (· = pk) w w1) :
    CallR Tryz.prog 170 [pd L.pg, .int .i64 n] w1 fun v w' => v = .tuple #[.int .i64 (metF s.ps n).1, .int .i64 (metF s.ps n).2] ∧ PagO w' pk (if wr then s.met1 else s.met0) L tl nm ∧ KStep w w' L L ∧ Kept (fun z => z = pk ∨ z = L.pg) w w' := by
  obtain ⟨a, l, c, p1, p2, p3⟩ := h.pl
  have hne : pk ≠ L.pg := fun e => by have := h.oP; rw [← e, h.oK] at this; cases this
  have hap : ∀ b, inA a b → b ≠ pk ∧ b ≠ L.pg := fun b hb' => ⟨(fun e => by have := p3 b hb'; rw [e, h.oK] at this; cases this), (fun e => by have := p3 b hb'; rw [e, h.oP] at this; cases this)⟩
  refine CallR.mono (pnext_ok (p1.keep k1 (fun e => hne e.symm)) (p2.keep k1 (fun b _ hb' e => (hap b hb').1 e)) (fun b hb' => (hap b hb').2) h1 h2 h.ok.ps) ?_
  rintro v w2 ⟨rfl, ⟨a', l', c', hin, q1, q2⟩, k2⟩
  have k12 : Kept (fun z => z = pk ∨ z = L.pg) w w2 := (k1.mono fun _ _ e => .inl e).trans (k2.mono fun _ _ e => .inr e) fun _ _ e => e
  have hb2 := hb.keep k2 hne
  cases wr with
  | true =>
    obtain ⟨r1, r2⟩ := h.count k12 (fun z e => e) (s' := s.met1) rfl rfl rfl rfl rfl rfl hB hb2 ⟨a', l', c', q1, q2, fun b hb' => p3 b (hin b hb')⟩ h.ok.met1
    exact ⟨rfl, r1, r2, k12⟩
  | false =>
    obtain ⟨r1, r2⟩ := h.count k12 (fun z e => e) (s' := s.met0) rfl rfl rfl rfl rfl rfl hB hb2 ⟨a', l', c', q1, q2, fun b hb' => p3 b (hin b hb')⟩ h.ok.met0
    exact ⟨rfl, r1, r2, k12⟩
set_option maxHeartbeats 2000000 in
theorem pread_ok {w : World} {pk : Nat} {s : AK} {L : KL} {tl : Nat → Nat} {nm : Nat → ByteArray} (h : PagO w pk s L tl nm) (d n : Int) (hc : s.c0 ≤ 4611686018427387904) :
    CallR Tryz.prog 65 [pd pk, .int .i64 d, .int .i64 n] w fun v w' => ∃ a l c L', v = .tuple #[.slice a l c, .int .i64 (s.read d n).2.1] ∧ RdB w' a l c (s.read d n).1 ∧ PagO w' pk (s.read d n).2.2 L' tl nm ∧ KStep w w' L L' := by
  refine C65 ?_
  unfold L65
  have bad : ∀ (e : Int) , s.read d n = ([], e, s) → ∃ a l c L', (.tuple #[.slice none 0 0, .int .i64 e] : Value) = .tuple #[.slice a l c, .int .i64 (s.read d n).2.1] ∧ RdB w a l c (s.read d n).1 ∧ PagO w pk (s.read d n).2.2 L' tl nm ∧ KStep w w L L' := by
    intro e hr
    rw [hr]
    exact ⟨none, 0, 0, L, rfl, RdS.nil 1 w, h, KStep.refl _ _⟩
  refine CallR.mono (pfind_ok h d) ?_
  rintro v w1 ⟨rfl, ⟨hd, rfl⟩ | ⟨x, hx, rfl⟩⟩
  · refine ⟨_, rfl, fun _ _ => False, condTr2 (bad 64 ?_), fun _ _ e => e.elim⟩
    have : s.find d 1 = 64 := by unfold AK.find; rw [hd]
    unfold AK.read
    rw [this, if_pos (by simp)]
  obtain ⟨hn, hm, hob, hdb, htb, hO⟩ := h.ofX hx
  have hc0 := h.ok.c0
  have hdi := h.ok.di x hm
  obtain ⟨T, ta, tc, da, dc, hB⟩ := h.kb
  refine ⟨_, rfl, fun vs w' => vs = [] ∧ w' = w1 ∧ s.waits x = false ∧ 1 ≤ n ∧ n ≤ 1048576 ∧ s.read d n = if (metF s.ps n).2 ≠ 0 then ([], (metF s.ps n).2, s.met0) else ((s.met0.rdO x (metF s.ps n).1).1, 0, (s.met0.rdO x (metF s.ps n).1).2), condFa2 (nnI ⟨_, hdb.at (i := 2) rfl, condI (fun h0 => bad 65 ?_) (fun h0 => ?_)⟩), ?_⟩
  · have h0 : bitI x.fl 1 = 0 := beq_iff_eq.1 h0
    have : s.find d 1 = 65 := by unfold AK.find; rw [hx]; exact if_pos (by rw [h0]; simp)
    unfold AK.read
    rw [this, if_pos (by simp)]
  · have h0 : bitI x.fl 1 = 1 := by
      rcases bit_way1 x.fl with e | e
      · exact absurd e (beq_eq_false_iff_ne.1 h0)
      · exact e
    have hf : ¬ s.find d 1 ≠ 0 := fun e => e (AK.find_of hx h0)
    refine condP (fun h1 => bad 4 (by unfold AK.read; rw [if_neg hf, if_pos (.inl h1)])) (fun h1 => condP (fun h2 => bad 4 (by unfold AK.read; rw [if_neg hf, if_pos (.inr h2)])) (fun h2 => condI (fun h3 => bad 0 ?_) (fun h3 => ?_)))
    · have h3 : n = 0 := by simpa using h3
      unfold AK.read; rw [if_neg hf, if_neg (by omega), if_pos h3]
    have h3 : n ≠ 0 := by simpa using h3
    have hread : s.read d n = if s.waits x = true then ([], 52, s) else if (metF s.ps n).2 ≠ 0 then ([], (metF s.ps n).2, s.met0) else ((s.met0.rdO x (metF s.ps n).1).1, 0, (s.met0.rdO x (metF s.ps n).1).2) := by
      unfold AK.read
      rw [if_neg hf, if_neg (by omega), if_neg h3, hx]
    have go : s.waits x = false → ([] : List Value) = [] ∧ w1 = w1 ∧ s.waits x = false ∧ 1 ≤ n ∧ n ≤ 1048576 ∧ s.read d n = if (metF s.ps n).2 ≠ 0 then ([], (metF s.ps n).2, s.met0) else ((s.met0.rdO x (metF s.ps n).1).1, 0, (s.met0.rdO x (metF s.ps n).1).2) := fun hw =>
      ⟨rfl, rfl, hw, by omega, by omega, by rw [hread, hw, if_neg (by simp)]⟩
    refine nnI ⟨_, hdb.at (i := 1) rfl, nnI ?_⟩
    cases ho : s.objs x.ob with
    | file bs =>
      rw [ho] at htb
      exact ⟨_, htb.at (i := 1) rfl, condFa2 (go (by unfold AK.waits; rw [ho]))⟩
    | term LL scr =>
      rw [ho] at htb
      exact ⟨_, htb.at (i := 1) rfl, condFa2 (go (by unfold AK.waits; rw [ho]))⟩
    | pipe bs e0 e1 =>
      rw [ho] at htb hO
      have hO : RefP w1 (L.loc x.ob) (fun z => L.own z = some (.obj x.ob)) bs e0 e1 := hO
      have hw : s.waits x = !canRP bs e0 e1 := by unfold AK.waits; rw [ho]
      refine ⟨_, htb.at (i := 1) rfl, condTr2 (nnI ⟨_, hdb.at (i := 1) rfl, nnI ⟨_, htb.at (i := 4) rfl, rcanr_to hO ⟨_, rfl, ?_⟩⟩⟩)⟩
      refine condI (fun hc => bad 52 ?_) (fun hc => go (hw.trans hc))
      rw [hread, hw, hc, if_pos rfl]
  rintro _ w2 ⟨-, rfl, hw, h1, h2, hread⟩
  rw [hread]
  clear bad hread
  have hpkd : pk ≠ L.dloc d := fun e => by have := h.od x hm; rw [hn, ← e, h.oK] at this; cases this
  refine nnI ⟨_, hB.b.at (i := 4) rfl, ⟨by omega, by omega⟩, nnI (stC_at hB.b (i := 4) (by simp) fun w3 hb3 hk3 _ => ?_)⟩
  have hb3 : Blk w3 pk #[.slice ta T.length tc, .slice da s.descs.length dc, .int .i64 s.next, pd L.pg, .int .i64 (s.c0 + 1), .int .i64 s.c1] := hb3
  refine nnI ⟨_, hb3.at (i := 3) rfl, CallR.mono (pmet_ok h (wr := false) (by omega) (by omega) hB hb3 hk3) ?_⟩
  rintro v w4 ⟨rfl, h4, st4, _⟩
  have h4 : PagO w4 pk s.met0 L tl nm := h4
  refine ⟨_, _, rfl, ?_⟩
  by_cases he : (metF s.ps n).2 ≠ 0
  · rw [if_pos he]
    exact condT (by simpa using he) ⟨none, 0, 0, L, rfl, RdS.nil 1 w4, h4, st4⟩
  have he : (metF s.ps n).2 = 0 := by simpa using he
  rw [if_neg (by simpa using he)]
  obtain ⟨hm1, hm2⟩ := metF_bound h.ok.pm (n := n) (by omega) (by omega) he
  generalize (metF s.ps n).1 = m at hm1 hm2 ⊢
  have hx4 : s.met0.desc d = some x := hx
  obtain ⟨_, _, _, hdb4, htb4, hO4⟩ := h4.ofX hx4
  have htb4 : Blk w4 (tl x.ob) (thC (nm x.ob) (s.objs x.ob).kd (L.loc x.ob)) := htb4
  have hO4 : PObj L w4 x.ob (s.objs x.ob) := hO4
  refine condF (by rw [he]; rfl) (nnI ⟨_, hdb4.at (i := 1) rfl, nnI ?_⟩)
  have hkeep : ∀ o, s.met0.objs x.ob = o → s.objs x.ob = o := fun o e => e
  cases ho : s.objs x.ob with
  | term LL scr =>
    rw [ho] at htb4 hO4
    have hO4 : RefT (fun z => L.own z = some (.obj x.ob)) (fun z => L.own z = some (.lines x.ob)) w4 (L.loc x.ob) LL scr := hO4
    refine ⟨_, htb4.at (i := 1) rfl, condTr2 (nnI ⟨_, hdb4.at (i := 1) rfl, nnI ⟨_, htb4.at (i := 3) rfl, CallR.mono (rreadT_ok hO4 m) ?_⟩⟩)⟩
    rintro v w5 ⟨a', c', rfl, hrd, F', hF', hk5, hO5⟩
    have hr0 : (readT m LL).1 = 0 := by
      unfold readT
      rw [if_neg (by omega)]
      split <;> rfl
    have hrd0 : s.met0.rdO x m = ((readT m LL).2.1, s.met0.setO x.ob (.term (readT m LL).2.2 scr)) := by
      unfold AK.rdO
      rw [show s.met0.objs x.ob = .term LL scr from ho]
    rw [hrd0, hr0]
    obtain ⟨L', r1, r2⟩ := h4.obj hk5 (fun z hz => hz) (o := .term (readT m LL).2.2 scr) (by show TK.scr = (s.objs x.ob).kd; rw [ho]; rfl) (F := F') (fun z hz => .inl (hF' z hz)) hO5
    exact ⟨_, _, _, _, rfl, _, _, _, L', rfl, hrd, r1, st4.trans r2⟩
  | pipe bs e0 e1 =>
    rw [ho] at htb4 hO4
    have hO4 : RefP w4 (L.loc x.ob) (fun z => L.own z = some (.obj x.ob)) bs e0 e1 := hO4
    have hcan : canRP bs e0 e1 = true := by
      unfold AK.waits at hw
      rw [ho] at hw
      simpa using hw
    refine ⟨_, htb4.at (i := 1) rfl, condFa2 (condTr2 (nnI ⟨_, hdb4.at (i := 1) rfl, nnI ⟨_, htb4.at (i := 4) rfl, CallR.mono (rread_ok hO4 m) ?_⟩⟩))⟩
    rintro v w5 ⟨a, l, c, rfl, hrd, _, hO5, hk5⟩
    have hr0 : (readP m bs e0 e1).2.1 = 0 := by
      unfold canRP at hcan
      simp only [decide_eq_true_eq] at hcan
      unfold readP
      rw [if_neg (by omega), if_neg (by omega), if_neg]
      rintro ⟨rfl, h2⟩
      simp at hcan; omega
    have hrd0 : s.met0.rdO x m = ((readP m bs e0 e1).1, s.met0.setO x.ob (.pipe (readP m bs e0 e1).2.2 e0 e1)) := by
      unfold AK.rdO
      rw [show s.met0.objs x.ob = .pipe bs e0 e1 from ho]
    rw [hrd0, hr0]
    obtain ⟨L', r1, r2⟩ := h4.obj hk5 (fun z hz => by rw [hz]; exact hO4.1) (o := .pipe (readP m bs e0 e1).2.2 e0 e1) (by show TK.con = (s.objs x.ob).kd; rw [ho]; rfl) (F := fun z => L.own z = some (.obj x.ob)) (fun z hz => .inl hz) hO5
    exact ⟨_, _, _, _, rfl, _, _, _, L', rfl, hrd, r1, st4.trans r2⟩
  | file bs =>
    rw [ho] at htb4 hO4
    refine ⟨_, htb4.at (i := 1) rfl, condFa2 (condFa2 ?_)⟩
    intro w7
    have hk7 : Kept No w4 w7 := Kept.drew _ _
    clear_value w7
    have h7 := h4.no hk7
    have hdb7 := hdb4.keep hk7 fun e => e
    have htb7 := htb4.keep hk7 fun e => e
    obtain ⟨fa, fl, fc, hfb, hfo, hfn, hfl, hfF⟩ : RefO (fun z => L.own z = some (.obj x.ob)) w7 (L.loc x.ob) bs := RefO.keep hO4 hk7 fun _ _ e => e
    have hfl' := hfo.len
    refine nnI ⟨_, hdb7.at (i := 1) rfl, nnI ⟨_, htb7.at (i := 2) rfl, nnI ⟨_, _, _, hfb.at0 rfl, nnI ⟨_, hdb7.at (i := 3) rfl, CallR.mono (rpiece_ok hfo.rd (by omega) (off := x.at_) (n := m) hdi.2.1 (by omega)) ?_⟩⟩⟩⟩
    rintro v w8 ⟨a', c', rfl, hpo, hk8, hpf⟩
    have h8 := h7.no hk8
    have hdb8 := hdb7.keep hk8 fun e => e
    have hpl : x.at_ + ((piece bs x.at_ m).length : Int) ≤ 1048576 := by
      unfold piece
      rw [List.length_take, List.length_drop]
      omega
    refine ⟨_, _, _, rfl, nnI ⟨_, hdb8.at (i := 3) rfl, ⟨by omega, by omega⟩, nnI (stC_at hdb8 (i := 3) (by simp [pdC]) fun w9 hdb9 hk9 _ => ?_)⟩⟩
    have hdb9 : Blk w9 (L.dloc d) (pdC d (tl x.ob) x.fl (x.at_ + ((piece bs x.at_ m).length : Int)) x.hd) := hdb9
    have hrd0 : s.met0.rdO x m = (piece bs x.at_ m, s.met0.setD x.num (x.at_ + ((piece bs x.at_ m).length : Int)) x.hd) := by
      unfold AK.rdO
      rw [show s.met0.objs x.ob = .file bs from ho]
    rw [hrd0, hn]
    obtain ⟨L', r1, r2⟩ := h8.desc hx4 hk9 hdb9 ⟨by omega, hpl, hdi.2.2.2.1, hdi.2.2.2.2.1⟩
    refine ⟨_, _, _, L', rfl, ?_, r1, ((st4.no hk7).no hk8).trans r2⟩
    refine (hpo.keep hk9 fun b hb e => ?_).rd
    have := hpf b hb
    have := (hdb7.lt)
    omega
end Go.Proofs.YtpoaacnnhgebfaaGreat
namespace Go.Proofs.YtpoaacnnhgebfaaGreat
open Go.Lw
theorem RdB.take {w : World} {a : Option Addr} {l c : Nat} {ds : List Int} (h : RdB w a l c ds) {k : Nat} (hk : k ≤ l) : RdB w a k c (ds.take k) := by
  have hl := h.len
  obtain ⟨h1, h2, h3, h4⟩ := h
  refine ⟨by unfold By; rw [List.length_map, List.length_take]; omega, by omega, h3, fun ad had j v hj => ?_⟩
  refine h4 ad had j v ?_
  unfold By at hj ⊢
  rw [List.getElem?_map] at hj ⊢
  rw [List.getElem?_take] at hj
  by_cases e : j < k
  · rw [if_pos e] at hj; exact hj
  · rw [if_neg e] at hj; cases hj
def roomN (s : AK) (x : AD) : Int := match s.objs x.ob with
  | .file bs => 1048576 - placeF x.fl x.at_ bs
  | .term LL scr => 1048576 - (scr.length : Int)
  | .pipe _ _ _ => 0
theorem PObj.fileLen {L : KL} {w : World} {i : Nat} {bs : List Int} (h : PObj L w i (.file bs)) : bs.length ≤ 1048576 := by
  obtain ⟨_, _, _, _, _, _, hl, _⟩ : RefO _ w (L.loc i) bs := h
  exact hl
theorem PObj.scrLen {L : KL} {w : World} {i : Nat} {LL : List (List Int)} {scr : List Int} (h : PObj L w i (.term LL scr)) : scr.length ≤ 1048576 := RefT.scr (show RefT _ _ w (L.loc i) LL scr from h)
theorem proom_ok {w : World} {pk : Nat} {s : AK} {L : KL} {tl : Nat → Nat} {nm : Nat → ByteArray} (h : PagO w pk s L tl nm) {d : Int} {x : AD} (hx : s.desc d = some x) (hk : (s.objs x.ob).kd ≠ .con) {Q : Value → World → Prop} (hq : Q (.int .i64 (roomN s x)) w) : CallR Tryz.prog 174 [pd (L.dloc d)] w Q := by
  refine C174 ?_
  unfold L174
  obtain ⟨hn, hm, hob, hdb, htb, hO⟩ := h.ofX hx
  have hdi := h.ok.di x hm
  unfold roomN at hq
  refine nnI ⟨_, hdb.at (i := 1) rfl, nnI ?_⟩
  cases ho : s.objs x.ob with
  | term LL scr =>
    rw [ho] at htb hO hq
    have hl := hO.scrLen
    obtain ⟨la, ll, lc, sa, sl, sc, es, hb, _, _, hs, _⟩ : RefT _ _ w (L.loc x.ob) LL scr := hO
    have hsl := hs.len
    refine ⟨_, htb.at (i := 1) rfl, condTr2 (nnI ⟨_, hdb.at (i := 1) rfl, nnI ⟨_, htb.at (i := 3) rfl, nnI ⟨_, _, _, hb.at (i := 1) rfl, ⟨by omega, by omega⟩, ?_⟩⟩⟩)⟩
    rw [← hsl]; exact hq
  | pipe bs e0 e1 => rw [ho] at hk; exact absurd rfl hk
  | file bs =>
    rw [ho] at htb hO hq
    have hl := hO.fileLen
    obtain ⟨fa, fl, fc, hb, hs, _, _, _⟩ : RefO _ w (L.loc x.ob) bs := hO
    have hsl := hs.len
    refine ⟨_, htb.at (i := 1) rfl, condFa2 (nnI ⟨_, hdb.at (i := 2) rfl, condI (fun h4 => ?_) (fun h4 => ?_)⟩)⟩
    · have h4 : bitI x.fl 4 ≠ 0 := bne_iff_ne.1 h4
      refine nnI ⟨_, hdb.at (i := 1) rfl, nnI ⟨_, htb.at (i := 2) rfl, nnI ⟨_, _, _, hb.at0 rfl, ⟨by omega, by omega⟩, ?_⟩⟩⟩
      have hq : Q (.int .i64 (1048576 - placeF x.fl x.at_ bs)) w := hq
      unfold placeF at hq
      rw [if_pos h4] at hq
      rw [← hsl]; exact hq
    · have h4 : ¬ bitI x.fl 4 ≠ 0 := fun e => by
        have : (bitI x.fl 4 != 0) = false := h4
        rw [bne_iff_ne.2 e] at this; cases this
      have hq : Q (.int .i64 (1048576 - placeF x.fl x.at_ bs)) w := hq
      unfold placeF at hq
      rw [if_neg h4] at hq
      exact nnI ⟨_, hdb.at (i := 3) rfl, ⟨by omega, by omega⟩, hq⟩
theorem roomD_zero {p n : Int} (hp : p ≤ 1048576) : (1048576 - p = 0 → (roomD p n) = (0, 31)) ∧ (1048576 - p ≠ 0 → roomD p n = (mn n (1048576 - p), 0)) := by
  unfold roomD
  constructor
  · intro e; rw [if_neg (by omega)]
  · intro e; rw [if_pos (by omega)]
set_option maxHeartbeats 4000000 in
theorem pwrite_ok {w : World} {pk : Nat} {s : AK} {L : KL} {tl : Nat → Nat} {nm : Nat → ByteArray} (h : PagO w pk s L tl nm) (d : Int) {a : Option Addr} {l c : Nat} {ds : List Int} (hd : RdB w a l c ds) (hap : ds ≠ [] → ∀ k, inA a k → L.own k = none) (hc : s.c1 ≤ 4611686018427387904) :
    CallR Tryz.prog 67 [pd pk, .int .i64 d, .slice a l c] w fun v w' => v = .tuple #[.int .i64 (s.write d ds).1, .int .i64 (s.write d ds).2.1] ∧ ∃ L', PagO w' pk (s.write d ds).2.2 L' tl nm ∧ KStep w w' L L' := by
  refine C67 ?_
  unfold L67
  have hlen := hd.len
  have hlc : l ≤ c := hd.2.1
  have bad : ∀ (e : Int), s.write d ds = (0, e, s) → (.tuple #[.int .i64 0, .int .i64 e] : Value) = .tuple #[.int .i64 (s.write d ds).1, .int .i64 (s.write d ds).2.1] ∧ ∃ L', PagO w pk (s.write d ds).2.2 L' tl nm ∧ KStep w w L L' := by
    intro e hr
    rw [hr]
    exact ⟨rfl, L, h, KStep.refl _ _⟩
  refine CallR.mono (pfind_ok h d) ?_
  rintro v w1 ⟨rfl, ⟨hdn, rfl⟩ | ⟨x, hx, rfl⟩⟩
  · refine ⟨_, rfl, fun _ _ => False, condTr2 (bad 64 ?_), fun _ _ e => e.elim⟩
    have : s.find d 2 = 64 := by unfold AK.find; rw [hdn]
    unfold AK.write
    rw [this, if_pos (by simp)]
  obtain ⟨hn, hm, hob, hdb, htb, hO⟩ := h.ofX hx
  have hc1 := h.ok.c1
  have hdi := h.ok.di x hm
  obtain ⟨T, ta, tc, da, dc, hB⟩ := h.kb
  have hpl : placeF x.fl x.at_ (match s.objs x.ob with | .file bs => bs | _ => []) ≤ 1048576 ∧ 0 ≤ placeF x.fl x.at_ (match s.objs x.ob with | .file bs => bs | _ => []) := by
    unfold placeF
    split
    · cases ho : s.objs x.ob with
      | file bs => rw [ho] at hO; have := hO.fileLen; dsimp only; omega
      | term _ _ => simp
      | pipe _ _ _ => simp
    · omega
  refine ⟨_, rfl, fun vs w' => vs = [] ∧ w' = w1 ∧ 1 ≤ ds.length ∧ ds.length ≤ 1048576 ∧ (s.roomO x ds.length).2 = 0 ∧ s.write d ds = if (metF s.ps ds.length).2 ≠ 0 then (0, (metF s.ps ds.length).2, s.met1) else ((s.met1.wrO x ds (min (metF s.ps ds.length).1 (s.roomO x ds.length).1)).1, 0, (s.met1.wrO x ds (min (metF s.ps ds.length).1 (s.roomO x ds.length).1)).2), condFa2 (nnI ⟨_, hdb.at (i := 2) rfl, condI (fun h0 => bad 65 ?_) (fun h0 => ?_)⟩), ?_⟩
  · have h0 : bitI x.fl 2 = 0 := beq_iff_eq.1 h0
    have : s.find d 2 = 65 := by unfold AK.find; rw [hx]; exact if_pos (by rw [h0]; simp)
    unfold AK.write
    rw [this, if_pos (by simp)]
  · have h0 : bitI x.fl 2 = 2 := by
      rcases bit_way2 x.fl with e | e
      · exact absurd e (beq_eq_false_iff_ne.1 h0)
      · exact e
    have hf : ¬ s.find d 2 ≠ 0 := fun e => e (AK.find_of hx h0)
    refine condP (fun h1 => bad 5 (by unfold AK.write; rw [if_neg hf, if_pos (by omega)])) (fun h1 => condI (fun h3 => bad 0 ?_) (fun h3 => ?_))
    · have h3 : l = 0 := by simp at h3; omega
      unfold AK.write; rw [if_neg hf, if_neg (by omega), if_pos (by omega)]
    have h3 : l ≠ 0 := by simp at h3; omega
    have hwr : s.write d ds = if (s.roomO x ds.length).2 ≠ 0 then (0, (s.roomO x ds.length).2, s) else if (metF s.ps ds.length).2 ≠ 0 then (0, (metF s.ps ds.length).2, s.met1) else ((s.met1.wrO x ds (min (metF s.ps ds.length).1 (s.roomO x ds.length).1)).1, 0, (s.met1.wrO x ds (min (metF s.ps ds.length).1 (s.roomO x ds.length).1)).2) := by
      unfold AK.write
      rw [if_neg hf, if_neg (by omega), if_neg (by omega), hx]
    have no : ∀ e : Int, (s.roomO x ds.length).2 = e → e ≠ 0 → s.write d ds = (0, e, s) := fun e he hne => by rw [hwr, if_pos (by rw [he]; exact hne), he]
    have go : (s.roomO x ds.length).2 = 0 → ([] : List Value) = [] ∧ w1 = w1 ∧ 1 ≤ ds.length ∧ ds.length ≤ 1048576 ∧ (s.roomO x ds.length).2 = 0 ∧ s.write d ds = if (metF s.ps ds.length).2 ≠ 0 then (0, (metF s.ps ds.length).2, s.met1) else ((s.met1.wrO x ds (min (metF s.ps ds.length).1 (s.roomO x ds.length).1)).1, 0, (s.met1.wrO x ds (min (metF s.ps ds.length).1 (s.roomO x ds.length).1)).2) := fun hr =>
      ⟨rfl, rfl, by omega, by omega, hr, by rw [hwr, if_neg (by rw [hr]; simp)]⟩
    refine nnI ⟨_, hdb.at (i := 1) rfl, nnI ?_⟩
    cases ho : s.objs x.ob with
    | file bs =>
      rw [ho] at htb hpl
      have hkd : (s.objs x.ob).kd ≠ .con := by rw [ho]; simp [AObj.kd]
      have hro : s.roomO x ds.length = roomD (placeF x.fl x.at_ bs) ds.length := by unfold AK.roomO; rw [ho]
      have hrn : roomN s x = 1048576 - placeF x.fl x.at_ bs := by unfold roomN; rw [ho]
      obtain ⟨z1, z2⟩ := roomD_zero (p := placeF x.fl x.at_ bs) (n := (ds.length : Int)) hpl.1
      refine ⟨_, htb.at (i := 1) rfl, condFa2 (nnI ⟨_, hdb.at (i := 1) rfl, nnI ⟨_, htb.at (i := 1) rfl, condFa2 (nnI ⟨_, hdb.at (i := 1) rfl, nnI ⟨_, htb.at (i := 1) rfl, condTr2 (proom_ok h hx hkd ⟨_, rfl, condI (fun hz => ?_) (fun hz => ?_)⟩)⟩⟩)⟩⟩)⟩
      · exact bad 31 (no 31 (by rw [hro, z1 (by rw [← hrn]; simpa using hz)]) (by simp))
      · exact go (by rw [hro, z2 (by rw [← hrn]; simpa using hz)])
    | term LL scr =>
      rw [ho] at htb hO
      have hsl := hO.scrLen
      have hkd : (s.objs x.ob).kd ≠ .con := by rw [ho]; simp [AObj.kd]
      have hro : s.roomO x ds.length = roomD (scr.length : Int) ds.length := by unfold AK.roomO; rw [ho]
      have hrn : roomN s x = 1048576 - (scr.length : Int) := by unfold roomN; rw [ho]
      obtain ⟨z1, z2⟩ := roomD_zero (p := (scr.length : Int)) (n := (ds.length : Int)) (by omega)
      refine ⟨_, htb.at (i := 1) rfl, condFa2 (nnI ⟨_, hdb.at (i := 1) rfl, nnI ⟨_, htb.at (i := 1) rfl, condFa2 (nnI ⟨_, hdb.at (i := 1) rfl, nnI ⟨_, htb.at (i := 1) rfl, condTr2 (proom_ok h hx hkd ⟨_, rfl, condI (fun hz => ?_) (fun hz => ?_)⟩)⟩⟩)⟩⟩)⟩
      · exact bad 31 (no 31 (by rw [hro, z1 (by rw [← hrn]; simpa using hz)]) (by simp))
      · exact go (by rw [hro, z2 (by rw [← hrn]; simpa using hz)])
    | pipe bs e0 e1 =>
      rw [ho] at htb hO
      have hO : RefP w1 (L.loc x.ob) (fun z => L.own z = some (.obj x.ob)) bs e0 e1 := hO
      have hro : s.roomO x ds.length = roomC ds.length bs e0 e1 := by unfold AK.roomO; rw [ho]
      obtain ⟨_, _, pa, pl, pc, hpb, _⟩ := id hO
      refine ⟨_, htb.at (i := 1) rfl, condTr2 (nnI ⟨_, hdb.at (i := 1) rfl, nnI ⟨_, htb.at (i := 4) rfl, nnI ⟨_, hpb.at (i := 1) rfl, condI (fun hz => bad 53 (no 53 ?_ (by simp))) (fun hz => ?_)⟩⟩⟩)⟩
      · have hz : e0 = 0 := by simp at hz; omega
        rw [hro]; unfold roomC; rw [if_pos hz]
      have hz : e0 ≠ 0 := by simp at hz; omega
      refine nnI ⟨_, hdb.at (i := 1) rfl, nnI ⟨_, htb.at (i := 1) rfl, condTr2 (nnI ⟨_, hdb.at (i := 1) rfl, nnI ⟨_, htb.at (i := 4) rfl, rcanw_to hO _ ⟨_, rfl, ?_⟩⟩⟩)⟩⟩
      have hll : ((l : Nat) : Int) = (ds.length : Int) := by omega
      rw [hll]
      refine condI (fun hcw => bad 52 (no 52 ?_ (by simp))) (fun hcw => ?_)
      · rw [hro]; unfold roomC; rw [if_neg hz, if_pos (by simpa using hcw)]
      · exact nnI ⟨_, hdb.at (i := 1) rfl, nnI ⟨_, htb.at (i := 1) rfl, condFa2 (go (by rw [hro]; unfold roomC; rw [if_neg hz, if_neg (by simpa using hcw)]))⟩⟩
  rintro _ w2 ⟨-, rfl, h1, h2, hro, hwr⟩
  rw [hwr]
  clear bad hwr
  refine nnI ⟨_, hB.b.at (i := 5) rfl, ⟨by omega, by omega⟩, nnI (stC_at hB.b (i := 5) (by simp) fun w3 hb3 hk3 _ => ?_)⟩
  have hb3 : Blk w3 pk #[.slice ta T.length tc, .slice da s.descs.length dc, .int .i64 s.next, pd L.pg, .int .i64 s.c0, .int .i64 (s.c1 + 1)] := hb3
  have hll : ((l : Nat) : Int) = (ds.length : Int) := by omega
  refine nnI ⟨_, hb3.at (i := 3) rfl, ?_⟩
  rw [hll]
  refine CallR.mono (pmet_ok h (wr := true) (n := (ds.length : Int)) (by omega) (by omega) hB hb3 hk3) ?_
  rintro v w4 ⟨rfl, h4, st4, k4⟩
  have h4 : PagO w4 pk s.met1 L tl nm := h4
  refine ⟨_, _, rfl, ?_⟩
  by_cases he : (metF s.ps ds.length).2 ≠ 0
  · rw [if_pos he]
    exact condT (by simpa using he) ⟨rfl, L, h4, st4⟩
  have he : (metF s.ps ds.length).2 = 0 := by simpa using he
  rw [if_neg (by simpa using he)]
  obtain ⟨hm1, hm2⟩ := metF_bound h.ok.pm (n := (ds.length : Int)) (by omega) (by omega) he
  generalize (metF s.ps ds.length).1 = m at hm1 hm2 ⊢
  have hne : ds ≠ [] := fun e => by rw [e] at h1; simp at h1
  have hap := hap hne
  have hd4 : RdB w4 a l c ds := hd.keep k4 fun b _ hb e => by
    have := hap b hb
    rcases e with rfl | rfl
    · rw [h.oK] at this; cases this
    · rw [h.oP] at this; cases this
  have hx4 : s.met1.desc d = some x := hx
  obtain ⟨_, _, _, hdb4, htb4, hO4⟩ := h4.ofX hx4
  have htb4 : Blk w4 (tl x.ob) (thC (nm x.ob) (s.objs x.ob).kd (L.loc x.ob)) := htb4
  have hO4 : PObj L w4 x.ob (s.objs x.ob) := hO4
  refine condF (by rw [he]; rfl) (nnI ⟨_, hdb4.at (i := 1) rfl, nnI ?_⟩)
  cases ho : s.objs x.ob with
  | pipe bs e0 e1 =>
    rw [ho] at htb4 hO4
    have hO4 : RefP w4 (L.loc x.ob) (fun z => L.own z = some (.obj x.ob)) bs e0 e1 := hO4
    have hroC : s.roomO x ds.length = roomC ds.length bs e0 e1 := by unfold AK.roomO; rw [ho]
    rw [hroC] at hro ⊢
    have hE : e0 ≠ 0 ∧ canWP ds.length bs e0 e1 = true ∧ (roomC ds.length bs e0 e1).1 = ds.length := by
      unfold roomC at hro ⊢
      by_cases z : e0 = 0
      · rw [if_pos z] at hro; cases hro
      rw [if_neg z] at hro ⊢
      by_cases y : canWP ds.length bs e0 e1 = false
      · rw [if_pos y] at hro; cases hro
      · rw [if_neg y]; exact ⟨z, by simpa using y, rfl⟩
    rw [hE.2.2, Int.min_eq_left (by omega)]
    refine ⟨_, htb4.at (i := 1) rfl, condTr2 (nnI ⟨_, hdb4.at (i := 1) rfl, nnI ⟨_, htb4.at (i := 4) rfl, CallR.mono (rwrite_ok hO4 hd4 (fun _ e => by have := hap _ e; rw [hO4.1] at this; cases this) m) ?_⟩⟩)⟩
    rintro v w5 ⟨rfl, hO5, hk5⟩
    have hcw := hE.2.1
    unfold canWP at hcw
    simp only [decide_eq_true_eq] at hcw
    have hr0 : (writeP ds m bs e0 e1).2.1 = 0 := by
      unfold writeP
      rw [if_neg (by omega), if_neg (by omega), if_neg (by omega), if_neg hE.1, if_neg hne, if_neg]
      intro e
      rcases hcw.2.2.2 with e2 | e2
      · exact hE.1 e2
      · rw [e] at e2; omega
    have hwr0 : s.met1.wrO x ds m = ((writeP ds m bs e0 e1).1, s.met1.setO x.ob (.pipe (writeP ds m bs e0 e1).2.2 e0 e1)) := by
      unfold AK.wrO
      rw [show s.met1.objs x.ob = .pipe bs e0 e1 from ho]
    rw [hwr0, hr0]
    obtain ⟨L', r1, r2⟩ := h4.obj hk5 (fun z hz => by rw [hz]; exact hO4.1) (o := .pipe (writeP ds m bs e0 e1).2.2 e0 e1) (by show TK.con = (s.objs x.ob).kd; rw [ho]; rfl) (F := fun z => L.own z = some (.obj x.ob) ∨ (w4.heap.size ≤ z ∧ z < w5.heap.size)) (fun z hz => hz.imp (fun e => e) fun e => e.1) hO5
    exact ⟨_, _, rfl, rfl, L', r1, st4.trans r2⟩
  | term LL scr =>
    rw [ho] at htb4 hO4
    have hsl := hO4.scrLen
    have hO4 : RefT (fun z => L.own z = some (.obj x.ob)) (fun z => L.own z = some (.lines x.ob)) w4 (L.loc x.ob) LL scr := hO4
    have hkd : (s.met1.objs x.ob).kd ≠ .con := by show (s.objs x.ob).kd ≠ .con; rw [ho]; simp [AObj.kd]
    have hrn : roomN s.met1 x = 1048576 - (scr.length : Int) := by unfold roomN; rw [show s.met1.objs x.ob = .term LL scr from ho]
    have hroD : s.roomO x ds.length = roomD (scr.length : Int) ds.length := by unfold AK.roomO; rw [ho]
    obtain ⟨z1, z2⟩ := roomD_zero (p := (scr.length : Int)) (n := (ds.length : Int)) (by omega)
    have hz : 1048576 - (scr.length : Int) ≠ 0 := fun e => by rw [hroD, z1 e] at hro; cases hro
    rw [hroD, z2 hz]
    have hmm : mn m (1048576 - (scr.length : Int)) = ((min ds.length (min m (mn ds.length (1048576 - (scr.length : Int)))).toNat : Nat) : Int) := by rw [mn_eq, mn_eq]; omega
    have hwr0 : s.met1.wrO x ds (min m (mn ds.length (1048576 - (scr.length : Int)))) = (mn m (1048576 - (scr.length : Int)), s.met1.setO x.ob (.term LL (writeT (ds.take (Int.toNat (mn m (1048576 - (scr.length : Int))))) scr).2)) := by
      unfold AK.wrO
      rw [show s.met1.objs x.ob = .term LL scr from ho]
      dsimp only
      rw [← hmm, hmm, Int.toNat_natCast]
    rw [hwr0]
    refine ⟨_, htb4.at (i := 1) rfl, condFa2 (proom_ok h4 hx4 hkd ⟨_, rfl, nnI ⟨_, hdb4.at (i := 1) rfl, nnI ⟨_, htb4.at (i := 1) rfl, condTr2 ?_⟩⟩⟩)⟩
    rw [hrn]
    intro w8
    have hk8 : Kept No w4 w8 := Kept.drew _ _
    clear_value w8
    have hmb : 0 ≤ mn m (1048576 - (scr.length : Int)) ∧ mn m (1048576 - (scr.length : Int)) ≤ ds.length := by rw [mn_eq]; omega
    refine nnI ⟨_, (hdb4.keep hk8 fun e => e).at (i := 1) rfl, nnI ⟨_, (htb4.keep hk8 fun e => e).at (i := 3) rfl, ⟨by omega, by omega⟩, CallR.mono (rwriteT_ok (RefT.keep hO4 hk8 (fun _ _ e => e) fun _ _ e => e) (RdB.take (hd4.keep hk8 fun _ _ _ e => e) (k := Int.toNat (mn m (1048576 - (scr.length : Int)))) (by omega)) (by omega)) ?_⟩⟩
    rintro v w9 ⟨rfl, F', hO9, hF', hk9⟩
    obtain ⟨L', r1, r2⟩ := (h4.no hk8).obj hk9 (fun z hz => hz) (o := .term LL (writeT (ds.take (Int.toNat (mn m (1048576 - (scr.length : Int))))) scr).2) (by show TK.scr = (s.objs x.ob).kd; rw [ho]; rfl) (F := F') hF' hO9
    exact ⟨_, rfl, rfl, L', r1, (st4.no hk8).trans r2⟩
  | file bs =>
    rw [ho] at htb4 hO4 hpl
    have hpl : placeF x.fl x.at_ bs ≤ 1048576 ∧ 0 ≤ placeF x.fl x.at_ bs := hpl
    have hfl := hO4.fileLen
    have hO4 : RefO (fun z => L.own z = some (.obj x.ob)) w4 (L.loc x.ob) bs := hO4
    have hkd : (s.met1.objs x.ob).kd ≠ .con := by show (s.objs x.ob).kd ≠ .con; rw [ho]; simp [AObj.kd]
    have hrn : roomN s.met1 x = 1048576 - placeF x.fl x.at_ bs := by unfold roomN; rw [show s.met1.objs x.ob = .file bs from ho]
    have hroD : s.roomO x ds.length = roomD (placeF x.fl x.at_ bs) ds.length := by unfold AK.roomO; rw [ho]
    obtain ⟨z1, z2⟩ := roomD_zero (p := placeF x.fl x.at_ bs) (n := (ds.length : Int)) hpl.1
    have hz : 1048576 - placeF x.fl x.at_ bs ≠ 0 := fun e => by rw [hroD, z1 e] at hro; cases hro
    rw [hroD, z2 hz]
    obtain ⟨p, hp⟩ : ∃ p, p = placeF x.fl x.at_ bs := ⟨_, rfl⟩
    rw [← hp] at hrn hz hpl ⊢
    obtain ⟨k, hk⟩ : ∃ k : Nat, ((k : Nat) : Int) = mn m (1048576 - p) := ⟨(mn m (1048576 - p)).toNat, by rw [mn_eq]; omega⟩
    have hmm : min ds.length (min m (mn ds.length (1048576 - p))).toNat = k := by rw [mn_eq] at hk ⊢; omega
    have hkl : k ≤ ds.length := by rw [mn_eq] at hk; omega
    have hkp : p + (k : Int) ≤ 1048576 := by rw [mn_eq] at hk; omega
    have hwr0 : s.met1.wrO x ds (min m (mn ds.length (1048576 - p))) = ((k : Int), (s.met1.setO x.ob (.file (writeF bs p (ds.take k)).2)).setD d (p + (k : Int)) x.hd) := by
      unfold AK.wrO
      rw [show s.met1.objs x.ob = .file bs from ho]
      dsimp only
      rw [hmm, ← hp, hn]
    rw [hwr0]
    have hdfn : L.own (L.dloc d) = some (.desc d) := by have := h.od x hm; rw [hn] at this; exact this
    refine ⟨_, htb4.at (i := 1) rfl, condFa2 (proom_ok h4 hx4 hkd ⟨_, rfl, nnI ⟨_, hdb4.at (i := 1) rfl, nnI ⟨_, htb4.at (i := 1) rfl, condFa2 ?_⟩⟩⟩)⟩
    rw [hrn, ← hk]
    refine ⟨fun vs w' => vs = [] ∧ Kept (· = L.dloc d) w4 w' ∧ Blk w' (L.dloc d) (pdC d (tl x.ob) x.fl p x.hd), ?_, ?_⟩
    · refine nnI ⟨_, hdb4.at (i := 2) rfl, condI (fun h4 => ?_) (fun h4 => ?_)⟩
      · have h4 : bitI x.fl 4 ≠ 0 := bne_iff_ne.1 h4
        obtain ⟨fa, fl, fc, hfb, hfo, _, _, _⟩ := id hO4
        have hfol := hfo.len
        refine nnI ⟨_, hdb4.at (i := 1) rfl, nnI ⟨_, htb4.at (i := 2) rfl, nnI ⟨_, _, _, hfb.at0 rfl, nnI (stC_at hdb4 (i := 3) (by simp [pdC]) fun w5 hdb5 hk5 _ => ⟨rfl, hk5, ?_⟩)⟩⟩⟩
        have hpe : p = ((fl : Nat) : Int) := by rw [hp]; unfold placeF; rw [if_pos h4]; omega
        rw [hpe]; exact hdb5
      · have h4 : ¬ bitI x.fl 4 ≠ 0 := fun e => by
          have : (bitI x.fl 4 != 0) = false := h4
          rw [bne_iff_ne.2 e] at this; cases this
        have hpe : p = x.at_ := by rw [hp]; unfold placeF; rw [if_neg h4]
        exact ⟨rfl, Kept.refl _ _, by rw [hpe]; exact hdb4⟩
    rintro _ w5 ⟨-, hk5, hdb5⟩
    intro w6
    have hk6 : Kept No w5 w6 := Kept.drew _ _
    clear_value w6
    have hdb6 := hdb5.keep hk6 fun e => e
    have k46 : Kept (· = L.dloc d) w4 w6 := hk5.no hk6
    have hnd : ∀ z t, L.own z = some t → t ≠ .desc d → ¬ z = L.dloc d := fun z t hz ht e => by rw [e, hdfn] at hz; cases hz; exact ht rfl
    have htb6 := htb4.keep k46 (hnd _ _ (h4.th x.ob hob).2 (by simp))
    have hO6 := RefO.keep hO4 k46 fun z hz => hnd _ _ hz (by simp)
    have hd6 := hd4.keep k46 fun b _ hb e => by have := hap b hb; rw [e, hdfn] at this; cases this
    have hapF : ds.take k ≠ [] → ∀ b, inA a b → ¬ L.own b = some (.obj x.ob) := fun _ b hb e => by rw [hap b hb] at e; cases e
    refine nnI ⟨_, hdb6.at (i := 1) rfl, nnI ⟨_, htb6.at (i := 2) rfl, nnI ⟨_, hdb6.at (i := 3) rfl, ⟨by omega, by omega⟩, ?_⟩⟩⟩
    have ek : Int.toNat (k : Int) = k := Int.toNat_natCast k
    rw [ek]
    refine CallR.mono (rWriteAt_ok hO6 p (RdB.take hd6 (k := k) (by omega)) (by omega) hapF) ?_
    rintro v w7 ⟨rfl, F', hO7, hG, hk7⟩
    have hdb7 := hdb6.keep hk7 fun e => by rw [hdfn] at e; cases e
    refine ⟨_, rfl, nnI ⟨_, hdb7.at (i := 3) rfl, ⟨by omega, by omega⟩, nnI (stC_at hdb7 (i := 3) (by simp [pdC]) fun w8 hdb8 hk8 _ => ?_)⟩⟩
    have hdb8 : Blk w8 (L.dloc d) (pdC d (tl x.ob) x.fl (p + (k : Int)) x.hd) := hdb8
    have hF'd : ¬ F' (L.dloc d) := fun e => by
      rcases hG _ e with e | e
      · rw [hdfn] at e; cases e
      · have := hdb6.lt; omega
    have hO8 := RefO.keep hO7 hk8 fun z hz e => hF'd (by rw [← e]; exact hz)
    have kall : Kept (fun z => L.own z = some (.obj x.ob) ∨ L.own z = some (.desc d)) w4 w8 :=
      ((k46.mono fun _ _ e => by rw [e]; exact .inr hdfn : Kept (fun z => L.own z = some (.obj x.ob) ∨ L.own z = some (.desc d)) w4 w6).trans (hk7.mono fun _ _ e => .inl e) fun _ _ e => e).trans (hk8.mono fun _ _ e => by rw [e]; exact .inr hdfn) fun _ _ e => e
    have z46 := k46.size
    have hD' : ∀ y ∈ s.met1.descs, y.num = d → Blk w8 (L.dloc d) (pdC d (tl y.ob) y.fl (p + (k : Int)) x.hd) := fun y hy e => by
      have hyx : s.met1.desc d = some y := by
        have hy' : y ∈ s.descs := hy
        have : y = x := by
          obtain ⟨i, hi, rfl⟩ := List.mem_iff_getElem.1 hy'
          obtain ⟨j, hj, rfl⟩ := List.mem_iff_getElem.1 hm
          have e1 : (s.descs.map (·.num))[i]'(by simpa using hi) = (s.descs.map (·.num))[j]'(by simpa using hj) := by rw [List.getElem_map, List.getElem_map]; exact e.trans hn.symm
          have := (List.getElem_inj h.ok.dn).1 e1
          subst this; rfl
        rw [this]; exact hx4
      rw [hx4] at hyx
      cases hyx
      exact hdb8
    obtain ⟨L', r1, r2, _⟩ := h4.objD (i := x.ob) (d := d) kall (fun z e => e) (o := .file (writeF bs p (ds.take k)).2) (by show TK.disk = (s.objs x.ob).kd; rw [ho]; rfl) (F := F') (fun z hz => (hG z hz).imp (fun e => e) fun e => by omega) hO8 (at' := p + (k : Int)) (hd' := x.hd) hD' ⟨by omega, hkp, hdi.2.2.2.1, hdi.2.2.2.2.1⟩
    exact ⟨rfl, L', r1, st4.trans r2⟩
end Go.Proofs.YtpoaacnnhgebfaaGreat
namespace Go.Proofs.YtpoaacnnhgebfaaGreat
open Go.Lw
theorem bit_zero (n : Int) : bitI n 0 = 0 := by
  unfold bitI
  rw [show BitVec.ofInt (IntKind.bits .i64) 0 = 0#(IntKind.bits .i64) from rfl, BitVec.and_zero]
  rfl
theorem AK.find0 {s : AK} {d : Int} {x : AD} (h : s.desc d = some x) : ¬ s.find d 0 ≠ 0 := fun e => e (AK.find_of h (bit_zero _))
theorem AK.find0n {s : AK} {d : Int} (h : s.desc d = none) : s.find d 0 = 64 := by unfold AK.find; rw [h]
theorem PagO.delD {w w' : World} {pk : Nat} {s : AK} {L : KL} {tl : Nat → Nat} {nm : Nat → ByteArray} (h : PagO w pk s L tl nm) {d : Int} {x : AD} (hx : s.desc d = some x) (k : Kept (fun z => z = pk ∨ z = L.dloc d) w w')
    {T : List (ByteArray × Nat)} {ta : Option Addr} {tc : Nat} {da : Option Addr} {dc : Nat} (hB : PKb w pk s L tl T ta tc da dc) {a : Option Addr} {c : Nat}
    (hb : Blk w' pk #[.slice ta T.length tc, .slice a (s.delD d).descs.length c, .int .i64 s.next, pd L.pg, .int .i64 s.c0, .int .i64 s.c1]) (hs : SlO 1 w' a (s.delD d).descs.length c ((s.delD d).descs.map fun y => pd (L.dloc y.num))) (ha : ∀ z, inA a z → w.heap.size ≤ z) :
    ∃ L', PagO w' pk (s.delD d) L' tl nm ∧ KStep w w' L L' := by
  obtain ⟨hn, hm, hob, hdb, htb, hO⟩ := h.ofX hx
  have hdf : L.own (L.dloc d) = some (.desc d) := by have := h.od x hm; rw [hn] at this; exact this
  have hA : ∀ z, inA a z → L.own z = some .md ∨ L.own z = none := fun z hz => .inr (h.new_none (ha z hz))
  let L1 := L.setT .md (inA a)
  let L' := L1.setT (.desc d) (fun _ => False)
  have ow : ∀ z t, t ≠ .md → t ≠ .desc d → (L'.own z = some t ↔ L.own z = some t) := fun z t h1 h2 => (L1.setT_ne (fun z hz => hz.elim) z h2).trans (L.setT_ne hA z h1)
  have no : ∀ z t, L.own z = some t → t ≠ .kern → t ≠ .desc d → ¬ (z = pk ∨ z = L.dloc d) := by
    rintro z t hz h1 h2 (rfl | rfl)
    · rw [h.oK] at hz; cases hz; exact h1 rfl
    · rw [hdf] at hz; cases hz; exact h2 rfl
  have hmem : ∀ y ∈ (s.delD d).descs, y ∈ s.descs ∧ y.num ≠ d := fun y hy => by
    have hy : y ∈ s.descs.filter fun x => decide (x.num ≠ d) := hy
    rw [List.mem_filter] at hy
    exact ⟨hy.1, by simpa using hy.2⟩
  refine ⟨L', ⟨⟨T, ta, tc, a, c, hb, hB.ts.keep k fun b hb' => no _ _ (hB.to b hb') (by simp) (by simp), fun b hb' => (ow _ _ (by simp) (by simp)).2 (hB.to b hb'), hs, fun b hb' => (L1.setT_ne (fun z hz => hz.elim) b (by simp)).2 ((L.setT_eq _ _ b).2 hb'), hB.pm, hB.so⟩, fun j hj => ⟨(h.th j hj).1.keep k (no _ _ (h.th j hj).2 (by simp) (by simp)), (ow _ _ (by simp) (by simp)).2 (h.th j hj).2⟩, h.nn, fun j hj => ?_, fun y hy => ?_, ?_, (ow _ _ (by simp) (by simp)).2 h.oK, (ow _ _ (by simp) (by simp)).2 h.oP, fun y hy => ?_, fun z hz => ?_, h.ok.delD d⟩, ⟨k.mono fun z _ hz => ?_, fun z hz => ?_⟩⟩
  · exact (PObjF.keep (h.ob j hj) k (fun z hz => no _ _ hz (by simp) (by simp)) (fun z hz => no _ _ hz (by simp) (by simp))).congr (fun z => (ow z _ (by simp) (by simp)).symm) (fun z => (ow z _ (by simp) (by simp)).symm)
  · obtain ⟨h1, h2⟩ := hmem y hy
    exact (h.ds y h1).keep k (no _ _ (h.od y h1) (by simp) (by simpa using h2))
  · obtain ⟨pa, pl, pc, p1, p2, p3⟩ := h.pl
    exact ⟨pa, pl, pc, p1.keep k (no _ _ h.oP (by simp) (by simp)), p2.keep k (fun b _ hb' => no _ _ (p3 b hb') (by simp) (by simp)), fun b hb' => (ow _ _ (by simp) (by simp)).2 (p3 b hb')⟩
  · obtain ⟨h1, h2⟩ := hmem y hy
    exact (ow _ _ (by simp) (by simpa using h2)).2 (h.od y h1)
  · rcases L1.setT_some _ _ hz with e | e
    · exact e.elim
    · rcases L.setT_some _ _ e with e | e
      · exact SlO.lt hs z e
      · exact Nat.lt_of_lt_of_le (h.lt z e) k.size
  · rcases hz with rfl | rfl
    · rw [h.oK]; simp
    · rw [hdf]; simp
  · rcases L1.setT_some _ _ hz with e | e
    · exact e.elim
    · rcases L.setT_some _ _ e with e | e
      · exact .inr (ha z e)
      · exact .inl e
end Go.Proofs.YtpoaacnnhgebfaaGreat
namespace Go.Proofs.YtpoaacnnhgebfaaGreat
open Go.Lw
structure PInv (s : AK) : Prop where
  en : ∀ x ∈ s.descs, ∀ bs e0 e1, s.objs x.ob = .pipe bs e0 e1 → (x.fl = 1 ∧ 0 < e0) ∨ (x.fl = 2 ∧ 0 < e1)
  un : ∀ x ∈ s.descs, ∀ y ∈ s.descs, x.ob = y.ob → (s.objs x.ob).kd = .con → x.fl = y.fl → x.num = y.num
theorem pkind_ok {w : World} {pk : Nat} {s : AK} {L : KL} {tl : Nat → Nat} {nm : Nat → ByteArray} (h : PagO w pk s L tl nm) (d : Int) {Q : Value → World → Prop} (hq : Q (.int .i64 (s.kind d)) w) : CallR Tryz.prog 83 [pd pk, .int .i64 d] w Q := by
  refine C83 ?_
  unfold L83
  refine CallR.mono (pfind_ok h d) ?_
  rintro v w1 ⟨rfl, ⟨hdn, rfl⟩ | ⟨x, hx, rfl⟩⟩
  · refine ⟨_, rfl, condTr2 ?_⟩
    have : s.kind d = 0 := by unfold AK.kind; rw [AK.find0n hdn, if_pos (by simp)]
    rw [this] at hq; exact hq
  obtain ⟨hn, hm, hob, hdb, htb, hO⟩ := h.ofX hx
  rw [AK.kind_some hx] at hq
  refine ⟨_, rfl, condFa2 (nnI ⟨_, hdb.at (i := 1) rfl, nnI ?_⟩)⟩
  cases hk : (s.objs x.ob).kd <;> rw [hk] at htb hq <;> exact ⟨_, htb.at (i := 1) rfl, hq⟩
theorem pcanread_ok {w : World} {pk : Nat} {s : AK} {L : KL} {tl : Nat → Nat} {nm : Nat → ByteArray} (h : PagO w pk s L tl nm) (d : Int) {Q : Value → World → Prop} (hq : Q (.bool (s.canRead d)) w) : CallR Tryz.prog 85 [pd pk, .int .i64 d] w Q := by
  refine C85 ?_
  unfold L85
  refine CallR.mono (pfind_ok h d) ?_
  rintro v w1 ⟨rfl, ⟨hdn, rfl⟩ | ⟨x, hx, rfl⟩⟩
  · refine ⟨_, rfl, condFa2 ?_⟩
    have : s.canRead d = false := by
      unfold AK.canRead
      rw [if_pos (by unfold AK.find; rw [hdn]; simp)]
    rw [this] at hq; exact hq
  obtain ⟨hn, hm, hob, hdb, htb, hO⟩ := h.ofX hx
  refine ⟨_, rfl, condTr2 (nnI ⟨_, hdb.at (i := 2) rfl, condI (fun h0 => ?_) (fun h0 => ?_)⟩)⟩
  · have h0 : bitI x.fl 1 ≠ 0 := bne_iff_ne.1 h0
    have h0 : bitI x.fl 1 = 1 := by
      rcases bit_way1 x.fl with e | e
      · exact absurd e h0
      · exact e
    have hc : s.canRead d = !s.waits x := by
      unfold AK.canRead
      rw [if_neg (fun e => e (AK.find_of hx h0)), hx]
    rw [hc] at hq
    refine nnI ⟨_, hdb.at (i := 1) rfl, nnI ?_⟩
    unfold AK.waits at hq
    cases ho : s.objs x.ob with
    | file bs => rw [ho] at htb hq; exact ⟨_, htb.at (i := 1) rfl, condTr2 hq⟩
    | term LL scr => rw [ho] at htb hq; exact ⟨_, htb.at (i := 1) rfl, condTr2 hq⟩
    | pipe bs e0 e1 =>
      rw [ho] at htb hO hq
      have hO : RefP w1 (L.loc x.ob) (fun z => L.own z = some (.obj x.ob)) bs e0 e1 := hO
      have hq : Q (.bool (!(!canRP bs e0 e1))) w1 := hq
      rw [Bool.not_not] at hq
      exact ⟨_, htb.at (i := 1) rfl, condFa2 (nnI ⟨_, hdb.at (i := 1) rfl, nnI ⟨_, htb.at (i := 4) rfl, rcanr_to hO ⟨_, rfl, hq⟩⟩⟩)⟩
  · have h0 : bitI x.fl 1 = 0 := by
      have h0 : (bitI x.fl 1 != 0) = false := h0
      by_cases e : bitI x.fl 1 = 0
      · exact e
      · rw [bne_iff_ne.2 e] at h0; cases h0
    have : s.canRead d = false := by
      unfold AK.canRead
      rw [if_pos (by unfold AK.find; rw [hx]; dsimp only; rw [if_pos (by rw [h0]; simp)]; simp)]
    rw [this] at hq; exact hq
theorem pcanwrite_ok {w : World} {pk : Nat} {s : AK} {L : KL} {tl : Nat → Nat} {nm : Nat → ByteArray} (h : PagO w pk s L tl nm) (hI : PInv s) (d n : Int) {Q : Value → World → Prop} (hq : Q (.bool (s.canWrite d n)) w) : CallR Tryz.prog 87 [pd pk, .int .i64 d, .int .i64 n] w Q := by
  refine C87 ?_
  unfold L87
  refine CallR.mono (pfind_ok h d) ?_
  rintro v w1 ⟨rfl, ⟨hdn, rfl⟩ | ⟨x, hx, rfl⟩⟩
  · refine ⟨_, rfl, condFa2 ?_⟩
    have : s.canWrite d n = false := by
      unfold AK.canWrite
      rw [if_pos (.inl (by unfold AK.find; rw [hdn]; simp))]
    rw [this] at hq; exact hq
  obtain ⟨hn, hm, hob, hdb, htb, hO⟩ := h.ofX hx
  refine ⟨_, rfl, condTr2 (nnI ⟨_, hdb.at (i := 2) rfl, condI (fun h0 => ?_) (fun h0 => ?_)⟩)⟩
  · have h0 : bitI x.fl 2 ≠ 0 := bne_iff_ne.1 h0
    have h0 : bitI x.fl 2 = 2 := by
      rcases bit_way2 x.fl with e | e
      · exact absurd e h0
      · exact e
    have hf : ¬ s.find d 2 ≠ 0 := fun e => e (AK.find_of hx h0)
    refine condP (fun h1 => condP (fun h2 => ?_) (fun h2 => ?_)) (fun h1 => ?_)
    · have hc : s.canWrite d n = decide ((s.roomO x n).2 ≠ 52) := by
        unfold AK.canWrite
        rw [if_neg (by omega), hx]
      rw [hc] at hq
      refine nnI ⟨_, hdb.at (i := 1) rfl, nnI ?_⟩
      have hD : ∀ p : Int, (roomD p n).2 ≠ 52 := fun p => by unfold roomD; split <;> simp
      cases ho : s.objs x.ob with
      | file bs =>
        rw [ho] at htb
        have : (s.roomO x n).2 ≠ 52 := by unfold AK.roomO; rw [ho]; exact hD _
        rw [decide_eq_true this] at hq
        exact ⟨_, htb.at (i := 1) rfl, condTr2 hq⟩
      | term LL scr =>
        rw [ho] at htb
        have : (s.roomO x n).2 ≠ 52 := by unfold AK.roomO; rw [ho]; exact hD _
        rw [decide_eq_true this] at hq
        exact ⟨_, htb.at (i := 1) rfl, condTr2 hq⟩
      | pipe bs e0 e1 =>
        have hen := hI.en x hm bs e0 e1 ho
        have he1 : 0 < e1 := by
          rcases hen with ⟨e, _⟩ | ⟨_, e⟩
          · rw [e] at h0; exact absurd h0 (by decide)
          · exact e
        rw [ho] at htb hO
        have hO : RefP w1 (L.loc x.ob) (fun z => L.own z = some (.obj x.ob)) bs e0 e1 := hO
        have hro : (s.roomO x n).2 = if e0 = 0 then 53 else if canWP n bs e0 e1 = false then 52 else 0 := by
          unfold AK.roomO roomC
          rw [ho]
          dsimp only
          split
          · rfl
          · split <;> rfl
        have hv : decide ((s.roomO x n).2 ≠ 52) = canWP n bs e0 e1 := by
          rw [hro]
          by_cases z : e0 = 0
          · rw [if_pos z]
            have : canWP n bs e0 e1 = true := by
              unfold canWP
              rw [decide_eq_true]
              exact ⟨he1, h1, h2, .inl z⟩
            rw [this]; rfl
          · rw [if_neg z]
            cases canWP n bs e0 e1 <;> rfl
        rw [hv] at hq
        exact ⟨_, htb.at (i := 1) rfl, condFa2 (nnI ⟨_, hdb.at (i := 1) rfl, nnI ⟨_, htb.at (i := 4) rfl, rcanw_to hO n ⟨_, rfl, hq⟩⟩⟩)⟩
    · have : s.canWrite d n = false := by
        unfold AK.canWrite
        rw [if_pos (by omega)]
      rw [this] at hq; exact hq
    · have : s.canWrite d n = false := by
        unfold AK.canWrite
        rw [if_pos (by omega)]
      rw [this] at hq; exact hq
  · have h0 : bitI x.fl 2 = 0 := by
      have h0 : (bitI x.fl 2 != 0) = false := h0
      by_cases e : bitI x.fl 2 = 0
      · exact e
      · rw [bne_iff_ne.2 e] at h0; cases h0
    have : s.canWrite d n = false := by
      unfold AK.canWrite
      rw [if_pos (.inl (by unfold AK.find; rw [hx]; dsimp only; rw [if_pos (by rw [h0]; simp)]; simp))]
    rw [this] at hq; exact hq
theorem pheld_ok {w : World} {pk : Nat} {s : AK} {L : KL} {tl : Nat → Nat} {nm : Nat → ByteArray} (h : PagO w pk s L tl nm) (d : Int) :
    CallR Tryz.prog 89 [pd pk, .int .i64 d] w fun v w' => w' = w ∧ ∃ a l c, v = .slice a l c ∧ RdB w a l c (s.held d) := by
  refine C89 ?_
  unfold L89
  refine CallR.mono (pfind_ok h d) ?_
  rintro v w1 ⟨rfl, ⟨hdn, rfl⟩ | ⟨x, hx, rfl⟩⟩
  · refine ⟨_, rfl, condTr2 ⟨rfl, _, _, _, rfl, ?_⟩⟩
    have : s.held d = [] := by unfold AK.held; rw [AK.find0n hdn, if_pos (by simp)]
    rw [this]; exact RdS.nil 1 w1
  obtain ⟨hn, hm, hob, hdb, htb, hO⟩ := h.ofX hx
  have hh : s.held d = match s.objs x.ob with | .pipe bs _ _ => bs | _ => [] := by
    unfold AK.held
    rw [if_neg (AK.find0 hx), hx]
    rfl
  refine ⟨_, rfl, condFa2 (nnI ⟨_, hdb.at (i := 1) rfl, nnI ?_⟩)⟩
  cases ho : s.objs x.ob with
  | file bs => rw [ho] at htb hh; exact ⟨_, htb.at (i := 1) rfl, condTr2 ⟨rfl, _, _, _, rfl, by rw [hh]; exact RdS.nil 1 w1⟩⟩
  | term LL scr => rw [ho] at htb hh; exact ⟨_, htb.at (i := 1) rfl, condTr2 ⟨rfl, _, _, _, rfl, by rw [hh]; exact RdS.nil 1 w1⟩⟩
  | pipe bs e0 e1 =>
    rw [ho] at htb hO hh
    obtain ⟨_, _, pa, pl, pc, hpb, hpr, _⟩ : RefP w1 (L.loc x.ob) (fun z => L.own z = some (.obj x.ob)) bs e0 e1 := hO
    exact ⟨_, htb.at (i := 1) rfl, condFa2 (nnI ⟨_, hdb.at (i := 1) rfl, nnI ⟨_, htb.at (i := 4) rfl, nnI ⟨_, _, _, hpb.at0 rfl, rfl, _, _, _, rfl, by rw [hh]; exact hpr⟩⟩⟩)⟩
theorem AK.thing_none {s : AK} {nm : ByteArray} (h : s.thing nm = none) : s.termOf nm = none ∧ s.fileOf nm = none := by
  unfold AK.thing at h
  split at h
  · cases h
  · rename_i e; exact ⟨e, h⟩
set_option maxHeartbeats 2000000 in
theorem popen_ok {w : World} {pk : Nat} {s : AK} {L : KL} {tl : Nat → Nat} {nm : Nat → ByteArray} (h : PagO w pk s L tl nm) (name : ByteArray) (fl : Int) (hn2 : s.next ≤ 4611686018427387904) :
    CallR Tryz.prog 31 [pd pk, .string name, .int .i64 fl] w fun v w' => v = .tuple #[.int .i64 (s.open_ name fl).1, .int .i64 (s.open_ name fl).2.1] ∧ ∃ L' tl' nm', PagO w' pk (s.open_ name fl).2.2 L' tl' nm' ∧ KStep w w' L L' := by
  refine C31 ?_
  unfold L31
  have bad : ∀ (e : Int), s.openE name fl = e → e ≠ 0 → (.tuple #[.int .i64 0, .int .i64 e] : Value) = .tuple #[.int .i64 (s.open_ name fl).1, .int .i64 (s.open_ name fl).2.1] ∧ ∃ L' tl' nm', PagO w pk (s.open_ name fl).2.2 L' tl' nm' ∧ KStep w w L L' := by
    intro e he hne
    unfold AK.open_
    rw [if_pos (by rw [he]; exact hne), he]
    exact ⟨rfl, L, tl, nm, h, KStep.refl _ _⟩
  have hE : s.openE name fl = if namedS name = false then 61 else if AK.flagged fl = false then 65 else if 256 ≤ s.descs.length then 3 else
      if (s.fileOf name).isSome ∨ (s.termOf name).isSome then (if bitI fl 32 ≠ 0 then 63 else 0)
      else if bitI fl 8 = 0 then 62 else if 256 ≤ s.files.length + s.terms.length then 3 else 0 := rfl
  obtain ⟨T, ta, tc, da, dc, hB⟩ := h.kb
  have hTl : T.length = s.files.length + s.terms.length := by have := hB.pm.length_eq; rw [List.length_append] at this; omega
  refine pnamed_ok name ⟨_, rfl, condI (fun e => bad 61 (by rw [hE, if_pos (by simpa using e)]) (by simp)) (fun e1 => ?_)⟩
  have e1 : ¬ namedS name = false := by simpa using e1
  refine pflagged_ok fl ⟨_, rfl, condI (fun e => bad 65 (by rw [hE, if_neg e1, if_pos (by simpa using e)]) (by simp)) (fun e2 => ?_)⟩
  have e2 : ¬ AK.flagged fl = false := by simpa using e2
  refine nnI ⟨_, _, _, hB.b.at (i := 1) rfl, condP (fun e => bad 3 (by rw [hE, if_neg e1, if_neg e2, if_pos (by omega)]) (by simp)) (fun e3 => ?_)⟩
  rw [if_neg e1, if_neg e2, if_neg (by omega)] at hE
  have b32 : IntKind.wrap .i64 ↑(BitVec.ofInt (IntKind.bits .i64) fl &&& BitVec.ofInt (IntKind.bits .i64) 32).toNat = bitI fl 32 := rfl
  have b8 : IntKind.wrap .i64 ↑(BitVec.ofInt (IntKind.bits .i64) fl &&& BitVec.ofInt (IntKind.bits .i64) 8).toNat = bitI fl 8 := rfl
  have b16 : IntKind.wrap .i64 ↑(BitVec.ofInt (IntKind.bits .i64) fl &&& BitVec.ofInt (IntKind.bits .i64) 16).toNat = bitI fl 16 := rfl
  rw [b32, b8, b16]
  have hop : s.openE name fl = 0 → s.open_ name fl = (s.next, 0, s.openS name fl) := fun e => by unfold AK.open_; rw [if_neg (by rw [e]; simp)]
  refine CallR.mono (pthing_ok h name) ?_
  rintro v w3 ⟨rfl, hcase⟩
  obtain ⟨J, hJ⟩ : ∃ J : List Value → World → Prop, J = fun vs w' => ∃ (s1 : AK) (L1 : KL) (tl1 : Nat → Nat) (nm1 : Nat → ByteArray) (i : Nat), vs = [pd (tl1 i)] ∧ PagO w' pk s1 L1 tl1 nm1 ∧ KStep w3 w' L L1 ∧ i < s1.nob ∧ s1.descs = s.descs ∧ s1.next = s.next ∧ s.open_ name fl = (s.next, 0, s1.newD i fl) := ⟨_, rfl⟩
  have fin : ∀ (p : Option Addr) (w36 : World), J [.pointer p] w36 → CallR Tryz.prog 122 [pd pk, .pointer p, .int .i64 fl] w36 fun r w37 => ∃ n : Int, r = .int .i64 n ∧ ((.tuple #[.int .i64 n, .int .i64 0] : Value) = .tuple #[.int .i64 (s.open_ name fl).1, .int .i64 (s.open_ name fl).2.1] ∧ ∃ L' tl' nm', PagO w37 pk (s.open_ name fl).2.2 L' tl' nm' ∧ KStep w3 w37 L L') := by
    intro p w36 hj
    rw [hJ] at hj
    obtain ⟨s1, L1, tl1, nm1, i, hv, h1, st1, hi, hds, hnx, hope⟩ := hj
    simp only [List.cons.injEq, Value.pointer.injEq, and_true] at hv
    subst hv
    refine CallR.mono (pdesc_ok h1 hi fl (by rw [hnx]; exact hn2) (by rw [hds]; omega)) ?_
    rintro v w37 ⟨rfl, L', h37, st37, _⟩
    rw [hope, hnx]
    exact ⟨_, rfl, rfl, L', tl1, nm1, h37, st1.trans st37⟩
  rcases hcase with ⟨hth, rfl⟩ | ⟨t, hth, rfl⟩
  · obtain ⟨ht0, hf0⟩ := AK.thing_none hth
    rw [ht0, hf0, if_neg (by simp)] at hE
    refine ⟨_, rfl, J, ?_, fun _ p w36 hj => fin p w36 hj⟩
    · refine condFa2 (condTr2 (condI (fun e => bad 62 (by rw [hE, if_pos (by simpa using e)]) (by simp)) (fun e4 => ?_)))
      have e4 : bitI fl 8 ≠ 0 := by simpa using e4
      rw [if_neg e4] at hE
      refine condTr2 (nnI ⟨_, _, _, hB.b.at0 rfl, condP (fun e => bad 3 (by rw [hE, if_pos (by omega)]) (by simp)) (fun e5 => ?_)⟩)
      rw [if_neg (by omega)] at hE
      refine condTr2 (CallR.mono (rnew_ok (bs := []) (RdS.nil 1 w3) (by omega)) ?_)
      rintro v w4 (⟨h1, _⟩ | ⟨_, b, F, rfl, hO, hk4, hF⟩)
      · simp at h1
      refine ⟨_, _, rfl, ?_⟩
      intro w5
      have ht5 : Blk w5 w4.heap.size (thC name .disk b) := Blk.alloc _ _ _
      have hk5 : Kept No w4 w5 := Kept.alloc _ _ _
      clear_value w5
      have hFlt := hO.lt
      have hz4 := hk4.size
      obtain ⟨L1, p1, st1⟩ := h.newO (hk4.no hk5) (o := .file []) (name := name) (R := fun _ => False) (RefO.keep hO hk5 fun _ _ e => e : PObjF F (fun _ => False) w5 b (.file [])) hF (fun z e => e.elim) ht5 (by omega) (fun e => by have := hFlt _ e; omega) (fun e => e)
      have hok1 := h.ok.addF (nm := name) (o := .file []) rfl (AK.fileOf_none hf0) (AK.termOf_none ht0) (by omega)
      have hnmn : (if s.nob = s.nob then name else nm s.nob) = name := if_pos rfl
      have htln : (if s.nob = s.nob then w4.heap.size else tl s.nob) = w4.heap.size := if_pos rfl
      have hadd := padd_ok p1 (i := s.nob) (by show s.nob < s.nob + 1; omega) (by show s.files.length + s.terms.length < 256; omega) (fs' := s.files ++ [(name, s.nob)]) (ts' := s.terms) (by
        show ((s.files ++ s.terms) ++ [(if s.nob = s.nob then name else nm s.nob, s.nob)]).Perm _
        rw [hnmn, List.append_assoc, List.append_assoc]
        exact List.Perm.append_left _ (List.perm_append_comm)) hok1
      rw [htln] at hadd
      refine CallR.mono hadd ?_
      rintro v w6 ⟨rfl, L2, p2, st2⟩
      refine ⟨rfl, ?_⟩
      rw [hJ]
      refine ⟨_, L2, _, _, s.nob, by rw [htln], p2, st1.trans st2, by show s.nob < s.nob + 1; omega, rfl, rfl, ?_⟩
      rw [hop hE]
      unfold AK.openS
      rw [ht0, hf0]
      rfl
  · obtain ⟨htm, hte⟩ := AK.thing_mem hth
    have hob := h.nobT htm
    have htb := (h.th t.2 hob).1
    have hsome : (s.fileOf name).isSome ∨ (s.termOf name).isSome := by
      unfold AK.thing at hth
      split at hth
      · rename_i u hu; exact .inr (by rw [hu]; rfl)
      · exact .inl (by rw [hth]; rfl)
    rw [if_pos hsome] at hE
    refine ⟨_, rfl, J, ?_, fun _ p w36 hj => fin p w36 hj⟩
    refine condTr2 (condI (fun e => bad 63 (by rw [hE, if_pos (by simpa using e)]) (by simp)) (fun e4 => ?_))
    rw [if_neg (by simpa using e4)] at hE
    refine condFa2 (condFa2 (condFa2 (nnI ?_)))
    have hopn := hop hE
    cases htt : s.termOf name with
    | some u =>
      have hu : u = t := by unfold AK.thing at hth; rw [htt] at hth; cases hth; rfl
      subst hu
      have hk : (s.objs u.2).kd = .scr := (h.ok.ti u (AK.termOf_some htt).1).2
      rw [hk] at htb
      refine ⟨_, htb.at (i := 1) rfl, condFa2 ?_⟩
      rw [hJ]
      refine ⟨s, L, tl, nm, u.2, rfl, h, KStep.refl _ _, hob, rfl, rfl, ?_⟩
      rw [hopn]; unfold AK.openS; rw [htt]
    | none =>
      have hff : s.fileOf name = some t := by unfold AK.thing at hth; rw [htt] at hth; exact hth
      have hk : (s.objs t.2).kd = .disk := (h.ok.fi t (AK.fileOf_some hff).1).2
      rw [hk] at htb
      have hO := h.ob t.2 hob
      refine ⟨_, htb.at (i := 1) rfl, condTr2 (condI (fun e5 => ?_) (fun e5 => ?_))⟩
      · have e5 : bitI fl 16 ≠ 0 := by simpa using e5
        cases ho : s.objs t.2 with
        | term LL scr => rw [ho] at hk; cases hk
        | pipe bs e0 e1 => rw [ho] at hk; cases hk
        | file bs =>
          rw [ho] at hO
          have hO : RefO (fun z => L.own z = some (.obj t.2)) w3 (L.loc t.2) bs := hO
          obtain ⟨fa, flen, fc, hfb, hfo, hfn, hfl, hfF⟩ := id hO
          refine nnI ⟨_, htb.at (i := 2) rfl, nnI (stC_blk hfb (by simp) fun w7 hfb7 hk7 _ => ?_)⟩
          have hfb7 : Blk w7 (L.loc t.2) #[.slice none 0 0] := hfb7
          obtain ⟨L1, p1, st1⟩ := h.obj hk7 (fun z hz => by rw [hz]; exact (hfF _).2 (.inl rfl)) (i := t.2) (o := .file []) (by rw [ho]; rfl) (F := fun z => z = L.loc t.2) (fun z hz => .inl (by rw [hz]; exact (hfF _).2 (.inl rfl)))
            (show RefO _ w7 (L.loc t.2) [] from ⟨none, 0, 0, hfb7, OB.nil _, inA_none _, by simp, fun k => ⟨fun e => .inl e, fun e => e.elim (fun e => e) fun e => absurd e (inA_none k)⟩⟩)
          rw [hJ]
          refine ⟨_, L1, tl, nm, t.2, rfl, p1, st1, hob, rfl, rfl, ?_⟩
          rw [hopn]; unfold AK.openS; rw [htt, hff]; dsimp only; rw [if_pos e5]
      · have e5 : ¬ bitI fl 16 ≠ 0 := by simpa using e5
        rw [hJ]
        refine ⟨s, L, tl, nm, t.2, rfl, h, KStep.refl _ _, hob, rfl, rfl, ?_⟩
        rw [hopn]; unfold AK.openS; rw [htt, hff]; dsimp only; rw [if_neg e5]
theorem ppipe_ok {w : World} {pk : Nat} {s : AK} {L : KL} {tl : Nat → Nat} {nm : Nat → ByteArray} (h : PagO w pk s L tl nm) (hn2 : s.next ≤ 4611686018427387903) :
    CallR Tryz.prog 29 [pd pk] w fun v w' => v = .tuple #[.int .i64 s.pipe.1, .int .i64 s.pipe.2.1, .int .i64 s.pipe.2.2.1] ∧ ∃ L' tl' nm', PagO w' pk s.pipe.2.2.2 L' tl' nm' ∧ KStep w w' L L' := by
  refine C29 ?_
  unfold L29
  obtain ⟨T, ta, tc, da, dc, hB⟩ := h.kb
  unfold AK.pipe
  refine nnI ⟨_, _, _, hB.b.at (i := 1) rfl, condP (fun e => ?_) (fun e => ?_)⟩
  · rw [if_pos (by omega)]
    exact ⟨rfl, L, tl, nm, h, KStep.refl _ _⟩
  rw [if_neg (by omega)]
  intro w1 w2
  have hp1 : Blk w1 w.heap.size #[.slice none 0 0, .int .i64 ((1 : Nat) : Int), .int .i64 ((1 : Nat) : Int)] := Blk.alloc _ _ _
  have hk1 : Kept No w w1 := Kept.alloc _ _ _
  have hz1 : w1.heap.size = w.heap.size + 1 := by simp [w1]
  have ht2 : Blk w2 w1.heap.size (thC (ByteArray.mk #[]) .con w.heap.size) := Blk.alloc _ _ _
  have hk2 : Kept No w1 w2 := Kept.alloc _ _ _
  clear_value w2
  clear_value w1
  have hlt := hp1.lt
  have hO : RefP w2 w.heap.size (fun z => z = w.heap.size) [] 1 1 := RefP.keep (S := No) (w := w1) ⟨rfl, fun x e => by omega, none, 0, 0, hp1, RdS.nil 1 w1, fun x e => absurd e (inA_none x), by simp, by omega, by omega⟩ hk2 fun _ _ e => e
  obtain ⟨L1, p1, st1⟩ := h.newO (hk1.no hk2) (o := .pipe [] 1 1) (name := ByteArray.mk #[]) (R := fun _ => False) (F := fun z => z = w.heap.size) hO (fun z e => by omega) (fun z e => e.elim) ht2 (by omega) (fun e => by omega) (fun e => e)
  have htln : (if s.nob = s.nob then w1.heap.size else tl s.nob) = w1.heap.size := if_pos rfl
  have hd := pdesc_ok p1 (i := s.nob) (by show s.nob < s.nob + 1; omega) 1 (by show s.next ≤ _; omega) (by show s.descs.length < 256; omega)
  rw [htln] at hd
  refine CallR.mono hd ?_
  rintro v w3 ⟨rfl, L2, p2, st2, _⟩
  have hd2 := pdesc_ok p2 (i := s.nob) (by show s.nob < s.nob + 1; omega) 2 (by show s.next + 1 ≤ _; omega) (by show (s.descs ++ [_]).length < 256; rw [List.length_append]; simp; omega)
  rw [htln] at hd2
  refine ⟨_, rfl, CallR.mono hd2 ?_⟩
  rintro v w4 ⟨rfl, L3, p3, st3, _⟩
  exact ⟨_, rfl, rfl, L3, _, _, p3, (st1.trans st2).trans st3⟩
end Go.Proofs.YtpoaacnnhgebfaaGreat
namespace Go.Proofs.YtpoaacnnhgebfaaGreat
open Go.Lw
theorem copyl_ok {R0 : Nat → Prop} {w : World} {a : Option Addr} {l c : Nat} {LL : List (List Int)} (h : RdL R0 w a l c LL) (hl : ∀ x ∈ LL, x.length ≤ 140737488355328) (hl2 : l * 24 ≤ 140737488355328) :
    CallR Tryz.prog 155 [.slice a l c] w fun v w' => ∃ (a' : Option Addr) (c' : Nat) (es : List Slc), v = .slice a' l c' ∧ Kept No w w' ∧ SlO 1 w' a' l c' (es.map slv) ∧ es.length = l ∧ Fresh w a' ∧
      (∀ (j : Nat) (e : Slc), es[j]? = some e → ∃ xs, LL[j]? = some xs ∧ OB w' e.1 e.2.1 e.2.2 xs ∧ (∀ k, inA e.1 k → w.heap.size ≤ k ∧ ¬ inA a' k)) ∧
      (∀ (i j : Nat) (e f : Slc), i < j → es[i]? = some e → es[j]? = some f → ∀ k, inA e.1 k → ¬ inA f.1 k) := by
  have hlen := h.len
  refine C155 ?_
  unfold L155
  refine ⟨fun vs w' => ∃ (i : Nat) (a' : Option Addr) (c' : Nat) (es : List Slc), vs = [.slice a' i c', .int .i64 (i : Int)] ∧ i ≤ l ∧ Kept No w w' ∧ SlO 1 w' a' i c' (es.map slv) ∧ es.length = i ∧ Fresh w a' ∧
      (∀ (j : Nat) (e : Slc), es[j]? = some e → ∃ xs, LL[j]? = some xs ∧ OB w' e.1 e.2.1 e.2.2 xs ∧ (∀ k, inA e.1 k → w.heap.size ≤ k ∧ ¬ inA a' k)) ∧
      (∀ (i j : Nat) (e f : Slc), i < j → es[i]? = some e → es[j]? = some f → ∀ k, inA e.1 k → ¬ inA f.1 k),
    fun vs _ => match vs with | [_, .int _ i] => (l - i).toNat | _ => 0, ⟨0, none, 0, [], rfl, Nat.zero_le _, Kept.refl _ _, SlO.nil 1 w, rfl, Fresh.none w, fun j e he => by simp at he, fun i j e f _ he => by simp at he⟩, ?_⟩
  intro _ a4 l4 c4 n5 w1 hI
  obtain ⟨i, a', c', es, hv, hi, hk1, hs1, hesl, hf1, hes, hpw⟩ := hI
  simp only [List.cons.injEq, Value.slice.injEq, Value.int.injEq, true_and, and_true] at hv
  obtain ⟨⟨rfl, rfl, rfl⟩, rfl⟩ := hv
  refine condP (fun hlt => ?_) (fun hge => ?_)
  · have hil : l4 < LL.length := by omega
    obtain ⟨q, ⟨ea, el, ec⟩, hq, hc, hrd, _⟩ := (h.keep hk1 (fun _ _ e => e)).get hil
    subst hq
    simp only at hc hrd
    obtain rfl : LL[l4].length = el := hrd.len
    have hLi := hl LL[l4] (List.getElem_mem hil)
    refine ⟨⟨by omega, by omega⟩, nnI ⟨_, _, _, hc, (copyb_ok hrd (by omega)).mono fun v w2 ⟨a2, c2, hv2, ho2, hk2, hf2⟩ => ⟨_, _, _, hv2, ?_⟩⟩⟩
    intro w3
    have hk3 : Kept No w2 w3 := Kept.alloc _ _ _
    have hz3 : w3.heap.size = w2.heap.size + 1 := by show (w2.heap.push _).size = _; simp
    have hnew3 : SlO 1 w3 (some ⟨w2.heap.size, 0, none⟩) 1 1 ([(a2, LL[l4].length, c2)].map slv) :=
      SlO.of_blk (sz := 1) (n := 1) (Blk.alloc w2 #[slv (a2, LL[l4].length, c2)] 40) rfl
    clear_value w3
    have hs3 := (hs1.keep hk2 (fun _ _ e => e)).keep hk3 (fun _ _ e => e)
    obtain ⟨a6, c6, w6, hrun, hs6, hk6, hat, _⟩ := run_app_sl (P := Tryz.prog) (t := 84) (t2 := 84) (ty := 84) (by kernel_rfl : slTyB Tryz.prog 84 1 24 = true) (by kernel_rfl) hs3 hnew3.rd (slv_one _) (by omega) (by omega)
    have hk13 := hk2.no hk3
    have hlt2 := SlO.lt ho2
    have hlt1 := SlO.lt hs1
    have hin6 : ∀ k, inA a6 k → w.heap.size ≤ k := fun k hk => by
      rcases hat.in hk with h | rfl
      · exact hf1 k h
      · have := (hk1.no hk13).size; omega
    refine ⟨a6, _, c6, w6, hrun, by unfold inI; omega, ⟨l4 + 1, a6, c6, es ++ [(a2, LL[l4].length, c2)], rfl, by omega, (hk1.no hk13).fresh hk6 hf1, by rw [List.map_append]; exact hs6, by simp [hesl], hin6, ?_, ?_⟩, ?_⟩
    · intro j e he
      by_cases hj : j < l4
      · rw [List.getElem?_append_left (by omega)] at he
        obtain ⟨xs, hx, hr, hin⟩ := hes j e he
        refine ⟨xs, hx, (hr.keep hk13 (fun _ _ e => e)).keep hk6 (fun k hk h => (hin k hk).2 h), fun k hk => ⟨(hin k hk).1, fun hx => ?_⟩⟩
        rcases hat.in hx with h | rfl
        · exact (hin k hk).2 h
        · have := SlO.lt hr _ hk; have := hk13.size; omega
      · have hje : j = l4 := by
          have := (List.getElem?_eq_some_iff.1 he).1
          simp at this; omega
        subst hje
        rw [List.getElem?_append_right (by omega), hesl, Nat.sub_self] at he
        simp at he
        subst he
        refine ⟨LL[j], by simp [hil], (ho2.keep hk3 (fun _ _ e => e)).keep hk6 (fun k hk h => ?_), fun k hk => ⟨?_, fun hx => ?_⟩⟩
        · have := hf2 k hk; have := hlt1 k h; omega
        · have := hf2 k hk; have := hk1.size; omega
        · rcases hat.in hx with h | rfl
          · have := hf2 k hk; have := hlt1 k h; omega
          · have := hlt2 _ hk; omega
    · intro i j e f hij he hf k hke hkf
      by_cases hj : j < l4
      · rw [List.getElem?_append_left (by omega)] at he hf
        exact hpw i j e f hij he hf k hke hkf
      · have hje : j = l4 := by
          have := (List.getElem?_eq_some_iff.1 hf).1
          simp at this; omega
        subst hje
        rw [List.getElem?_append_right (by omega), hesl, Nat.sub_self] at hf
        simp at hf
        subst hf
        rw [List.getElem?_append_left (by omega)] at he
        obtain ⟨xs, hx, hr, hin⟩ := hes i e he
        have := SlO.lt hr k hke
        have := hf2 k hkf
        omega
    · show ((l : Int) - ((l4 : Int) + 1)).toNat < ((l : Int) - (l4 : Int)).toNat
      omega
  · have hil : l4 = l := by omega
    subst hil
    exact ⟨a4, c4, es, rfl, hk1, hs1, hesl, hf1, hes, hpw⟩
def RBr (w : World) (s : Slc) (bs : List Int) (lo hi : Nat) : Prop := OB w s.1 s.2.1 s.2.2 bs ∧ ∀ k, inA s.1 k → lo ≤ k ∧ k < hi
def RLr (w : World) (s : Slc) (LL : List (List Int)) (lo hi : Nat) : Prop := (∃ es : List Slc, SlO 1 w s.1 s.2.1 s.2.2 (es.map slv) ∧ es.length = LL.length ∧ ∀ (i : Nat) (e : Slc) (x : List Int), es[i]? = some e → LL[i]? = some x → RBr w e x lo hi) ∧ (∀ k, inA s.1 k → lo ≤ k ∧ k < hi) ∧ ∀ x ∈ LL, x.length ≤ 140737488355328
theorem RBr.keep {w w' : World} {s : Slc} {bs : List Int} {lo hi : Nat} (h : RBr w s bs lo hi) {S : Nat → Prop} (k : Kept S w w') (hn : ∀ z, lo ≤ z → z < hi → ¬ S z) : RBr w' s bs lo hi :=
  ⟨h.1.keep k fun z hz => hn z (h.2 z hz).1 (h.2 z hz).2, h.2⟩
theorem RLr.keep {w w' : World} {s : Slc} {LL : List (List Int)} {lo hi : Nat} (h : RLr w s LL lo hi) {S : Nat → Prop} (k : Kept S w w') (hn : ∀ z, lo ≤ z → z < hi → ¬ S z) : RLr w' s LL lo hi := by
  obtain ⟨⟨es, h1, h2, h3⟩, h4, h5⟩ := h
  exact ⟨⟨es, h1.keep k fun z hz => hn z (h4 z hz).1 (h4 z hz).2, h2, fun i e x he hx => (h3 i e x he hx).keep k hn⟩, h4, h5⟩
theorem RBr.wide {w : World} {s : Slc} {bs : List Int} {lo hi lo' hi' : Nat} (h : RBr w s bs lo hi) (h1 : lo' ≤ lo) (h2 : hi ≤ hi') : RBr w s bs lo' hi' := ⟨h.1, fun k hk => by have := h.2 k hk; omega⟩
theorem RLr.wide {w : World} {s : Slc} {LL : List (List Int)} {lo hi lo' hi' : Nat} (h : RLr w s LL lo hi) (h1 : lo' ≤ lo) (h2 : hi ≤ hi') : RLr w s LL lo' hi' := by
  obtain ⟨⟨es, e1, e2, e3⟩, h4, h5⟩ := h
  exact ⟨⟨es, e1, e2, fun i e x he hx => (e3 i e x he hx).wide h1 h2⟩, fun k hk => by have := h4 k hk; omega, h5⟩
theorem RLr.rd {w : World} {s : Slc} {LL : List (List Int)} {lo hi : Nat} (h : RLr w s LL lo hi) : RL w s LL := by
  obtain ⟨⟨es, e1, e2, e3⟩, h4, h5⟩ := h
  exact ⟨⟨es, e1.rd, e2, fun _ _ _ => trivial, fun i e x he hx => ⟨(e3 i e x he hx).1.rd, fun _ _ _ => trivial⟩⟩, h5⟩
structure CpO {α : Type} (R : World → Slc → α → Nat → Nat → Prop) (lo hi : Nat) (w : World) (a : Option Addr) (l c : Nat) (fs : List (ByteArray × α)) (es : List (ByteArray × Slc)) : Prop where
  sl : SlO 2 w a l c (Nv es)
  len : es.length = fs.length
  rg : ∀ b, inA a b → lo ≤ b ∧ b < hi
  each : ∀ i, (h1 : i < es.length) → (h2 : i < fs.length) → es[i].1 = fs[i].1 ∧ R w es[i].2 fs[i].2 lo hi
theorem CpO.rdB {lo hi : Nat} {w : World} {a : Option Addr} {l c : Nat} {fs : List (ByteArray × List Int)} {es : List (ByteArray × Slc)} (h : CpO RBr lo hi w a l c fs es) : RdN RB w a l c fs es :=
  ⟨h.sl.rd, h.len, fun i h1 h2 => ⟨(h.each i h1 h2).1, (h.each i h1 h2).2.1.rd⟩⟩
theorem CpO.rdL {lo hi : Nat} {w : World} {a : Option Addr} {l c : Nat} {fs : List (ByteArray × List (List Int))} {es : List (ByteArray × Slc)} (h : CpO RLr lo hi w a l c fs es) : RdN RL w a l c fs es :=
  ⟨h.sl.rd, h.len, fun i h1 h2 => ⟨(h.each i h1 h2).1, (h.each i h1 h2).2.rd⟩⟩
theorem Nv_one (es : List (ByteArray × Slc)) : ∀ u ∈ Nv es, u.oneCell' = true := by
  intro u hu
  simp only [Nv, List.mem_flatMap, List.mem_cons, List.not_mem_nil, or_false] at hu
  obtain ⟨f, _, h | h⟩ := hu
  · subst h; rfl
  · subst h; rfl
theorem Nv_app (a b : List (ByteArray × Slc)) : Nv (a ++ b) = Nv a ++ Nv b := by simp [Nv]
theorem copyb_rb {w : World} {s : Slc} {bs : List Int} (h : RB w s bs) (hl : s.2.1 ≤ 140737488355328) :
    CallR Tryz.prog 46 [.slice s.1 s.2.1 s.2.2] w fun v w' => ∃ (a' : Option Addr) (c' : Nat), v = .slice a' s.2.1 c' ∧ Kept No w w' ∧ RBr w' (a', s.2.1, c') bs w.heap.size w'.heap.size := by
  refine CallR.mono (copyb_ok h hl) ?_
  rintro v w' ⟨a', c', rfl, ho, hk, hf⟩
  exact ⟨a', c', rfl, hk, ho, fun k hk' => ⟨hf k hk', SlO.lt ho k hk'⟩⟩
theorem copyl_rr {w : World} {s : Slc} {LL : List (List Int)} (h : RL w s LL) (hl : s.2.1 * 24 ≤ 140737488355328) :
    CallR Tryz.prog 155 [.slice s.1 s.2.1 s.2.2] w fun v w' => ∃ (a' : Option Addr) (c' : Nat), v = .slice a' s.2.1 c' ∧ Kept No w w' ∧ RLr w' (a', s.2.1, c') LL w.heap.size w'.heap.size := by
  have hlen := h.1.len
  refine CallR.mono (copyl_ok h.1 h.2 hl) ?_
  rintro v w' ⟨a', c', es, rfl, hk, hs, hel, hf, hes, _⟩
  refine ⟨a', c', rfl, hk, ⟨es, hs, by omega, fun i e xs he hx => ?_⟩, fun k hk' => ⟨hf k hk', SlO.lt hs k hk'⟩, h.2⟩
  obtain ⟨ys, hy, ho, hin⟩ := hes i e he
  rw [hx] at hy
  cases hy
  exact ⟨ho, fun k hk' => ⟨(hin k hk').1, SlO.lt ho k hk'⟩⟩
set_option maxHeartbeats 1000000 in
theorem copyNamed_ok {w : World} {a : Option Addr} {l c : Nat} {fs : List (ByteArray × List Int)} {es : List (ByteArray × Slc)} (h : RdN RB w a l c fs es) (hl : l * 40 ≤ 140737488355328) (hb : ∀ f ∈ fs, f.2.length ≤ 140737488355328) :
    CallR Tryz.prog 50 [.slice a l c] w fun v w' => ∃ (a' : Option Addr) (c' : Nat) (es' : List (ByteArray × Slc)), v = .slice a' l c' ∧ Kept No w w' ∧ ∀ (w'' : World) (S : Nat → Prop), Kept S w' w'' → (∀ z, S z → z < w.heap.size) → CpO RBr w.heap.size w'.heap.size w'' a' l c' fs es' := by
  have hfl : fs.length = l := by have := h.rd.1; rw [Nv_len, h.len] at this; omega
  refine C50 ?_
  unfold L50
  refine ⟨fun vs w' => ∃ (i : Nat) (a' : Option Addr) (c' : Nat) (es' : List (ByteArray × Slc)), vs = [.slice a' i c', .int .i64 (i : Int)] ∧ i ≤ l ∧ Kept No w w' ∧ SlO 2 w' a' i c' (Nv es') ∧ es'.length = i ∧ Fresh w a' ∧
      (∀ (j : Nat) (e : ByteArray × Slc), es'[j]? = some e → ∃ f, fs[j]? = some f ∧ e.1 = f.1 ∧ ∃ lo hi, RBr w' e.2 f.2 lo hi ∧ w.heap.size ≤ lo ∧ hi ≤ w'.heap.size ∧ ∀ z, inA a' z → z < lo ∨ hi ≤ z),
    fun vs _ => match vs with | [_, .int _ i] => (l - i).toNat | _ => 0, ⟨0, none, 0, [], rfl, Nat.zero_le _, Kept.refl _ _, SlO.nil 2 w, rfl, Fresh.none w, fun j e he => by simp at he⟩, ?_⟩
  rintro _ a4 l4 c4 n5 w1 ⟨i, a', c', es', hv, hi, hk1, hs1, hesl, hf1, hes⟩
  simp only [List.cons.injEq, Value.slice.injEq, Value.int.injEq, true_and, and_true] at hv
  obtain ⟨⟨rfl, rfl, rfl⟩, rfl⟩ := hv
  refine condP (fun hlt => ?_) (fun hge => ?_)
  · have hil : l4 < fs.length := by omega
    refine ⟨fun wS => Kept No w1 wS, Kept.drew _ _, ?_⟩
    intro w2
    have hk2 : Kept No w1 w2 := Kept.drew _ _
    clear_value w2
    have hN1 := h.no (fun _ _ _ _ h k => h.no k) hk1
    obtain ⟨q, sl, haq, e1, e2, hR, _⟩ := hN1.at hil
    have hr : 0 ≤ (l4 : Int) ∧ (l4 : Int) < ((l : Nat) : Int) := by omega
    have e1' : ∀ wS, Kept No w1 wS → wS.cell? (q.add (Int.toNat (l4 : Int) * 2)) = some (.string fs[l4].1) := fun wS hS => by rw [Int.toNat_natCast]; exact hS.cell e1 fun e => e
    have e2' : ∀ wS, Kept No w1 wS → wS.cell? ((q.add (Int.toNat (l4 : Int) * 2)).add 1) = some (.slice sl.1 sl.2.1 sl.2.2) := fun wS hS => by rw [Int.toNat_natCast]; exact hS.cell e2 fun e => e
    have hR2 : RB w2 sl fs[l4].2 := hR.no hk2
    refine ⟨hr, nnE2 haq ⟨_, e1', hr, nnE2 haq ⟨_, _, _, e2', CallR.mono (copyb_rb hR2 (by have := RdB.len hR2; have := hb fs[l4] (List.getElem_mem hil); omega)) ?_⟩⟩⟩
    rintro v w3 ⟨a2, c2, rfl, hk3, hin⟩
    refine ⟨_, _, _, rfl, hk2.no hk3, ?_⟩
    intro w4
    have hk4 : Kept No w3 w4 := Kept.alloc _ _ _
    have hz4 : w4.heap.size = w3.heap.size + 1 := by simp [w4]
    have hnew4 : SlO 2 w4 (some ⟨w3.heap.size, 0, none⟩) 1 1 (Nv [(fs[l4].1, (a2, sl.2.1, c2))]) := SlO.of_blk (sz := 2) (n := 1) (Blk.alloc w3 #[.string fs[l4].1, .slice a2 sl.2.1 c2] _) rfl
    clear_value w4
    have k13 := (hk2.no hk3).no hk4
    have hs4 := hs1.keep k13 fun _ _ e => e
    obtain ⟨a6, c6, w6, hrun, hs6, hk6, hat, _⟩ := run_app_sl (P := Tryz.prog) (t := 22) (t2 := 22) (ty := 22) (by kernel_rfl : slTyB Tryz.prog 22 2 40 = true) (by kernel_rfl) hs4 hnew4.rd (Nv_one _) (by omega) (by omega)
    rw [← Nv_app] at hs6
    have hlt1 := SlO.lt hs1
    have hz1 := hk1.size
    have hz13 := k13.size
    have hz2 := hk2.size
    have hz3 := hk3.size
    have hz6 := hk6.size
    have hin6 : ∀ k, inA a6 k → inA a4 k ∨ k = w4.heap.size := fun k hk => hat.in hk
    refine ⟨a6, _, c6, w6, hrun, ⟨by omega, by omega⟩, ⟨l4 + 1, a6, c6, es' ++ [(fs[l4].1, (a2, sl.2.1, c2))], rfl, by omega, (hk1.no k13).fresh hk6 hf1, hs6, by simp [hesl], fun k hk => ?_, fun j e he => ?_⟩, ?_⟩
    · rcases hin6 k hk with e | e
      · exact hf1 k e
      · omega
    · by_cases hj : j < l4
      · rw [List.getElem?_append_left (by omega)] at he
        obtain ⟨f, hf, he1, lo, hi', hr, hlo, hh, hd⟩ := hes j e he
        refine ⟨f, hf, he1, lo, hi', (hr.keep k13 fun _ _ _ e => e).keep hk6 fun z h1 h2 e => ?_, ?_, by omega, fun z hz => ?_⟩
        · have := hd z e; omega
        · exact hlo
        · rcases hin6 z hz with e | e
          · exact hd z e
          · omega
      · have hje : j = l4 := by
          have := (List.getElem?_eq_some_iff.1 he).1
          simp at this; omega
        subst hje
        rw [List.getElem?_append_right (by omega), hesl, Nat.sub_self] at he
        simp at he
        subst he
        refine ⟨fs[j], by simp [hil], rfl, w2.heap.size, w3.heap.size, (hin.keep hk4 fun _ _ _ e => e).keep hk6 fun z h1 h2 e => ?_, by omega, by omega, fun z hz => ?_⟩
        · have := hlt1 z e; omega
        · rcases hin6 z hz with e | e
          · have := hlt1 z e; omega
          · omega
    · show ((l : Int) - ((l4 : Int) + 1)).toNat < ((l : Int) - (l4 : Int)).toNat
      omega
  · have hil : l4 = l := by omega
    subst hil
    refine ⟨a4, c4, es', rfl, hk1, fun w'' S hS hn => ⟨hs1.keep hS fun b hb e => by have := hf1 b hb; have := hn b e; omega, by omega, fun b hb => ⟨hf1 b hb, SlO.lt hs1 b hb⟩, fun i h1 h2 => ?_⟩⟩
    obtain ⟨f, hf, he1, lo, hi', hr, hlo, hhi, _⟩ := hes i es'[i] (List.getElem?_eq_getElem h1)
    rw [List.getElem?_eq_getElem h2] at hf
    cases hf
    have hr := hr.keep hS fun z h1 h2 e => by have := hn z e; omega
    exact ⟨he1, hr.wide hlo hhi⟩
set_option maxHeartbeats 1000000 in
theorem copyTyped_ok {w : World} {a : Option Addr} {l c : Nat} {fs : List (ByteArray × List (List Int))} {es : List (ByteArray × Slc)} (h : RdN RL w a l c fs es) (hl : l * 40 ≤ 140737488355328) (hb : ∀ f ∈ fs, f.2.length * 24 ≤ 140737488355328) :
    CallR Tryz.prog 51 [.slice a l c] w fun v w' => ∃ (a' : Option Addr) (c' : Nat) (es' : List (ByteArray × Slc)), v = .slice a' l c' ∧ Kept No w w' ∧ ∀ (w'' : World) (S : Nat → Prop), Kept S w' w'' → (∀ z, S z → z < w.heap.size) → CpO RLr w.heap.size w'.heap.size w'' a' l c' fs es' := by
  have hfl : fs.length = l := by have := h.rd.1; rw [Nv_len, h.len] at this; omega
  refine C51 ?_
  unfold L51
  refine ⟨fun vs w' => ∃ (i : Nat) (a' : Option Addr) (c' : Nat) (es' : List (ByteArray × Slc)), vs = [.slice a' i c', .int .i64 (i : Int)] ∧ i ≤ l ∧ Kept No w w' ∧ SlO 2 w' a' i c' (Nv es') ∧ es'.length = i ∧ Fresh w a' ∧
      (∀ (j : Nat) (e : ByteArray × Slc), es'[j]? = some e → ∃ f, fs[j]? = some f ∧ e.1 = f.1 ∧ ∃ lo hi, RLr w' e.2 f.2 lo hi ∧ w.heap.size ≤ lo ∧ hi ≤ w'.heap.size ∧ ∀ z, inA a' z → z < lo ∨ hi ≤ z),
    fun vs _ => match vs with | [_, .int _ i] => (l - i).toNat | _ => 0, ⟨0, none, 0, [], rfl, Nat.zero_le _, Kept.refl _ _, SlO.nil 2 w, rfl, Fresh.none w, fun j e he => by simp at he⟩, ?_⟩
  rintro _ a4 l4 c4 n5 w1 ⟨i, a', c', es', hv, hi, hk1, hs1, hesl, hf1, hes⟩
  simp only [List.cons.injEq, Value.slice.injEq, Value.int.injEq, true_and, and_true] at hv
  obtain ⟨⟨rfl, rfl, rfl⟩, rfl⟩ := hv
  refine condP (fun hlt => ?_) (fun hge => ?_)
  · have hil : l4 < fs.length := by omega
    refine ⟨fun wS => Kept No w1 wS, Kept.drew _ _, ?_⟩
    intro w2
    have hk2 : Kept No w1 w2 := Kept.drew _ _
    clear_value w2
    have hN1 := h.no (fun _ _ _ _ h k => h.no k) hk1
    obtain ⟨q, sl, haq, e1, e2, hR, _⟩ := hN1.at hil
    have hr : 0 ≤ (l4 : Int) ∧ (l4 : Int) < ((l : Nat) : Int) := by omega
    have e1' : ∀ wS, Kept No w1 wS → wS.cell? (q.add (Int.toNat (l4 : Int) * 2)) = some (.string fs[l4].1) := fun wS hS => by rw [Int.toNat_natCast]; exact hS.cell e1 fun e => e
    have e2' : ∀ wS, Kept No w1 wS → wS.cell? ((q.add (Int.toNat (l4 : Int) * 2)).add 1) = some (.slice sl.1 sl.2.1 sl.2.2) := fun wS hS => by rw [Int.toNat_natCast]; exact hS.cell e2 fun e => e
    have hR2 : RL w2 sl fs[l4].2 := hR.no hk2
    refine ⟨hr, nnE2 haq ⟨_, e1', hr, nnE2 haq ⟨_, _, _, e2', CallR.mono (copyl_rr hR2 (by have := RdL.len hR2.1; have := hb fs[l4] (List.getElem_mem hil); omega)) ?_⟩⟩⟩
    rintro v w3 ⟨a2, c2, rfl, hk3, hin⟩
    refine ⟨_, _, _, rfl, hk2.no hk3, ?_⟩
    intro w4
    have hk4 : Kept No w3 w4 := Kept.alloc _ _ _
    have hz4 : w4.heap.size = w3.heap.size + 1 := by simp [w4]
    have hnew4 : SlO 2 w4 (some ⟨w3.heap.size, 0, none⟩) 1 1 (Nv [(fs[l4].1, (a2, sl.2.1, c2))]) := SlO.of_blk (sz := 2) (n := 1) (Blk.alloc w3 #[.string fs[l4].1, .slice a2 sl.2.1 c2] _) rfl
    clear_value w4
    have k13 := (hk2.no hk3).no hk4
    have hs4 := hs1.keep k13 fun _ _ e => e
    obtain ⟨a6, c6, w6, hrun, hs6, hk6, hat, _⟩ := run_app_sl (P := Tryz.prog) (t := 23) (t2 := 23) (ty := 23) (by kernel_rfl : slTyB Tryz.prog 23 2 40 = true) (by kernel_rfl) hs4 hnew4.rd (Nv_one _) (by omega) (by omega)
    rw [← Nv_app] at hs6
    have hlt1 := SlO.lt hs1
    have hz1 := hk1.size
    have hz13 := k13.size
    have hz2 := hk2.size
    have hz3 := hk3.size
    have hz6 := hk6.size
    have hin6 : ∀ k, inA a6 k → inA a4 k ∨ k = w4.heap.size := fun k hk => hat.in hk
    refine ⟨a6, _, c6, w6, hrun, ⟨by omega, by omega⟩, ⟨l4 + 1, a6, c6, es' ++ [(fs[l4].1, (a2, sl.2.1, c2))], rfl, by omega, (hk1.no k13).fresh hk6 hf1, hs6, by simp [hesl], fun k hk => ?_, fun j e he => ?_⟩, ?_⟩
    · rcases hin6 k hk with e | e
      · exact hf1 k e
      · omega
    · by_cases hj : j < l4
      · rw [List.getElem?_append_left (by omega)] at he
        obtain ⟨f, hf, he1, lo, hi', hr, hlo, hh, hd⟩ := hes j e he
        refine ⟨f, hf, he1, lo, hi', (hr.keep k13 fun _ _ _ e => e).keep hk6 fun z h1 h2 e => ?_, ?_, by omega, fun z hz => ?_⟩
        · have := hd z e; omega
        · exact hlo
        · rcases hin6 z hz with e | e
          · exact hd z e
          · omega
      · have hje : j = l4 := by
          have := (List.getElem?_eq_some_iff.1 he).1
          simp at this; omega
        subst hje
        rw [List.getElem?_append_right (by omega), hesl, Nat.sub_self] at he
        simp at he
        subst he
        refine ⟨fs[j], by simp [hil], rfl, w2.heap.size, w3.heap.size, (hin.keep hk4 fun _ _ _ e => e).keep hk6 fun z h1 h2 e => ?_, by omega, by omega, fun z hz => ?_⟩
        · have := hlt1 z e; omega
        · rcases hin6 z hz with e | e
          · have := hlt1 z e; omega
          · omega
    · show ((l : Int) - ((l4 : Int) + 1)).toNat < ((l : Int) - (l4 : Int)).toNat
      omega
  · have hil : l4 = l := by omega
    subst hil
    refine ⟨a4, c4, es', rfl, hk1, fun w'' S hS hn => ⟨hs1.keep hS fun b hb e => by have := hf1 b hb; have := hn b e; omega, by omega, fun b hb => ⟨hf1 b hb, SlO.lt hs1 b hb⟩, fun i h1 h2 => ?_⟩⟩
    obtain ⟨f, hf, he1, lo, hi', hr, hlo, hhi, _⟩ := hes i es'[i] (List.getElem?_eq_getElem h1)
    rw [List.getElem?_eq_getElem h2] at hf
    cases hf
    have hr := hr.keep hS fun z h1 h2 e => by have := hn z e; omega
    exact ⟨he1, hr.wide hlo hhi⟩
theorem copyFaults_ok {w : World} {a : Option Addr} {l c : Nat} {ps : List (Int × Int)} (h : RdS 2 w a l c (Fv ps)) (hl : l * 16 ≤ 140737488355328) :
    CallR Tryz.prog 52 [.slice a l c] w fun v w' => ∃ (a' : Option Addr) (c' : Nat), v = .slice a' l c' ∧ Kept No w w' ∧ SlO 2 w' a' l c' (Fv ps) ∧ Fresh w a' := by
  refine C52 ?_
  unfold L52
  obtain ⟨a', c', w2, hrun, hs, hk, hat, hnn⟩ := run_app_sl (P := Tryz.prog) (t := 24) (t2 := 24) (ty := 24) (by kernel_rfl : slTyB Tryz.prog 24 2 16 = true) (by kernel_rfl) (SlO.nil 2 w) h (Fv_one ps) (by omega) (by omega)
  simp only [Nat.zero_add, List.nil_append] at hrun hs
  exact ⟨a', l, c', w2, hrun, a', c', rfl, hk.mono (fun b _ hb => inA_none b hb), hs, hat.fresh (Fresh.none w) (Nat.le_refl _)⟩
structure SetupO (w : World) (fs : List (ByteArray × List Int)) (ts : List (ByteArray × List (List Int))) (ps : List (Int × Int)) (af : Option Addr) (lf cf : Nat) (at_ : Option Addr) (lt ct : Nat) (ap : Option Addr) (lp cp : Nat) : Prop where
  ef : ∃ ef, RdN RB w af lf cf fs ef
  et : ∃ et, RdN RL w at_ lt ct ts et
  pp : RdS 2 w ap lp cp (Fv ps)
  lf : lf * 40 ≤ 140737488355328
  lt : lt * 40 ≤ 140737488355328
  lp : lp * 16 ≤ 140737488355328
  bf : ∀ f ∈ fs, f.2.length ≤ 140737488355328
  bt : ∀ f ∈ ts, f.2.length * 24 ≤ 140737488355328
theorem SetupO.no {w w' : World} {fs : List (ByteArray × List Int)} {ts : List (ByteArray × List (List Int))} {ps : List (Int × Int)} {af : Option Addr} {lf cf : Nat} {at_ : Option Addr} {lt ct : Nat} {ap : Option Addr} {lp cp : Nat}
    (h : SetupO w fs ts ps af lf cf at_ lt ct ap lp cp) (k : Kept No w w') : SetupO w' fs ts ps af lf cf at_ lt ct ap lp cp :=
  ⟨h.ef.elim fun e he => ⟨e, he.no (fun _ _ _ _ h k => h.no k) k⟩, h.et.elim fun e he => ⟨e, he.no (fun _ _ _ _ h k => h.no k) k⟩, h.pp.keep k fun _ _ _ e => e, h.lf, h.lt, h.lp, h.bf, h.bt⟩
structure CfgO (lo hi : Nat) (w : World) (fs : List (ByteArray × List Int)) (ts : List (ByteArray × List (List Int))) (ps : List (Int × Int)) (af : Option Addr) (lf cf : Nat) (at_ : Option Addr) (lt ct : Nat) (ap : Option Addr) (lp cp : Nat) : Prop where
  ef : ∃ ef, CpO RBr lo hi w af lf cf fs ef
  et : ∃ et, CpO RLr lo hi w at_ lt ct ts et
  pp : SlO 2 w ap lp cp (Fv ps)
  pr : ∀ b, inA ap b → lo ≤ b ∧ b < hi
theorem CpO.wideB {lo hi lo' hi' : Nat} {w : World} {a : Option Addr} {l c : Nat} {fs : List (ByteArray × List Int)} {es : List (ByteArray × Slc)} (h : CpO RBr lo hi w a l c fs es) (h1 : lo' ≤ lo) (h2 : hi ≤ hi') : CpO RBr lo' hi' w a l c fs es :=
  ⟨h.sl, h.len, fun b hb => by have := h.rg b hb; omega, fun i a b => ⟨(h.each i a b).1, (h.each i a b).2.wide h1 h2⟩⟩
theorem CpO.wideL {lo hi lo' hi' : Nat} {w : World} {a : Option Addr} {l c : Nat} {fs : List (ByteArray × List (List Int))} {es : List (ByteArray × Slc)} (h : CpO RLr lo hi w a l c fs es) (h1 : lo' ≤ lo) (h2 : hi ≤ hi') : CpO RLr lo' hi' w a l c fs es :=
  ⟨h.sl, h.len, fun b hb => by have := h.rg b hb; omega, fun i a b => ⟨(h.each i a b).1, (h.each i a b).2.wide h1 h2⟩⟩
theorem config_own {w : World} {fs : List (ByteArray × List Int)} {ts : List (ByteArray × List (List Int))} {ps : List (Int × Int)} {af : Option Addr} {lf cf : Nat} {at_ : Option Addr} {lt ct : Nat} {ap : Option Addr} {lp cp : Nat}
    (h : SetupO w fs ts ps af lf cf at_ lt ct ap lp cp) :
    CallR Tryz.prog 7 [.agg #[.slice af lf cf, .slice at_ lt ct, .slice ap lp cp]] w fun v w' => ∃ af' cf' at' ct' ap' cp', v = .agg #[.slice af' lf cf', .slice at' lt ct', .slice ap' lp cp'] ∧ Kept No w w' ∧ SetupO w' fs ts ps af' lf cf' at' lt ct' ap' lp cp' ∧ CfgO w.heap.size w'.heap.size w' fs ts ps af' lf cf' at' lt ct' ap' lp cp' := by
  refine C7 ?_
  unfold L7
  intro w1
  have hb1 : Blk w1 w.heap.size #[.slice af lf cf, .slice at_ lt ct, .slice ap lp cp] := Blk.alloc _ _ _
  have hk1 : Kept No w w1 := Kept.alloc _ _ _
  clear_value w1
  intro w2
  have hb2 : Blk w2 w1.heap.size #[.slice none 0 0, .slice none 0 0, .slice none 0 0] := Blk.alloc _ _ _
  have hk2 : Kept No w1 w2 := Kept.alloc _ _ _
  clear_value w2
  have hb12 := hb1.keep hk2 fun e => e
  refine ⟨fun wS => Kept No w2 wS, Kept.drew _ _, ?_⟩
  intro w3
  have hk3 : Kept No w2 w3 := Kept.drew _ _
  clear_value w3
  have k3 := (hk1.no hk2).no hk3
  have h3 := h.no k3
  obtain ⟨ef, hef⟩ := h3.ef
  refine ⟨_, _, _, fun wS hS => ((hb12.keep hS fun e => e).cell 0).trans rfl, _, _, _, fun wS hS => ((hb12.keep hS fun e => e).cell 1).trans rfl, _, _, _, fun wS hS => ((hb12.keep hS fun e => e).cell 2).trans rfl, CallR.mono (copyNamed_ok hef h.lf h.bf) ?_⟩
  rintro v w4 ⟨a8, c8, es8, rfl, hk4, hN4⟩
  have h4 := h3.no hk4
  obtain ⟨et, het⟩ := h4.et
  refine ⟨_, _, _, rfl, hk3.no hk4, CallR.mono (copyTyped_ok het h.lt h.bt) ?_⟩
  rintro v w5 ⟨a10, c10, es10, rfl, hk5, hT5⟩
  have h5 := h4.no hk5
  refine ⟨_, _, _, rfl, (hk3.no hk4).no hk5, CallR.mono (copyFaults_ok h5.pp h.lp) ?_⟩
  rintro v w6 ⟨a12, c12, rfl, hk6, hs6, hf6⟩
  have hb6 := (((hb2.keep hk3 fun e => e).keep hk4 fun e => e).keep hk5 fun e => e).keep hk6 fun e => e
  have hz1 := hk1.size
  refine ⟨_, _, _, rfl, stC_blk hb6 (by simp) fun w7 hb7 hk7 _ => stC_blk hb7 (by simp) fun w8 hb8 hk8 _ => stC_blk hb8 (by simp) fun w9 hb9 hk9 _ => ?_⟩
  have hb9 : Blk w9 w1.heap.size #[.slice a8 lf c8, .slice a10 lt c10, .slice a12 lp c12] := by simpa using hb9
  have k79 : Kept (· = w1.heap.size) w6 w9 := (‹Kept (· = w1.heap.size) w6 w7›.trans ‹Kept (· = w1.heap.size) w7 w8› fun _ _ e => e).trans ‹Kept (· = w1.heap.size) w8 w9› fun _ _ e => e
  have hb2lt := hb2.lt
  have hz3 := hk3.size
  have hz4 := hk4.size
  have hz5 := hk5.size
  refine ⟨_, _, _, _, _, _, _, _, _, (hb9.cell 0).trans rfl, (hb9.cell 1).trans rfl, (hb9.cell 2).trans rfl, _, _, _, _, _, _, rfl, (((k3.no hk4).no hk5).no hk6).fresh k79 fun x e => by omega, ?_⟩
  have hN9 := hN4 w9 (· = w1.heap.size) (((hk5.no hk6).mono fun _ _ e => e.elim).trans k79 fun _ _ e => e) fun z e => by omega
  have hT9 := hT5 w9 (· = w1.heap.size) ((hk6.mono fun _ _ e => e.elim).trans k79 fun _ _ e => e) fun z e => by omega
  have hs9 := hs6.keep k79 fun b hb e => by have := hf6 b hb; omega
  have hz6 := hk6.size
  have hz9 := k79.size
  have hz2 := hk2.size
  exact ⟨⟨⟨es8, hN9.rdB⟩, ⟨es10, hT9.rdL⟩, hs9.rd, h.lf, h.lt, h.lp, h.bf, h.bt⟩, ⟨es8, hN9.wideB (by omega) (by omega)⟩, ⟨es10, hT9.wideL (by omega) (by omega)⟩, hs9, fun b hb => ⟨by have := hf6 b hb; omega, SlO.lt hs9 b hb⟩⟩
theorem config_ok {w : World} {fs : List (ByteArray × List Int)} {ts : List (ByteArray × List (List Int))} {ps : List (Int × Int)} {af : Option Addr} {lf cf : Nat} {at_ : Option Addr} {lt ct : Nat} {ap : Option Addr} {lp cp : Nat}
    (h : SetupO w fs ts ps af lf cf at_ lt ct ap lp cp) :
    CallR Tryz.prog 7 [.agg #[.slice af lf cf, .slice at_ lt ct, .slice ap lp cp]] w fun v w' => ∃ af' cf' at' ct' ap' cp', v = .agg #[.slice af' lf cf', .slice at' lt ct', .slice ap' lp cp'] ∧ Kept No w w' ∧ SetupO w' fs ts ps af' lf cf' at' lt ct' ap' lp cp' := by
  refine CallR.mono (config_own h) ?_
  rintro v w' ⟨a1, a2, a3, a4, a5, a6, rfl, a7, a8, _⟩
  exact ⟨a1, a2, a3, a4, a5, a6, rfl, a7, a8⟩
end Go.Proofs.YtpoaacnnhgebfaaGreat
namespace Go.Proofs.YtpoaacnnhgebfaaGreat
open Go.Lw
structure NmI (w0 w : World) (a : Option Addr) (l c : Nat) (fs : List (ByteArray × List Int)) (es : List (ByteArray × Slc)) : Prop where
  sl : SlO 2 w a l c (Nv es)
  len : es.length = fs.length
  fr : Fresh w0 a
  each : ∀ (j : Nat) (e : ByteArray × Slc), es[j]? = some e → ∃ f, fs[j]? = some f ∧ e.1 = f.1 ∧ ∃ lo hi, RBr w e.2 f.2 lo hi ∧ w0.heap.size ≤ lo ∧ hi ≤ w.heap.size ∧ ∀ z, inA a z → z < lo ∨ hi ≤ z
theorem NmI.nil (w : World) : NmI w w none 0 0 [] [] := ⟨SlO.nil 2 w, rfl, Fresh.none w, fun j e he => by simp at he⟩
theorem NmI.no {w0 w w' : World} {a : Option Addr} {l c : Nat} {fs : List (ByteArray × List Int)} {es : List (ByteArray × Slc)} (h : NmI w0 w a l c fs es) (k : Kept No w w') : NmI w0 w' a l c fs es :=
  ⟨h.sl.keep k fun _ _ e => e, h.len, h.fr, fun j e he => by
    obtain ⟨f, h1, h2, lo, hi, h3, h4, h5, h6⟩ := h.each j e he
    exact ⟨f, h1, h2, lo, hi, h3.keep k fun _ _ _ e => e, h4, Nat.le_trans h5 k.size, h6⟩⟩
theorem NmI.l_eq {w0 w : World} {a : Option Addr} {l c : Nat} {fs : List (ByteArray × List Int)} {es : List (ByteArray × Slc)} (h : NmI w0 w a l c fs es) : l = fs.length := by
  have := h.sl.1; rw [Nv_len, h.len] at this; omega
theorem NmI.rd {w0 w : World} {a : Option Addr} {l c : Nat} {fs : List (ByteArray × List Int)} {es : List (ByteArray × Slc)} (h : NmI w0 w a l c fs es) : RdN RB w a l c fs es :=
  ⟨h.sl.rd, h.len, fun i h1 h2 => by
    obtain ⟨f, hf, he, lo, hi, hr, _⟩ := h.each i es[i] (List.getElem?_eq_getElem h1)
    rw [List.getElem?_eq_getElem h2] at hf
    cases hf
    exact ⟨he, hr.1.rd⟩⟩
theorem NmI.snoc {w0 w w3 w4 : World} {a : Option Addr} {l c : Nat} {fs : List (ByteArray × List Int)} {es : List (ByteArray × Slc)} (h : NmI w0 w a l c fs es) (k0 : w0.heap.size ≤ w.heap.size) (k3 : Kept No w w3) {s : Slc} {bs : List Int} (hd : RBr w3 s bs w.heap.size w3.heap.size)
    {nm : ByteArray} (hb : Blk w4 w3.heap.size #[.string nm, .slice s.1 s.2.1 s.2.2]) (k4 : Kept No w3 w4) (hz4 : w4.heap.size = w3.heap.size + 1) (hl : l ≤ 1000) :
    ∃ a6 c6 w6, Sem.run Tryz.prog (Builtin.append_ #[22, 22] 22 #[.slice a l c, .slice (some (Addr.mk w3.heap.size 0 none)) 1 1]) w4 = .ok (.slice a6 (l + 1) c6) w6 ∧ NmI w0 w6 a6 (l + 1) c6 (fs ++ [(nm, bs)]) (es ++ [(nm, s)]) ∧ Kept (inA a) w4 w6 := by
  have hnew4 : SlO 2 w4 (some ⟨w3.heap.size, 0, none⟩) 1 1 (Nv [(nm, s)]) := SlO.of_blk (sz := 2) (n := 1) hb rfl
  have k14 := k3.no k4
  have hs4 := h.sl.keep k14 fun _ _ e => e
  obtain ⟨a6, c6, w6, hrun, hs6, hk6, hat, _⟩ := run_app_sl (P := Tryz.prog) (t := 22) (t2 := 22) (ty := 22) (by kernel_rfl : slTyB Tryz.prog 22 2 40 = true) (by kernel_rfl) hs4 hnew4.rd (Nv_one _) (by omega) (by omega)
  rw [← Nv_app] at hs6
  have hlt := SlO.lt h.sl
  have hz3 := k3.size
  have hz6 := hk6.size
  have hin6 : ∀ k, inA a6 k → inA a k ∨ k = w4.heap.size := fun k hk => hat.in hk
  have hle := h.l_eq
  have hel := h.len
  refine ⟨a6, c6, w6, hrun, ⟨hs6, by simp [h.len], fun k hk => ?_, fun j e he => ?_⟩, hk6⟩
  · rcases hin6 k hk with e | e
    · exact h.fr k e
    · omega
  · by_cases hj : j < es.length
    · rw [List.getElem?_append_left hj] at he
      obtain ⟨f, hf, he1, lo, hi', hr, hlo, hh, hd'⟩ := h.each j e he
      refine ⟨f, by rw [List.getElem?_append_left (by omega)]; exact hf, he1, lo, hi', (hr.keep k14 fun _ _ _ e => e).keep hk6 fun z h1 h2 e => ?_, hlo, by omega, fun z hz => ?_⟩
      · have := hd' z e; omega
      · rcases hin6 z hz with e | e
        · exact hd' z e
        · omega
    · have hje : j = es.length := by
        have := (List.getElem?_eq_some_iff.1 he).1
        simp at this; omega
      subst hje
      rw [List.getElem?_append_right (by omega), Nat.sub_self] at he
      simp at he
      subst he
      refine ⟨(nm, bs), by rw [List.getElem?_append_right (by omega), hel, Nat.sub_self]; rfl, rfl, w.heap.size, w3.heap.size, (hd.keep k4 fun _ _ _ e => e).keep hk6 fun z h1 h2 e => ?_, k0, by omega, fun z hz => ?_⟩
      · have := hlt z e; omega
      · rcases hin6 z hz with e | e
        · have := hlt z e; omega
        · omega
def ofK (s : AK) (k : TK) (g : AObj → List Int) (T : List (ByteArray × Nat)) : List (ByteArray × List Int) := (T.filter fun t => decide ((s.objs t.2).kd = k)).map fun t => (t.1, g (s.objs t.2))
theorem ofK_len (s : AK) (k : TK) (g : AObj → List Int) (T : List (ByteArray × Nat)) : (ofK s k g T).length ≤ T.length := by
  unfold ofK; rw [List.length_map]; exact List.length_filter_le _ _
theorem ofK_snoc (s : AK) (k : TK) (g : AObj → List Int) (T : List (ByteArray × Nat)) {n : Nat} (hn : n < T.length) : ofK s k g (T.take (n + 1)) = if (s.objs T[n].2).kd = k then ofK s k g (T.take n) ++ [(T[n].1, g (s.objs T[n].2))] else ofK s k g (T.take n) := by
  unfold ofK
  have htk : T.take (n + 1) = T.take n ++ [T[n]] := by rw [List.take_add_one, List.getElem?_eq_getElem hn]; rfl
  rw [htk, List.filter_append, List.map_append]
  by_cases e : (s.objs T[n].2).kd = k
  · rw [if_pos e]; simp [e]
  · rw [if_neg e]; simp [e]
theorem app_nil_ok {w : World} {a : Option Addr} {l c : Nat} {bs : List Int} (h : RdB w a l c bs) (hl : l ≤ 140737488355328) : ∃ a' c' w', Sem.run Tryz.prog (Builtin.append_ #[40, 40] 40 #[.slice none 0 0, .slice a l c]) w = .ok (.slice a' l c') w' ∧ Kept No w w' ∧ RBr w' (a', l, c') bs w.heap.size w'.heap.size := by
  obtain ⟨a', c', w2, hrun, hs, hk, hat, hnn⟩ := run_app_sl (P := Tryz.prog) (t := 40) (t2 := 40) (ty := 40) (by kernel_rfl : slTyB Tryz.prog 40 1 1 = true) (by kernel_rfl) (SlO.nil 1 w) h (By_one bs) (by omega) (by omega)
  simp only [Nat.zero_add, List.nil_append] at hrun hs
  refine ⟨a', c', w2, hrun, hk.mono (fun b _ hb => inA_none b hb), hs, fun k hk' => ⟨?_, SlO.lt hs k hk'⟩⟩
  exact hat.fresh (Fresh.none w) (Nat.le_refl _) k hk'
set_option maxHeartbeats 1000000 in
theorem pfiles_ok {w : World} {pk : Nat} {s : AK} {L : KL} {tl : Nat → Nat} {nm : Nat → ByteArray} (h : PagO w pk s L tl nm) {T : List (ByteArray × Nat)} {ta : Option Addr} {tc : Nat} {da : Option Addr} {dc : Nat} (hB : PKb w pk s L tl T ta tc da dc) :
    CallR Tryz.prog 77 [pd pk] w fun v w' => ∃ a c es, v = .slice a (ofK s .disk dataO T).length c ∧ NmI w w' a (ofK s .disk dataO T).length c (ofK s .disk dataO T) es ∧ Kept No w w' := by
  refine C77 ?_
  unfold L77
  have hfl := h.ok.fl
  have hTl : T.length ≤ 256 := by have := hB.pm.length_eq; rw [List.length_append] at this; omega
  refine ⟨fun vs w' => ∃ (n : Nat) (a : Option Addr) (c : Nat) (es : List (ByteArray × Slc)), vs = [.slice a (ofK s .disk dataO (T.take n)).length c, .int .i64 (n : Int)] ∧ n ≤ T.length ∧ Kept No w w' ∧ NmI w w' a (ofK s .disk dataO (T.take n)).length c (ofK s .disk dataO (T.take n)) es,
    fun vs _ => match vs with | [_, .int _ i] => ((T.length : Int) - i).toNat | _ => 0, ⟨0, none, 0, [], rfl, Nat.zero_le _, Kept.refl _ _, NmI.nil w⟩, ?_⟩
  rintro _ a4 l4 c4 n5 w1 ⟨n, a, c, es, hv, hn, hk1, hI⟩
  simp only [List.cons.injEq, Value.slice.injEq, Value.int.injEq, true_and, and_true] at hv
  obtain ⟨⟨rfl, rfl, rfl⟩, rfl⟩ := hv
  have h1 := h.no hk1
  have hb1 := hB.b.keep hk1 fun e => e
  refine nnI ⟨_, _, _, hb1.at0 rfl, condP (fun hlt => ?_) (fun hge => ?_)⟩
  · have hnl : n < T.length := by omega
    have hmem := hB.pm.mem_iff.1 (List.getElem_mem hnl)
    have hcell : ∀ {w' : World}, Kept No w w' → ∃ q, ta = some q ∧ w'.cell? (q.add n) = some (pd (tl T[n].2)) := fun k =>
      slo_cell (hB.ts.keep k fun _ _ e => e) (by omega) (j := n) (v := pd (tl T[n].2)) (by rw [List.getElem?_map, List.getElem?_eq_getElem hnl]; rfl)
    obtain ⟨q, haq, hc⟩ := hcell hk1
    have e0 : Int.toNat (n : Int) = n := Int.toNat_natCast n
    rw [e0]
    have hr : 0 ≤ (n : Int) ∧ (n : Int) < ((T.length : Nat) : Int) := by omega
    have hob := h.nobT hmem
    have htb := (h.th _ hob).1
    rw [h.nn _ hmem] at htb
    have hO := h.ob _ hob
    have hsn := ofK_snoc s .disk dataO T hnl
    refine nnI ⟨_, _, _, hb1.at0 rfl, hr, nnE2 haq ⟨_, hc, nnI ?_⟩⟩
    have other : (s.objs T[n].2).kd ≠ .disk → inI ((n : Int) + 1) ∧ (∃ (n' : Nat) (a' : Option Addr) (c' : Nat) (es : List (ByteArray × Slc)), ([.slice a4 (ofK s .disk dataO (T.take n)).length c4, .int .i64 ((n : Int) + 1)] : List Value) = [.slice a' (ofK s .disk dataO (T.take n')).length c', .int .i64 (n' : Int)] ∧ n' ≤ T.length ∧ Kept No w w1 ∧ NmI w w1 a' (ofK s .disk dataO (T.take n')).length c' (ofK s .disk dataO (T.take n')) es) ∧ ((T.length : Int) - ((n : Int) + 1)).toNat < ((T.length : Int) - (n : Int)).toNat := fun hne => by
      rw [if_neg hne] at hsn
      exact ⟨⟨by omega, by omega⟩, ⟨n + 1, _, _, es, by rw [hsn]; rfl, by omega, hk1, by rw [hsn]; exact hI⟩, by omega⟩
    cases ho : s.objs T[n].2 with
    | term LL scr =>
      rw [ho] at htb
      exact ⟨_, (htb.keep hk1 fun e => e).at (i := 1) rfl, condFa2 (other (by rw [ho]; simp [AObj.kd]))⟩
    | pipe bs e0 e1 =>
      rw [ho] at htb
      exact ⟨_, (htb.keep hk1 fun e => e).at (i := 1) rfl, condFa2 (other (by rw [ho]; simp [AObj.kd]))⟩
    | file bs =>
      rw [ho] at htb hO
      rw [if_pos (by rw [ho]; rfl), ho] at hsn
      have hsn : ofK s .disk dataO (T.take (n + 1)) = ofK s .disk dataO (T.take n) ++ [(T[n].1, bs)] := hsn
      have hfl2 := hO.fileLen
      obtain ⟨fa, fl, fc, hfb, hfo, _⟩ : RefO _ w (L.loc T[n].2) bs := hO
      have hfol := hfo.len
      refine ⟨_, (htb.keep hk1 fun e => e).at (i := 1) rfl, condTr2 ⟨fun wS => Kept No w wS, hk1.no (Kept.drew _ _), ?_⟩⟩
      intro w2
      have hk2 : Kept No w1 w2 := Kept.drew _ _
      have hz2 : w2.heap.size = w1.heap.size := rfl
      clear_value w2
      refine nnI ⟨_, _, _, fun wS hS => (hB.b.keep hS fun e => e).at0 rfl, hr, nnE2 haq ⟨_, fun wS hS => ?_, nnI ⟨_, fun wS hS => (htb.keep hS fun e => e).at0 rfl, nnI ⟨_, _, _, fun wS hS => (hB.b.keep hS fun e => e).at0 rfl, hr, nnE2 haq ⟨_, fun wS hS => ?_, nnI ⟨_, fun wS hS => (htb.keep hS fun e => e).at (i := 2) rfl, nnI ⟨_, _, _, fun wS hS => (hfb.keep hS fun e => e).at0 rfl, ?_⟩⟩⟩⟩⟩⟩⟩
      · obtain ⟨q', haq', hc'⟩ := hcell hS
        have hq : q' = q := by rw [haq] at haq'; cases haq'; rfl
        rw [← hq]; exact hc'
      · obtain ⟨q', haq', hc'⟩ := hcell hS
        have hq : q' = q := by rw [haq] at haq'; cases haq'; rfl
        rw [← hq]; exact hc'
      obtain ⟨a29, c29, w3, hrun3, hk3, hd3⟩ := app_nil_ok (hfo.rd.keep (hk1.no hk2) fun _ _ _ e => e) (by omega)
      refine ⟨a29, fl, c29, w3, hrun3, (hk1.no hk2).no hk3, ?_⟩
      intro w4
      have hb4 : Blk w4 w3.heap.size #[.string T[n].1, .slice a29 fl c29] := Blk.alloc _ _ _
      have hk4 : Kept No w3 w4 := Kept.alloc _ _ _
      have hz4 : w4.heap.size = w3.heap.size + 1 := by simp [w4]
      clear_value w4
      have hol := ofK_len s .disk dataO (T.take n)
      rw [List.length_take] at hol
      obtain ⟨a6, c6, w6, hrun6, hI6, hk6⟩ := (hI.no hk2).snoc (by have := (hk1.no hk2).size; omega) hk3 (s := (a29, fl, c29)) hd3 hb4 hk4 hz4 (by omega)
      have kf : Kept No w w6 := (((hk1.no hk2).no hk3).no hk4).fresh hk6 hI.fr
      exact ⟨a6, _, c6, w6, hrun6, ⟨by omega, by omega⟩, ⟨n + 1, a6, c6, _, by rw [hsn, List.length_append]; rfl, by omega, kf, by rw [hsn, List.length_append]; exact hI6⟩, by show ((T.length : Int) - ((n : Int) + 1)).toNat < ((T.length : Int) - (n : Int)).toNat; omega⟩
  · have : n = T.length := by omega
    subst this
    rw [List.take_length] at hI ⊢
    exact ⟨_, _, es, rfl, hI, hk1⟩
set_option maxHeartbeats 1000000 in
theorem pscreens_ok {w : World} {pk : Nat} {s : AK} {L : KL} {tl : Nat → Nat} {nm : Nat → ByteArray} (h : PagO w pk s L tl nm) {T : List (ByteArray × Nat)} {ta : Option Addr} {tc : Nat} {da : Option Addr} {dc : Nat} (hB : PKb w pk s L tl T ta tc da dc) :
    CallR Tryz.prog 80 [pd pk] w fun v w' => ∃ a c es, v = .slice a (ofK s .scr scrO T).length c ∧ NmI w w' a (ofK s .scr scrO T).length c (ofK s .scr scrO T) es ∧ Kept No w w' := by
  refine C80 ?_
  unfold L80
  have hfl := h.ok.fl
  have hTl : T.length ≤ 256 := by have := hB.pm.length_eq; rw [List.length_append] at this; omega
  refine ⟨fun vs w' => ∃ (n : Nat) (a : Option Addr) (c : Nat) (es : List (ByteArray × Slc)), vs = [.slice a (ofK s .scr scrO (T.take n)).length c, .int .i64 (n : Int)] ∧ n ≤ T.length ∧ Kept No w w' ∧ NmI w w' a (ofK s .scr scrO (T.take n)).length c (ofK s .scr scrO (T.take n)) es,
    fun vs _ => match vs with | [_, .int _ i] => ((T.length : Int) - i).toNat | _ => 0, ⟨0, none, 0, [], rfl, Nat.zero_le _, Kept.refl _ _, NmI.nil w⟩, ?_⟩
  rintro _ a4 l4 c4 n5 w1 ⟨n, a, c, es, hv, hn, hk1, hI⟩
  simp only [List.cons.injEq, Value.slice.injEq, Value.int.injEq, true_and, and_true] at hv
  obtain ⟨⟨rfl, rfl, rfl⟩, rfl⟩ := hv
  have h1 := h.no hk1
  have hb1 := hB.b.keep hk1 fun e => e
  refine nnI ⟨_, _, _, hb1.at0 rfl, condP (fun hlt => ?_) (fun hge => ?_)⟩
  · have hnl : n < T.length := by omega
    have hmem := hB.pm.mem_iff.1 (List.getElem_mem hnl)
    have hcell : ∀ {w' : World}, Kept No w w' → ∃ q, ta = some q ∧ w'.cell? (q.add n) = some (pd (tl T[n].2)) := fun k =>
      slo_cell (hB.ts.keep k fun _ _ e => e) (by omega) (j := n) (v := pd (tl T[n].2)) (by rw [List.getElem?_map, List.getElem?_eq_getElem hnl]; rfl)
    obtain ⟨q, haq, hc⟩ := hcell hk1
    have e0 : Int.toNat (n : Int) = n := Int.toNat_natCast n
    rw [e0]
    have hr : 0 ≤ (n : Int) ∧ (n : Int) < ((T.length : Nat) : Int) := by omega
    have hob := h.nobT hmem
    have htb := (h.th _ hob).1
    rw [h.nn _ hmem] at htb
    have hO := h.ob _ hob
    have hsn := ofK_snoc s .scr scrO T hnl
    refine nnI ⟨_, _, _, hb1.at0 rfl, hr, nnE2 haq ⟨_, hc, nnI ?_⟩⟩
    have other : (s.objs T[n].2).kd ≠ .scr → inI ((n : Int) + 1) ∧ (∃ (n' : Nat) (a' : Option Addr) (c' : Nat) (es : List (ByteArray × Slc)), ([.slice a4 (ofK s .scr scrO (T.take n)).length c4, .int .i64 ((n : Int) + 1)] : List Value) = [.slice a' (ofK s .scr scrO (T.take n')).length c', .int .i64 (n' : Int)] ∧ n' ≤ T.length ∧ Kept No w w1 ∧ NmI w w1 a' (ofK s .scr scrO (T.take n')).length c' (ofK s .scr scrO (T.take n')) es) ∧ ((T.length : Int) - ((n : Int) + 1)).toNat < ((T.length : Int) - (n : Int)).toNat := fun hne => by
      rw [if_neg hne] at hsn
      exact ⟨⟨by omega, by omega⟩, ⟨n + 1, _, _, es, by rw [hsn]; rfl, by omega, hk1, by rw [hsn]; exact hI⟩, by omega⟩
    cases ho : s.objs T[n].2 with
    | file bs =>
      rw [ho] at htb
      exact ⟨_, (htb.keep hk1 fun e => e).at (i := 1) rfl, condFa2 (other (by rw [ho]; simp [AObj.kd]))⟩
    | pipe bs e0 e1 =>
      rw [ho] at htb
      exact ⟨_, (htb.keep hk1 fun e => e).at (i := 1) rfl, condFa2 (other (by rw [ho]; simp [AObj.kd]))⟩
    | term LL bs =>
      rw [ho] at htb hO
      rw [if_pos (by rw [ho]; rfl), ho] at hsn
      have hsn : ofK s .scr scrO (T.take (n + 1)) = ofK s .scr scrO (T.take n) ++ [(T[n].1, bs)] := hsn
      have hfl2 := hO.scrLen
      obtain ⟨la, ll, lc, fa, fl, fc, es0, hfb, _, _, hfo, _⟩ : RefT _ _ w (L.loc T[n].2) LL bs := hO
      have hfol := hfo.len
      refine ⟨_, (htb.keep hk1 fun e => e).at (i := 1) rfl, condTr2 ⟨fun wS => Kept No w wS, hk1.no (Kept.drew _ _), ?_⟩⟩
      intro w2
      have hk2 : Kept No w1 w2 := Kept.drew _ _
      have hz2 : w2.heap.size = w1.heap.size := rfl
      clear_value w2
      refine nnI ⟨_, _, _, fun wS hS => (hB.b.keep hS fun e => e).at0 rfl, hr, nnE2 haq ⟨_, fun wS hS => ?_, nnI ⟨_, fun wS hS => (htb.keep hS fun e => e).at0 rfl, nnI ⟨_, _, _, fun wS hS => (hB.b.keep hS fun e => e).at0 rfl, hr, nnE2 haq ⟨_, fun wS hS => ?_, nnI ⟨_, fun wS hS => (htb.keep hS fun e => e).at (i := 3) rfl, nnI ⟨_, _, _, fun wS hS => (hfb.keep hS fun e => e).at (i := 1) rfl, ?_⟩⟩⟩⟩⟩⟩⟩
      · obtain ⟨q', haq', hc'⟩ := hcell hS
        have hq : q' = q := by rw [haq] at haq'; cases haq'; rfl
        rw [← hq]; exact hc'
      · obtain ⟨q', haq', hc'⟩ := hcell hS
        have hq : q' = q := by rw [haq] at haq'; cases haq'; rfl
        rw [← hq]; exact hc'
      obtain ⟨a29, c29, w3, hrun3, hk3, hd3⟩ := app_nil_ok (hfo.rd.keep (hk1.no hk2) fun _ _ _ e => e) (by omega)
      refine ⟨a29, fl, c29, w3, hrun3, (hk1.no hk2).no hk3, ?_⟩
      intro w4
      have hb4 : Blk w4 w3.heap.size #[.string T[n].1, .slice a29 fl c29] := Blk.alloc _ _ _
      have hk4 : Kept No w3 w4 := Kept.alloc _ _ _
      have hz4 : w4.heap.size = w3.heap.size + 1 := by simp [w4]
      clear_value w4
      have hol := ofK_len s .scr scrO (T.take n)
      rw [List.length_take] at hol
      obtain ⟨a6, c6, w6, hrun6, hI6, hk6⟩ := (hI.no hk2).snoc (by have := (hk1.no hk2).size; omega) hk3 (s := (a29, fl, c29)) hd3 hb4 hk4 hz4 (by omega)
      have kf : Kept No w w6 := (((hk1.no hk2).no hk3).no hk4).fresh hk6 hI.fr
      exact ⟨a6, _, c6, w6, hrun6, ⟨by omega, by omega⟩, ⟨n + 1, a6, c6, _, by rw [hsn, List.length_append]; rfl, by omega, kf, by rw [hsn, List.length_append]; exact hI6⟩, by show ((T.length : Int) - ((n : Int) + 1)).toNat < ((T.length : Int) - (n : Int)).toNat; omega⟩
  · have : n = T.length := by omega
    subst this
    rw [List.take_length] at hI ⊢
    exact ⟨_, _, es, rfl, hI, hk1⟩
end Go.Proofs.YtpoaacnnhgebfaaGreat
namespace Go.Proofs.YtpoaacnnhgebfaaGreat
open Go.Lw
theorem qmay_ok {w : World} (f : Int × Int) : CallR Tryz.prog 158 [.agg #[.int .i64 f.1, .int .i64 f.2]] w fun v w' => v = .bool (decide (mayP f)) ∧ Kept No w w' := by
  refine C158 ?_
  unfold L158
  intro w1
  have hb : Blk w1 w.heap.size #[.int .i64 f.1, .int .i64 f.2] := Blk.alloc _ _ _
  have hk : Kept No w w1 := Kept.alloc _ _ _
  clear_value w1
  have c0 : ∀ {b : Bool}, (b = decide (mayP f)) → (Value.bool b = .bool (decide (mayP f)) ∧ Kept No w w1) := fun h => ⟨by rw [h], hk⟩
  refine ⟨_, (hb.cell 0).trans rfl, condI (fun h1 => ⟨_, (hb.cell 1).trans rfl, condP (fun h2 => ⟨_, (hb.cell 1).trans rfl, c0 ?_⟩) (fun h2 => c0 ?_)⟩) (fun h1 => ⟨_, (hb.cell 0).trans rfl, condP (fun h2 => ⟨_, (hb.cell 0).trans rfl, condP (fun h3 => ⟨_, (hb.cell 1).trans rfl, c0 ?_⟩) (fun h3 => c0 ?_)⟩) (fun h2 => c0 ?_)⟩)⟩
  · have h1 : f.1 = 1 := by simpa using h1
    rw [decide_eq_decide]; unfold mayP; omega
  · have h1 : f.1 = 1 := by simpa using h1
    symm; rw [decide_eq_false_iff_not]; unfold mayP; omega
  · have h1 : f.1 ≠ 1 := by simpa using h1
    rw [show (f.2 == 0) = decide (f.2 = 0) from rfl, decide_eq_decide]; unfold mayP; omega
  · have h1 : f.1 ≠ 1 := by simpa using h1
    symm; rw [decide_eq_false_iff_not]; unfold mayP; omega
  · have h1 : f.1 ≠ 1 := by simpa using h1
    symm; rw [decide_eq_false_iff_not]; unfold mayP; omega
theorem qcheck_ok {w : World} {a : Option Addr} {l c : Nat} {fs : List (Int × Int)} (h : RdS 2 w a l c (Fv fs)) :
    CallR Tryz.prog 59 [.slice a l c] w fun v w' => (∃ n, v = .tuple #[.int .i64 (ckF fs), .int .i64 n]) ∧ Kept No w w' := by
  refine C59 ?_
  unfold L59
  have hlen : fs.length = l := by have := h.1; rw [Fv_len] at this; omega
  refine condP (fun hlt => ⟨⟨_, by unfold ckF; rw [if_pos (by omega)]⟩, Kept.refl _ _⟩) (fun hge => ?_)
  refine ⟨fun vs w' => ∃ n : Nat, vs = [.int .i64 (n : Int)] ∧ n ≤ l ∧ Kept No w w' ∧ (∀ j, (hj : j < n) → (hl : j < fs.length) → mayP fs[j]), fun vs _ => l - ix vs, ⟨0, rfl, Nat.zero_le _, Kept.refl _ _, fun j hj => by omega⟩, ?_⟩
  rintro _ n4 w1 ⟨n, hv, hn, hk, hall⟩
  simp only [List.cons.injEq, Value.int.injEq, true_and, and_true] at hv
  subst hv
  refine condP (fun hlt => ?_) (fun hge2 => ?_)
  · have hn' : n < fs.length := by omega
    obtain ⟨e1, e2⟩ := Fv_at hn'
    have h1 := h.keep hk (fun _ _ _ e => e)
    cases ha : a with
    | none => have := RdS.isNone h ha; omega
    | some q =>
      have c1 := h1.2.2.2 q ha _ _ e1
      have c2 := h1.2.2.2 q ha _ _ e2
      rw [← Lw.add_add] at c2
      have e0 : Int.toNat (n : Int) = n := Int.toNat_natCast n
      rw [e0]
      refine ⟨⟨by omega, by omega⟩, nnI ⟨fs[n].1, fs[n].2, c1, c2, CallR.mono (qmay_ok fs[n]) ?_⟩⟩
      rintro v w2 ⟨rfl, hk2⟩
      refine ⟨_, rfl, condI (fun hb => ?_) (fun hb => ?_)⟩
      · have hb : ¬ mayP fs[n] := by simpa using hb
        have : badF fs = some n := by
          unfold badF
          rw [List.findIdx?_eq_some_iff_getElem]
          exact ⟨hn', by simp [hb], fun j hj => by simp [hall j hj (by omega)]⟩
        exact ⟨⟨_, by unfold ckF; rw [if_neg (by omega), this, if_neg (by simp)]⟩, hk.no hk2⟩
      · have hb : mayP fs[n] := by simpa using hb
        refine ⟨⟨by omega, by omega⟩, ⟨n + 1, by simp, by omega, hk.no hk2, fun j hj hl => ?_⟩, by simp only [ix]; omega⟩
        by_cases e : j = n
        · subst e; exact hb
        · exact hall j (by omega) hl
  · exact ⟨⟨_, by unfold ckF; rw [if_neg (by omega), (ixF_none (fun j hj => hall j (by omega) hj)).2, if_pos rfl]⟩, hk⟩
theorem Sv_at {ss : List ByteArray} {i : Nat} (h : i < ss.length) : (Sv ss)[i]? = some (.string ss[i]) := by
  unfold Sv; rw [List.getElem?_map, List.getElem?_eq_getElem h]; rfl
theorem phas_to {w : World} {a : Option Addr} {l c : Nat} {ss : List ByteArray} (h : RdS 1 w a l c (Sv ss)) (hl : l ≤ 1000) (s : ByteArray) {Q : Value → World → Prop} (hq : Q (.bool (decide (s ∈ ss))) w) : CallR Tryz.prog 57 [.slice a l c, .string s] w Q := by
  refine C57 ?_
  unfold L57
  have hlen : ss.length = l := by have := h.1; rw [Sv_len] at this; omega
  refine ⟨fun vs w' => ∃ n : Nat, vs = [.int .i64 (n : Int)] ∧ n ≤ l ∧ w' = w ∧ (∀ j, (hj : j < n) → (hl : j < ss.length) → ss[j] ≠ s), fun vs _ => l - ix vs, ⟨0, rfl, Nat.zero_le _, rfl, fun j hj => by omega⟩, ?_⟩
  rintro _ n5 w1 ⟨n, hv, hn, rfl, hall⟩
  simp only [List.cons.injEq, Value.int.injEq, true_and, and_true] at hv
  subst hv
  refine condP (fun hlt => ?_) (fun hge => ?_)
  · have hn' : n < ss.length := by omega
    cases ha : a with
    | none => have := RdS.isNone h ha; omega
    | some q =>
      have c1 := h.2.2.2 q ha _ _ (Sv_at hn')
      have e0 : Int.toNat (n : Int) = n := Int.toNat_natCast n
      rw [e0]
      refine ⟨⟨by omega, by omega⟩, nnI ⟨_, c1, ?_⟩⟩
      rw [strEq]
      refine condP (fun e => ?_) (fun e => ⟨⟨by omega, by omega⟩, ⟨n + 1, rfl, by omega, rfl, fun j hj hl => ?_⟩, by simp only [ix]; omega⟩)
      · rw [decide_eq_true (by rw [← e]; exact List.getElem_mem hn')] at hq; exact hq
      · by_cases e2 : j = n
        · subst e2; exact e
        · exact hall j (by omega) hl
  · rw [decide_eq_false] at hq
    · exact hq
    · intro hm
      obtain ⟨j, hj, e⟩ := List.mem_iff_getElem.1 hm
      exact hall j (by omega) hj e
theorem freshK_61 {seen : List ByteArray} {s : ByteArray} (h : namedS s = false) : freshK seen s = 61 := by unfold freshK; rw [if_pos h]
theorem freshK_6 {seen : List ByteArray} {s : ByteArray} (h : ¬ namedS s = false) (hm : s ∈ seen) : freshK seen s = 6 := by unfold freshK; rw [if_neg h, if_pos hm]
theorem freshK_0 {seen : List ByteArray} {s : ByteArray} (h : ¬ namedS s = false) (hm : ¬ s ∈ seen) : freshK seen s = 0 := by unfold freshK; rw [if_neg h, if_neg hm]
theorem seen_app {w0 w w1 : World} {a : Option Addr} {l c : Nat} {seen : List ByteArray} (h : SlO 1 w a l c (Sv seen)) (hf : Fresh w0 a) (k0 : w0.heap.size ≤ w.heap.size) {s : ByteArray} (hb : Blk w1 w.heap.size #[.string s]) (k1 : Kept No w w1) (hl : l ≤ 1000) :
    ∃ a' c' w', Sem.run Tryz.prog (Builtin.append_ #[131, 131] 131 #[.slice a l c, .slice (some (Addr.mk w.heap.size 0 none)) 1 1]) w1 = .ok (.slice a' (l + 1) c') w' ∧ SlO 1 w' a' (l + 1) c' (Sv (seen ++ [s])) ∧ Kept (inA a) w1 w' ∧ Fresh w0 a' := by
  have ht : SlO 1 w1 (some ⟨w.heap.size, 0, none⟩) 1 1 (Sv [s]) := SlO.of_blk (sz := 1) (n := 1) hb rfl
  obtain ⟨a', c', w', hrun, hs, hk, hat, _⟩ := run_app_sl (P := Tryz.prog) (t := 131) (t2 := 131) (ty := 131) (by kernel_rfl : slTyB Tryz.prog 131 1 16 = true) (by kernel_rfl) (h.keep k1 fun _ _ e => e) ht.rd (Sv_one _) (by omega) (by omega)
  refine ⟨a', c', w', hrun, ?_, hk, fun z hz => ?_⟩
  · have : Sv (seen ++ [s]) = Sv seen ++ Sv [s] := by simp [Sv]
    rw [this]; exact hs
  · rcases hat.in hz with e | e
    · exact hf z e
    · have := k1.size; omega
set_option maxHeartbeats 2000000 in
theorem pcheck_ok {w : World} {af : Option Addr} {lf cf : Nat} {fs : List (ByteArray × List Int)} {ef : List (ByteArray × Slc)} (hf : RdN RB w af lf cf fs ef) {at_ : Option Addr} {lt ct : Nat} {ts : List (ByteArray × List (List Int))} {et : List (ByteArray × Slc)} (ht : RdN RL w at_ lt ct ts et)
    {ap : Option Addr} {lp cp : Nat} {ps : List (Int × Int)} (hp : RdS 2 w ap lp cp (Fv ps)) (hlf : lf ≤ 140737488355328) (hlt : lt ≤ 140737488355328) :
    CallR Tryz.prog 9 [.slice af lf cf, .slice at_ lt ct, .slice ap lp cp] w fun v w' => v = .int .i64 (checkK fs ts ps) ∧ Kept No w w' := by
  refine C9 ?_
  unfold L9
  have hfl : fs.length = lf := by have := hf.rd.1; rw [Nv_len, hf.len] at this; omega
  have htl : ts.length = lt := by have := ht.rd.1; rw [Nv_len, ht.len] at this; omega
  refine ⟨⟨by omega, by omega⟩, condP (fun hgt => ⟨by unfold checkK; rw [if_pos (by omega)], Kept.refl _ _⟩) (fun hle => ?_)⟩
  have nok : checkK fs ts ps = if (ckFs fs []).1 ≠ 0 then (ckFs fs []).1 else if (ckTs ts (ckFs fs []).2).1 ≠ 0 then (ckTs ts (ckFs fs []).2).1 else ckF ps := by unfold checkK; rw [if_neg (by omega)]
  rw [nok]
  refine ⟨fun vs w' => ∃ (i : Nat) (seen : List ByteArray) (a : Option Addr) (c : Nat), vs = [.slice a seen.length c, .int .i64 (i : Int)] ∧ i ≤ lf ∧ seen.length = i ∧ ckFs fs [] = ckFs (fs.drop i) seen ∧ SlO 1 w' a seen.length c (Sv seen) ∧ Fresh w a ∧ Kept No w w',
    fun vs _ => match vs with | [_, .int _ i] => ((lf : Int) - i).toNat | _ => 0, ⟨0, [], none, 0, rfl, by omega, rfl, rfl, SlO.nil 1 w, Fresh.none w, Kept.refl _ _⟩, ?_⟩
  rintro _ a6 l6 c6 n7 w1 ⟨i, seen, a, c, hv, hi, hsl, hck, hs, hfr, hk1⟩
  simp only [List.cons.injEq, Value.slice.injEq, Value.int.injEq, true_and, and_true] at hv
  obtain ⟨⟨rfl, rfl, rfl⟩, rfl⟩ := hv
  have e0 : Int.toNat (i : Int) = i := Int.toNat_natCast i
  refine condP (fun hlt1 => ?_) (fun hge1 => ?_)
  · have hi' : i < fs.length := by omega
    obtain ⟨q, sl, haq, e1, e2, hR, _⟩ := (hf.no (fun _ _ _ _ h k => h.no k) hk1).at hi'
    rw [List.drop_eq_getElem_cons hi', ckFs_cons] at hck
    have hr : 0 ≤ (i : Int) ∧ (i : Int) < ((lf : Nat) : Int) := by omega
    rw [e0]
    refine ⟨hr, nnE2 haq ⟨_, e1, pnamed_ok _ ⟨_, rfl, condI (fun hb => ?_) (fun hb => ?_)⟩⟩⟩
    · have hb : namedS fs[i].1 = false := by simpa using hb
      rw [freshK_61 hb, if_pos (by simp)] at hck
      rw [hck]
      exact ⟨rfl, hk1⟩
    have hb : ¬ namedS fs[i].1 = false := by simpa using hb
    refine ⟨hr, nnE2 haq ⟨_, e1, phas_to hs.rd (by omega) _ ⟨_, rfl, condP (fun hm => ?_) (fun hm => ?_)⟩⟩⟩
    · rw [freshK_6 hb hm, if_pos (by simp)] at hck
      rw [hck]
      exact ⟨rfl, hk1⟩
    rw [freshK_0 hb hm, if_neg (by simp)] at hck
    have hRl := RdB.len hR
    refine ⟨hr, nnE2 haq ⟨_, _, _, e2, condP (fun hbig => ?_) (fun hsm => ⟨hr, nnE2 haq ⟨_, e1, ?_⟩⟩)⟩⟩
    · rw [if_pos (by omega)] at hck
      rw [hck]
      exact ⟨rfl, hk1⟩
    rw [if_neg (by omega)] at hck
    intro w4
    have hb4 : Blk w4 w1.heap.size #[.string fs[i].1] := Blk.alloc _ _ _
    have hk4 : Kept No w1 w4 := Kept.alloc _ _ _
    clear_value w4
    obtain ⟨a', c', w5, hrun, hs5, hk5, hf5⟩ := seen_app hs hfr hk1.size hb4 hk4 (by omega)
    exact ⟨a', _, c', w5, hrun, ⟨by omega, by omega⟩, ⟨i + 1, seen ++ [fs[i].1], a', c', by rw [List.length_append]; rfl, by omega, by rw [List.length_append]; simp; omega, hck, by rw [List.length_append]; exact hs5, hf5, (hk1.no hk4).fresh hk5 hfr⟩, by show ((lf : Int) - ((i : Int) + 1)).toNat < ((lf : Int) - (i : Int)).toNat; omega⟩
  have hif : i = lf := by omega
  rw [List.drop_of_length_le (by omega)] at hck
  have hck : ckFs fs [] = (0, seen) := hck
  rw [hck]
  dsimp only
  rw [if_neg (by simp)]
  have hseen0 : seen.length ≤ 256 := by omega
  clear nok hck hf
  refine ⟨fun vs w' => ∃ (j : Nat) (seen2 : List ByteArray) (a : Option Addr) (c : Nat), vs = [.slice a seen2.length c, .int .i64 (j : Int)] ∧ j ≤ lt ∧ seen2.length = lf + j ∧ ckTs ts seen = ckTs (ts.drop j) seen2 ∧ SlO 1 w' a seen2.length c (Sv seen2) ∧ Fresh w a ∧ Kept No w w',
    fun vs _ => match vs with | [_, .int _ i] => ((lt : Int) - i).toNat | _ => 0, ⟨0, seen, _, _, rfl, by omega, by omega, rfl, hs, hfr, hk1⟩, ?_⟩
  clear hs hfr hk1 e0
  rintro _ a23 l23 c23 n24 w6 ⟨j, seen2, a, c, hv, hj, hsl2, hck2, hs, hfr, hk1⟩
  simp only [List.cons.injEq, Value.slice.injEq, Value.int.injEq, true_and, and_true] at hv
  obtain ⟨⟨rfl, rfl, rfl⟩, rfl⟩ := hv
  have e0 : Int.toNat (j : Int) = j := Int.toNat_natCast j
  refine condP (fun hlt1 => ?_) (fun hge1 => ?_)
  · have hj' : j < ts.length := by omega
    obtain ⟨q, sl, haq, e1, e2, hR, _⟩ := (ht.no (fun _ _ _ _ h k => h.no k) hk1).at hj'
    rw [List.drop_eq_getElem_cons hj', ckTs_cons] at hck2
    have hr : 0 ≤ (j : Int) ∧ (j : Int) < ((lt : Nat) : Int) := by omega
    rw [e0]
    refine ⟨hr, nnE2 haq ⟨_, e1, pnamed_ok _ ⟨_, rfl, condI (fun hb => ?_) (fun hb => ?_)⟩⟩⟩
    · have hb : namedS ts[j].1 = false := by simpa using hb
      rw [freshK_61 hb, if_pos (by simp)] at hck2
      rw [hck2]
      exact ⟨rfl, hk1⟩
    have hb : ¬ namedS ts[j].1 = false := by simpa using hb
    refine ⟨hr, nnE2 haq ⟨_, e1, phas_to hs.rd (by omega) _ ⟨_, rfl, condP (fun hm => ?_) (fun hm => ?_)⟩⟩⟩
    · rw [freshK_6 hb hm, if_pos (by simp)] at hck2
      rw [hck2]
      exact ⟨rfl, hk1⟩
    rw [freshK_0 hb hm, if_neg (by simp)] at hck2
    refine ⟨hr, nnE2 haq ⟨_, _, _, e2, CallR.mono (rcheck_ok hR.1) ?_⟩⟩
    rintro v w9 ⟨rfl, rfl⟩
    refine ⟨_, rfl, condN (fun hne => ?_) (fun heq => ⟨hr, nnE2 haq ⟨_, e1, ?_⟩⟩)⟩
    · rw [if_pos hne] at hck2
      rw [hck2, if_pos hne]
      exact ⟨rfl, hk1⟩
    rw [if_neg (by simpa using heq)] at hck2
    generalize hw10 : World.alloc w9 _ = w10
    have hb4 : Blk w10 w9.heap.size #[.string ts[j].1] := by rw [← hw10]; exact Blk.alloc _ _ _
    have hk4 : Kept No w9 w10 := by rw [← hw10]; exact Kept.alloc _ _ _
    clear hw10
    obtain ⟨a', c', w11, hrun, hs5, hk5, hf5⟩ := seen_app hs hfr hk1.size hb4 hk4 (by omega)
    exact ⟨a', _, c', w11, hrun, ⟨by omega, by omega⟩, ⟨j + 1, seen2 ++ [ts[j].1], a', c', by rw [List.length_append]; rfl, by omega, by rw [List.length_append]; simp; omega, hck2, by rw [List.length_append]; exact hs5, hf5, (hk1.no hk4).fresh hk5 hfr⟩, by show ((lt : Int) - ((j : Int) + 1)).toNat < ((lt : Int) - (j : Int)).toNat; omega⟩
  rw [List.drop_of_length_le (by omega)] at hck2
  have hck2 : ckTs ts seen = (0, seen2) := hck2
  rw [hck2, if_neg (by simp)]
  refine CallR.mono (qcheck_ok (hp.keep hk1 fun _ _ _ e => e)) ?_
  rintro v w12 ⟨⟨n, rfl⟩, hk12⟩
  exact ⟨_, _, rfl, rfl, hk1.no hk12⟩
end Go.Proofs.YtpoaacnnhgebfaaGreat
namespace Go.Proofs.YtpoaacnnhgebfaaGreat
open Go.Lw
open Classical in
noncomputable def KL.pg0 (pk pg : Nat) (a : Option Addr) : KL :=
  { own := fun z => if z = pk then some .kern else if z = pg then some .plan else if inA a z then some .flts else none, loc := fun _ => 0, dloc := fun _ => 0, rf := 0, rt := 0, rd := 0, pg := pg }
theorem page0 {w : World} {pk pg : Nat} {a : Option Addr} {l c : Nat} {ps : List (Int × Int)} (hb : Blk w pk #[.slice none 0 0, .slice none 0 0, .int .i64 1, pd pg, .int .i64 0, .int .i64 0]) (hp : Blk w pg #[.slice a l c]) (hs : SlO 2 w a l c (Fv ps)) (h1 : pk ≠ pg) (h2 : ∀ b, inA a b → b ≠ pk ∧ b ≠ pg) (hl : ps.length ≤ 4096) (hm : ∀ p ∈ ps, mayP p) :
    PagO w pk (AK.empty ps) (KL.pg0 pk pg a) (fun _ => 0) (fun _ => ByteArray.mk #[]) ∧ ∀ z, (KL.pg0 pk pg a).own z ≠ none → z = pk ∨ z = pg ∨ inA a z := by
  have hsome : ∀ z, (KL.pg0 pk pg a).own z ≠ none → z = pk ∨ z = pg ∨ inA a z := by
    intro z hz
    unfold KL.pg0 at hz
    dsimp only at hz
    by_cases e1 : z = pk
    · exact .inl e1
    rw [if_neg e1] at hz
    by_cases e2 : z = pg
    · exact .inr (.inl e2)
    rw [if_neg e2] at hz
    by_cases e3 : inA a z
    · exact .inr (.inr e3)
    · rw [if_neg e3] at hz; exact absurd rfl hz
  refine ⟨⟨⟨[], none, 0, none, 0, hb, SlO.nil 1 w, (fun b e => absurd e (inA_none b)), SlO.nil 1 w, (fun b e => absurd e (inA_none b)), List.Perm.refl _, List.Pairwise.nil⟩, (fun i hi => by cases hi), (fun f hf => by cases hf), (fun i hi => by cases hi), (fun d hd => by cases hd), ⟨a, l, c, hp, hs.rd, fun b hb' => ?_⟩, if_pos rfl, ?_, (fun d hd => by cases hd), fun z hz => ?_, AK.ok_empty hl hm⟩, hsome⟩
  · obtain ⟨e1, e2⟩ := h2 b hb'
    unfold KL.pg0
    dsimp only
    rw [if_neg e1, if_neg e2, if_pos hb']
  · unfold KL.pg0
    dsimp only
    rw [if_neg (Ne.symm h1), if_pos rfl]
  · rcases hsome z hz with rfl | rfl | e
    · exact hb.lt
    · exact hp.lt
    · exact SlO.lt hs z e
set_option maxHeartbeats 2000000 in
theorem pnew_ok {W w : World} (k0 : Kept No W w) {af : Option Addr} {lf cf : Nat} {fs : List (ByteArray × List Int)} {ef : List (ByteArray × Slc)} (hf : RdN RB W af lf cf fs ef) {at_ : Option Addr} {lt ct : Nat} {ts : List (ByteArray × List (List Int))} {et : List (ByteArray × Slc)} (ht : RdN RL W at_ lt ct ts et)
    {ap : Option Addr} {lp cp : Nat} {ps : List (Int × Int)} (hp : SlO 2 w ap lp cp (Fv ps)) (hck : AK.CkOk fs ts ps) (hlf : lf ≤ 140737488355328) (hlt : lt ≤ 140737488355328) (hpB : ∀ b, inA ap b → W.heap.size ≤ b) :
    CallR Tryz.prog 60 [.slice af lf cf, .slice at_ lt ct, .slice ap lp cp] w fun v w' => ∃ pk L tl nm, v = pd pk ∧ PagO w' pk (AK.new fs ts ps) L tl nm ∧ (∀ z, L.own z ≠ none → W.heap.size ≤ z) ∧ Kept No W w' := by
  refine C60 ?_
  unfold L60
  have hfl : fs.length = lf := by have := hf.rd.1; rw [Nv_len, hf.len] at this; omega
  have htl : ts.length = lt := by have := ht.rd.1; rw [Nv_len, ht.len] at this; omega
  intro w1 w2
  have hp1 : Blk w1 w.heap.size #[.slice ap lp cp] := Blk.alloc _ _ _
  have hk1 : Kept No w w1 := Kept.alloc _ _ _
  have hz1 : w1.heap.size = w.heap.size + 1 := by simp [w1]
  have hb2 : Blk w2 w1.heap.size #[.slice none 0 0, .slice none 0 0, .int .i64 1, pd w.heap.size, .int .i64 0, .int .i64 0] := Blk.alloc _ _ _
  have hk2 : Kept No w1 w2 := Kept.alloc _ _ _
  clear_value w2
  clear_value w1
  have k2 := hk1.no hk2
  have k02 := k0.no k2
  have hplt := SlO.lt hp
  have hz0 := k0.size
  obtain ⟨hP2, hown⟩ := page0 (ps := ps) hb2 (hp1.keep hk2 fun e => e) (hp.keep k2 fun _ _ e => e) (by omega) (fun b hb => by have := hplt b hb; omega) hck.pl hck.pm
  have hown : ∀ z, (KL.pg0 w1.heap.size w.heap.size ap).own z ≠ none → W.heap.size ≤ z := fun z hz => by
    rcases hown z hz with e | e | e
    · omega
    · omega
    · exact hpB z e
  generalize KL.pg0 w1.heap.size w.heap.size ap = L0 at hP2 hown
  obtain ⟨pk, hpk⟩ : ∃ pk, pk = w1.heap.size := ⟨_, rfl⟩
  rw [← hpk] at hP2 ⊢
  have fin : ∀ {w' : World} {L' : KL}, KStep w2 w' L0 L' → (∀ z, L'.own z ≠ none → W.heap.size ≤ z) ∧ Kept No W w' := by
    intro w' L' st
    refine ⟨fun z hz => ?_, k02.trans st.kept fun x hx e => by have := hown x e; omega⟩
    rcases st.grew z hz with e | e
    · exact hown z e
    · have := k02.size; omega
  refine ⟨fun vs w' => ∃ (i : Nat) (L' : KL) (tl : Nat → Nat) (nm : Nat → ByteArray), vs = [.int .i64 (i : Int)] ∧ i ≤ lf ∧ PagO w' pk (AK.withF (fs.take i) (AK.empty ps)) L' tl nm ∧ KStep w2 w' L0 L',
    fun vs _ => lf - ix vs, ⟨0, L0, _, _, rfl, by omega, hP2, KStep.refl _ _⟩, ?_⟩
  rintro _ n6 w3 ⟨i, L3, tl, nm, hvs, hi, h3, st3⟩
  simp only [List.cons.injEq, Value.int.injEq, true_and, and_true] at hvs
  subst hvs
  obtain ⟨hge3, k3⟩ := fin st3
  refine condP (fun hlt1 => ?_) (fun hge => ?_)
  · have hi' : i < fs.length := by omega
    obtain ⟨q, sl, haq, e1, e2, hR, _⟩ := (hf.no (fun _ _ _ _ h k => h.no k) k3).at hi'
    have e0 : Int.toNat (i : Int) = i := Int.toNat_natCast i
    rw [e0]
    have hr : 0 ≤ (i : Int) ∧ (i : Int) < ((lf : Nat) : Int) := by omega
    have hfl2 := (hck.fs fs[i] (List.getElem_mem hi')).2
    have hsl : fs[i].2.length = sl.2.1 := RdB.len hR
    refine ⟨hr, nnE2 haq ⟨_, _, _, e2, CallR.mono (rnew_ok hR (by omega)) ?_⟩⟩
    rintro v w4 (⟨hbig, _⟩ | ⟨_, b, F, rfl, hO, hk4, hF⟩)
    · omega
    refine ⟨_, _, rfl, hr, nnE2 haq ⟨_, hk4.cell e1 fun e => e, ?_⟩⟩
    intro w5
    have ht5 : Blk w5 w4.heap.size (thC fs[i].1 .disk b) := Blk.alloc _ _ _
    have hk5 : Kept No w4 w5 := Kept.alloc _ _ _
    clear_value w5
    have hFlt := hO.lt
    have hz4 := hk4.size
    obtain ⟨L5, p5, st5⟩ := h3.newO (hk4.no hk5) (o := .file fs[i].2) (name := fs[i].1) (R := fun _ => False) (RefO.keep hO hk5 fun _ _ e => e : PObjF F (fun _ => False) w5 b (.file fs[i].2)) hF (fun z e => e.elim) ht5 (by omega) (fun e => by have := hFlt _ e; omega) (fun e => e)
    obtain ⟨q1, q2, q3⟩ := AK.withF_ok_next hck hi'
    have hT : fs.take (i + 1) = fs.take i ++ [fs[i]] := by rw [List.take_add_one, List.getElem?_eq_getElem hi']; rfl
    generalize hs0 : AK.withF (fs.take i) (AK.empty ps) = s0 at h3 p5 q1 q2 q3
    have hok1 := h3.ok.addF (nm := fs[i].1) (o := .file fs[i].2) rfl q1 q2 q3
    have hnmn : (if s0.nob = s0.nob then fs[i].1 else nm s0.nob) = fs[i].1 := if_pos rfl
    have htln : (if s0.nob = s0.nob then w4.heap.size else tl s0.nob) = w4.heap.size := if_pos rfl
    have hadd := padd_ok p5 (i := s0.nob) (by show s0.nob < s0.nob + 1; omega) (by show s0.files.length + s0.terms.length < 256; omega) (fs' := s0.files ++ [(fs[i].1, s0.nob)]) (ts' := s0.terms) (by
      show ((s0.files ++ s0.terms) ++ [(if s0.nob = s0.nob then fs[i].1 else nm s0.nob, s0.nob)]).Perm _
      rw [hnmn, List.append_assoc, List.append_assoc]
      exact List.Perm.append_left _ (List.perm_append_comm)) hok1
    rw [htln] at hadd
    refine CallR.mono hadd ?_
    rintro v w6 ⟨rfl, L6, p6, st6⟩
    have heq : AK.withF (fs.take (i + 1)) (AK.empty ps) = s0.addF fs[i].1 (.file fs[i].2) := by rw [hT, AK.withF_snoc, hs0]
    have p6' : PagO w6 pk (s0.addF fs[i].1 (.file fs[i].2)) L6 (fun j => if j = s0.nob then w4.heap.size else tl j) (fun j => if j = s0.nob then fs[i].1 else nm j) := p6
    rw [← heq] at p6'
    exact ⟨rfl, ⟨by omega, by omega⟩, ⟨i + 1, L6, _, _, rfl, by omega, p6', (st3.trans st5).trans st6⟩, by simp only [ix]; omega⟩
  have hil : i = fs.length := by omega
  rw [List.take_of_length_le (by omega)] at h3
  refine ⟨fun vs w' => ∃ (j : Nat) (L' : KL) (tl : Nat → Nat) (nm : Nat → ByteArray), vs = [.int .i64 (j : Int)] ∧ j ≤ lt ∧ PagO w' pk (AK.withT (ts.take j) (AK.withF fs (AK.empty ps))) L' tl nm ∧ KStep w2 w' L0 L',
    fun vs _ => lt - ix vs, ⟨0, L3, _, _, rfl, by omega, h3, st3⟩, ?_⟩
  clear h3 st3 hge3 k3 hlf
  rintro _ n17 w7 ⟨j, L7, tl, nm, hvs, hj, h7, st7⟩
  simp only [List.cons.injEq, Value.int.injEq, true_and, and_true] at hvs
  subst hvs
  obtain ⟨hge7, k7⟩ := fin st7
  refine condP (fun hlt1 => ?_) (fun hge2 => ?_)
  · have hj' : j < ts.length := by omega
    obtain ⟨q, sl, haq, e1, e2, hR, _⟩ := (ht.no (fun _ _ _ _ h k => h.no k) k7).at hj'
    have e0 : Int.toNat (j : Int) = j := Int.toNat_natCast j
    rw [e0]
    have hr : 0 ≤ (j : Int) ∧ (j : Int) < ((lt : Nat) : Int) := by omega
    refine ⟨hr, nnE2 haq ⟨_, _, _, e2, CallR.mono (rnewT_ok hR.1 hR.2) ?_⟩⟩
    rintro v w8 ⟨hk8, ⟨hbad, _⟩ | ⟨_, b, F, R, rfl, hO, hFR⟩⟩
    · exact absurd (hck.ts ts[j] (List.getElem_mem hj')).2 hbad
    refine ⟨_, _, rfl, hr, nnE2 haq ⟨_, hk8.cell e1 fun e => e, ?_⟩⟩
    intro w9
    have ht9 : Blk w9 w8.heap.size (thC ts[j].1 .scr b) := Blk.alloc _ _ _
    have hk9 : Kept No w8 w9 := Kept.alloc _ _ _
    have hz9 : w9.heap.size = w8.heap.size + 1 := by simp [w9]
    clear_value w9
    have hOlt := hO.lt
    have hz8 := hk8.size
    have hdis : ∀ z, R z → ¬ F z := by
      obtain ⟨la, ll, lc, sa, sl', sc, es, _, _, _, _, _, _, _, _, _, hRF, _⟩ := hO
      exact hRF
    obtain ⟨L9, p9, st9⟩ := h7.newO (hk8.no hk9) (o := .term ts[j].2 []) (name := ts[j].1) (RefT.keep hO hk9 (fun _ _ e => e) (fun _ _ e => e) : PObjF F R w9 b (.term ts[j].2 [])) (fun z hz => hFR z (.inl hz)) (fun z hz => ⟨hFR z (.inr hz), by have := hOlt z (.inr hz); omega, hdis z hz⟩) ht9 (by omega) (fun e => by have := hOlt _ (.inl e); omega) (fun e => by have := hOlt _ (.inr e); omega)
    obtain ⟨q1, q2, q3⟩ := AK.withT_ok_next hck hj'
    have hT : ts.take (j + 1) = ts.take j ++ [ts[j]] := by rw [List.take_add_one, List.getElem?_eq_getElem hj']; rfl
    generalize hs0 : AK.withT (ts.take j) (AK.withF fs (AK.empty ps)) = s0 at h7 p9 q1 q2 q3
    have hok1 := h7.ok.addT (nm := ts[j].1) (o := .term ts[j].2 []) rfl q1 q2 q3
    have hnmn : (if s0.nob = s0.nob then ts[j].1 else nm s0.nob) = ts[j].1 := if_pos rfl
    have htln : (if s0.nob = s0.nob then w8.heap.size else tl s0.nob) = w8.heap.size := if_pos rfl
    have hadd := padd_ok p9 (i := s0.nob) (by show s0.nob < s0.nob + 1; omega) (by show s0.files.length + s0.terms.length < 256; omega) (fs' := s0.files) (ts' := s0.terms ++ [(ts[j].1, s0.nob)]) (by
      show ((s0.files ++ s0.terms) ++ [(if s0.nob = s0.nob then ts[j].1 else nm s0.nob, s0.nob)]).Perm _
      rw [hnmn, List.append_assoc]) hok1
    rw [htln] at hadd
    refine CallR.mono hadd ?_
    rintro v w10 ⟨rfl, L10, p10, st10⟩
    have heq : AK.withT (ts.take (j + 1)) (AK.withF fs (AK.empty ps)) = s0.addT ts[j].1 (.term ts[j].2 []) := by rw [hT, AK.withT_snoc, hs0]
    have p10' : PagO w10 pk (s0.addT ts[j].1 (.term ts[j].2 [])) L10 (fun i => if i = s0.nob then w8.heap.size else tl i) (fun i => if i = s0.nob then ts[j].1 else nm i) := p10
    rw [← heq] at p10'
    exact ⟨rfl, ⟨by omega, by omega⟩, ⟨j + 1, L10, _, _, rfl, by omega, p10', (st7.trans st9).trans st10⟩, by simp only [ix]; omega⟩
  have hjl : j = ts.length := by omega
  rw [List.take_of_length_le (by omega)] at h7
  exact ⟨pk, L7, tl, nm, rfl, h7, hge7, k7⟩
end Go.Proofs.YtpoaacnnhgebfaaGreat
namespace Go.Proofs.YtpoaacnnhgebfaaGreat
open Go.Lw
theorem PInv.of {s s' : AK} (h : PInv s) (hd : ∀ y ∈ s'.descs, ∃ x ∈ s.descs, y.num = x.num ∧ y.ob = x.ob ∧ y.fl = x.fl) (ho : ∀ i bs e0 e1, s'.objs i = .pipe bs e0 e1 → ∃ bs', s.objs i = .pipe bs' e0 e1) : PInv s' := by
  refine ⟨fun y hy bs e0 e1 he => ?_, fun y hy z hz hob hk hfl => ?_⟩
  · obtain ⟨x, hx, e1', e2, e3⟩ := hd y hy
    obtain ⟨bs', hb⟩ := ho _ _ _ _ he
    rw [e2] at hb
    rw [e3]; exact h.en x hx _ _ _ hb
  · obtain ⟨x, hx, a1, a2, a3⟩ := hd y hy
    obtain ⟨u, hu, b1, b2, b3⟩ := hd z hz
    have hcon : (s.objs x.ob).kd = .con := by
      cases hs : s'.objs y.ob with
      | file bs => rw [hs] at hk; cases hk
      | term LL scr => rw [hs] at hk; cases hk
      | pipe bs e0 e1 =>
        obtain ⟨bs', hb⟩ := ho _ _ _ _ hs
        rw [← a2, hb]; rfl
    rw [a1, b1]
    exact h.un x hx u hu (by rw [← a2, ← b2]; exact hob) hcon (by rw [← a3, ← b3]; exact hfl)
theorem PInv.new (fs : List (ByteArray × List Int)) (ts : List (ByteArray × List (List Int))) (ps : List (Int × Int)) : PInv (AK.new fs ts ps) := by
  have hd : (AK.new fs ts ps).descs = [] := (AK.new_is _ _ _).2.2.1
  exact ⟨fun x hx => (by rw [hd] at hx; cases hx), fun x hx => (by rw [hd] at hx; cases hx)⟩
theorem setD_like {s : AK} {d a b : Int} : ∀ y ∈ (s.setD d a b).descs, ∃ x ∈ s.descs, y.num = x.num ∧ y.ob = x.ob ∧ y.fl = x.fl := by
  intro y hy
  obtain ⟨x, hx, ⟨_, rfl⟩ | ⟨_, rfl⟩⟩ := AK.setD_mem hy
  · exact ⟨x, hx, rfl, rfl, rfl⟩
  · exact ⟨y, hx, rfl, rfl, rfl⟩
theorem same_like (s : AK) : ∀ y ∈ s.descs, ∃ x ∈ s.descs, y.num = x.num ∧ y.ob = x.ob ∧ y.fl = x.fl := fun y hy => ⟨y, hy, rfl, rfl, rfl⟩
theorem PInv.setD {s : AK} (h : PInv s) (d a b : Int) : PInv (s.setD d a b) := h.of setD_like fun i bs e0 e1 he => ⟨bs, he⟩
theorem PInv.met0 {s : AK} (h : PInv s) : PInv s.met0 := h.of (same_like s) fun i bs e0 e1 he => ⟨bs, he⟩
theorem PInv.met1 {s : AK} (h : PInv s) : PInv s.met1 := h.of (same_like s) fun i bs e0 e1 he => ⟨bs, he⟩
theorem PInv.setO {s : AK} (h : PInv s) (i : Nat) {o : AObj} (ho : ∀ bs e0 e1, o = .pipe bs e0 e1 → ∃ bs', s.objs i = .pipe bs' e0 e1) : PInv (s.setO i o) := h.of (same_like s) fun j bs e0 e1 he => by
  have he : (if j = i then o else s.objs j) = .pipe bs e0 e1 := he
  by_cases e : j = i
  · rw [if_pos e] at he; rw [e]; exact ho _ _ _ he
  · rw [if_neg e] at he; exact ⟨bs, he⟩
theorem PInv.read {s : AK} (h : PInv s) (d n : Int) : PInv (s.read d n).2.2 := by
  rcases AK.read_cases s d n with ⟨e, _, hr⟩ | ⟨hr, _⟩ | ⟨x, hx, _, _, _, _, ⟨_, hr⟩ | ⟨_, hr⟩⟩
  · rw [hr]; exact h
  · rw [hr]; exact h
  · rw [hr]; exact h.met0
  · rw [hr]
    dsimp only
    unfold AK.rdO
    cases ho : s.met0.objs x.ob with
    | file bs => exact h.met0.setD _ _ _
    | term LL scr => exact h.met0.setO _ fun bs e0 e1 e => by cases e
    | pipe bs e0 e1 => exact h.met0.setO _ fun bs' f0 f1 e => by cases e; exact ⟨bs, ho⟩
theorem PInv.write {s : AK} (h : PInv s) (d : Int) (ds : List Int) : PInv (s.write d ds).2.2 := by
  unfold AK.write
  split
  · exact h
  split
  · exact h
  split
  · exact h
  split
  · exact h
  · rename_i x _
    split
    · exact h
    split
    · exact h.met1
    · dsimp only
      generalize min (metF s.ps ds.length).1 (s.roomO x ds.length).1 = m
      unfold AK.wrO
      cases ho : s.met1.objs x.ob with
      | file bs => exact (h.met1.setO _ fun bs' e0 e1 e => by cases e).setD _ _ _
      | term LL scr => exact h.met1.setO _ fun bs' e0 e1 e => by cases e
      | pipe bs e0 e1 => exact h.met1.setO _ fun bs' f0 f1 e => by cases e; exact ⟨bs, ho⟩
theorem PInv.keep {s : AK} (h : PInv s) (d : Int) : PInv (s.keep d).2 := by
  unfold AK.keep
  split
  · exact h
  split
  · exact h
  · split
    · exact h
    · exact h.setD _ _ _
theorem PInv.drop {s : AK} (h : PInv s) (d : Int) : PInv (s.drop d).2 := by
  unfold AK.drop
  split
  · exact h
  split
  · exact h
  · rename_i x hx
    split
    · obtain ⟨hxm, hxn⟩ := AK.desc_some hx
      have hmem : ∀ y ∈ (s.delD d).descs, y ∈ s.descs ∧ y.num ≠ d := fun y hy => by
        have hy : y ∈ s.descs.filter fun x => decide (x.num ≠ d) := hy
        rw [List.mem_filter] at hy
        exact ⟨hy.1, by simpa using hy.2⟩
      have hdel : PInv (s.delD d) := h.of (fun y hy => ⟨y, (hmem y hy).1, rfl, rfl, rfl⟩) fun i bs e0 e1 he => ⟨bs, he⟩
      dsimp only
      unfold AK.leave
      cases ho : (s.delD d).objs x.ob with
      | file bs => exact hdel
      | term LL scr => exact hdel
      | pipe bs e0 e1 =>
        have ho : s.objs x.ob = .pipe bs e0 e1 := ho
        have hxe := h.en x hxm _ _ _ ho
        refine ⟨fun y hy bs' f0 f1 he => ?_, fun y hy z hz hob hk hfl => ?_⟩
        · obtain ⟨hy1, hy2⟩ := hmem y hy
          have he : (if y.ob = x.ob then AObj.pipe bs (leaveP (bitI x.fl 2 != 0) e0 e1).2.1 (leaveP (bitI x.fl 2 != 0) e0 e1).2.2 else s.objs y.ob) = .pipe bs' f0 f1 := he
          by_cases e : y.ob = x.ob
          · rw [if_pos e] at he
            simp only [AObj.pipe.injEq] at he
            obtain ⟨_, rfl, rfl⟩ := he
            have hye := h.en y hy1 _ _ _ (by rw [e]; exact ho)
            have hfl : y.fl ≠ x.fl := fun e2 => hy2 (by rw [h.un y hy1 x hxm e (by rw [e, ho]; rfl) e2, hxn])
            unfold leaveP
            rcases hxe with ⟨a, b⟩ | ⟨a, b⟩
            · have hb : (bitI x.fl 2 != 0) = false := by rw [a]; kernel_rfl
              rw [hb]
              rcases hye with ⟨c, _⟩ | ⟨c, c2⟩
              · exact absurd (c.trans a.symm) hfl
              · refine .inr ⟨c, ?_⟩
                simp only [Bool.false_eq_true, if_false]
                split <;> exact c2
            · have hb : (bitI x.fl 2 != 0) = true := by rw [a]; kernel_rfl
              rw [hb]
              rcases hye with ⟨c, c2⟩ | ⟨c, _⟩
              · refine .inl ⟨c, ?_⟩
                simp only [if_true]
                split <;> exact c2
              · exact absurd (c.trans a.symm) hfl
          · rw [if_neg e] at he
            exact h.en y hy1 _ _ _ he
        · obtain ⟨hy1, hy2⟩ := hmem y hy
          obtain ⟨hz1, _⟩ := hmem z hz
          refine h.un y hy1 z hz1 hob ?_ hfl
          have hk : (if y.ob = x.ob then AObj.pipe bs (leaveP (bitI x.fl 2 != 0) e0 e1).2.1 (leaveP (bitI x.fl 2 != 0) e0 e1).2.2 else s.objs y.ob).kd = .con := hk
          by_cases e : y.ob = x.ob
          · rw [e, ho]; rfl
          · rw [if_neg e] at hk; exact hk
    · exact h.setD _ _ _
theorem PInv.newD {s : AK} (h : PInv s) {i : Nat} (hk : (s.objs i).kd ≠ .con) (fl : Int) : PInv (s.newD i fl) := by
  have hm : ∀ y ∈ (s.newD i fl).descs, y ∈ s.descs ∨ y.ob = i := fun y hy => by
    have hy : y ∈ s.descs ++ [(⟨s.next, i, fl, 0, 1⟩ : AD)] := hy
    rcases List.mem_append.1 hy with e | e
    · exact .inl e
    · rw [List.mem_singleton] at e; subst e; exact .inr rfl
  refine ⟨fun y hy bs e0 e1 he => ?_, fun y hy z hz hob hkk hfl => ?_⟩
  · have he : s.objs y.ob = .pipe bs e0 e1 := he
    rcases hm y hy with e | e
    · exact h.en y e _ _ _ he
    · rw [e] at he; rw [he] at hk; exact absurd rfl hk
  · have hkk : (s.objs y.ob).kd = .con := hkk
    rcases hm y hy with e | e
    · rcases hm z hz with e2 | e2
      · exact h.un y e z e2 hob hkk hfl
      · rw [hob, e2] at hkk; exact absurd hkk hk
    · rw [e] at hkk; exact absurd hkk hk
theorem PInv.newO {s : AK} (h : PInv s) (hok : s.Ok) (o : AObj) : PInv (s.newO o) := by
  have hob : ∀ y ∈ s.descs, (s.newO o).objs y.ob = s.objs y.ob := fun y hy => AK.newO_old s o (hok.di y hy).1
  refine ⟨fun y hy bs e0 e1 he => ?_, fun y hy z hz hobb hkk hfl => ?_⟩
  · rw [hob y hy] at he; exact h.en y hy _ _ _ he
  · rw [hob y hy] at hkk; exact h.un y hy z hz hobb hkk hfl
theorem PInv.open_ {s : AK} (h : PInv s) (hok : s.Ok) (name : ByteArray) (fl : Int) : PInv (s.open_ name fl).2.2 := by
  unfold AK.open_
  split
  · exact h
  · dsimp only
    unfold AK.openS
    split
    · rename_i t ht
      exact h.newD (by rw [(hok.ti t (AK.termOf_some ht).1).2]; simp) fl
    · split
      · rename_i f hf
        have hk := (hok.fi f (AK.fileOf_some hf).1).2
        split
        · refine PInv.newD (h.setO f.2 fun bs e0 e1 e => by cases e) ?_ fl
          rw [AK.objs_setO_same]; simp [AObj.kd]
        · exact h.newD (by rw [hk]; simp) fl
      · have h1 : PInv { s.newO (.file []) with files := s.files ++ [(name, s.nob)] } := (h.newO hok (.file [])).of (same_like _) fun i bs e0 e1 he => ⟨bs, he⟩
        refine h1.newD ?_ fl
        show ((s.newO (.file [])).objs s.nob).kd ≠ _
        rw [AK.objs_newO_new]; simp [AObj.kd]
theorem PInv.pipe {s : AK} (h : PInv s) (hok : s.Ok) : PInv s.pipe.2.2.2 := by
  unfold AK.pipe
  split
  · exact h
  · dsimp only
    have hm : ∀ y ∈ (((s.newO (.pipe [] 1 1)).newD s.nob 1).newD s.nob 2).descs, (y ∈ s.descs ∧ y.ob < s.nob) ∨ (y.ob = s.nob ∧ y.fl = 1 ∧ y.num = s.next) ∨ (y.ob = s.nob ∧ y.fl = 2 ∧ y.num = s.next + 1) := fun y hy => by
      have hy : y ∈ (s.descs ++ [(⟨s.next, s.nob, 1, 0, 1⟩ : AD)]) ++ [(⟨s.next + 1, s.nob, 2, 0, 1⟩ : AD)] := hy
      rcases List.mem_append.1 hy with e | e
      · rcases List.mem_append.1 e with e | e
        · exact .inl ⟨e, (hok.di y e).1⟩
        · rw [List.mem_singleton] at e; subst e; exact .inr (.inl ⟨rfl, rfl, rfl⟩)
      · rw [List.mem_singleton] at e; subst e; exact .inr (.inr ⟨rfl, rfl, rfl⟩)
    have hobj : ∀ i, (((s.newO (.pipe [] 1 1)).newD s.nob 1).newD s.nob 2).objs i = if i = s.nob then .pipe [] 1 1 else s.objs i := fun i => rfl
    refine ⟨fun y hy bs e0 e1 he => ?_, fun y hy z hz hob hkk hfl => ?_⟩
    · rw [hobj] at he
      rcases hm y hy with ⟨e, e2⟩ | ⟨e, e2, _⟩ | ⟨e, e2, _⟩
      · rw [if_neg (by omega)] at he
        exact h.en y e _ _ _ he
      · rw [if_pos e] at he; cases he; exact .inl ⟨e2, by omega⟩
      · rw [if_pos e] at he; cases he; exact .inr ⟨e2, by omega⟩
    · rw [hobj] at hkk
      rcases hm y hy with ⟨e, e2⟩ | ⟨e, e2, e3⟩ | ⟨e, e2, e3⟩
      · rw [if_neg (by omega)] at hkk
        rcases hm z hz with ⟨g, g2⟩ | ⟨g, _⟩ | ⟨g, _⟩
        · exact h.un y e z g hob hkk hfl
        · omega
        · omega
      · rcases hm z hz with ⟨g, g2⟩ | ⟨g, g2, g3⟩ | ⟨g, g2, _⟩
        · omega
        · rw [e3, g3]
        · rw [e2, g2] at hfl; cases hfl
      · rcases hm z hz with ⟨g, g2⟩ | ⟨g, g2, _⟩ | ⟨g, g2, g3⟩
        · omega
        · rw [e2, g2] at hfl; cases hfl
        · rw [e3, g3]
theorem files_eq {s : AK} (hok : s.Ok) {T : List (ByteArray × Nat)} (hp : T.Perm (s.files ++ s.terms)) (hs : T.Pairwise nmLe) : ofK s .disk dataO T = s.filesV := by
  have hF : (T.filter fun t => decide ((s.objs t.2).kd = .disk)).Perm s.files := by
    have h1 := hp.filter fun t => decide ((s.objs t.2).kd = .disk)
    rw [List.filter_append] at h1
    have h2 : s.files.filter (fun t => decide ((s.objs t.2).kd = .disk)) = s.files := List.filter_eq_self.2 fun t ht => by simp [(hok.fi t ht).2]
    have h3 : s.terms.filter (fun t => decide ((s.objs t.2).kd = .disk)) = [] := List.filter_eq_nil_iff.2 fun t ht => by simp [(hok.ti t ht).2]
    rw [h2, h3, List.append_nil] at h1
    exact h1
  have hFs : (T.filter fun t => decide ((s.objs t.2).kd = .disk)).Pairwise nmLe := hs.filter _
  unfold ofK
  generalize T.filter (fun t => decide ((s.objs t.2).kd = .disk)) = F at hF hFs
  have e1 : sortN (s.files.map (·.1)) = F.map (·.1) := by
    rw [← sortN_of_perm (hF.map (·.1))]
    unfold sortN
    rw [List.mergeSort_of_pairwise, strL_dataL]
    unfold dataL
    rw [List.map_map, List.pairwise_map]
    exact hFs.imp fun {a b : ByteArray × Nat} (h : nmLe a b) => @decide_eq_true (a.1.data.toList ≤ b.1.data.toList) _ h
  unfold AK.filesV
  rw [e1, List.map_map]
  refine List.map_congr_left fun t ht => ?_
  have htf := hF.mem_iff.1 ht
  show (t.1, dataO (s.objs t.2)) = (t.1, s.bytesOf t.1)
  unfold AK.bytesOf
  rw [AK.fileOf_mem hok htf]
theorem screen_mem {s : AK} (hok : s.Ok) {T : List (ByteArray × Nat)} (hp : T.Perm (s.files ++ s.terms)) {f : ByteArray × List Int} (hf : f ∈ ofK s .scr scrO T) : s.screenV f.1 = (f.2, true) := by
  unfold ofK at hf
  obtain ⟨t, ht, rfl⟩ := List.mem_map.1 hf
  rw [List.mem_filter] at ht
  obtain ⟨ht1, ht2⟩ := ht
  have ht2 : (s.objs t.2).kd = .scr := by simpa using ht2
  have htt : t ∈ s.terms := by
    rcases List.mem_append.1 (hp.mem_iff.1 ht1) with e | e
    · rw [(hok.fi t e).2] at ht2; cases ht2
    · exact e
  unfold AK.screenV
  rw [AK.termOf_mem hok.tn htt]
end Go.Proofs.YtpoaacnnhgebfaaGreat
namespace Go.Proofs.YtpoaacnnhgebfaaGreat
open Go.Lw
namespace AK
theorem find_err (s : AK) (d way : Int) : s.find d way ≠ 22 ∧ s.find d way ≠ 23 := by
  unfold find
  split
  · exact ⟨by decide, by decide⟩
  · split <;> exact ⟨by decide, by decide⟩
theorem metF_has {ps : List (Int × Int)} {n : Int} (h : (metF ps n).2 ≠ 0) : 1 ≤ ps.length := by
  cases ps with
  | nil => exact absurd rfl h
  | cons f r => simp
theorem rdO_ps {s : AK} {x : AD} {n : Int} : (s.rdO x n).2.ps = s.ps := by
  unfold rdO
  split <;> rfl
theorem wrO_ps {s : AK} {x : AD} {ds : List Int} {m : Int} : (s.wrO x ds m).2.ps = s.ps := by
  unfold wrO
  split <;> rfl
theorem read_pot (s : AK) (d n : Int) : (s.read d n).2.2.ps.length ≤ s.ps.length ∧ (s.read d n).2.2.c0 + ((s.read d n).2.2.ps.length : Int) ≤ s.c0 + (s.ps.length : Int) + 1 ∧
    ((s.read d n).2.1 = 22 ∨ (s.read d n).2.1 = 23 → (s.read d n).2.2.ps.length + 1 ≤ s.ps.length ∧ (s.read d n).2.2.c0 + ((s.read d n).2.2.ps.length : Int) ≤ s.c0 + (s.ps.length : Int)) := by
  have hf := find_err s d 1
  have same : ∀ e : Int, e ≠ 22 → e ≠ 23 → s.ps.length ≤ s.ps.length ∧ s.c0 + (s.ps.length : Int) ≤ s.c0 + (s.ps.length : Int) + 1 ∧ (e = 22 ∨ e = 23 → s.ps.length + 1 ≤ s.ps.length ∧ s.c0 + (s.ps.length : Int) ≤ s.c0 + (s.ps.length : Int)) := fun e h1 h2 => ⟨Nat.le_refl _, by omega, fun h => by omega⟩
  unfold read
  split
  · exact same _ hf.1 hf.2
  · split
    · exact same 4 (by decide) (by decide)
    · split
      · exact same 0 (by decide) (by decide)
      · split
        · exact same 64 (by decide) (by decide)
        · rename_i x hx
          split
          · exact same 52 (by decide) (by decide)
          · split
            · rename_i hm
              have h1 := metF_has hm
              have e1 : s.met0.ps.length = s.ps.length - 1 := by show (s.ps.drop 1).length = _; rw [List.length_drop]
              have e2 : s.met0.c0 = s.c0 + 1 := rfl
              exact ⟨by dsimp only; omega, by dsimp only; omega, fun _ => ⟨by dsimp only; omega, by dsimp only; omega⟩⟩
            · have e1 : s.met0.ps.length = s.ps.length - 1 := by show (s.ps.drop 1).length = _; rw [List.length_drop]
              have e2 : s.met0.c0 = s.c0 + 1 := rfl
              obtain ⟨q1, q2, q3, q4, q5, q6⟩ := @rdO_cs s.met0 x (metF s.ps n).1
              exact ⟨by dsimp only; rw [rdO_ps]; omega, by dsimp only; rw [rdO_ps]; omega, fun h => by dsimp only at h; omega⟩
theorem someN_pot : ∀ (k : Nat) (s : AK) (d n : Int), (someN k s d n).2.2.ps.length ≤ s.ps.length ∧ (someN k s d n).2.2.c0 + ((someN k s d n).2.2.ps.length : Int) ≤ s.c0 + (s.ps.length : Int) + 1
  | 0, s, d, n => ⟨Nat.le_refl _, by show s.c0 + (s.ps.length : Int) ≤ _; omega⟩
  | k + 1, s, d, n => by
    obtain ⟨p1, p2, p3⟩ := read_pot s d n
    obtain ⟨q1, q2⟩ := someN_pot k (s.read d n).2.2 d n
    unfold someN
    split
    · rename_i h
      obtain ⟨p4, p5⟩ := p3 h
      exact ⟨by omega, by omega⟩
    · exact ⟨p1, p2⟩
theorem rsome_pot (s : AK) (d n : Int) : (s.rsome d n).2.2.ps.length ≤ s.ps.length ∧ (s.rsome d n).2.2.c0 + ((s.rsome d n).2.2.ps.length : Int) ≤ s.c0 + (s.ps.length : Int) + 1 := by
  unfold rsome
  split
  · exact ⟨Nat.le_refl _, by dsimp only; omega⟩
  · exact someN_pot 8192 s d n
theorem allN_pot : ∀ (k : Nat) (s : AK) (d n : Int) (acc : List Int), (acc.length : Int) < n → (allN k s d n acc).2.2.ps.length ≤ s.ps.length ∧ (allN k s d n acc).2.2.c0 + ((allN k s d n acc).2.2.ps.length : Int) ≤ s.c0 + (s.ps.length : Int) + (n - (acc.length : Int))
  | 0, s, d, n, acc, h => ⟨Nat.le_refl _, by show s.c0 + (s.ps.length : Int) ≤ _; omega⟩
  | k + 1, s, d, n, acc, h => by
    obtain ⟨p1, p2⟩ := rsome_pot s d (n - (acc.length : Int))
    rw [allN_succ]
    split
    · rename_i hc
      obtain ⟨c1, c2, c3⟩ := hc
      have hl : (acc ++ (s.rsome d (n - (acc.length : Int))).1).length = acc.length + (s.rsome d (n - (acc.length : Int))).1.length := List.length_append
      obtain ⟨q1, q2⟩ := allN_pot k (s.rsome d (n - (acc.length : Int))).2.2 d n (acc ++ (s.rsome d (n - (acc.length : Int))).1) (by rw [hl]; exact c3)
      rw [hl] at q2
      exact ⟨by omega, by omega⟩
    · exact ⟨by dsimp only; omega, by dsimp only; omega⟩
theorem rall_pot (s : AK) (d n : Int) : (s.rall d n).2.2.ps.length ≤ s.ps.length ∧ (s.rall d n).2.2.c0 + ((s.rall d n).2.2.ps.length : Int) ≤ s.c0 + (s.ps.length : Int) + 1048576 := by
  have same : s.ps.length ≤ s.ps.length ∧ s.c0 + (s.ps.length : Int) ≤ s.c0 + (s.ps.length : Int) + 1048576 := ⟨Nat.le_refl _, by omega⟩
  by_cases h : n < 1 ∨ n > 1048576
  · have hr : s.rsome d n = ([], 4, s) := by unfold rsome; rw [if_pos h]
    have : s.rall d n = ([], 4, s) := by
      show allN (n.toNat + 1) s d n [] = _
      rw [allN_succ]
      simp only [List.length_nil, Int.natCast_zero, Int.sub_zero, hr]
      rfl
    rw [this]
    exact same
  · obtain ⟨q1, q2⟩ := allN_pot (n.toNat + 1) s d n [] (by simp; omega)
    simp only [List.length_nil, Int.natCast_zero, Int.sub_zero] at q2
    exact ⟨q1, by show (allN (n.toNat + 1) s d n []).2.2.c0 + ((allN (n.toNat + 1) s d n []).2.2.ps.length : Int) ≤ _; omega⟩
theorem roomD_pos {p n : Int} (h : (roomD p n).2 = 0) (hn : 1 ≤ n) : 1 ≤ (roomD p n).1 ∧ (roomD p n).1 ≤ n := by
  unfold roomD at h ⊢
  split at h
  · rename_i hp
    rw [if_pos hp]
    unfold mn
    split <;> (dsimp only; omega)
  · cases h
theorem write_pot {s : AK} (hok : s.Ok) (hp : ∀ p ∈ s.ps, mayP p) (d : Int) (ds : List Int) : (s.write d ds).2.2.ps.length ≤ s.ps.length ∧ (s.write d ds).2.2.c1 + ((s.write d ds).2.2.ps.length : Int) ≤ s.c1 + (s.ps.length : Int) + 1 ∧
    ((s.write d ds).2.1 = 22 ∨ (s.write d ds).2.1 = 23 → (s.write d ds).2.2.ps.length + 1 ≤ s.ps.length ∧ (s.write d ds).2.2.c1 + ((s.write d ds).2.2.ps.length : Int) ≤ s.c1 + (s.ps.length : Int)) ∧
    ((s.write d ds).2.1 = 0 → 0 ≤ (s.write d ds).1 ∧ (s.write d ds).1 ≤ (ds.length : Int) ∧ (1 ≤ ds.length → 1 ≤ (s.write d ds).1)) := by
  have hf := find_err s d 2
  have same : ∀ e : Int, e ≠ 22 → e ≠ 23 → e ≠ 0 → s.ps.length ≤ s.ps.length ∧ s.c1 + (s.ps.length : Int) ≤ s.c1 + (s.ps.length : Int) + 1 ∧ (e = 22 ∨ e = 23 → s.ps.length + 1 ≤ s.ps.length ∧ s.c1 + (s.ps.length : Int) ≤ s.c1 + (s.ps.length : Int)) ∧ (e = 0 → (0 : Int) ≤ 0 ∧ (0 : Int) ≤ (ds.length : Int) ∧ (1 ≤ ds.length → (1 : Int) ≤ 0)) := fun e h1 h2 h3 => ⟨Nat.le_refl _, by omega, fun h => by omega, fun h => absurd h h3⟩
  unfold write
  split
  · rename_i h; exact same _ hf.1 hf.2 h
  · split
    · exact same 5 (by decide) (by decide) (by decide)
    · split
      · rename_i hz
        exact ⟨Nat.le_refl _, by dsimp only; omega, fun h => by dsimp only at h; omega, fun _ => ⟨by dsimp only; omega, by dsimp only; omega, fun h => by omega⟩⟩
      · split
        · exact same 64 (by decide) (by decide) (by decide)
        · rename_i hl hz _ x hx
          split
          · rename_i hr
            refine same _ ?_ ?_ hr
            · unfold roomO roomD roomC; repeat' split
              all_goals (first | decide | (dsimp only; decide))
            · unfold roomO roomD roomC; repeat' split
              all_goals (first | decide | (dsimp only; decide))
          · rename_i hr
            have e1 : s.met1.ps.length = s.ps.length - 1 := by show (s.ps.drop 1).length = _; rw [List.length_drop]
            have e2 : s.met1.c1 = s.c1 + 1 := rfl
            split
            · rename_i hm
              have h1 := metF_has hm
              exact ⟨by dsimp only; omega, by dsimp only; omega, fun _ => ⟨by dsimp only; omega, by dsimp only; omega⟩, fun h => absurd h hm⟩
            · rename_i hm
              have hm : (metF s.ps (ds.length : Int)).2 = 0 := by simpa using hm
              have hr : (s.roomO x (ds.length : Int)).2 = 0 := by simpa using hr
              obtain ⟨b1, b2⟩ := metF_bound hp (n := (ds.length : Int)) (by omega) (by omega) hm
              obtain ⟨q1, q2, q3, q4⟩ : (s.met1.wrO x ds (min (metF s.ps (ds.length : Int)).1 (s.roomO x (ds.length : Int)).1)).2.c1 = s.met1.c1 ∧ 0 ≤ (s.met1.wrO x ds (min (metF s.ps (ds.length : Int)).1 (s.roomO x (ds.length : Int)).1)).1 ∧ (s.met1.wrO x ds (min (metF s.ps (ds.length : Int)).1 (s.roomO x (ds.length : Int)).1)).1 ≤ (ds.length : Int) ∧ 1 ≤ (s.met1.wrO x ds (min (metF s.ps (ds.length : Int)).1 (s.roomO x (ds.length : Int)).1)).1 := by
                generalize (metF s.ps (ds.length : Int)).1 = m at b1 b2
                refine ⟨wrO_cs.2.1, ?_⟩
                have eo : s.met1.objs = s.objs := rfl
                have hn : 1 ≤ ds.length := by omega
                unfold roomO at hr
                unfold wrO roomO
                rw [eo]
                cases ho : s.objs x.ob with
                | file bs =>
                  rw [ho] at hr
                  dsimp only at hr ⊢
                  have key := roomD_pos hr (by omega)
                  generalize (roomD (placeF x.fl x.at_ bs) (ds.length : Int)).1 = r at key
                  exact ⟨by omega, by omega, by omega⟩
                | term LL scr =>
                  rw [ho] at hr
                  dsimp only at hr ⊢
                  have key := roomD_pos hr (by omega)
                  generalize (roomD (scr.length : Int) (ds.length : Int)).1 = r at key
                  exact ⟨by omega, by omega, by omega⟩
                | pipe bs e0 e1 =>
                  rw [ho] at hr
                  dsimp only at hr ⊢
                  unfold roomC at hr ⊢
                  split at hr
                  · cases hr
                  rename_i he0
                  split at hr
                  · cases hr
                  rename_i hw
                  rw [if_neg he0, if_neg hw]
                  have hw : canWP (ds.length : Int) bs e0 e1 = true := by simpa using hw
                  unfold canWP at hw
                  obtain ⟨w1, w2, w3, w4⟩ := of_decide_eq_true hw
                  have w4 : takesP bs.length (ds.length : Int) > 0 := by
                    rcases w4 with e | e
                    · exact absurd e he0
                    · exact e
                  have hle : takesP bs.length (ds.length : Int) ≤ (ds.length : Int) := by
                    unfold takesP
                    split
                    · omega
                    · exact Int.min_le_left _ _
                  unfold writeP
                  dsimp only
                  rw [if_neg (by omega), if_neg (by omega), if_neg (by omega), if_neg he0, if_neg (by intro e; rw [e] at hn; simp at hn), if_neg (by omega)]
                  dsimp only
                  unfold wtk
                  split
                  · exact ⟨by omega, by omega, by omega⟩
                  · exact ⟨by omega, by omega, by omega⟩
              exact ⟨by dsimp only; rw [wrO_ps]; omega, by dsimp only; rw [wrO_ps]; omega, fun h => by dsimp only at h; omega, fun _ => ⟨q2, q3, fun _ => q4⟩⟩
end AK
end Go.Proofs.YtpoaacnnhgebfaaGreat
namespace Go.Proofs.YtpoaacnnhgebfaaGreat
open Go.Lw
namespace AK
theorem someN_inv : ∀ (k : Nat) (s : AK) (d n : Int), PInv s → PInv (someN k s d n).2.2
  | 0, s, d, n, h => h
  | k + 1, s, d, n, h => by
    unfold someN
    split
    · exact someN_inv k _ d n (h.read d n)
    · exact h.read d n
theorem rsome_inv {s : AK} (h : PInv s) (d n : Int) : PInv (s.rsome d n).2.2 := by
  unfold rsome
  split
  · exact h
  · exact someN_inv 8192 s d n h
theorem allN_all : ∀ (k : Nat) (s : AK) (d n : Int) (acc : List Int), (PInv s → PInv (allN k s d n acc).2.2) ∧ (allN k s d n acc).2.2.c1 = s.c1 ∧ (allN k s d n acc).2.2.next = s.next ∧ ((acc.length : Int) < n → n ≤ 1048576 → ((allN k s d n acc).1.length : Int) ≤ n)
  | 0, s, d, n, acc => ⟨id, rfl, rfl, fun h _ => Int.le_of_lt h⟩
  | k + 1, s, d, n, acc => by
    obtain ⟨_, _, p1, p2, _⟩ := rsome_cs s d (n - (acc.length : Int))
    rw [allN_succ]
    have hl : (acc ++ (s.rsome d (n - (acc.length : Int))).1).length = acc.length + (s.rsome d (n - (acc.length : Int))).1.length := List.length_append
    split
    · rename_i hc
      obtain ⟨q1, q2, q3, q4⟩ := allN_all k (s.rsome d (n - (acc.length : Int))).2.2 d n (acc ++ (s.rsome d (n - (acc.length : Int))).1)
      exact ⟨fun h => q1 (rsome_inv h _ _), q2.trans p1, q3.trans p2, fun h h2 => q4 (by rw [hl]; exact hc.2.2) h2⟩
    · refine ⟨fun h => rsome_inv h _ _, p1, p2, fun h h2 => ?_⟩
      show ((acc ++ (s.rsome d (n - (acc.length : Int))).1).length : Int) ≤ n
      rw [hl]
      by_cases e : (s.rsome d (n - (acc.length : Int))).2.1 = 0
      · have := rsome_len e; omega
      · rw [rsome_err e]; simp; omega
theorem rsome_le (s : AK) (d n : Int) : (s.rsome d n).1.length ≤ 1048576 := by
  by_cases e : (s.rsome d n).2.1 = 0
  · have := rsome_len e; omega
  · rw [rsome_err e]; simp
theorem rall_all (s : AK) (d n : Int) : (PInv s → PInv (s.rall d n).2.2) ∧ (s.rall d n).2.2.c1 = s.c1 ∧ (s.rall d n).2.2.next = s.next ∧ (s.rall d n).1.length ≤ 1048576 := by
  obtain ⟨q1, q2, q3, q4⟩ := allN_all (n.toNat + 1) s d n []
  refine ⟨q1, q2, q3, ?_⟩
  by_cases h : n < 1 ∨ n > 1048576
  · have hr : s.rsome d n = ([], 4, s) := by unfold rsome; rw [if_pos h]
    have : s.rall d n = ([], 4, s) := by
      show allN (n.toNat + 1) s d n [] = _
      rw [allN_succ]
      simp only [List.length_nil, Int.natCast_zero, Int.sub_zero, hr]
      rfl
    rw [this]
    simp
  · have := q4 (by simp; omega) (by omega)
    show (allN (n.toNat + 1) s d n []).1.length ≤ _
    omega
theorem putN_all : ∀ (k : Nat) (s : AK) (d : Int) (b : List Int) (done p : Nat), (PInv s → PInv (putN k s d b done p).2.2) ∧ (putN k s d b done p).2.2.c0 = s.c0 ∧ (putN k s d b done p).2.2.next = s.next
  | 0, s, d, b, done, p => ⟨id, rfl, rfl⟩
  | k + 1, s, d, b, done, p => by
    obtain ⟨p1, _, _, p2, _⟩ := write_cs s d (b.drop done)
    have inv : PInv s → PInv (s.write d (b.drop done)).2.2 := fun h => h.write d (b.drop done)
    have next : ∀ done' p', (PInv s → PInv (putN k (s.write d (b.drop done)).2.2 d b done' p').2.2) ∧ (putN k (s.write d (b.drop done)).2.2 d b done' p').2.2.c0 = s.c0 ∧ (putN k (s.write d (b.drop done)).2.2 d b done' p').2.2.next = s.next := fun done' p' => by
      obtain ⟨q1, q2, q3⟩ := putN_all k (s.write d (b.drop done)).2.2 d b done' p'
      exact ⟨fun h => q1 (inv h), q2.trans p1, q3.trans p2⟩
    rw [putN_succ]
    split
    · exact ⟨id, rfl, rfl⟩
    · split
      · split
        · exact ⟨inv, p1, p2⟩
        · exact next _ _
      · split
        · exact ⟨inv, p1, p2⟩
        · split
          · exact ⟨inv, p1, p2⟩
          · exact next _ _
theorem rput_all (s : AK) (d : Int) (b : List Int) : (PInv s → PInv (s.rput d b).2.2) ∧ (s.rput d b).2.2.c0 = s.c0 ∧ (s.rput d b).2.2.next = s.next := by
  unfold rput
  split
  · exact ⟨id, rfl, rfl⟩
  · exact putN_all _ s d b 0 0
theorem write_ps (s : AK) (d : Int) (ds : List Int) : (s.write d ds).2.2.ps.length ≤ s.ps.length := by
  have e1 : s.met1.ps.length ≤ s.ps.length := by show (s.ps.drop 1).length ≤ _; rw [List.length_drop]; omega
  unfold write
  repeat' split
  all_goals first | exact Nat.le_refl _ | exact e1 | (dsimp only; rw [wrO_ps]; exact e1)
theorem putN_ps : ∀ (k : Nat) (s : AK) (d : Int) (b : List Int) (done p : Nat), (putN k s d b done p).2.2.ps.length ≤ s.ps.length
  | 0, s, d, b, done, p => Nat.le_refl _
  | k + 1, s, d, b, done, p => by
    have h := write_ps s d (b.drop done)
    have next : ∀ done' p', (putN k (s.write d (b.drop done)).2.2 d b done' p').2.2.ps.length ≤ s.ps.length := fun done' p' => Nat.le_trans (putN_ps k _ d b done' p') h
    rw [putN_succ]
    split
    · exact Nat.le_refl _
    · split
      · split
        · exact h
        · exact next _ _
      · split
        · exact h
        · split
          · exact h
          · exact next _ _
theorem rput_ps (s : AK) (d : Int) (b : List Int) : (s.rput d b).2.2.ps.length ≤ s.ps.length := by
  unfold rput
  split
  · exact Nat.le_refl _
  · exact putN_ps _ s d b 0 0
end AK
end Go.Proofs.YtpoaacnnhgebfaaGreat
