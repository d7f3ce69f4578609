/-
  The page's kernel as it lies in memory, over the same value; what stays of it when a part is turned. Conditions: as each says.
  The page's kernel: a description found, a thing by its name, a new description, a new thing. Conditions: as each says.
  The page's kernel: a new description, a new thing, a thing put in its place. Conditions: as each says.
  The page's kernel: a thing put in its place among the named ones. Conditions: as each says.
-/
import Derived.Test.YtpoaacnnhgebfaaGreatGf
import Derived.Test.YtpoaacnnhgebfaaGreatKeP
import Derived.Test.YtpoaacnnhgebfaaGreatLGb
import Derived.Test.YtpoaacnnhgebfaaGreatKf
import Derived.Test.YtpoaacnnhgebfaaGreatKeK
set_option linter.unusedVariables false
namespace Go.Proofs.YtpoaacnnhgebfaaGreat
open Go.Lw

/-- A thing's cells. -/
def thC (nm : ByteArray) (k : TK) (b : Nat) : Array Value := match k with
  | .disk => #[.string nm, .int .i64 1, pd b, .pointer none, .pointer none]
  | .scr => #[.string nm, .int .i64 2, .pointer none, pd b, .pointer none]
  | .con => #[.string nm, .int .i64 3, .pointer none, .pointer none, pd b]

/-- What a thing has, in memory. -/
def PObjF (F R : Nat → Prop) (w : World) (b : Nat) : AObj → Prop
  | .file bs => RefO F w b bs
  | .term LL scr => RefT F R w b LL scr
  | .pipe bs e0 e1 => RefP w b F bs e0 e1

theorem PObjF.keep {F R S : Nat → Prop} {w w' : World} {b : Nat} {o : AObj} (h : PObjF F R w b o) (k : Kept S w w') (hf : ∀ z, F z → ¬ S z) (hr : ∀ z, R z → ¬ S z) : PObjF F R w' b o := by
  cases o with
  | file bs => exact RefO.keep h k hf
  | term LL scr => exact RefT.keep h k hf hr
  | pipe bs e0 e1 => exact RefP.keep h k hf

theorem PObjF.lt {F R : Nat → Prop} {w : World} {b : Nat} {o : AObj} (h : PObjF F R w b o) : ∀ z, F z → z < w.heap.size := by
  cases o with
  | file bs => exact RefO.lt h
  | term LL scr => exact fun z hz => RefT.lt h z (.inl hz)
  | pipe bs e0 e1 => exact h.2.1

theorem PObjF.congr {F F' R R' : Nat → Prop} {w : World} {b : Nat} {o : AObj} (h : PObjF F R w b o) (hf : ∀ z, F z ↔ F' z) (hr : ∀ z, R z ↔ R' z) : PObjF F' R' w b o := by
  have e1 : F = F' := funext fun z => propext (hf z)
  have e2 : R = R' := funext fun z => propext (hr z)
  rw [← e1, ← e2]; exact h

def PObj (L : KL) (w : World) (i : Nat) (o : AObj) : Prop := PObjF (fun z => L.own z = some (.obj i)) (fun z => L.own z = some (.lines i)) w (L.loc i) o

def pdC (n : Int) (t : Nat) (fl at_ hd : Int) : Array Value := #[.int .i64 n, pd t, .int .i64 fl, .int .i64 at_, .int .i64 hd]

def nmLe (a b : ByteArray × Nat) : Prop := a.1.data.toList ≤ b.1.data.toList

/-- The kernel's block, its things by name, its descriptions. -/
structure PKb (w : World) (pk : Nat) (s : AK) (L : KL) (tl : Nat → Nat) (T : List (ByteArray × Nat)) (ta : Option Addr) (tc : Nat) (da : Option Addr) (dc : Nat) : Prop where
  b : Blk w pk #[.slice ta T.length tc, .slice da s.descs.length dc, .int .i64 s.next, pd L.pg, .int .i64 s.c0, .int .i64 s.c1]
  ts : SlO 1 w ta T.length tc (T.map fun t => pd (tl t.2))
  to : ∀ b, inA ta b → L.own b = some .mf
  ds : SlO 1 w da s.descs.length dc (s.descs.map fun d => pd (L.dloc d.num))
  dw : ∀ b, inA da b → L.own b = some .md
  pm : T.Perm (s.files ++ s.terms)
  so : T.Pairwise nmLe

structure PagO (w : World) (pk : Nat) (s : AK) (L : KL) (tl : Nat → Nat) (nm : Nat → ByteArray) : Prop where
  kb : ∃ T ta tc da dc, PKb w pk s L tl T ta tc da dc
  th : ∀ i, i < s.nob → Blk w (tl i) (thC (nm i) (s.objs i).kd (L.loc i)) ∧ L.own (tl i) = some .mt
  nn : ∀ f ∈ s.files ++ s.terms, nm f.2 = f.1
  ob : ∀ i, i < s.nob → PObj L w i (s.objs i)
  ds : ∀ d ∈ s.descs, Blk w (L.dloc d.num) (pdC d.num (tl d.ob) d.fl d.at_ d.hd)
  pl : ∃ a l c, Blk w L.pg #[.slice a l c] ∧ RdS 2 w a l c (Fv s.ps) ∧ ∀ b, inA a b → L.own b = some .flts
  oK : L.own pk = some .kern
  oP : L.own L.pg = some .plan
  od : ∀ d ∈ s.descs, L.own (L.dloc d.num) = some (.desc d.num)
  lt : ∀ k, L.own k ≠ none → k < w.heap.size
  ok : s.Ok

theorem PKb.keep {w w' : World} {pk : Nat} {s : AK} {L : KL} {tl : Nat → Nat} {T : List (ByteArray × Nat)} {ta : Option Addr} {tc : Nat} {da : Option Addr} {dc : Nat} (h : PKb w pk s L tl T ta tc da dc) (hK : L.own pk = some .kern) {S : Nat → Prop} (k : Kept S w w')
    (hS : ∀ z t, S z → L.own z = some t → t ≠ .kern ∧ t ≠ .mf ∧ t ≠ .md) : PKb w' pk s L tl T ta tc da dc :=
  ⟨h.b.keep k fun e => (hS _ _ e hK).1 rfl, h.ts.keep k fun b hb e => (hS _ _ e (h.to b hb)).2.1 rfl, h.to, h.ds.keep k fun b hb e => (hS _ _ e (h.dw b hb)).2.2 rfl, h.dw, h.pm, h.so⟩

theorem PagO.keep {w w' : World} {pk : Nat} {s : AK} {L : KL} {tl : Nat → Nat} {nm : Nat → ByteArray} (h : PagO w pk s L tl nm) {S : Nat → Prop} (k : Kept S w w') (hS : ∀ x, S x → L.own x = none) : PagO w' pk s L tl nm where
  kb := by
    obtain ⟨T, ta, tc, da, dc, hb⟩ := h.kb
    exact ⟨T, ta, tc, da, dc, hb.keep h.oK k fun z t e o => by have := hS z e; rw [o] at this; cases this⟩
  th := fun i hi => ⟨(h.th i hi).1.keep k (fun e => by have := hS _ e; rw [(h.th i hi).2] at this; cases this), (h.th i hi).2⟩
  nn := h.nn
  ob := fun i hi => PObjF.keep (h.ob i hi) k (fun x hx e => by have := hS _ e; rw [hx] at this; cases this) (fun x hx e => by have := hS _ e; rw [hx] at this; cases this)
  ds := fun d hd => (h.ds d hd).keep k fun e => by have := hS _ e; rw [h.od d hd] at this; cases this
  pl := by
    obtain ⟨a, l, c, h1, h2, h3⟩ := h.pl
    exact ⟨a, l, c, h1.keep k (fun e => by have := hS _ e; rw [h.oP] at this; cases this), h2.keep k (fun b _ hb e => by have := hS _ e; rw [h3 b hb] at this; cases this), h3⟩
  oK := h.oK
  oP := h.oP
  od := h.od
  lt := fun x hx => Nat.lt_of_lt_of_le (h.lt x hx) k.size
  ok := h.ok

theorem PagO.no {w w' : World} {pk : Nat} {s : AK} {L : KL} {tl : Nat → Nat} {nm : Nat → ByteArray} (h : PagO w pk s L tl nm) (k : Kept No w w') : PagO w' pk s L tl nm := h.keep k fun _ e => e.elim

theorem PagO.new_none {w : World} {pk : Nat} {s : AK} {L : KL} {tl : Nat → Nat} {nm : Nat → ByteArray} (h : PagO w pk s L tl nm) {z : Nat} (hz : w.heap.size ≤ z) : L.own z = none := by
  cases ho : L.own z with
  | none => rfl
  | some t => have := h.lt z (by rw [ho]; simp); omega

open Classical in
/-- The blocks F are t's, and no others. -/
noncomputable def KL.setT (L : KL) (t : Tag) (F : Nat → Prop) : KL :=
  { L with own := fun z => if F z then some t else if L.own z = some t then none else L.own z }

theorem KL.setT_eq (L : KL) (t : Tag) (F : Nat → Prop) (z : Nat) : (L.setT t F).own z = some t ↔ F z := by
  unfold KL.setT
  dsimp only
  by_cases h : F z
  · simp [h]
  · rw [if_neg h]
    by_cases e : L.own z = some t
    · simp [e, h]
    · rw [if_neg e]; exact ⟨fun h => absurd h e, fun e => absurd e h⟩

theorem KL.setT_ne (L : KL) {t : Tag} {F : Nat → Prop} (hF : ∀ z, F z → L.own z = some t ∨ L.own z = none) (z : Nat) {u : Tag} (hu : u ≠ t) : (L.setT t F).own z = some u ↔ L.own z = some u := by
  unfold KL.setT
  dsimp only
  by_cases h : F z
  · rw [if_pos h]
    rcases hF z h with e | e
    · rw [e]
    · rw [e]; simp [Ne.symm hu]
  · rw [if_neg h]
    by_cases e : L.own z = some t
    · rw [if_pos e, e]; simp [Ne.symm hu]
    · rw [if_neg e]

theorem KL.setT_some (L : KL) (t : Tag) (F : Nat → Prop) {z : Nat} (h : (L.setT t F).own z ≠ none) : F z ∨ L.own z ≠ none := by
  unfold KL.setT at h
  dsimp only at h
  by_cases e : F z
  · exact .inl e
  · rw [if_neg e] at h
    by_cases e2 : L.own z = some t
    · rw [if_pos e2] at h; exact absurd rfl h
    · rw [if_neg e2] at h; exact .inr h

theorem own_old {w : World} {pk : Nat} {s : AK} {L : KL} {tl : Nat → Nat} {nm : Nat → ByteArray} (h : PagO w pk s L tl nm) {t : Tag} {F : Nat → Prop} (hF : ∀ z, F z → L.own z = some t ∨ w.heap.size ≤ z) : ∀ z, F z → L.own z = some t ∨ L.own z = none := fun z hz => by
  rcases hF z hz with e | e
  · exact .inl e
  · exact .inr (h.new_none e)

/-- A thing and a description turned. -/
theorem PagO.objD {w w' : World} {pk : Nat} {s : AK} {L : KL} {tl : Nat → Nat} {nm : Nat → ByteArray} (h : PagO w pk s L tl nm) {i : Nat} {d : Int} {S : Nat → Prop} (k : Kept S w w')
    (hS : ∀ z, S z → L.own z = some (.obj i) ∨ L.own z = some (.desc d)) {o : AObj} (ho : o.kd = (s.objs i).kd) {F : Nat → Prop} (hF : ∀ z, F z → L.own z = some (.obj i) ∨ w.heap.size ≤ z)
    (hO : PObjF F (fun z => L.own z = some (.lines i)) w' (L.loc i) o) {at' hd' : Int} (hD : ∀ y ∈ s.descs, y.num = d → Blk w' (L.dloc d) (pdC d (tl y.ob) y.fl at' hd')) (hr : 0 ≤ at' ∧ at' ≤ 1048576 ∧ 1 ≤ hd' ∧ hd' ≤ 1024) :
    ∃ L', PagO w' pk ((s.setO i o).setD d at' hd') L' tl nm ∧ KStep w w' L L' ∧ L'.loc = L.loc ∧ L'.dloc = L.dloc := by
  have hF' := own_old h hF
  have ne := fun z {u : Tag} (hu : u ≠ .obj i) => L.setT_ne hF' z hu
  have eq := L.setT_eq (.obj i) F
  have no : ∀ z t, L.own z = some t → t ≠ .obj i → t ≠ .desc d → ¬ S z := by
    intro z t hz h1 h2 hs
    rcases hS z hs with e | e
    · rw [hz] at e; simp only [Option.some.injEq] at e; exact h1 e
    · rw [hz] at e; simp only [Option.some.injEq] at e; exact h2 e
  have hkd : ∀ j, ((s.setO i o).objs j).kd = (s.objs j).kd := fun j => by
    show (if j = i then o else s.objs j).kd = _
    by_cases e : j = i
    · rw [if_pos e, ho, e]
    · rw [if_neg e]
  have hlen : (((s.setO i o).setD d at' hd').descs).length = s.descs.length := by show (s.descs.map _).length = _; simp
  have hptr : ((s.setO i o).setD d at' hd').descs.map (fun y => pd (L.dloc y.num)) = s.descs.map fun y => pd (L.dloc y.num) := by
    show (s.descs.map fun x => if x.num = d then { x with at_ := at', hd := hd' } else x).map _ = _
    rw [List.map_map]
    apply List.map_congr_left
    intro y _
    show pd (L.dloc (if y.num = d then ({ y with at_ := at', hd := hd' } : AD) else y).num) = _
    split <;> rfl
  refine ⟨L.setT (.obj i) F, ⟨?_, fun j hj => ?_, h.nn, fun j hj => ?_, fun y hy => ?_, ?_, (ne _ (by simp)).2 h.oK, (ne _ (by simp)).2 h.oP, fun y hy => ?_, fun z hz => ?_, (h.ok.setO ho).setD hr⟩, ⟨k.mono fun z _ hz => ?_, fun z hz => ?_⟩, rfl, rfl⟩
  · obtain ⟨T, ta, tc, da, dc, hb⟩ := h.kb
    refine ⟨T, ta, tc, da, dc, ?_, hb.ts.keep k fun b hb' => no _ _ (hb.to b hb') (by simp) (by simp), fun b hb' => (ne _ (by simp)).2 (hb.to b hb'), ?_, fun b hb' => (ne _ (by simp)).2 (hb.dw b hb'), hb.pm, hb.so⟩
    · rw [hlen]; exact hb.b.keep k (no _ _ h.oK (by simp) (by simp))
    · rw [hlen]
      show SlO 1 w' da _ dc (((s.setO i o).setD d at' hd').descs.map fun y => pd (L.dloc y.num))
      rw [hptr]
      exact hb.ds.keep k fun b hb' => no _ _ (hb.dw b hb') (by simp) (by simp)
  · have hj : j < s.nob := hj
    show Blk w' (tl j) (thC (nm j) ((s.setO i o).objs j).kd (L.loc j)) ∧ _
    rw [hkd]
    exact ⟨(h.th j hj).1.keep k (no _ _ (h.th j hj).2 (by simp) (by simp)), (ne _ (by simp)).2 (h.th j hj).2⟩
  · have hj' : j < s.nob := hj
    show PObjF _ _ w' (L.loc j) (if j = i then o else s.objs j)
    by_cases e : j = i
    · subst e
      rw [if_pos rfl]
      exact hO.congr (fun z => (eq z).symm) (fun z => (ne z (by simp)).symm)
    · rw [if_neg e]
      exact ((h.ob j hj').keep k (fun z hz => no _ _ hz (by simpa using e) (by simp)) (fun z hz => no _ _ hz (by simp) (by simp))).congr (fun z => (ne z (by simpa using e)).symm) (fun z => (ne z (by simp)).symm)
  · obtain ⟨y', hy', ⟨hn, rfl⟩ | ⟨hn, rfl⟩⟩ := AK.setD_mem hy
    · show Blk w' (L.dloc y'.num) (pdC y'.num (tl y'.ob) y'.fl at' hd')
      rw [hn]; exact hD y' hy' hn
    · exact (h.ds y hy').keep k (no _ _ (h.od y hy') (by simp) (by simpa using hn))
  · obtain ⟨a, l, c, h1, h2, h3⟩ := h.pl
    exact ⟨a, l, c, h1.keep k (no _ _ h.oP (by simp) (by simp)), h2.keep k fun b _ hb => no _ _ (h3 b hb) (by simp) (by simp), fun b hb => (ne _ (by simp)).2 (h3 b hb)⟩
  · obtain ⟨y', hy', ⟨hn, rfl⟩ | ⟨hn, rfl⟩⟩ := AK.setD_mem hy
    · exact (ne _ (by simp)).2 (h.od y' hy')
    · exact (ne _ (by simp)).2 (h.od y hy')
  · rcases L.setT_some _ _ hz with e | e
    · exact hO.lt z e
    · exact Nat.lt_of_lt_of_le (h.lt z e) k.size
  · rcases hS z hz with e | e
    · rw [e]; simp
    · rw [e]; simp
  · rcases L.setT_some _ _ hz with e | e
    · rcases hF z e with e | e
      · exact .inl (by rw [e]; simp)
      · exact .inr e
    · exact .inl e

/-- The counts, the faults turned. -/
theorem PagO.count {w w' : World} {pk : Nat} {s : AK} {L : KL} {tl : Nat → Nat} {nm : Nat → ByteArray} (h : PagO w pk s L tl nm) {S : Nat → Prop} (k : Kept S w w') (hS : ∀ z, S z → z = pk ∨ z = L.pg) {s' : AK} (e1 : s'.files = s.files) (e2 : s'.terms = s.terms) (e3 : s'.objs = s.objs) (e4 : s'.nob = s.nob) (e5 : s'.descs = s.descs) (e6 : s'.next = s.next)
    {T : List (ByteArray × Nat)} {ta : Option Addr} {tc : Nat} {da : Option Addr} {dc : Nat} (hB : PKb w pk s L tl T ta tc da dc) (hb : Blk w' pk #[.slice ta T.length tc, .slice da s.descs.length dc, .int .i64 s.next, pd L.pg, .int .i64 s'.c0, .int .i64 s'.c1])
    (hp : ∃ a l c, Blk w' L.pg #[.slice a l c] ∧ RdS 2 w' a l c (Fv s'.ps) ∧ ∀ b, inA a b → L.own b = some .flts) (hok : s'.Ok) : PagO w' pk s' L tl nm ∧ KStep w w' L L := by
  have no : ∀ z t, L.own z = some t → t ≠ .kern → t ≠ .plan → ¬ S z := by
    intro z t hz h1 h2 hs
    rcases hS z hs with rfl | rfl
    · rw [h.oK] at hz; cases hz; exact h1 rfl
    · rw [h.oP] at hz; cases hz; exact h2 rfl
  refine ⟨⟨?_, fun i hi => ?_, fun f hf => h.nn f (by rwa [e1, e2] at hf), fun i hi => ?_, fun d hd => ?_, hp, h.oK, h.oP, fun d hd => h.od d (by rwa [e5] at hd), fun x hx => Nat.lt_of_lt_of_le (h.lt x hx) k.size, hok⟩, ⟨k.mono fun z _ hz => ?_, fun z hz => .inl hz⟩⟩
  · refine ⟨T, ta, tc, da, dc, by rw [e5, e6]; exact hb, hB.ts.keep k fun b hb => no _ _ (hB.to b hb) (by simp) (by simp), hB.to, by rw [e5]; exact hB.ds.keep k fun b hb => no _ _ (hB.dw b hb) (by simp) (by simp), hB.dw, by rw [e1, e2]; exact hB.pm, hB.so⟩
  · rw [e4] at hi
    rw [e3]
    exact ⟨(h.th i hi).1.keep k (no _ _ (h.th i hi).2 (by simp) (by simp)), (h.th i hi).2⟩
  · rw [e4] at hi
    rw [e3]
    exact PObjF.keep (h.ob i hi) k (fun x hx => no _ _ hx (by simp) (by simp)) (fun x hx => no _ _ hx (by simp) (by simp))
  · rw [e5] at hd
    exact (h.ds d hd).keep k (no _ _ (h.od d hd) (by simp) (by simp))
  · rcases hS z hz with rfl | rfl
    · rw [h.oK]; simp
    · rw [h.oP]; simp

end Go.Proofs.YtpoaacnnhgebfaaGreat

namespace Go.Proofs.YtpoaacnnhgebfaaGreat
open Go.Lw

theorem slo_cell {sz : Nat} {w : World} {a : Option Addr} {l c : Nat} {xs : List Value} (h : SlO sz w a l c xs) (hl : 0 < l) {j : Nat} {v : Value} (hv : xs[j]? = some v) : ∃ q, a = some q ∧ w.cell? (q.add j) = some v := by
  cases ha : a with
  | none => subst ha; have := RdS.isNone h.rd rfl; omega
  | some q => exact ⟨q, rfl, h.rd.2.2.2 q ha j v hv⟩

theorem pflagged_ok {w : World} (f : Int) {Q : Value → World → Prop} (hq : Q (.bool (AK.flagged f)) w) : CallR Tryz.prog 125 [.int .i64 f] w Q := by
  refine C125 ?_
  unfold L125
  have b3 : IntKind.wrap .i64 ↑(BitVec.ofInt (IntKind.bits .i64) f &&& BitVec.ofInt (IntKind.bits .i64) 3).toNat = bitI f 3 := rfl
  have b2 : IntKind.wrap .i64 ↑(BitVec.ofInt (IntKind.bits .i64) f &&& BitVec.ofInt (IntKind.bits .i64) 2).toNat = bitI f 2 := rfl
  have b20 : IntKind.wrap .i64 ↑(BitVec.ofInt (IntKind.bits .i64) f &&& BitVec.ofInt (IntKind.bits .i64) 20).toNat = bitI f 20 := rfl
  have b8 : IntKind.wrap .i64 ↑(BitVec.ofInt (IntKind.bits .i64) f &&& BitVec.ofInt (IntKind.bits .i64) 8).toNat = bitI f 8 := rfl
  have b32 : IntKind.wrap .i64 ↑(BitVec.ofInt (IntKind.bits .i64) f &&& BitVec.ofInt (IntKind.bits .i64) 32).toNat = bitI f 32 := rfl
  rw [b3, b2, b20, b8, b32]
  have fl : AK.flagged f = (decide (f ≥ 0 ∧ f ≤ 63) && (bitI f 3 != 0) && ((bitI f 2 != 0) || (bitI f 20 == 0)) && ((bitI f 8 != 0) || (bitI f 32 == 0))) := rfl
  rw [fl] at hq
  refine condP (fun h0 => ?_) (fun h0 => condP (fun h1 => ?_) (fun h1 => ?_))
  · rw [decide_eq_false (by omega)] at hq; exact hq
  · rw [decide_eq_false (by omega)] at hq; exact hq
  rw [decide_eq_true (by omega : f ≥ 0 ∧ f ≤ 63)] at hq
  by_cases h3 : bitI f 3 = 0
  · rw [h3] at hq ⊢; exact condTr2 hq
  refine condF (by simpa using h3) ?_
  rw [show (bitI f 3 != 0) = true by simpa using h3] at hq
  have tail : (Q (.bool ((bitI f 8 != 0) || (bitI f 32 == 0))) w) → cond (bitI f 32 == 0) (Q (.bool true) w) (Q (.bool (bitI f 8 != 0)) w) := fun hq => by
    by_cases h32 : bitI f 32 = 0
    · rw [h32] at hq ⊢; exact condTr2 (by simpa using hq)
    · rw [show (bitI f 32 == 0) = false by simpa using h32] at hq ⊢
      exact condFa2 (by simpa using hq)
  by_cases h20 : bitI f 20 = 0
  · rw [h20] at hq ⊢
    exact condFa2 (tail (by simpa using hq))
  refine condT (by simpa using h20) ?_
  rw [show (bitI f 20 == 0) = false by simpa using h20] at hq
  by_cases h2 : bitI f 2 = 0
  · rw [h2] at hq ⊢
    exact condTr2 (by simpa using hq)
  · refine condF (by simpa using h2) (tail ?_)
    rw [show (bitI f 2 != 0) = true by simpa using h2] at hq
    simpa using hq

theorem pnamed_ok {w : World} (s : ByteArray) {Q : Value → World → Prop} (hq : Q (.bool (namedS s)) w) : CallR Tryz.prog 56 [.string s] w Q := by
  refine C56 ?_
  unfold L56
  have he : (ByteArray.toList s == ByteArray.toList (ByteArray.mk #[])) = decide (s.size = 0) := by
    rw [strEq]
    refine decide_eq_decide.2 ⟨fun h => by rw [h]; rfl, fun h => ?_⟩
    have h : s.data.size = 0 := h
    cases s with
    | mk d =>
      have : d = #[] := Array.eq_empty_of_size_eq_zero h
      rw [this]
  rw [he]
  refine condP (fun h0 => ?_) (fun h0 => condP (fun h1 => ?_) (fun h1 => ?_))
  · rw [show namedS s = false by unfold namedS; rw [decide_eq_false]; exact fun h => h.1 h0] at hq; exact hq
  · rw [show namedS s = false by unfold namedS; rw [decide_eq_false]; exact fun h => by have := h.2.1; omega] at hq; exact hq
  refine ⟨fun vs w' => ∃ n : Nat, vs = [.int .i64 (n : Int)] ∧ n ≤ s.size ∧ w' = w ∧ ∀ i, (h : i < s.size) → i < n → 33 ≤ (s[i]'h).toNat ∧ (s[i]'h).toNat ≤ 126, fun vs _ => s.size - ix vs, ⟨0, rfl, Nat.zero_le _, rfl, fun i h h2 => by omega⟩, ?_⟩
  rintro _ n4 w1 ⟨n, hv, hn, hw, hpl⟩
  simp only [List.cons.injEq, Value.int.injEq, true_and, and_true] at hv
  subst hv
  subst hw
  have bad : ∀ i, (h : i < s.size) → ¬ (33 ≤ (s[i]'h).toNat ∧ (s[i]'h).toNat ≤ 126) → Q (.bool false) w1 := fun i h hne => by
    rw [show namedS s = false by unfold namedS; rw [decide_eq_false]; exact fun hh => hne (hh.2.2 i h)] at hq; exact hq
  refine condP (fun hlt => ?_) (fun hge => ?_)
  · have hns : n < s.size := by omega
    have hb : byteAt s (n : Int) = ((s[n]'hns).toNat : Int) := by
      unfold byteAt
      have : Int.toNat (n : Int) = n := Int.toNat_natCast n
      simp only [this]
      have e : s.data.toList[n]? = some (s[n]'hns) := by rw [Array.getElem?_toList, Array.getElem?_eq_getElem hns]; rfl
      rw [e]; rfl
    refine ⟨⟨by omega, by omega⟩, condP (fun hl => bad n hns (by omega)) (fun hl => ⟨⟨by omega, by omega⟩, condP (fun hg => bad n hns (by omega)) (fun hg => ⟨⟨by omega, by omega⟩, ⟨n + 1, rfl, by omega, rfl, fun i h hi => ?_⟩, by simp only [ix]; omega⟩)⟩)⟩
    by_cases e : i = n
    · subst e; omega
    · exact hpl i h (by omega)
  · have : namedS s = true := by
      unfold namedS
      rw [decide_eq_true]
      exact ⟨h0, by omega, fun i h => hpl i h (by omega)⟩
    rw [this] at hq; exact hq

theorem pfind_ok {w : World} {pk : Nat} {s : AK} {L : KL} {tl : Nat → Nat} {nm : Nat → ByteArray} (h : PagO w pk s L tl nm) (d : Int) :
    CallR Tryz.prog 168 [pd pk, .int .i64 d] w fun v w' => w' = w ∧ ((s.desc d = none ∧ v = .pointer none) ∨ ∃ x, s.desc d = some x ∧ v = pd (L.dloc d)) := by
  refine C168 ?_
  unfold L168
  obtain ⟨T, ta, tc, da, dc, hB⟩ := h.kb
  have hdl := h.ok.dl
  refine ⟨fun vs w' => ∃ n : Nat, vs = [.int .i64 (n : Int)] ∧ n ≤ s.descs.length ∧ w' = w ∧ ∀ i, (hi : i < s.descs.length) → i < n → s.descs[i].num ≠ d, fun vs _ => s.descs.length - ix vs, ⟨0, rfl, Nat.zero_le _, rfl, fun i h h2 => by omega⟩, ?_⟩
  rintro _ n5 w1 ⟨n, hv, hn, hw, hno⟩
  simp only [List.cons.injEq, Value.int.injEq, true_and, and_true] at hv
  subst hv
  subst hw
  refine nnI ⟨_, _, _, hB.b.at (i := 1) rfl, condP (fun hlt => ?_) (fun hge => ⟨rfl, .inl ⟨?_, rfl⟩⟩)⟩
  · have hnl : n < s.descs.length := by omega
    have hmem := List.getElem_mem hnl
    obtain ⟨q, haq, hc⟩ := slo_cell hB.ds (by omega) (j := n) (v := pd (L.dloc s.descs[n].num)) (by rw [List.getElem?_map, List.getElem?_eq_getElem hnl]; rfl)
    have e0 : Int.toNat (n : Int) = n := Int.toNat_natCast n
    rw [e0]
    have hr : 0 ≤ (n : Int) ∧ (n : Int) < ((s.descs.length : Nat) : Int) := by omega
    refine nnI ⟨_, _, _, hB.b.at (i := 1) rfl, hr, nnE2 haq ⟨_, hc, nnI ⟨_, (h.ds _ hmem).at0 rfl, condI (fun he => ?_) (fun hne => ?_)⟩⟩⟩
    · have he : s.descs[n].num = d := by simpa using he
      refine nnI ⟨_, _, _, hB.b.at (i := 1) rfl, hr, nnE2 haq ⟨_, hc, rfl, .inr ⟨s.descs[n], ?_, by rw [he]⟩⟩⟩
      cases hd : s.desc d with
      | none => exact absurd he (AK.desc_none hd _ hmem)
      | some x =>
        obtain ⟨hx, hxn⟩ := AK.desc_some hd
        have := h.ok.dn
        obtain ⟨i, hi, rfl⟩ := List.mem_iff_getElem.1 hx
        have e1 : (s.descs.map (·.num))[i]'(by simpa using hi) = (s.descs.map (·.num))[n]'(by simpa using hnl) := by rw [List.getElem_map, List.getElem_map]; exact hxn.trans he.symm
        have := (List.getElem_inj this).1 e1
        subst this
        rfl
    · have hne : s.descs[n].num ≠ d := by simpa using hne
      refine ⟨⟨by omega, by omega⟩, ⟨n + 1, rfl, by omega, rfl, fun i hi hin => ?_⟩, by simp only [ix]; omega⟩
      by_cases e : i = n
      · subst e; exact hne
      · exact hno i hi (by omega)
  · cases hd : s.desc d with
    | none => rfl
    | some x =>
      obtain ⟨hx, hxn⟩ := AK.desc_some hd
      obtain ⟨i, hi, rfl⟩ := List.mem_iff_getElem.1 hx
      exact absurd hxn (hno i hi (by omega))

/-- A file or a terminal of that name. -/
def AK.thing (s : AK) (nm : ByteArray) : Option (ByteArray × Nat) := match s.termOf nm with
  | some t => some t
  | none => s.fileOf nm

theorem AK.thing_of {s : AK} (h : s.Ok) {t : ByteArray × Nat} (ht : t ∈ s.files ++ s.terms) : s.thing t.1 = some t := by
  unfold AK.thing
  rcases List.mem_append.1 ht with e | e
  · cases htt : s.termOf t.1 with
    | none => exact AK.fileOf_mem h e
    | some u =>
      obtain ⟨hu, hn⟩ := AK.termOf_some htt
      exact absurd hn.symm (h.ft t e u hu)
  · rw [AK.termOf_mem h.tn e]

theorem AK.thing_mem {s : AK} {nm : ByteArray} {t : ByteArray × Nat} (h : s.thing nm = some t) : t ∈ s.files ++ s.terms ∧ t.1 = nm := by
  unfold AK.thing at h
  split at h
  · rename_i u hu
    cases h
    obtain ⟨a, b⟩ := AK.termOf_some hu
    exact ⟨List.mem_append.2 (.inr a), b⟩
  · obtain ⟨a, b⟩ := AK.fileOf_some h
    exact ⟨List.mem_append.2 (.inl a), b⟩

theorem PagO.nobT {w : World} {pk : Nat} {s : AK} {L : KL} {tl : Nat → Nat} {nm : Nat → ByteArray} (h : PagO w pk s L tl nm) {t : ByteArray × Nat} (ht : t ∈ s.files ++ s.terms) : t.2 < s.nob := by
  rcases List.mem_append.1 ht with e | e
  · exact (h.ok.fi t e).1
  · exact (h.ok.ti t e).1

theorem PagO.thName {w : World} {pk : Nat} {s : AK} {L : KL} {tl : Nat → Nat} {nm : Nat → ByteArray} (h : PagO w pk s L tl nm) {t : ByteArray × Nat} (ht : t ∈ s.files ++ s.terms) : w.cell? ⟨tl t.2, 0, none⟩ = some (.string t.1) := by
  have hb := (h.th t.2 (h.nobT ht)).1
  rw [h.nn t ht] at hb
  cases hk : (s.objs t.2).kd <;> rw [hk] at hb <;> exact (hb.cell 0).trans rfl

theorem pthing_ok {w : World} {pk : Nat} {s : AK} {L : KL} {tl : Nat → Nat} {nm : Nat → ByteArray} (h : PagO w pk s L tl nm) (name : ByteArray) :
    CallR Tryz.prog 126 [pd pk, .string name] w fun v w' => w' = w ∧ ((s.thing name = none ∧ v = .pointer none) ∨ ∃ t, s.thing name = some t ∧ v = pd (tl t.2)) := by
  refine C126 ?_
  unfold L126
  obtain ⟨T, ta, tc, da, dc, hB⟩ := h.kb
  have hfl := h.ok.fl
  have hTl : T.length ≤ 256 := by have := hB.pm.length_eq; rw [List.length_append] at this; omega
  refine ⟨fun vs w' => ∃ n : Nat, vs = [.int .i64 (n : Int)] ∧ n ≤ T.length ∧ w' = w ∧ ∀ i, (hi : i < T.length) → i < n → T[i].1 ≠ name, fun vs _ => T.length - ix vs, ⟨0, rfl, Nat.zero_le _, rfl, fun i h h2 => by omega⟩, ?_⟩
  rintro _ n5 w1 ⟨n, hv, hn, hw, hno⟩
  simp only [List.cons.injEq, Value.int.injEq, true_and, and_true] at hv
  subst hv
  subst hw
  refine nnI ⟨_, _, _, hB.b.at0 rfl, condP (fun hlt => ?_) (fun hge => ⟨rfl, .inl ⟨?_, rfl⟩⟩)⟩
  · have hnl : n < T.length := by omega
    have hmem := hB.pm.mem_iff.1 (List.getElem_mem hnl)
    obtain ⟨q, haq, hc⟩ := slo_cell hB.ts (by omega) (j := n) (v := pd (tl T[n].2)) (by rw [List.getElem?_map, List.getElem?_eq_getElem hnl]; rfl)
    have e0 : Int.toNat (n : Int) = n := Int.toNat_natCast n
    rw [e0]
    have hr : 0 ≤ (n : Int) ∧ (n : Int) < ((T.length : Nat) : Int) := by omega
    refine nnI ⟨_, _, _, hB.b.at0 rfl, hr, nnE2 haq ⟨_, hc, nnI ⟨_, h.thName hmem, ?_⟩⟩⟩
    rw [strEq]
    refine condP (fun he => ?_) (fun hne => ?_)
    · refine nnI ⟨_, _, _, hB.b.at0 rfl, hr, nnE2 haq ⟨_, hc, rfl, .inr ⟨T[n], ?_, rfl⟩⟩⟩
      rw [← he]; exact AK.thing_of h.ok hmem
    · refine ⟨⟨by omega, by omega⟩, ⟨n + 1, rfl, by omega, rfl, fun i hi hin => ?_⟩, by simp only [ix]; omega⟩
      by_cases e : i = n
      · subst e; exact hne
      · exact hno i hi (by omega)
  · cases hd : s.thing name with
    | none => rfl
    | some t =>
      obtain ⟨hm, hne⟩ := AK.thing_mem hd
      obtain ⟨i, hi, rfl⟩ := List.mem_iff_getElem.1 (hB.pm.mem_iff.2 hm)
      exact absurd hne (hno i hi (by omega))

end Go.Proofs.YtpoaacnnhgebfaaGreat

namespace Go.Proofs.YtpoaacnnhgebfaaGreat
open Go.Lw

theorem addD_own (L : KL) {d : Int} {nb : Nat} (hn : L.own nb = none) (z : Nat) {t : Tag} (ht : t ≠ .desc d) : (L.addD d nb).own z = some t ↔ L.own z = some t := by
  show (if z = nb then some (Tag.desc d) else L.own z) = some t ↔ _
  by_cases e : z = nb
  · rw [if_pos e, e, hn]; simp [Ne.symm ht]
  · rw [if_neg e]

set_option maxHeartbeats 1000000 in
theorem pdesc_ok {w : World} {pk : Nat} {s : AK} {L : KL} {tl : Nat → Nat} {nm : Nat → ByteArray} (h : PagO w pk s L tl nm) {i : Nat} (hi : i < s.nob) (fl : Int) (hn2 : s.next ≤ 4611686018427387904) (hl : s.descs.length < 256) :
    CallR Tryz.prog 122 [pd pk, pd (tl i), .int .i64 fl] w fun v w' => v = .int .i64 s.next ∧ ∃ L', PagO w' pk (s.newD i fl) L' tl nm ∧ KStep w w' L L' ∧ L'.loc = L.loc := by
  refine C122 ?_
  unfold L122
  obtain ⟨T, ta, tc, da, dc, hB⟩ := h.kb
  have hn1 := h.ok.nx
  refine ⟨fun wS => Blk wS pk #[.slice ta T.length tc, .slice da s.descs.length dc, .int .i64 s.next, pd L.pg, .int .i64 s.c0, .int .i64 s.c1], hB.b.drew, ?_⟩
  intro w1
  have hk1 : Kept No w w1 := Kept.drew _ _
  have hz1 : w1.heap.size = w.heap.size := rfl
  have hb1 := hB.b.keep hk1 fun e => e
  clear_value w1
  refine nnI ⟨_, _, _, fun wS hS => hS.at (i := 1) rfl, nnI ⟨_, fun wS hS => hS.at (i := 2) rfl, ?_⟩⟩
  intro w2
  have hd2 : Blk w2 w1.heap.size (pdC s.next (tl i) fl 0 1) := Blk.alloc _ _ _
  have hk2 : Kept No w1 w2 := Kept.alloc _ _ _
  have hz2 : w2.heap.size = w1.heap.size + 1 := by simp [w2]
  clear_value w2
  refine ⟨hb1.keep hk2 fun e => e, ?_⟩
  intro w3
  have ht3 : SlO 1 w3 (some ⟨w2.heap.size, 0, none⟩) 1 1 [pd w1.heap.size] := SlO.of_blk (sz := 1) (n := 1) (Blk.alloc w2 #[pd w1.heap.size] _) rfl
  have hk3 : Kept No w2 w3 := Kept.alloc _ _ _
  have hz3 : w3.heap.size = w2.heap.size + 1 := by simp [w3]
  clear_value w3
  have k3 := (hk1.no hk2).no hk3
  refine ⟨(hb1.keep hk2 fun e => e).keep hk3 fun e => e, ?_⟩
  obtain ⟨a9, c9, w4, hrun, hs4, hk4, hat, _⟩ := run_app_sl (P := Tryz.prog) (t := 151) (t2 := 151) (ty := 151) (by kernel_rfl : slTyB Tryz.prog 151 1 8 = true) (by kernel_rfl) (hB.ds.keep k3 fun _ _ e => e) ht3.rd (by intro u hu; simp only [List.mem_singleton] at hu; subst hu; rfl) (by omega) (by omega)
  have hpkd : ¬ inA da pk := fun e => by have := hB.dw pk e; rw [h.oK] at this; cases this
  have hb4 := (hB.b.keep k3 fun e => e).keep hk4 hpkd
  have hpklt := hB.b.lt
  have hpka : ¬ inA a9 pk := fun e => by
    rcases hat.in e with e | e
    · exact hpkd e
    · omega
  refine ⟨a9, _, c9, w4, hrun, nnI (stC_at hb4 (i := 1) (by simp) fun w5 hb5 hk5 hz5 => nnI ⟨_, hb5.at (i := 2) rfl, ⟨by omega, by omega⟩, nnI (stC_at hb5 (i := 2) (by simp) fun w6 hb6 hk6 hz6 => nnI ⟨_, hb6.at (i := 2) rfl, ⟨by omega, by omega⟩, ?_⟩)⟩)⟩
  have hb6 : Blk w6 pk #[.slice ta T.length tc, .slice a9 (s.descs.length + 1) c9, .int .i64 (s.next + 1), pd L.pg, .int .i64 s.c0, .int .i64 s.c1] := hb6
  have hval : (Value.int .i64 (s.next + 1 - 1)) = .int .i64 s.next := by rw [Int.add_sub_cancel]
  refine ⟨hval, ?_⟩
  obtain ⟨nb, hnb⟩ : ∃ nb, nb = w1.heap.size := ⟨_, rfl⟩
  rw [← hnb] at hd2 hs4
  have hnbn : L.own nb = none := h.new_none (by omega)
  have hA : ∀ z, inA a9 z → L.own z = some .md ∨ w3.heap.size ≤ z := fun z hz => by
    rcases hat.in hz with e | e
    · exact .inl (hB.dw z e)
    · exact .inr (by omega)
  have hA' : ∀ z, inA a9 z → L.own z = some .md ∨ L.own z = none := fun z hz => by
    rcases hA z hz with e | e
    · exact .inl e
    · exact .inr (h.new_none (by omega))
  have hnb1 : (L.setT .md (inA a9)).own nb = none := by
    cases ho : (L.setT .md (inA a9)).own nb with
    | none => rfl
    | some t =>
      rcases L.setT_some _ _ (by rw [ho]; simp) with e | e
      · rcases hA nb e with e | e
        · rw [hnbn] at e; cases e
        · omega
      · exact absurd hnbn e
  have kA : Kept (fun z => z = pk ∨ inA da z) w w6 := (((k3.mono fun _ _ e => e.elim : Kept (fun z => z = pk ∨ inA da z) w w3).trans (hk4.mono fun _ _ e => .inr e) fun _ _ e => e).trans (hk5.mono fun _ _ e => .inl e) fun _ _ e => e).trans (hk6.mono fun _ _ e => .inl e) fun _ _ e => e
  have no : ∀ z t, L.own z = some t → t ≠ .kern → t ≠ .md → ¬ (z = pk ∨ inA da z) := by
    rintro z t hz h1 h2 (rfl | e)
    · rw [h.oK] at hz; cases hz; exact h1 rfl
    · rw [hB.dw z e] at hz; cases hz; exact h2 rfl
  let L' := (L.setT .md (inA a9)).addD s.next nb
  have ow : ∀ z t, t ≠ .md → t ≠ .desc s.next → (L'.own z = some t ↔ L.own z = some t) := fun z t h1 h2 => (addD_own _ hnb1 z h2).trans (L.setT_ne hA' z h1)
  have hdl : ∀ y ∈ s.descs, L'.dloc y.num = L.dloc y.num := fun y hy => by
    have := (h.ok.di y hy).2.2.2.2.2.2
    show (if y.num = s.next then nb else L.dloc y.num) = _
    rw [if_neg (by omega)]
  have hdn : L'.dloc s.next = nb := if_pos rfl
  refine ⟨L', ⟨⟨T, ta, tc, a9, c9, ?_, ?_, fun b hb => (ow _ _ (by simp) (by simp)).2 (hB.to b hb), ?_, fun b hb => ?_, hB.pm, hB.so⟩, fun j hj => ?_, h.nn, fun j hj => ?_, fun y hy => ?_, ?_, (ow _ _ (by simp) (by simp)).2 h.oK, (ow _ _ (by simp) (by simp)).2 h.oP, fun y hy => ?_, fun z hz => ?_, h.ok.newD hi fl hl⟩, ⟨kA.mono fun z _ hz => ?_, fun z hz => ?_⟩, rfl⟩
  · show Blk w6 pk #[.slice ta T.length tc, .slice a9 (s.descs ++ [_]).length c9, .int .i64 (s.next + 1), pd L.pg, .int .i64 s.c0, .int .i64 s.c1]
    rw [List.length_append]; exact hb6
  · exact hB.ts.keep kA fun b hb => no _ _ (hB.to b hb) (by simp) (by simp)
  · show SlO 1 w6 a9 (s.descs ++ [_]).length c9 ((s.descs ++ [(⟨s.next, i, fl, 0, 1⟩ : AD)]).map fun d => pd (L'.dloc d.num))
    have e1 : (s.descs ++ [(⟨s.next, i, fl, 0, 1⟩ : AD)]).map (fun d => pd (L'.dloc d.num)) = (s.descs.map fun d => pd (L.dloc d.num)) ++ [pd nb] := by
      rw [List.map_append, List.map_cons, List.map_nil, hdn]
      exact congrArg (· ++ [pd nb]) (List.map_congr_left fun y hy => by rw [hdl y hy])
    rw [e1, List.length_append]
    exact (hs4.keep hk5 fun b hb e => hpka (e ▸ hb)).keep hk6 fun b hb e => hpka (e ▸ hb)
  · exact (addD_own _ hnb1 b (by simp)).2 ((L.setT_eq .md (inA a9) b).2 hb)
  · exact ⟨(h.th j hj).1.keep kA (no _ _ (h.th j hj).2 (by simp) (by simp)), (ow _ _ (by simp) (by simp)).2 (h.th j hj).2⟩
  · exact (PObjF.keep (h.ob j hj) kA (fun z hz => no _ _ hz (by simp) (by simp)) (fun z hz => no _ _ hz (by simp) (by simp))).congr (fun z => (ow z _ (by simp) (by simp)).symm) (fun z => (ow z _ (by simp) (by simp)).symm)
  · have hy : y ∈ s.descs ++ [(⟨s.next, i, fl, 0, 1⟩ : AD)] := hy
    rcases List.mem_append.1 hy with e | e
    · rw [hdl y e]
      exact (h.ds y e).keep kA (no _ _ (h.od y e) (by simp) (by simp))
    · rw [List.mem_singleton] at e
      subst e
      show Blk w6 (L'.dloc s.next) _
      rw [hdn]
      exact (((hd2.keep hk3 fun e => e).keep hk4 fun e => by have := hB.dw _ e; rw [hnbn] at this; cases this).keep hk5 fun e => by omega).keep hk6 fun e => by omega
  · obtain ⟨a, l, c, p1, p2, p3⟩ := h.pl
    exact ⟨a, l, c, p1.keep kA (no _ _ h.oP (by simp) (by simp)), p2.keep kA fun b _ hb => no _ _ (p3 b hb) (by simp) (by simp), fun b hb => (ow _ _ (by simp) (by simp)).2 (p3 b hb)⟩
  · have hy : y ∈ s.descs ++ [(⟨s.next, i, fl, 0, 1⟩ : AD)] := hy
    rcases List.mem_append.1 hy with e | e
    · rw [hdl y e]
      have := (h.ok.di y e).2.2.2.2.2.2
      exact (ow _ _ (by simp) (by simp; omega)).2 (h.od y e)
    · rw [List.mem_singleton] at e
      subst e
      show L'.own (L'.dloc s.next) = _
      rw [hdn]
      exact if_pos rfl
  · have hz : (if z = nb then some (Tag.desc s.next) else (L.setT .md (inA a9)).own z) ≠ none := hz
    by_cases e : z = nb
    · have := kA.size; have := hk4.size; have := hk5.size; have := hk6.size; omega
    · rw [if_neg e] at hz
      rcases L.setT_some _ _ hz with e | e
      · exact Nat.lt_of_lt_of_le (SlO.lt hs4 z e) (by omega)
      · exact Nat.lt_of_lt_of_le (h.lt z e) kA.size
  · rcases hz with rfl | e
    · rw [h.oK]; simp
    · rw [hB.dw z e]; simp
  · have hz : (if z = nb then some (Tag.desc s.next) else (L.setT .md (inA a9)).own z) ≠ none := hz
    by_cases e : z = nb
    · exact .inr (by omega)
    · rw [if_neg e] at hz
      rcases L.setT_some _ _ hz with e | e
      · rcases hA z e with e | e
        · exact .inl (by rw [e]; simp)
        · exact .inr (by omega)
      · exact .inl e

/-- A thing is laid, and what it has; it is not among the named ones yet. -/
theorem PagO.newO {w w' : World} {pk : Nat} {s : AK} {L : KL} {tl : Nat → Nat} {nm : Nat → ByteArray} (h : PagO w pk s L tl nm) (k : Kept No w w') {b tb : Nat} {F R : Nat → Prop} {o : AObj} {name : ByteArray} (hO : PObjF F R w' b o) (hF : ∀ z, F z → w.heap.size ≤ z) (hR : ∀ z, R z → w.heap.size ≤ z ∧ z < w'.heap.size ∧ ¬ F z)
    (ht : Blk w' tb (thC name o.kd b)) (htb : w.heap.size ≤ tb) (htF : ¬ F tb) (htR : ¬ R tb) :
    ∃ L', PagO w' pk (s.newO o) L' (fun j => if j = s.nob then tb else tl j) (fun j => if j = s.nob then name else nm j) ∧ KStep w w' L L' := by
  obtain ⟨L', hL'⟩ : ∃ L' : KL, L' = { L.addO s.nob b F R with own := fun z => if z = tb then some .mt else (L.addO s.nob b F R).own z } := ⟨_, rfl⟩
  have old : ∀ z t, L.own z = some t → t ≠ .obj s.nob → t ≠ .lines s.nob → L'.own z = some t := by
    intro z t hz h1 h2
    have := h.lt z (by rw [hz]; simp)
    rw [hL']
    unfold KL.addO
    dsimp only
    rw [if_neg (by omega), if_neg (fun e => by have := hF z e; omega), if_neg (fun e => by have := (hR z e).1; omega), hz, if_neg]
    simp [h1, h2]
  have back : ∀ z t, t ≠ .obj s.nob → t ≠ .lines s.nob → t ≠ .mt → L'.own z = some t → L.own z = some t := by
    intro z t h1 h2 h3 hz
    rw [hL'] at hz
    unfold KL.addO at hz
    dsimp only at hz
    by_cases ht : z = tb
    · rw [if_pos ht] at hz; simp only [Option.some.injEq] at hz; exact absurd hz.symm h3
    rw [if_neg ht] at hz
    by_cases hf : F z
    · rw [if_pos hf] at hz; simp only [Option.some.injEq] at hz; exact absurd hz.symm h1
    rw [if_neg hf] at hz
    by_cases hr : R z
    · rw [if_pos hr] at hz; simp only [Option.some.injEq] at hz; exact absurd hz.symm h2
    rw [if_neg hr] at hz
    split at hz
    · cases hz
    · exact hz
  have none_obj : ∀ z, L.own z ≠ some (.obj s.nob) ∧ L.own z ≠ some (.lines s.nob) ∨ True := fun _ => .inr trivial
  have newF : ∀ z, L'.own z = some (.obj s.nob) ↔ F z := fun z => by
    rw [hL']
    unfold KL.addO
    dsimp only
    by_cases ht : z = tb
    · rw [if_pos ht, ht]; simp [htF]
    rw [if_neg ht]
    by_cases hf : F z
    · simp [hf]
    · rw [if_neg hf]
      by_cases hr : R z
      · simp [hr, hf]
      · rw [if_neg hr]
        split
        · simp [hf]
        · rename_i hn
          exact ⟨fun e => absurd (.inl e) hn, fun e => absurd e hf⟩
  have newR : ∀ z, L'.own z = some (.lines s.nob) ↔ R z := fun z => by
    rw [hL']
    unfold KL.addO
    dsimp only
    by_cases ht : z = tb
    · rw [if_pos ht, ht]; simp [htR]
    rw [if_neg ht]
    by_cases hf : F z
    · have : ¬ R z := fun e => (hR z e).2.2 hf
      simp [hf, this]
    · rw [if_neg hf]
      by_cases hr : R z
      · simp [hr]
      · rw [if_neg hr]
        split
        · simp [hr]
        · rename_i hn
          exact ⟨fun e => absurd (.inr e) hn, fun e => absurd e hr⟩
  have some_ : ∀ z, L'.own z ≠ none → z = tb ∨ F z ∨ R z ∨ L.own z ≠ none := by
    intro z hz
    rw [hL'] at hz
    unfold KL.addO at hz
    dsimp only at hz
    by_cases ht : z = tb
    · exact .inl ht
    rw [if_neg ht] at hz
    by_cases hf : F z
    · exact .inr (.inl hf)
    rw [if_neg hf] at hz
    by_cases hr : R z
    · exact .inr (.inr (.inl hr))
    rw [if_neg hr] at hz
    split at hz
    · exact absurd rfl hz
    · exact .inr (.inr (.inr hz))
  have loc : ∀ j, j < s.nob → L'.loc j = L.loc j := fun j hj => by
    rw [hL']
    show (if j = s.nob then b else L.loc j) = _
    rw [if_neg (by omega)]
  have locn : L'.loc s.nob = b := by
    rw [hL']
    exact if_pos rfl
  have hdl : L'.dloc = L.dloc := by rw [hL']; rfl
  have hpg : L'.pg = L.pg := by rw [hL']; rfl
  have tlo : ∀ j, j < s.nob → (if j = s.nob then tb else tl j) = tl j := fun j hj => if_neg (by omega)
  have nmo : ∀ j, j < s.nob → (if j = s.nob then name else nm j) = nm j := fun j hj => if_neg (by omega)
  refine ⟨L', ⟨?_, fun j hj => ?_, fun f hf => ?_, fun j hj => ?_, fun y hy => ?_, ?_, old _ _ h.oK (by simp) (by simp), by rw [hpg]; exact old _ _ h.oP (by simp) (by simp), fun y hy => by rw [hdl]; exact old _ _ (h.od y hy) (by simp) (by simp), fun z hz => ?_, h.ok.newO o⟩, ⟨k.mono fun z _ hz => hz.elim, fun z hz => ?_⟩⟩
  · obtain ⟨T, ta, tc, da, dc, hB⟩ := h.kb
    refine ⟨T, ta, tc, da, dc, by rw [hpg]; exact hB.b.keep k fun e => e, ?_, fun b hb => old _ _ (hB.to b hb) (by simp) (by simp), by rw [hdl]; exact hB.ds.keep k fun _ _ e => e, fun b hb => old _ _ (hB.dw b hb) (by simp) (by simp), hB.pm, hB.so⟩
    have : (T.map fun t => pd (if t.2 = s.nob then tb else tl t.2)) = T.map fun t => pd (tl t.2) := List.map_congr_left fun t ht => by rw [tlo _ (h.nobT (hB.pm.mem_iff.1 ht))]
    rw [this]
    exact hB.ts.keep k fun _ _ e => e
  · have hj : j < s.nob + 1 := hj
    by_cases e : j = s.nob
    · subst e
      rw [if_pos rfl, if_pos rfl, locn]
      have : (s.newO o).objs s.nob = o := if_pos rfl
      rw [this]
      exact ⟨ht, by rw [hL']; exact if_pos rfl⟩
    · have hj' : j < s.nob := by omega
      rw [tlo j hj', nmo j hj', loc j hj', AK.newO_old s o hj']
      exact ⟨(h.th j hj').1.keep k fun e => e, old _ _ (h.th j hj').2 (by simp) (by simp)⟩
  · rw [nmo _ (h.nobT hf)]; exact h.nn f hf
  · have hj : j < s.nob + 1 := hj
    by_cases e : j = s.nob
    · subst e
      show PObjF _ _ w' (L'.loc s.nob) (if s.nob = s.nob then o else _)
      rw [if_pos rfl, locn]
      exact hO.congr (fun z => (newF z).symm) (fun z => (newR z).symm)
    · have hj' : j < s.nob := by omega
      rw [AK.newO_old s o hj']
      show PObjF _ _ w' (L'.loc j) _
      rw [loc j hj']
      exact (PObjF.keep (h.ob j hj') k (fun _ _ e => e) (fun _ _ e => e)).congr (fun z => ⟨fun hz => old _ _ hz (by simpa using e) (by simp), fun hz => back _ _ (by simpa using e) (by simp) (by simp) hz⟩) (fun z => ⟨fun hz => old _ _ hz (by simp) (by simpa using e), fun hz => back _ _ (by simp) (by simpa using e) (by simp) hz⟩)
  · have hy : y ∈ s.descs := hy
    have := (h.ok.di y hy).1
    rw [hdl, tlo _ this]
    exact (h.ds y hy).keep k fun e => e
  · obtain ⟨a, l, c, p1, p2, p3⟩ := h.pl
    rw [hpg]
    exact ⟨a, l, c, p1.keep k fun e => e, p2.keep k fun _ _ _ e => e, fun b hb => old _ _ (p3 b hb) (by simp) (by simp)⟩
  · rcases some_ z hz with e | e | e | e
    · rw [e]; exact ht.lt
    · exact hO.lt z e
    · exact (hR z e).2.1
    · exact Nat.lt_of_lt_of_le (h.lt z e) k.size
  · rcases some_ z hz with e | e | e | e
    · exact .inr (by omega)
    · exact .inr (hF z e)
    · exact .inr (hR z e).1
    · exact .inl e

end Go.Proofs.YtpoaacnnhgebfaaGreat

namespace Go.Proofs.YtpoaacnnhgebfaaGreat
open Go.Lw

theorem ins_step {α : Type} (T : List α) (t : α) {n : Nat} (h1 : 1 ≤ n) (h2 : n ≤ T.length) : ((T.take n ++ t :: T.drop n).set n (T[n - 1]'(by omega))).set (n - 1) t = T.take (n - 1) ++ t :: T.drop (n - 1) := by
  obtain ⟨m, rfl⟩ : ∃ m, n = m + 1 := ⟨n - 1, by omega⟩
  have hm : m < T.length := by omega
  simp only [Nat.add_sub_cancel]
  have e1 : T.take (m + 1) = T.take m ++ [T[m]] := by rw [List.take_add_one, List.getElem?_eq_getElem hm]; rfl
  have e2 : T.drop m = T[m] :: T.drop (m + 1) := List.drop_eq_getElem_cons hm
  have hl : (T.take m).length = m := by rw [List.length_take]; omega
  rw [e1, e2, List.append_assoc]
  show ((T.take m ++ T[m] :: t :: T.drop (m + 1)).set (m + 1) T[m]).set m t = _
  rw [List.set_append_right _ _ (by omega), hl, List.set_append_right _ _ (by omega), hl, Nat.sub_self, show m + 1 - m = 1 by omega]
  rfl

theorem ins_at {α : Type} (T : List α) (t : α) {n k : Nat} (h2 : n ≤ T.length) (hk : k < n) : (T.take n ++ t :: T.drop n)[k]? = some (T[k]'(by omega)) := by
  rw [List.getElem?_append_left (by rw [List.length_take]; omega), List.getElem?_take, if_pos hk, List.getElem?_eq_getElem (by omega)]
theorem ins_new {α : Type} (T : List α) (t : α) {n : Nat} (h2 : n ≤ T.length) : (T.take n ++ t :: T.drop n)[n]? = some t := by
  have hl : (T.take n).length = n := by rw [List.length_take]; omega
  rw [List.getElem?_append_right (by omega), hl, Nat.sub_self]
  rfl
theorem ins_len {α : Type} (T : List α) (t : α) {n : Nat} (h2 : n ≤ T.length) : (T.take n ++ t :: T.drop n).length = T.length + 1 := by
  simp; omega

theorem nmLe_trans {a b c : ByteArray × Nat} (h : nmLe a b) (k : nmLe b c) : nmLe a c := List.le_trans h k

theorem ins_sorted {T : List (ByteArray × Nat)} (hs : T.Pairwise nmLe) {t : ByteArray × Nat} {n : Nat} (hn : n ≤ T.length) (h1 : ∀ x ∈ T.drop n, nmLe t x) (h2 : ∀ (h : 1 ≤ n), nmLe (T[n - 1]'(by omega)) t) : (T.take n ++ t :: T.drop n).Pairwise nmLe := by
  have hs' := hs
  rw [← List.take_append_drop n T, List.pairwise_append] at hs
  obtain ⟨a, b, c⟩ := hs
  rw [List.pairwise_append]
  refine ⟨a, List.pairwise_cons.2 ⟨h1, b⟩, fun x hx y hy => ?_⟩
  rcases List.mem_cons.1 hy with rfl | hy
  · obtain ⟨k, hk, rfl⟩ := List.mem_iff_getElem.1 hx
    rw [List.length_take] at hk
    rw [List.getElem_take]
    by_cases e : k = n - 1
    · subst e; exact h2 (by omega)
    · exact nmLe_trans (List.pairwise_iff_getElem.1 hs' k (n - 1) (by omega) (by omega) (by omega)) (h2 (by omega))
  · exact c x hx y hy

theorem lessB_eq : ∀ (x y : List UInt8), Op.bytesLess x y = decide (x < y)
  | [], [] => by simp [Op.bytesLess]
  | _ :: _, [] => by simp [Op.bytesLess]
  | [], _ :: _ => by simp [Op.bytesLess]
  | a :: x, b :: y => by
    unfold Op.bytesLess
    rw [lessB_eq x y, Bool.eq_iff_iff]
    simp [List.cons_lt_cons_iff]

theorem gtr_le {x y : ByteArray} (h : (!(Op.bytesLess (ByteArray.toList x) (ByteArray.toList y) || (ByteArray.toList x == ByteArray.toList y))) = true) : y.data.toList ≤ x.data.toList := by
  rw [ByteArray.toList_eq, ByteArray.toList_eq, lessB_eq] at h
  simp only [Bool.not_eq_true', Bool.or_eq_false_iff, decide_eq_false_iff_not] at h
  exact h.1
theorem gtr_not {x y : ByteArray} (h : (!(Op.bytesLess (ByteArray.toList x) (ByteArray.toList y) || (ByteArray.toList x == ByteArray.toList y))) = false) : x.data.toList ≤ y.data.toList := by
  rw [ByteArray.toList_eq, ByteArray.toList_eq, lessB_eq] at h
  simp only [Bool.not_eq_false', Bool.or_eq_true, decide_eq_true_eq, beq_iff_eq] at h
  rcases h with h | h
  · exact List.le_of_lt h
  · rw [h]; exact List.le_refl _

theorem PagO.nameAt {w : World} {pk : Nat} {s : AK} {L : KL} {tl : Nat → Nat} {nm : Nat → ByteArray} (h : PagO w pk s L tl nm) {i : Nat} (hi : i < s.nob) : ∃ A, Blk w (tl i) A ∧ A[0]? = some (.string (nm i)) := by
  have hb := (h.th i hi).1
  refine ⟨_, hb, ?_⟩
  cases (s.objs i).kd <;> rfl

set_option maxHeartbeats 2000000 in
theorem padd_ok {w : World} {pk : Nat} {s : AK} {L : KL} {tl : Nat → Nat} {nm : Nat → ByteArray} (h : PagO w pk s L tl nm) {i : Nat} (hi : i < s.nob) (hlen : s.files.length + s.terms.length < 256) {fs' ts' : List (ByteArray × Nat)} (hp : ((s.files ++ s.terms) ++ [(nm i, i)]).Perm (fs' ++ ts')) (hok : AK.Ok { s with files := fs', terms := ts' }) :
    CallR Tryz.prog 128 [pd pk, pd (tl i)] w fun v w' => v = .tuple #[] ∧ ∃ L', PagO w' pk { s with files := fs', terms := ts' } L' tl nm ∧ KStep w w' L L' := by
  refine C128 ?_
  unfold L128
  obtain ⟨T, ta, tc, da, dc, hB⟩ := h.kb
  have hTl : T.length < 256 := by have := hB.pm.length_eq; rw [List.length_append] at this; omega
  refine nnI ⟨_, _, _, hB.b.at0 rfl, ?_⟩
  intro w1
  have ht1 : SlO 1 w1 (some ⟨w.heap.size, 0, none⟩) 1 1 [pd (tl i)] := SlO.of_blk (sz := 1) (n := 1) (Blk.alloc w #[pd (tl i)] _) rfl
  have hk1 : Kept No w w1 := Kept.alloc _ _ _
  have hz1 : w1.heap.size = w.heap.size + 1 := by simp [w1]
  clear_value w1
  obtain ⟨a5, c5, w2, hrun, hs2, hk2, hat, _⟩ := run_app_sl (P := Tryz.prog) (t := 150) (t2 := 150) (ty := 150) (by kernel_rfl : slTyB Tryz.prog 150 1 8 = true) (by kernel_rfl) (hB.ts.keep hk1 fun _ _ e => e) ht1.rd (by intro u hu; simp only [List.mem_singleton] at hu; subst hu; rfl) (by omega) (by omega)
  have hpkt : ¬ inA ta pk := fun e => by have := hB.to pk e; rw [h.oK] at this; cases this
  have hpklt := hB.b.lt
  have hA : ∀ z, inA a5 z → L.own z = some .mf ∨ w1.heap.size ≤ z := fun z hz => by
    rcases hat.in hz with e | e
    · exact .inl (hB.to z e)
    · exact .inr (by omega)
  have hpka : ¬ inA a5 pk := fun e => by
    rcases hA pk e with e | e
    · rw [h.oK] at e; cases e
    · omega
  have hb2 := (hB.b.keep hk1 fun e => e).keep hk2 hpkt
  refine ⟨a5, _, c5, w2, hrun, nnI (stC_blk hb2 (by simp) fun w3 hb3 hk3 hz3 => ?_)⟩
  have hb3 : Blk w3 pk #[.slice a5 (T.length + 1) c5, .slice da s.descs.length dc, .int .i64 s.next, pd L.pg, .int .i64 s.c0, .int .i64 s.c1] := hb3
  obtain ⟨S, hS⟩ : ∃ S : Nat → Prop, S = fun z => z = pk ∨ L.own z = some .mf ∨ w.heap.size ≤ z := ⟨_, rfl⟩
  have k3 : Kept S w w3 := ((hk1.mono fun _ _ e => e.elim : Kept S w w1).trans (hk2.mono fun b _ e => by rw [hS]; exact .inr (.inl (hB.to b e)) : Kept S w1 w2) fun _ _ e => e).trans (hk3.mono fun b _ e => by rw [hS]; exact .inl e) fun _ _ e => e
  have no : ∀ z t, L.own z = some t → t ≠ .kern → t ≠ .mf → ¬ S z := by
    intro z t hz h1 h2 e
    rw [hS] at e
    rcases e with rfl | e | e
    · rw [h.oK] at hz; cases hz; exact h1 rfl
    · rw [hz] at e; cases e; exact h2 rfl
    · rw [h.new_none e] at hz; cases hz
  refine nnI ⟨_, _, _, hb3.at0 rfl, ⟨by omega, by omega⟩, ?_⟩
  obtain ⟨I, hI⟩ : ∃ I : List Value → World → Prop, I = fun vs w' => ∃ n : Nat, n ≤ T.length ∧ vs = [.int .i64 (n : Int)] ∧ SlO 1 w' a5 (T.length + 1) c5 ((T.take n ++ (nm i, i) :: T.drop n).map fun t => pd (tl t.2)) ∧ (∀ x ∈ T.drop n, nmLe (nm i, i) x) ∧ Kept S w w' ∧ Blk w' pk #[.slice a5 (T.length + 1) c5, .slice da s.descs.length dc, .int .i64 s.next, pd L.pg, .int .i64 s.c0, .int .i64 s.c1] := ⟨_, rfl⟩
  obtain ⟨mu, hmu⟩ : ∃ mu : List Value → World → Nat, mu = fun vs _ => ix vs := ⟨_, rfl⟩
  have e0 : (((T.length + 1 : Nat) : Int) - 1) = ((T.length : Nat) : Int) := by omega
  rw [e0]
  refine ⟨I, mu, ?_, ?_⟩
  · rw [hI]
    refine ⟨T.length, Nat.le_refl _, rfl, ?_, fun x hx => by simp at hx, k3, hb3⟩
    have : (T.take T.length ++ (nm i, i) :: T.drop T.length).map (fun t => pd (tl t.2)) = (T.map fun t => pd (tl t.2)) ++ [pd (tl i)] := by simp
    rw [this]
    exact hs2.keep hk3 fun b hb e => hpka (e ▸ hb)
  intro _ n11 w4 hInv
  rw [hI] at hInv
  obtain ⟨n, hn, hv, hs4, hge4, k4, hb4⟩ := hInv
  simp only [List.cons.injEq, Value.int.injEq, true_and, and_true] at hv
  subst hv
  have fin : ∀ {w' : World}, Kept No w4 w' → (∀ (h : 1 ≤ n), nmLe (T[n - 1]'(by omega)) (nm i, i)) → ((.tuple #[] : Value) = .tuple #[] ∧ ∃ L', PagO w' pk { s with files := fs', terms := ts' } L' tl nm ∧ KStep w w' L L') := by
    intro w' k4' hle
    refine ⟨rfl, ?_⟩
    have kW : Kept S w w' := k4.no k4'
    have hA' : ∀ z, inA a5 z → L.own z = some .mf ∨ L.own z = none := fun z hz => by
      rcases hA z hz with e | e
      · exact .inl e
      · exact .inr (h.new_none (by omega))
    have ne := fun z {u : Tag} (hu : u ≠ .mf) => L.setT_ne hA' z hu
    have hl := ins_len T (nm i, i) hn
    refine ⟨L.setT .mf (inA a5), ⟨⟨T.take n ++ (nm i, i) :: T.drop n, a5, c5, da, dc, ?_, ?_, fun b hb => (L.setT_eq _ _ _).2 hb, hB.ds.keep kW fun b hb => no _ _ (hB.dw b hb) (by simp) (by simp), fun b hb => (ne _ (by simp)).2 (hB.dw b hb), ?_, ins_sorted hB.so hn hge4 hle⟩, fun j hj => ⟨(h.th j hj).1.keep kW (no _ _ (h.th j hj).2 (by simp) (by simp)), (ne _ (by simp)).2 (h.th j hj).2⟩, fun f hf => ?_, fun j hj => ?_, fun d hd => (h.ds d hd).keep kW (no _ _ (h.od d hd) (by simp) (by simp)), ?_, (ne _ (by simp)).2 h.oK, (ne _ (by simp)).2 h.oP, fun d hd => (ne _ (by simp)).2 (h.od d hd), fun z hz => ?_, hok⟩, ⟨?_, fun z hz => ?_⟩⟩
    · rw [hl]; exact hb4.keep k4' fun e => e
    · rw [hl]; exact hs4.keep k4' fun _ _ e => e
    · have e1 : (T.take n ++ (nm i, i) :: T.drop n).Perm (T ++ [(nm i, i)]) := by
        refine List.perm_middle.trans ?_
        rw [List.take_append_drop]
        exact (List.perm_append_singleton _ _).symm
      exact (e1.trans (hB.pm.append_right _)).trans hp
    · have hf : f ∈ fs' ++ ts' := hf
      rcases List.mem_append.1 (hp.mem_iff.2 hf) with e | e
      · exact h.nn f e
      · rw [List.mem_singleton] at e; subst e; rfl
    · exact (PObjF.keep (h.ob j hj) kW (fun z hz => no _ _ hz (by simp) (by simp)) (fun z hz => no _ _ hz (by simp) (by simp))).congr (fun z => (ne z (by simp)).symm) (fun z => (ne z (by simp)).symm)
    · obtain ⟨a, l, c, p1, p2, p3⟩ := h.pl
      exact ⟨a, l, c, p1.keep kW (no _ _ h.oP (by simp) (by simp)), p2.keep kW fun b _ hb => no _ _ (p3 b hb) (by simp) (by simp), fun b hb => (ne _ (by simp)).2 (p3 b hb)⟩
    · rcases L.setT_some _ _ hz with e | e
      · exact Nat.lt_of_lt_of_le (SlO.lt hs4 z e) k4'.size
      · exact Nat.lt_of_lt_of_le (h.lt z e) kW.size
    · refine kW.mono fun z hz e => ?_
      rw [hS] at e
      rcases e with rfl | e | e
      · rw [h.oK]; simp
      · rw [e]; simp
      · omega
    · rcases L.setT_some _ _ hz with e | e
      · rcases hA z e with e | e
        · exact .inl (by rw [e]; simp)
        · exact .inr (by omega)
      · exact .inl e
  refine condP (fun hpos => ?_) (fun hz => ?_)
  · have hnl : n - 1 < T.length := by omega
    have e1 : Int.toNat ((n : Int) - 1) = n - 1 := by omega
    have e2 : Int.toNat (n : Int) = n := Int.toNat_natCast n
    rw [e1, e2]
    have hc1 : ∀ {w' : World}, Kept No w4 w' → ∃ q, a5 = some q ∧ w'.cell? (q.add (n - 1)) = some (pd (tl T[n - 1].2)) ∧ w'.cell? (q.add n) = some (pd (tl i)) := fun k => by
      obtain ⟨q, haq, hc⟩ := slo_cell (hs4.keep k fun _ _ e => e) (by omega) (j := n - 1) (v := pd (tl T[n - 1].2)) (by rw [List.getElem?_map, ins_at T _ hn (by omega)]; rfl)
      exact ⟨q, haq, hc, (hs4.keep k fun _ _ e => e).rd.2.2.2 q haq n _ (by rw [List.getElem?_map, ins_new T _ hn]; rfl)⟩
    have hmem := hB.pm.mem_iff.1 (List.getElem_mem hnl)
    obtain ⟨A1, hA1, hA10⟩ := h.nameAt (h.nobT hmem)
    rw [h.nn _ hmem] at hA10
    obtain ⟨A2, hA2, hA20⟩ := h.nameAt hi
    have hn1 := ((hA1.keep k4 (no _ _ (h.th _ (h.nobT hmem)).2 (by simp) (by simp))).cell 0).trans hA10
    have hn2 := ((hA2.keep k4 (no _ _ (h.th _ hi).2 (by simp) (by simp))).cell 0).trans hA20
    obtain ⟨q, haq, hq1, hq2⟩ := hc1 (Kept.refl No w4)
    refine nnI ⟨_, _, _, hb4.at0 rfl, ⟨by omega, by omega⟩, ⟨by omega, by omega⟩, nnE2 haq ⟨_, hq1, nnI ⟨_, hn1, nnI ⟨_, hn2, ?_⟩⟩⟩⟩
    intro nd w5
    have hk5 : Kept No w4 w5 := Kept.drewN _ _ _
    clear_value w5
    refine condI (fun hgt => ?_) (fun hle => fin hk5 fun _ => gtr_not hle)
    intro w6
    have hk6 : Kept No w4 w6 := hk5.no (Kept.drew _ _)
    have hz6 : w6.heap.size = w5.heap.size := rfl
    clear_value w6
    have hb6 := hb4.keep hk6 fun e => e
    obtain ⟨q', haq', hq1', hq2'⟩ := hc1 hk6
    have hq : q' = q := by rw [haq] at haq'; cases haq'; rfl
    subst hq
    refine nnI ⟨_, _, _, hb6.at0 rfl, nnI ⟨_, _, _, hb6.at0 rfl, ⟨by omega, by omega⟩, nnI ⟨_, _, _, hb6.at0 rfl, ⟨by omega, by omega⟩, ⟨by omega, by omega⟩, nnE2 haq ⟨_, hq1', nnI ⟨_, _, _, hb6.at0 rfl, ⟨by omega, by omega⟩, nnE2 haq ⟨_, hq2', ⟨by omega, by omega⟩, nnE2 haq ?_⟩⟩⟩⟩⟩⟩
    refine stC_slo (hs4.keep hk6 fun _ _ e => e) haq (j := n) (by omega) fun w7 hs7 hk7 hz7 => ⟨⟨by omega, by omega⟩, nnE2 haq (stC_slo hs7 haq (j := n - 1) (by omega) fun w8 hs8 hk8 hz8 => ⟨⟨by omega, by omega⟩, ?_, ?_⟩)⟩
    · rw [hI]
      refine ⟨n - 1, by omega, by rw [show ((n : Int) - 1) = ((n - 1 : Nat) : Int) by omega], ?_, fun x hx => ?_, ?_, ?_⟩
      · rw [← List.map_set (f := fun t : ByteArray × Nat => pd (tl t.2)) (a := T[n - 1]), ← List.map_set (f := fun t : ByteArray × Nat => pd (tl t.2)) (a := (nm i, i)), ins_step T _ (by omega) hn] at hs8
        exact hs8
      · rw [show n = (n - 1) + 1 by omega] at hge4
        rw [List.drop_eq_getElem_cons hnl] at hx
        rcases List.mem_cons.1 hx with rfl | hx
        · exact gtr_le hgt
        · exact hge4 x hx
      · refine ((k4.no hk6).trans (hk7.mono fun b hb e => ?_) fun _ _ e => e).trans (hk8.mono fun b hb e => ?_) fun _ _ e => e
        all_goals
          rw [hS]
          rcases hA b e with e | e
          · exact .inr (.inl e)
          · exact .inr (.inr (by omega))
      · exact (hb6.keep hk7 hpka).keep hk8 hpka
    · rw [hmu]; simp only [ix]; omega
  · intro nd w5
    exact fin (Kept.drewN _ _ _) fun h1 => by omega

end Go.Proofs.YtpoaacnnhgebfaaGreat
