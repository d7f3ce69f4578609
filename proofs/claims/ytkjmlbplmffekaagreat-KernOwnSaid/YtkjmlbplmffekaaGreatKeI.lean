/-
  A kernel in memory: what stays of it when a thing, a description, the counts, the maps are turned, or a new thing is laid. Conditions: as each says.
  A new description; what a kernel says without a change. Conditions: as each says.
-/
import Derived.Test.YtkjmlbplmffekaaGreatKeH
set_option linter.unusedVariables false
namespace Go.Proofs.YtkjmlbplmffekaaGreat
open Go.Lw

open Classical in
noncomputable def KL.setOwn (L : KL) (i : Nat) (F : Nat → Prop) : KL :=
  { L with own := fun z => if F z then some (.obj i) else if L.own z = some (.obj i) then none else L.own z }

theorem KL.setOwn_eq (L : KL) (i : Nat) (F : Nat → Prop) (z : Nat) : (L.setOwn i F).own z = some (.obj i) ↔ F z := by
  unfold KL.setOwn
  dsimp only
  by_cases h : F z
  · simp [h]
  · rw [if_neg h]
    by_cases e : L.own z = some (.obj i)
    · simp [e, h]
    · rw [if_neg e]; exact ⟨fun h => absurd h e, fun e => absurd e h⟩

theorem KL.setOwn_ne (L : KL) {i : Nat} {F : Nat → Prop} (hF : ∀ z, F z → L.own z = some (.obj i) ∨ L.own z = none) (z : Nat) {t : Tag} (ht : t ≠ .obj i) : (L.setOwn i F).own z = some t ↔ L.own z = some t := by
  unfold KL.setOwn
  dsimp only
  by_cases h : F z
  · rw [if_pos h]
    rcases hF z h with e | e
    · rw [e]
    · rw [e]; simp [Ne.symm ht]
  · rw [if_neg h]
    by_cases e : L.own z = some (.obj i)
    · rw [if_pos e, e]; simp [Ne.symm ht]
    · rw [if_neg e]

theorem KL.setOwn_some (L : KL) (i : Nat) (F : Nat → Prop) {z : Nat} (h : (L.setOwn i F).own z ≠ none) : F z ∨ L.own z ≠ none := by
  unfold KL.setOwn at h
  dsimp only at h
  by_cases e : F z
  · exact .inl e
  · rw [if_neg e] at h
    by_cases e2 : L.own z = some (.obj i)
    · rw [if_pos e2] at h; exact absurd rfl h
    · rw [if_neg e2] at h; exact .inr h

theorem AK.mD_setD (s : AK) (L : KL) (d at_ hd : Int) : (s.setD d at_ hd).mD L = s.mD L := by
  show (s.descs.map fun x => if x.num = d then { x with at_ := at_, hd := hd } else x).map (fun d => (Value.int .i64 d.num, pd (L.dloc d.num))) = _
  rw [List.map_map]
  apply List.map_congr_left
  intro x _
  show (Value.int .i64 (if x.num = d then ({ x with at_ := at_, hd := hd } : AD) else x).num, pd (L.dloc (if x.num = d then ({ x with at_ := at_, hd := hd } : AD) else x).num)) = _
  split <;> rfl

theorem KernO.objStepG {w w' : World} {gk : Nat} {s : AK} {L : KL} (h : KernO w gk s L) {i : Nat} {d : Int} {S : Nat → Prop} (k : Kept S w w')
    (hS : ∀ z, S z → L.own z = some (.obj i) ∨ L.own z = some (.desc d)) {o : AObj} (ho : o.kd = (s.objs i).kd) {F : Nat → Prop} (hF : ∀ z, F z → L.own z = some (.obj i) ∨ w.heap.size ≤ z)
    (hO : ObjF F (fun z => L.own z = some (.lines i)) w' (L.loc i) o) {at' hd' : Int} (hD : ∀ y ∈ s.descs, y.num = d → DsO w' (L.dloc d) (s.objs y.ob).kd (L.loc y.ob) y.fl at' hd') (hr : 0 ≤ at' ∧ at' ≤ 1048576 ∧ 1 ≤ hd' ∧ hd' ≤ 1024) :
    ∃ L', KernO w' gk ((s.setO i o).setD d at' hd') L' ∧ KStep w w' L L' ∧ L'.loc = L.loc ∧ L'.dloc = L.dloc ∧ ∀ z, L'.own z ≠ none → F z ∨ L.own z ≠ none := by
  have hF' : ∀ z, F z → L.own z = some (.obj i) ∨ L.own z = none := fun z hz => by
    rcases hF z hz with e | e
    · exact .inl e
    · right
      cases ho : L.own z with
      | none => rfl
      | some t => have := h.lt z (by rw [ho]; simp); omega
  have ne := fun z {t : Tag} (ht : t ≠ .obj i) => L.setOwn_ne hF' z ht
  have eq := L.setOwn_eq i F
  have no : ∀ z t, L.own z = some t → t ≠ .obj i → t ≠ .desc d → ¬ S z := by
    intro z t hz h1 h2 hs
    rcases hS z hs with e | e
    · rw [hz] at e; simp only [Option.some.injEq] at e; exact h1 e
    · rw [hz] at e; simp only [Option.some.injEq] at e; exact h2 e
  have hkd : ∀ j, ((s.setO i o).objs j).kd = (s.objs j).kd := fun j => by
    show (if j = i then o else s.objs j).kd = _
    by_cases e : j = i
    · rw [if_pos e, ho, e]
    · rw [if_neg e]
  refine ⟨L.setOwn i F,
    { blk := h.blk.keep k (no _ _ h.oK (by simp) (by simp))
      mf := h.mf.keep k (no _ _ h.oF (by simp) (by simp))
      mt := h.mt.keep k (no _ _ h.oT (by simp) (by simp))
      md := by
        rw [AK.mD_setD]
        exact h.md.keep k (no _ _ h.oD (by simp) (by simp))
      pl := ?_
      ob := fun j hj => ?_
      ds := fun y hy => ?_
      oK := (ne _ (by simp)).2 h.oK
      oF := (ne _ (by simp)).2 h.oF
      oT := (ne _ (by simp)).2 h.oT
      oD := (ne _ (by simp)).2 h.oD
      oP := (ne _ (by simp)).2 h.oP
      od := fun y hy => ?_
      lt := fun z hz => ?_
      ok := (h.ok.setO ho).setD hr }, ⟨k.mono fun z _ hz => ?_, fun z hz => ?_⟩, rfl, rfl, fun z hz => L.setOwn_some _ _ hz⟩
  · obtain ⟨a, l, c, h1, h3⟩ := h.pl
    exact ⟨a, l, c, h1.keep k (no _ _ h.oP (by simp) (by simp)) (fun b _ hb => no _ _ (h3 b hb) (by simp) (by simp)), fun b hb => (ne _ (by simp)).2 (h3 b hb)⟩
  · show ObjF _ _ w' (L.loc j) (if j = i then o else s.objs j)
    by_cases e : j = i
    · subst e
      rw [if_pos rfl]
      exact hO.congr (fun z => (eq z).symm) (fun z => (ne z (by simp)).symm)
    · rw [if_neg e]
      have hj' : j < s.nob := hj
      refine ((h.ob j hj').keep k (fun z hz => no _ _ hz (by simpa using e) (by simp)) (fun z hz => no _ _ hz (by simp) (by simp))).congr (fun z => (ne z (by simpa using e)).symm) (fun z => (ne z (by simp)).symm)
  · obtain ⟨y', hy', ⟨hn, rfl⟩ | ⟨hn, rfl⟩⟩ := AK.setD_mem hy
    · show DsO w' (L.dloc y'.num) ((s.setO i o).objs y'.ob).kd (L.loc y'.ob) y'.fl at' hd'
      rw [hkd, hn]
      exact hD y' hy' hn
    · show DsO w' (L.dloc y.num) ((s.setO i o).objs y.ob).kd (L.loc y.ob) y.fl y.at_ y.hd
      rw [hkd]
      have hy' : y ∈ s.descs := hy'
      exact Blk.keep (h.ds y hy') k (no _ _ (h.od y hy') (by simp) (by simpa using hn))
  · obtain ⟨y', hy', ⟨hn, rfl⟩ | ⟨hn, rfl⟩⟩ := AK.setD_mem hy
    · exact (ne _ (by simp)).2 (h.od y' hy')
    · exact (ne _ (by simp)).2 (h.od y hy')
  · rcases L.setOwn_some _ _ hz with e | e
    · exact hO.lt z e
    · exact Nat.lt_of_lt_of_le (h.lt z e) k.size
  · rcases hS z hz with e | e <;> rw [e] <;> simp
  · rcases L.setOwn_some _ _ hz with e | e
    · rcases hF z e with e | e
      · left; rw [e]; simp
      · exact .inr e
    · exact .inl e

theorem KernO.objStep {w w' : World} {gk : Nat} {s : AK} {L : KL} (h : KernO w gk s L) {d : Int} {x : AD} (hx : s.desc d = some x) {S : Nat → Prop} (k : Kept S w w')
    (hS : ∀ z, S z → L.own z = some (.obj x.ob) ∨ L.own z = some (.desc d)) {o : AObj} (ho : o.kd = (s.objs x.ob).kd) {F : Nat → Prop} (hF : ∀ z, F z → L.own z = some (.obj x.ob) ∨ w.heap.size ≤ z)
    (hO : ObjF F (fun z => L.own z = some (.lines x.ob)) w' (L.loc x.ob) o) {at' hd' : Int} (hD : DsO w' (L.dloc d) (s.objs x.ob).kd (L.loc x.ob) x.fl at' hd') (hr : 0 ≤ at' ∧ at' ≤ 1048576 ∧ 1 ≤ hd' ∧ hd' ≤ 1024) :
    ∃ L', KernO w' gk ((s.setO x.ob o).setD d at' hd') L' ∧ KStep w w' L L' ∧ L'.loc = L.loc ∧ L'.dloc = L.dloc ∧ ∀ z, L'.own z ≠ none → F z ∨ L.own z ≠ none :=
  h.objStepG k hS ho hF hO (fun y hy hn => by
    have := AK.desc_of h.ok hy
    rw [hn, hx] at this
    simp only [Option.some.injEq] at this
    subst this
    exact hD) hr

/-- A thing is turned that no description need be of. -/
theorem KernO.obOnly {w w' : World} {gk : Nat} {s : AK} {L : KL} (h : KernO w gk s L) {i : Nat} {S : Nat → Prop} (k : Kept S w w')
    (hS : ∀ z, S z → L.own z = some (.obj i)) {o : AObj} (ho : o.kd = (s.objs i).kd) {F : Nat → Prop} (hF : ∀ z, F z → L.own z = some (.obj i) ∨ w.heap.size ≤ z)
    (hO : ObjF F (fun z => L.own z = some (.lines i)) w' (L.loc i) o) :
    ∃ L', KernO w' gk (s.setO i o) L' ∧ KStep w w' L L' ∧ L'.loc = L.loc ∧ L'.dloc = L.dloc ∧ ∀ z, L'.own z ≠ none → F z ∨ L.own z ≠ none := by
  have := h.objStepG (d := s.next) k (fun z hz => .inl (hS z hz)) ho hF hO (at' := 0) (hd' := 1) (fun y hy hn => by have := (h.ok.di y hy).2.2.2.2.2.2; omega) ⟨by omega, by omega, by omega, by omega⟩
  have e : (s.setO i o).setD s.next 0 1 = s.setO i o := by
    unfold AK.setD
    have : ((s.setO i o).descs.map fun x => if x.num = s.next then { x with at_ := 0, hd := 1 } else x) = (s.setO i o).descs := by
      rw [List.map_congr_left (g := id), List.map_id]
      intro y hy
      have := (h.ok.di y hy).2.2.2.2.2.2
      rw [if_neg (by omega)]; rfl
    rw [this]
  rw [e] at this
  exact this

theorem KernO.ofD {w : World} {gk : Nat} {s : AK} {L : KL} (h : KernO w gk s L) {d : Int} {x : AD} (hx : s.desc d = some x) : DsO w (L.dloc d) (s.objs x.ob).kd (L.loc x.ob) x.fl x.at_ x.hd := by
  obtain ⟨hm, hn⟩ := AK.desc_some hx
  rw [← hn]; exact h.ds x hm

theorem KernO.ofO {w : World} {gk : Nat} {s : AK} {L : KL} (h : KernO w gk s L) {d : Int} {x : AD} (hx : s.desc d = some x) : ObjO L w x.ob (s.objs x.ob) := h.ob _ (h.ok.di x (AK.desc_some hx).1).1

theorem KernO.ownD {w : World} {gk : Nat} {s : AK} {L : KL} (h : KernO w gk s L) {d : Int} {x : AD} (hx : s.desc d = some x) : L.own (L.dloc d) = some (.desc d) := by
  obtain ⟨hm, hn⟩ := AK.desc_some hx
  rw [← hn]; exact h.od x hm

/-- A description's place or holders are turned. -/
theorem KernO.descStep {w w' : World} {gk : Nat} {s : AK} {L : KL} (h : KernO w gk s L) {d : Int} {x : AD} (hx : s.desc d = some x) (k : Kept (· = L.dloc d) w w')
    {at' hd' : Int} (hD : DsO w' (L.dloc d) (s.objs x.ob).kd (L.loc x.ob) x.fl at' hd') (hr : 0 ≤ at' ∧ at' ≤ 1048576 ∧ 1 ≤ hd' ∧ hd' ≤ 1024) :
    ∃ L', KernO w' gk (s.setD d at' hd') L' ∧ KStep w w' L L' ∧ L'.loc = L.loc ∧ L'.dloc = L.dloc ∧ ∀ z, L'.own z ≠ none → L.own z ≠ none := by
  have hd := h.ownD hx
  have := h.objStep hx k (fun z hz => .inr (by rw [hz]; exact hd)) (o := s.objs x.ob) rfl (F := fun z => L.own z = some (.obj x.ob)) (fun z hz => .inl hz)
    (ObjF.keep (h.ofO hx) k (fun z hz e => by rw [e, hd] at hz; cases hz) (fun z hz e => by rw [e, hd] at hz; cases hz)) hD hr
  rw [AK.setO_same] at this
  obtain ⟨L', h1, h2, h3, h4, h5⟩ := this
  exact ⟨L', h1, h2, h3, h4, fun z hz => by
    rcases h5 z hz with e | e
    · rw [e]; simp
    · exact e⟩

/-- A thing is turned. -/
theorem KernO.obStep {w w' : World} {gk : Nat} {s : AK} {L : KL} (h : KernO w gk s L) {d : Int} {x : AD} (hx : s.desc d = some x) {S : Nat → Prop} (k : Kept S w w')
    (hS : ∀ z, S z → L.own z = some (.obj x.ob)) {o : AObj} (ho : o.kd = (s.objs x.ob).kd) {F : Nat → Prop} (hF : ∀ z, F z → L.own z = some (.obj x.ob) ∨ w.heap.size ≤ z)
    (hO : ObjF F (fun z => L.own z = some (.lines x.ob)) w' (L.loc x.ob) o) :
    ∃ L', KernO w' gk (s.setO x.ob o) L' ∧ KStep w w' L L' ∧ L'.loc = L.loc ∧ L'.dloc = L.dloc ∧ ∀ z, L'.own z ≠ none → F z ∨ L.own z ≠ none := by
  have hr := h.ok.di x (AK.desc_some hx).1
  have := h.objStep hx k (fun z hz => .inl (hS z hz)) ho hF hO (Blk.keep (h.ofD hx) k fun e => by have := hS _ e; rw [h.ownD hx] at this; cases this) ⟨hr.2.1, hr.2.2.1, hr.2.2.2.1, hr.2.2.2.2.1⟩
  have e : (s.setO x.ob o).setD d x.at_ x.hd = s.setO x.ob o := AK.setD_same (h.ok.setO ho) (x := x) hx
  rw [e] at this
  exact this

/-- The counts and the faults that are left. -/
theorem KernO.metStep {w w1 w2 : World} {gk : Nat} {s : AK} {L : KL} (h : KernO w gk s L) {x y : Int} (hb : Blk w1 gk (AK.cells { s with c0 := x, c1 := y } L)) (k1 : Kept (· = gk) w w1)
    (hp : ∃ a l c, PlO w2 L.pg a l c (s.ps.drop 1) ∧ ∀ b, inA a b → L.own b = some .flts) (k2 : Kept (· = L.pg) w1 w2) (hok : AK.Ok { s with c0 := x, c1 := y, ps := s.ps.drop 1 }) :
    KernO w2 gk { s with c0 := x, c1 := y, ps := s.ps.drop 1 } L ∧ KStep w w2 L L := by
  have k : Kept (fun z => z = gk ∨ z = L.pg) w w2 := (k1.mono fun _ _ e => .inl e).trans k2 fun _ _ e => .inr e
  have no : ∀ z t, L.own z = some t → t ≠ .kern → t ≠ .plan → ¬ (z = gk ∨ z = L.pg) := by
    rintro z t hz h1 h2 (rfl | rfl)
    · rw [h.oK] at hz; simp only [Option.some.injEq] at hz; exact h1 hz.symm
    · rw [h.oP] at hz; simp only [Option.some.injEq] at hz; exact h2 hz.symm
  refine ⟨{ blk := hb.keep k2 fun e => by have := h.oK; rw [e, h.oP] at this; cases this
            mf := h.mf.keep k (no _ _ h.oF (by simp) (by simp))
            mt := h.mt.keep k (no _ _ h.oT (by simp) (by simp))
            md := h.md.keep k (no _ _ h.oD (by simp) (by simp))
            pl := hp
            ob := fun j hj => (h.ob j hj).keep k (fun z hz => no _ _ hz (by simp) (by simp)) (fun z hz => no _ _ hz (by simp) (by simp))
            ds := fun y hy => Blk.keep (h.ds y hy) k (no _ _ (h.od y hy) (by simp) (by simp))
            oK := h.oK, oF := h.oF, oT := h.oT, oD := h.oD, oP := h.oP, od := h.od
            lt := fun z hz => Nat.lt_of_lt_of_le (h.lt z hz) k.size
            ok := hok }, ⟨k.mono fun z _ hz => ?_, fun z hz => .inl hz⟩⟩
  rcases hz with rfl | rfl
  · rw [h.oK]; simp
  · rw [h.oP]; simp

/-- A map of names is turned. -/
theorem KernO.mfStep {w w' : World} {gk : Nat} {s : AK} {L : KL} (h : KernO w gk s L) {fs : List (ByteArray × Nat)} (k : Kept (· = L.rf) w w') (hm : MapO w' L.rf .string (AK.mF { s with files := fs } L)) (hok : AK.Ok { s with files := fs }) :
    KernO w' gk { s with files := fs } L ∧ KStep w w' L L := by
  have no : ∀ z t, L.own z = some t → t ≠ .mf → ¬ (z = L.rf) := by
    rintro z t hz h1 rfl
    rw [h.oF] at hz; simp only [Option.some.injEq] at hz; exact h1 hz.symm
  refine ⟨{ blk := h.blk.keep k (no _ _ h.oK (by simp))
            mf := hm
            mt := h.mt.keep k (no _ _ h.oT (by simp))
            md := h.md.keep k (no _ _ h.oD (by simp))
            pl := ?_
            ob := fun j hj => (h.ob j hj).keep k (fun z hz => no _ _ hz (by simp)) (fun z hz => no _ _ hz (by simp))
            ds := fun y hy => Blk.keep (h.ds y hy) k (no _ _ (h.od y hy) (by simp))
            oK := h.oK, oF := h.oF, oT := h.oT, oD := h.oD, oP := h.oP, od := h.od
            lt := fun z hz => Nat.lt_of_lt_of_le (h.lt z hz) k.size
            ok := hok }, ⟨k.mono fun z _ hz => ?_, fun z hz => .inl hz⟩⟩
  · obtain ⟨a, l, c, h1, h3⟩ := h.pl
    exact ⟨a, l, c, h1.keep k (no _ _ h.oP (by simp)) (fun b _ hb => no _ _ (h3 b hb) (by simp)), h3⟩
  · subst hz; rw [h.oF]; simp

theorem KernO.mtStep {w w' : World} {gk : Nat} {s : AK} {L : KL} (h : KernO w gk s L) {fs : List (ByteArray × Nat)} (k : Kept (· = L.rt) w w') (hm : MapO w' L.rt .string (AK.mT { s with terms := fs } L)) (hok : AK.Ok { s with terms := fs }) :
    KernO w' gk { s with terms := fs } L ∧ KStep w w' L L := by
  have no : ∀ z t, L.own z = some t → t ≠ .mt → ¬ (z = L.rt) := by
    rintro z t hz h1 rfl
    rw [h.oT] at hz; simp only [Option.some.injEq] at hz; exact h1 hz.symm
  refine ⟨{ blk := h.blk.keep k (no _ _ h.oK (by simp))
            mt := hm
            mf := h.mf.keep k (no _ _ h.oF (by simp))
            md := h.md.keep k (no _ _ h.oD (by simp))
            pl := ?_
            ob := fun j hj => (h.ob j hj).keep k (fun z hz => no _ _ hz (by simp)) (fun z hz => no _ _ hz (by simp))
            ds := fun y hy => Blk.keep (h.ds y hy) k (no _ _ (h.od y hy) (by simp))
            oK := h.oK, oF := h.oF, oT := h.oT, oD := h.oD, oP := h.oP, od := h.od
            lt := fun z hz => Nat.lt_of_lt_of_le (h.lt z hz) k.size
            ok := hok }, ⟨k.mono fun z _ hz => ?_, fun z hz => .inl hz⟩⟩
  · obtain ⟨a, l, c, h1, h3⟩ := h.pl
    exact ⟨a, l, c, h1.keep k (no _ _ h.oP (by simp)) (fun b _ hb => no _ _ (h3 b hb) (by simp)), h3⟩
  · subst hz; rw [h.oT]; simp

/-- A description is gone. -/
theorem KernO.delStep {w w' : World} {gk : Nat} {s : AK} {L : KL} (h : KernO w gk s L) {d : Int} {x : AD} (hx : s.desc d = some x) (k : Kept (fun z => z = L.rd ∨ z = L.dloc d) w w') (hm : MapO w' L.rd (.int .i64) ((s.delD d).mD L)) :
    KernO w' gk (s.delD d) L ∧ KStep w w' L L := by
  have no : ∀ z t, L.own z = some t → t ≠ .md → t ≠ .desc d → ¬ (z = L.rd ∨ z = L.dloc d) := by
    rintro z t hz h1 h2 (rfl | rfl)
    · rw [h.oD] at hz; simp only [Option.some.injEq] at hz; exact h1 hz.symm
    · rw [h.ownD hx] at hz; simp only [Option.some.injEq] at hz; exact h2 hz.symm
  have hyd : ∀ y ∈ (s.delD d).descs, y ∈ s.descs ∧ y.num ≠ d := fun y hy => by
    have := List.mem_filter.1 hy
    exact ⟨this.1, by simpa using this.2⟩
  refine ⟨{ blk := h.blk.keep k (no _ _ h.oK (by simp) (by simp))
            md := hm
            mf := h.mf.keep k (no _ _ h.oF (by simp) (by simp))
            mt := h.mt.keep k (no _ _ h.oT (by simp) (by simp))
            pl := ?_
            ob := fun j hj => (h.ob j hj).keep k (fun z hz => no _ _ hz (by simp) (by simp)) (fun z hz => no _ _ hz (by simp) (by simp))
            ds := fun y hy => Blk.keep (h.ds y (hyd y hy).1) k (no _ _ (h.od y (hyd y hy).1) (by simp) (by simpa using (hyd y hy).2))
            oK := h.oK, oF := h.oF, oT := h.oT, oD := h.oD, oP := h.oP
            od := fun y hy => h.od y (hyd y hy).1
            lt := fun z hz => Nat.lt_of_lt_of_le (h.lt z hz) k.size
            ok := h.ok.delD d }, ⟨k.mono fun z _ hz => ?_, fun z hz => .inl hz⟩⟩
  · obtain ⟨a, l, c, h1, h3⟩ := h.pl
    exact ⟨a, l, c, h1.keep k (no _ _ h.oP (by simp) (by simp)) (fun b _ hb => no _ _ (h3 b hb) (by simp) (by simp)), h3⟩
  · rcases hz with rfl | rfl
    · rw [h.oD]; simp
    · rw [h.ownD hx]; simp

open Classical in
noncomputable def KL.addO (L : KL) (i b : Nat) (F R : Nat → Prop) : KL :=
  { L with loc := fun j => if j = i then b else L.loc j
           own := fun z => if F z then some (.obj i) else if R z then some (.lines i) else if L.own z = some (.obj i) ∨ L.own z = some (.lines i) then none else L.own z }

/-- A new thing is laid. -/
theorem KernO.newStep {w w' : World} {gk : Nat} {s : AK} {L : KL} (h : KernO w gk s L) (k : Kept No w w') {b : Nat} {F R : Nat → Prop} {o : AObj} (hO : ObjF F R w' b o) (hF : ∀ z, F z → w.heap.size ≤ z) (hR : ∀ z, R z → w.heap.size ≤ z ∧ z < w'.heap.size ∧ ¬ F z) :
    KernO w' gk (s.newO o) (L.addO s.nob b F R) ∧ KStep w w' L (L.addO s.nob b F R) := by
  have old : ∀ z t, L.own z = some t → t ≠ .obj s.nob → t ≠ .lines s.nob → (L.addO s.nob b F R).own z = some t := by
    intro z t hz h1 h2
    have := h.lt z (by rw [hz]; simp)
    unfold KL.addO
    dsimp only
    rw [if_neg (fun e => by have := hF z e; omega), if_neg (fun e => by have := (hR z e).1; omega), hz, if_neg]
    simp [h1, h2]
  have back : ∀ z t, t ≠ .obj s.nob → t ≠ .lines s.nob → (L.addO s.nob b F R).own z = some t → L.own z = some t := by
    intro z t h1 h2 hz
    unfold KL.addO at hz
    dsimp only at hz
    by_cases hf : F z
    · rw [if_pos hf] at hz; simp only [Option.some.injEq] at hz; exact absurd hz.symm h1
    · rw [if_neg hf] at hz
      by_cases hr : R z
      · rw [if_pos hr] at hz; simp only [Option.some.injEq] at hz; exact absurd hz.symm h2
      · rw [if_neg hr] at hz
        split at hz
        · cases hz
        · exact hz
  have newF : ∀ z, (L.addO s.nob b F R).own z = some (.obj s.nob) ↔ F z := by
    intro z
    unfold KL.addO
    dsimp only
    by_cases hf : F z
    · simp [hf]
    · rw [if_neg hf]
      by_cases hr : R z
      · simp [hr, hf]
      · rw [if_neg hr]
        split
        · simp [hf]
        · rename_i hn; simp only [hf, iff_false]; exact fun e => hn (.inl e)
  have newR : ∀ z, (L.addO s.nob b F R).own z = some (.lines s.nob) ↔ R z := by
    intro z
    unfold KL.addO
    dsimp only
    by_cases hf : F z
    · rw [if_pos hf]
      exact ⟨fun e => by simp at e, fun e => absurd hf (hR z e).2.2⟩
    · rw [if_neg hf]
      by_cases hr : R z
      · simp [hr]
      · rw [if_neg hr]
        split
        · simp [hr]
        · rename_i hn; simp only [hr, iff_false]; exact fun e => hn (.inr e)
  have loc : ∀ i, i < s.nob → (L.addO s.nob b F R).loc i = L.loc i := fun i hi => by
    show (if i = s.nob then b else L.loc i) = _
    rw [if_neg (by omega)]
  have some_ : ∀ z, (L.addO s.nob b F R).own z ≠ none → F z ∨ R z ∨ L.own z ≠ none := by
    intro z hz
    unfold KL.addO at hz
    dsimp only at hz
    by_cases hf : F z
    · exact .inl hf
    · rw [if_neg hf] at hz
      by_cases hr : R z
      · exact .inr (.inl hr)
      · rw [if_neg hr] at hz
        split at hz
        · exact absurd rfl hz
        · exact .inr (.inr hz)
  refine ⟨{ blk := h.blk.keep k (fun e => e)
            mf := ?_
            mt := ?_
            md := h.md.keep k (fun e => e)
            pl := ?_
            ob := fun j hj => ?_
            ds := fun y hy => ?_
            oK := old _ _ h.oK (by simp) (by simp)
            oF := old _ _ h.oF (by simp) (by simp)
            oT := old _ _ h.oT (by simp) (by simp)
            oD := old _ _ h.oD (by simp) (by simp)
            oP := old _ _ h.oP (by simp) (by simp)
            od := fun y hy => old _ _ (h.od y hy) (by simp) (by simp)
            lt := fun z hz => ?_
            ok := h.ok.newO o }, ⟨k.mono fun _ _ e => e.elim, fun z hz => ?_⟩⟩
  · have : (s.newO o).mF (L.addO s.nob b F R) = s.mF L := by
      apply List.map_congr_left
      intro f hf
      rw [loc _ (h.ok.fi f hf).1]
    rw [this]; exact h.mf.keep k (fun e => e)
  · have : (s.newO o).mT (L.addO s.nob b F R) = s.mT L := by
      apply List.map_congr_left
      intro f hf
      rw [loc _ (h.ok.ti f hf).1]
    rw [this]; exact h.mt.keep k (fun e => e)
  · obtain ⟨a, l, c, h1, h3⟩ := h.pl
    exact ⟨a, l, c, h1.keep k (fun e => e) (fun b _ hb e => e), fun b hb => old _ _ (h3 b hb) (by simp) (by simp)⟩
  · have hj : j < s.nob + 1 := hj
    by_cases e : j = s.nob
    · subst e
      show ObjF _ _ w' (if s.nob = s.nob then b else _) (if s.nob = s.nob then o else _)
      rw [if_pos rfl, if_pos rfl]
      exact hO.congr (fun z => (newF z).symm) (fun z => (newR z).symm)
    · have hj' : j < s.nob := by omega
      rw [AK.newO_old s o hj']
      show ObjF _ _ w' ((L.addO s.nob b F R).loc j) _
      rw [loc j hj']
      refine ((h.ob j hj').keep k (fun _ _ e => e) (fun _ _ e => e)).congr (fun z => ⟨fun hz => old _ _ hz (by simpa using e) (by simp), fun hz => back _ _ (by simpa using e) (by simp) hz⟩) (fun z => ⟨fun hz => old _ _ hz (by simp) (by simpa using e), fun hz => back _ _ (by simp) (by simpa using e) hz⟩)
  · have hy : y ∈ s.descs := hy
    have := (h.ok.di y hy).1
    show DsO w' (L.dloc y.num) ((s.newO o).objs y.ob).kd ((L.addO s.nob b F R).loc y.ob) y.fl y.at_ y.hd
    rw [AK.newO_old s o this, loc _ this]
    exact Blk.keep (h.ds y hy) k (fun e => e)
  · rcases some_ z hz with e | e | e
    · exact hO.lt z e
    · exact (hR z e).2.1
    · exact Nat.lt_of_lt_of_le (h.lt z e) k.size
  · rcases some_ z hz with e | e | e
    · exact .inr (hF z e)
    · exact .inr (hR z e).1
    · exact .inl e

end Go.Proofs.YtkjmlbplmffekaaGreat

namespace Go.Proofs.YtkjmlbplmffekaaGreat
open Go.Lw

def KL.addD (L : KL) (d : Int) (nb : Nat) : KL :=
  { L with dloc := fun x => if x = d then nb else L.dloc x, own := fun z => if z = nb then some (.desc d) else L.own z }

theorem KernO.new_none {w : World} {gk : Nat} {s : AK} {L : KL} (h : KernO w gk s L) {z : Nat} (hz : w.heap.size ≤ z) : L.own z = none := by
  cases ho : L.own z with
  | none => rfl
  | some x => have := h.lt _ (by rw [ho]; simp); omega

theorem describe_ok {w : World} {gk : Nat} {s : AK} {L : KL} (h : KernO w gk s L) {i : Nat} (hi : i < s.nob) (fl : Int) (hn2 : s.next ≤ 4611686018427387904) (hl : s.descs.length < 256) :
    CallR Tryz.prog 90 [pd gk, tv (s.objs i).kd (L.loc i), .int .i64 fl] w fun v w' => v = .int .i64 s.next ∧ ∃ L', KernO w' gk (s.newD i fl) L' ∧ KStep w w' L L' ∧ L'.loc = L.loc := by
  refine C90 ?_
  unfold L90
  have hn1 := h.ok.nx
  have hTT : Tryz.prog.underlying 69 = some (.map 3 172) := by kernel_rfl
  have hI : Tryz.prog.underlying 3 = some (.int .i64) := by kernel_rfl
  have hgd : gk ≠ L.rd := fun e => by have h1 := h.oK; rw [e, h.oD] at h1; cases h1
  have hnb : L.own w.heap.size = none := h.new_none (Nat.le_refl _)
  refine nnI ⟨_, h.blk.at (i := 4) rfl, nnI ⟨_, h.blk.at (i := 4) rfl, ⟨by omega, by omega⟩, nnI (stC_at h.blk (i := 4) (by simp [AK.cells]) fun w1 hb1 hk1 hs1 => ?_)⟩⟩
  have hb1 : Blk w1 gk ((s.newD i fl).cells L) := hb1
  refine nnI ⟨_, hb1.at (i := 3) rfl, ?_⟩
  intro w2
  have hd2 : Blk w2 w1.heap.size #[tv (s.objs i).kd (L.loc i), .int .i64 fl, .int .i64 0, .int .i64 1] := Blk.alloc _ _ _
  have hk2 : Kept No w1 w2 := Kept.alloc _ _ _
  clear_value w2
  rw [hs1] at hd2 ⊢
  have k2 : Kept (· = gk) w w2 := hk1.no hk2
  have hmd2 := h.md.keep k2 (fun e => hgd e.symm)
  have hout : ∀ x ∈ s.mD L, x.1 ≠ .int .i64 s.next := by
    intro x hx e
    obtain ⟨y, hy, rfl⟩ := List.mem_map.1 hx
    simp only [Value.int.injEq, true_and] at e
    have := (h.ok.di y hy).2.2.2.2.2.2
    omega
  obtain ⟨w3, hrun, hmd3, hk3, hs3⟩ := update_new hTT hI hmd2 (k := .int .i64 s.next) rfl hout (pd w.heap.size)
  have kA : Kept (fun x => x = gk ∨ x = L.rd) w w3 := (k2.mono fun _ _ e => .inl e).trans hk3 fun _ _ e => .inr e
  have hd2lt := hd2.lt
  have no : ∀ z t, L.own z = some t → t ≠ .kern → t ≠ .md → ¬ (z = gk ∨ z = L.rd) := by
    rintro z t hz h1 h2 (rfl | rfl)
    · rw [h.oK] at hz; simp only [Option.some.injEq] at hz; exact h1 hz.symm
    · rw [h.oD] at hz; simp only [Option.some.injEq] at hz; exact h2 hz.symm
  have old : ∀ z t, L.own z = some t → (L.addD s.next w.heap.size).own z = some t := by
    intro z t hz
    show (if z = w.heap.size then _ else L.own z) = _
    rw [if_neg (fun e => by rw [e, hnb] at hz; cases hz)]
    exact hz
  have back : ∀ z t, t ≠ .desc s.next → (L.addD s.next w.heap.size).own z = some t → L.own z = some t := by
    intro z t ht hz
    have hz : (if z = w.heap.size then some (Tag.desc s.next) else L.own z) = some t := hz
    by_cases e : z = w.heap.size
    · rw [if_pos e] at hz; simp only [Option.some.injEq] at hz; exact absurd hz.symm ht
    · rw [if_neg e] at hz; exact hz
  have dl : ∀ y ∈ s.descs, (L.addD s.next w.heap.size).dloc y.num = L.dloc y.num := fun y hy => by
    show (if y.num = s.next then w.heap.size else L.dloc y.num) = _
    have := (h.ok.di y hy).2.2.2.2.2.2
    rw [if_neg (by omega)]
  refine ⟨w3, hrun, rfl, L.addD s.next w.heap.size,
    { blk := (hb1.keep hk2 fun e => e).keep hk3 hgd
      mf := h.mf.keep kA (no _ _ h.oF (by simp) (by simp))
      mt := h.mt.keep kA (no _ _ h.oT (by simp) (by simp))
      md := ?_
      pl := ?_
      ob := fun j hj => ?_
      ds := fun d hd => ?_
      oK := old _ _ h.oK
      oF := old _ _ h.oF
      oT := old _ _ h.oT
      oD := old _ _ h.oD
      oP := old _ _ h.oP
      od := fun d hd => ?_
      lt := fun x hx => ?_
      ok := h.ok.newD hi fl hl }, ⟨kA.mono fun z _ hz => ?_, fun z hz => ?_⟩, rfl⟩
  · have : (s.newD i fl).mD (L.addD s.next w.heap.size) = s.mD L ++ [(.int .i64 s.next, pd w.heap.size)] := by
      show (s.descs ++ [_]).map _ = _
      rw [List.map_append]
      have e1 : s.descs.map (fun d => (Value.int .i64 d.num, pd ((L.addD s.next w.heap.size).dloc d.num))) = s.mD L := List.map_congr_left fun y hy => by rw [dl y hy]
      rw [e1]
      show _ ++ [(Value.int .i64 s.next, pd (if s.next = s.next then w.heap.size else _))] = _
      rw [if_pos rfl]
    rw [this]
    exact hmd3
  · obtain ⟨a, l, c, h1, h3⟩ := h.pl
    exact ⟨a, l, c, h1.keep kA (no _ _ h.oP (by simp) (by simp)) (fun b _ hb => no _ _ (h3 b hb) (by simp) (by simp)), fun b hb => old _ _ (h3 b hb)⟩
  · exact ((h.ob j hj).keep kA (fun z hz => no _ _ hz (by simp) (by simp)) (fun z hz => no _ _ hz (by simp) (by simp))).congr (fun z => ⟨fun hz => old _ _ hz, fun hz => back _ _ (by simp) hz⟩) (fun z => ⟨fun hz => old _ _ hz, fun hz => back _ _ (by simp) hz⟩)
  · have hd : d ∈ s.descs ++ [⟨s.next, i, fl, 0, 1⟩] := hd
    rcases List.mem_append.1 hd with hd | hd
    · rw [dl d hd]
      exact Blk.keep (h.ds d hd) kA (no _ _ (h.od d hd) (by simp) (by simp))
    · simp only [List.mem_singleton] at hd
      subst hd
      show DsO w3 (if s.next = s.next then w.heap.size else _) _ _ fl 0 1
      rw [if_pos rfl]
      have hrdlt := h.md.lt
      exact Blk.keep hd2 hk3 (fun e => by omega)
  · have hd : d ∈ s.descs ++ [⟨s.next, i, fl, 0, 1⟩] := hd
    rcases List.mem_append.1 hd with hd | hd
    · rw [dl d hd]; exact old _ _ (h.od d hd)
    · simp only [List.mem_singleton] at hd
      subst hd
      show (if (if s.next = s.next then w.heap.size else _) = w.heap.size then some (Tag.desc s.next) else _) = _
      rw [if_pos rfl, if_pos rfl]
  · have hx : (if x = w.heap.size then some (Tag.desc s.next) else L.own x) ≠ none := hx
    by_cases e : x = w.heap.size
    · omega
    · rw [if_neg e] at hx
      have := h.lt x hx
      omega
  · rcases hz with rfl | rfl
    · rw [h.oK]; simp
    · rw [h.oD]; simp
  · have hx : (if z = w.heap.size then some (Tag.desc s.next) else L.own z) ≠ none := hz
    by_cases e : z = w.heap.size
    · exact .inr (by omega)
    · rw [if_neg e] at hx
      exact .inl hx

theorem enone_to {w : World} {gk : Nat} {s : AK} {L : KL} (h : KernO w gk s L) {Q : Value → World → Prop} (hq : Q (.bool false) w) : CallR Tryz.prog 87 [pd gk] w Q := by
  refine C87 ?_
  unfold L87
  exact condF rfl (nnI ⟨_, h.blk.at0 rfl, hq⟩)

theorem find_ok {w : World} {gk : Nat} {s : AK} {L : KL} (h : KernO w gk s L) (d way : Int) :
    CallR Tryz.prog 92 [pd gk, .int .i64 d, .int .i64 way] w fun v w' => w' = w ∧ ((s.find d way ≠ 0 ∧ v = .tuple #[.pointer none, .int .i64 (s.find d way)]) ∨ (s.find d way = 0 ∧ ∃ x, s.desc d = some x ∧ v = .tuple #[pd (L.dloc d), .int .i64 0])) := by
  refine C92 ?_
  unfold L92
  have hT : Tryz.prog.underlying 69 = some (.map 3 172) := by kernel_rfl
  have hI : Tryz.prog.underlying 3 = some (.int .i64) := by kernel_rfl
  refine enone_to h ⟨false, rfl, condF rfl (nnI ⟨_, h.blk.at (i := 3) rfl, ?_⟩)⟩
  unfold AK.find
  cases hd : s.desc d with
  | none =>
    have hout : ∀ x ∈ s.mD L, x.1 ≠ .int .i64 d := by
      intro x hx e
      obtain ⟨y, hy, rfl⟩ := List.mem_map.1 hx
      simp only [Value.int.injEq, true_and] at e
      exact AK.desc_none hd y hy e
    refine ⟨none, false, w, lookup_out hT hI h.md (k := .int .i64 d) rfl hout (z := .pointer none) (by kernel_rfl) true, condT rfl ⟨rfl, .inl ⟨by simp, rfl⟩⟩⟩
  | some x =>
    obtain ⟨hx, hxn⟩ := AK.desc_some hd
    have hin : (Value.int .i64 d, pd (L.dloc d)) ∈ s.mD L := List.mem_map.2 ⟨x, hx, by rw [hxn]⟩
    refine ⟨some ⟨L.dloc d, 0, none⟩, true, w, lookup_in hT hI h.md (k := .int .i64 d) rfl hin true, condF rfl (nnI ⟨_, Blk.at (h.ofD hd) (i := 1) rfl, ?_⟩)⟩
    refine condI (fun hb => ⟨rfl, .inl ?_⟩) (fun hb => ⟨rfl, .inr ?_⟩)
    · have hb : bitI x.fl way ≠ way := by simpa [bitI] using hb
      dsimp only
      rw [if_pos hb]
      exact ⟨by decide, rfl⟩
    · have hb : ¬ bitI x.fl way ≠ way := by simpa [bitI] using hb
      dsimp only
      rw [if_neg hb]
      exact ⟨rfl, x, rfl, rfl⟩

theorem waitsD_ok {w : World} {gk : Nat} {s : AK} {L : KL} (h : KernO w gk s L) {d : Int} {x : AD} (hx : s.desc d = some x) : CallR Tryz.prog 93 [pd (L.dloc d)] w fun v w' => v = .bool (s.waits x) ∧ Kept No w w' := by
  have hO := h.ofO hx
  have hD := h.ofD hx
  unfold AK.waits
  cases ho : s.objs x.ob with
  | file bs =>
    rw [ho] at hD
    refine (waits_ok hD (bs := []) (e0 := 0) (e1 := 0) (fun hk => by cases hk)).mono fun v w' hv => ?_
    simpa [AObj.kd] using hv
  | term LL scr =>
    rw [ho] at hD
    refine (waits_ok hD (bs := []) (e0 := 0) (e1 := 0) (fun hk => by cases hk)).mono fun v w' hv => ?_
    simpa [AObj.kd] using hv
  | pipe bs e0 e1 =>
    rw [ho] at hD hO
    refine (waits_ok hD (bs := bs) (e0 := e0) (e1 := e1) (fun hk => hO.1)).mono fun v w' hv => ?_
    simpa [AObj.kd] using hv

theorem canread_ok {w : World} {gk : Nat} {s : AK} {L : KL} (h : KernO w gk s L) (d : Int) : CallR Tryz.prog 119 [pd gk, .int .i64 d] w fun v w' => v = .bool (s.canRead d) ∧ Kept No w w' := by
  refine C119 ?_
  unfold L119
  refine CallR.mono (find_ok h d 1) ?_
  unfold AK.canRead
  rintro v w1 ⟨rfl, ⟨hne, rfl⟩ | ⟨he, x, hd, rfl⟩⟩
  · refine ⟨_, _, rfl, condI (fun e => absurd (by simpa using e) hne) (fun _ => ⟨?_, Kept.refl _ _⟩)⟩
    rw [if_pos hne]
  · refine ⟨_, _, rfl, condTr2 (CallR.mono (waitsD_ok h hd) ?_)⟩
    rintro v w2 ⟨rfl, hk⟩
    refine ⟨_, rfl, ?_, hk⟩
    rw [if_neg (fun e => e he), hd]

theorem kindF_ok {w : World} (k : TK) (b : Nat) : CallR Tryz.prog (kindF k) [ag b] w fun v w' => v = .int .i64 (AK.kindN k) ∧ Kept No w w' := by
  cases k
  · exact C286 ⟨rfl, Kept.alloc _ _ _⟩
  · exact C281 ⟨rfl, Kept.alloc _ _ _⟩
  · exact C300 ⟨rfl, Kept.alloc _ _ _⟩

theorem kind_ok {w : World} {gk : Nat} {s : AK} {L : KL} (h : KernO w gk s L) (d : Int) : CallR Tryz.prog 37 [pd gk, .int .i64 d] w fun v w' => v = .int .i64 (s.kind d) ∧ Kept No w w' := by
  refine C37 ?_
  unfold L37
  refine CallR.mono (find_ok h d 0) ?_
  unfold AK.kind
  rintro v w1 ⟨rfl, ⟨hne, rfl⟩ | ⟨he, x, hd, rfl⟩⟩
  · refine ⟨_, _, rfl, condI (fun _ => ⟨?_, Kept.refl _ _⟩) (fun e => absurd (by simpa using e) hne)⟩
    rw [if_pos hne]
  · refine ⟨_, _, rfl, condFa2 (nnI ⟨_, Blk.at0 (h.ofD hd) rfl, _, _, _, tv_kind (s.objs x.ob).kd (L.loc x.ob) #[] _, CallR.mono (kindF_ok (s.objs x.ob).kd (L.loc x.ob)) ?_⟩)⟩
    rintro v w2 ⟨rfl, hk⟩
    refine ⟨_, rfl, ?_, hk⟩
    rw [if_neg (fun e => e he), hd]

end Go.Proofs.YtkjmlbplmffekaaGreat
