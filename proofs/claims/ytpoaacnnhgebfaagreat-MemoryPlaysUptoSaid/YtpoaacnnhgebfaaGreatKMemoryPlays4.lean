/-
  Part 4 of 7 of the proof of MemoryPlays (the last part has its theorem): the program's functions as they are read, what each does, the law. Conditions: as each says; the theorem's: none.
-/
import Derived.Test.YtpoaacnnhgebfaaGreatRows
import Derived.JoinedOf
import Derived.WalkKit
import Derived.Deep.Quiet
import Derived.OrdersHeld
import Derived.ProofKit
import Derived.SizedLaws
import Derived.Carry
import Derived.OpenShut
import Derived.ChangeSame
import Derived.ChangeArms
import Derived.Deep.Slices
import Derived.Laws.BytesArg
import Derived.Lib.SlBytesConst
import Derived.Deep.CondSized
import Derived.Test.YtpoaacnnhgebfaaGreatProg
import Derived.Defers
import Derived.RangeFuncIn
import Derived.RangeFuncLeaves
import Derived.RangeFuncRecord
import Derived.TacticsIn
import Derived.MapKept
import Derived.Laws.RangeAny
import Derived.Lib.OthersKept
import Derived.FollowTie
import Derived.Test.YtpoaacnnhgebfaaGreatChecked
import Derived.Shelf.Sort.AssemblysIn
import Derived.Sort.EveryDepth
import Derived.Maps.RangeRun
import Derived.Sort.KeysCollected
import Derived.Sort.OwnSorted
import Derived.Laws.StructEq
import Derived.LaidEql
import Derived.Test.YtpoaacnnhgebfaaGreatKMemoryPlays3
set_option linter.unusedVariables false
set_option maxRecDepth 512
namespace Go.Proofs.YtpoaacnnhgebfaaGreat
open Go.Lw
inductive AObj
  | file (bs : List Int)
  | term (LL : List (List Int)) (scr : List Int)
  | pipe (bs : List Int) (e0 e1 : Nat)
def AObj.kd : AObj → TK
  | .file _ => .disk
  | .term _ _ => .scr
  | .pipe _ _ _ => .con
structure AD where
  num : Int
  ob : Nat
  fl : Int
  at_ : Int
  hd : Int
structure AK where
  files : List (ByteArray × Nat)
  terms : List (ByteArray × Nat)
  objs : Nat → AObj
  nob : Nat
  descs : List AD
  next : Int
  ps : List (Int × Int)
  c0 : Int
  c1 : Int
namespace AK
def setO (s : AK) (i : Nat) (o : AObj) : AK := { s with objs := fun j => if j = i then o else s.objs j }
def setD (s : AK) (d at_ hd : Int) : AK := { s with descs := s.descs.map fun x => if x.num = d then { x with at_ := at_, hd := hd } else x }
def newO (s : AK) (o : AObj) : AK := { s with objs := fun j => if j = s.nob then o else s.objs j, nob := s.nob + 1 }
def newD (s : AK) (i : Nat) (fl : Int) : AK := { s with descs := s.descs ++ [⟨s.next, i, fl, 0, 1⟩], next := s.next + 1 }
def delD (s : AK) (d : Int) : AK := { s with descs := s.descs.filter fun x => decide (x.num ≠ d) }
theorem setO_same (s : AK) (i : Nat) : s.setO i (s.objs i) = s := by
  unfold setO
  have : (fun j => if j = i then s.objs i else s.objs j) = s.objs := by
    funext j
    by_cases h : j = i
    · rw [if_pos h, h]
    · rw [if_neg h]
  rw [this]
def desc (s : AK) (d : Int) : Option AD := s.descs.find? fun x => decide (x.num = d)
theorem desc_some {s : AK} {d : Int} {x : AD} (h : s.desc d = some x) : x ∈ s.descs ∧ x.num = d := by
  unfold desc at h
  exact ⟨List.mem_of_find?_eq_some h, by simpa using List.find?_some h⟩
theorem desc_none {s : AK} {d : Int} (h : s.desc d = none) : ∀ x ∈ s.descs, x.num ≠ d := by
  unfold desc at h
  rw [List.find?_eq_none] at h
  intro x hx
  simpa using h x hx
def find (s : AK) (d way : Int) : Int := match s.desc d with
  | none => 64
  | some x => if bitI x.fl way ≠ way then 65 else 0
theorem find_zero {s : AK} {d way : Int} (h : s.find d way = 0) : ∃ x, s.desc d = some x ∧ bitI x.fl way = way := by
  unfold find at h
  cases hd : s.desc d with
  | none => rw [hd] at h; cases h
  | some x =>
    rw [hd] at h
    dsimp only at h
    by_cases hb : bitI x.fl way ≠ way
    · rw [if_pos hb] at h; cases h
    · exact ⟨x, rfl, by simpa using hb⟩
def waits (s : AK) (x : AD) : Bool := match s.objs x.ob with
  | .pipe bs e0 e1 => !canRP bs e0 e1
  | _ => false
def kindN : TK → Int
  | .disk => 1
  | .scr => 2
  | .con => 3
def kind (s : AK) (d : Int) : Int := if s.find d 0 ≠ 0 then 0 else match s.desc d with
  | none => 0
  | some x => kindN (s.objs x.ob).kd
def rdO (s : AK) (x : AD) (n : Int) : List Int × AK := match s.objs x.ob with
  | .file bs => (piece bs x.at_ n, s.setD x.num (x.at_ + ((piece bs x.at_ n).length : Int)) x.hd)
  | .term LL scr => ((readT n LL).2.1, s.setO x.ob (.term (readT n LL).2.2 scr))
  | .pipe bs e0 e1 => ((readP n bs e0 e1).1, s.setO x.ob (.pipe (readP n bs e0 e1).2.2 e0 e1))
def met0 (s : AK) : AK := { s with c0 := s.c0 + 1, ps := s.ps.drop 1 }
def met1 (s : AK) : AK := { s with c1 := s.c1 + 1, ps := s.ps.drop 1 }
def read (s : AK) (d n : Int) : List Int × Int × AK :=
  if s.find d 1 ≠ 0 then ([], s.find d 1, s) else if n < 0 ∨ n > 1048576 then ([], 4, s) else if n = 0 then ([], 0, s) else match s.desc d with
    | none => ([], 64, s)
    | some x => if s.waits x = true then ([], 52, s) else if (metF s.ps n).2 ≠ 0 then ([], (metF s.ps n).2, s.met0) else ((s.met0.rdO x (metF s.ps n).1).1, 0, (s.met0.rdO x (metF s.ps n).1).2)
def roomO (s : AK) (x : AD) (n : Int) : Int × Int := match s.objs x.ob with
  | .file bs => roomD (placeF x.fl x.at_ bs) n
  | .term LL scr => roomD (scr.length : Int) n
  | .pipe bs e0 e1 => roomC n bs e0 e1
def wrO (s : AK) (x : AD) (ds : List Int) (most : Int) : Int × AK := match s.objs x.ob with
  | .file bs => (((min ds.length most.toNat : Nat) : Int), (s.setO x.ob (.file (writeF bs (placeF x.fl x.at_ bs) (ds.take (min ds.length most.toNat))).2)).setD x.num (placeF x.fl x.at_ bs + ((min ds.length most.toNat : Nat) : Int)) x.hd)
  | .term LL scr => (((min ds.length most.toNat : Nat) : Int), s.setO x.ob (.term LL (writeT (ds.take (min ds.length most.toNat)) scr).2))
  | .pipe bs e0 e1 => ((writeP ds most bs e0 e1).1, s.setO x.ob (.pipe (writeP ds most bs e0 e1).2.2 e0 e1))
def write (s : AK) (d : Int) (ds : List Int) : Int × Int × AK :=
  if s.find d 2 ≠ 0 then (0, s.find d 2, s) else if 1048576 < ds.length then (0, 5, s) else if ds.length = 0 then (0, 0, s) else match s.desc d with
    | none => (0, 64, s)
    | some x => if (s.roomO x ds.length).2 ≠ 0 then (0, (s.roomO x ds.length).2, s) else if (metF s.ps ds.length).2 ≠ 0 then (0, (metF s.ps ds.length).2, s.met1) else
      ((s.met1.wrO x ds (min (metF s.ps ds.length).1 (s.roomO x ds.length).1)).1, 0, (s.met1.wrO x ds (min (metF s.ps ds.length).1 (s.roomO x ds.length).1)).2)
def seek (s : AK) (d off wh : Int) : Int × Int × AK :=
  if s.find d 0 ≠ 0 then (0, s.find d 0, s) else match s.desc d with
    | none => (0, 64, s)
    | some x => match s.objs x.ob with
      | .file bs =>
        if wh < 0 ∨ wh > 2 then (0, 1, s) else
          let base : Int := if wh = 0 then 0 else if wh = 1 then x.at_ else (bs.length : Int)
          if off < -base ∨ off > 1048576 - base then (0, 4, s) else (base + off, 0, s.setD d (base + off) x.hd)
      | _ => (0, 66, s)
def keep (s : AK) (d : Int) : Int × AK :=
  if s.find d 0 ≠ 0 then (s.find d 0, s) else match s.desc d with
    | none => (64, s)
    | some x => if x.hd ≥ 1024 then (3, s) else (0, s.setD d x.at_ (x.hd + 1))
def leave (s : AK) (x : AD) : AK := match s.objs x.ob with
  | .pipe bs e0 e1 => s.setO x.ob (.pipe bs (leaveP (bitI x.fl 2 != 0) e0 e1).2.1 (leaveP (bitI x.fl 2 != 0) e0 e1).2.2)
  | _ => s
def drop (s : AK) (d : Int) : Int × AK :=
  if s.find d 0 ≠ 0 then (s.find d 0, s) else match s.desc d with
    | none => (64, s)
    | some x => if x.hd = 1 then (0, (s.delD d).leave x) else (0, s.setD d x.at_ (x.hd - 1))
def held (s : AK) (d : Int) : List Int := if s.find d 0 ≠ 0 then [] else match s.desc d with
  | none => []
  | some x => match s.objs x.ob with
    | .pipe bs _ _ => bs
    | _ => []
def flagged (f : Int) : Bool := decide (f ≥ 0 ∧ f ≤ 63) && (bitI f 3 != 0) && ((bitI f 2 != 0) || (bitI f 20 == 0)) && ((bitI f 8 != 0) || (bitI f 32 == 0))
def fileOf (s : AK) (nm : ByteArray) : Option (ByteArray × Nat) := s.files.find? fun f => decide (f.1 = nm)
def termOf (s : AK) (nm : ByteArray) : Option (ByteArray × Nat) := s.terms.find? fun f => decide (f.1 = nm)
def openE (s : AK) (nm : ByteArray) (fl : Int) : Int :=
  if namedS nm = false then 61 else if flagged fl = false then 65 else if 256 ≤ s.descs.length then 3 else
    if (s.fileOf nm).isSome ∨ (s.termOf nm).isSome then (if bitI fl 32 ≠ 0 then 63 else 0)
    else if bitI fl 8 = 0 then 62 else if 256 ≤ s.files.length + s.terms.length then 3 else 0
def openS (s : AK) (nm : ByteArray) (fl : Int) : AK := match s.termOf nm with
  | some t => s.newD t.2 fl
  | none => match s.fileOf nm with
    | some f => (if bitI fl 16 ≠ 0 then s.setO f.2 (.file []) else s).newD f.2 fl
    | none => ({ s.newO (.file []) with files := s.files ++ [(nm, s.nob)] }).newD s.nob fl
def open_ (s : AK) (nm : ByteArray) (fl : Int) : Int × Int × AK := if s.openE nm fl ≠ 0 then (0, s.openE nm fl, s) else (s.next, 0, s.openS nm fl)
def pipe (s : AK) : Int × Int × Int × AK := if 254 < s.descs.length then (0, 0, 3, s) else (s.next, s.next + 1, 0, ((s.newO (.pipe [] 1 1)).newD s.nob 1).newD s.nob 2)
end AK
end Go.Proofs.YtpoaacnnhgebfaaGreat
namespace Go.Proofs.YtpoaacnnhgebfaaGreat
open Go.Lw
inductive Tag
  | kern | mf | mt | md | plan | flts
  | desc (d : Int)
  | obj (i : Nat)
  | lines (i : Nat)
  deriving DecidableEq
structure KL where
  own : Nat → Option Tag
  loc : Nat → Nat
  dloc : Int → Nat
  rf : Nat
  rt : Nat
  rd : Nat
  pg : Nat
def ObjF (F R : Nat → Prop) (w : World) (b : Nat) : AObj → Prop
  | .file bs => FileO F w b bs
  | .term LL scr => TermO F R w b LL scr
  | .pipe bs e0 e1 => PipeO w b bs e0 e1 ∧ ∀ z, F z ↔ z = b
theorem ObjF.keep {F R S : Nat → Prop} {w w' : World} {b : Nat} {o : AObj} (h : ObjF F R w b o) (k : Kept S w w') (hf : ∀ z, F z → ¬ S z) (hr : ∀ z, R z → ¬ S z) : ObjF F R w' b o := by
  cases o with
  | file bs => exact FileO.keep h k hf
  | term LL scr => exact TermO.keep h k hf hr
  | pipe bs e0 e1 => exact ⟨PipeO.keep h.1 k (hf b ((h.2 b).2 rfl)), h.2⟩
theorem ObjF.mem {F R : Nat → Prop} {w : World} {b : Nat} {o : AObj} (h : ObjF F R w b o) : F b := by
  cases o with
  | file bs => obtain ⟨a, l, c, hb, ho, hna, hl, hF⟩ := h; exact (hF b).2 (.inl rfl)
  | term LL scr => obtain ⟨la, ll, lc, i, sa, sl, sc, raw, hb, hl, hc, ho, hna, hs, hF, hR, hlt, h1, h2⟩ := h; exact (hF b).2 (.inl rfl)
  | pipe bs e0 e1 => exact (h.2 b).2 rfl
theorem ObjF.lt {F R : Nat → Prop} {w : World} {b : Nat} {o : AObj} (h : ObjF F R w b o) : ∀ z, F z → z < w.heap.size := by
  cases o with
  | file bs => exact FileO.lt h
  | term LL scr => exact fun z hz => TermO.lt h z (.inl hz)
  | pipe bs e0 e1 => intro z hz; rw [(h.2 z).1 hz]; exact h.1.lt
theorem ObjF.congr {F F' R R' : Nat → Prop} {w : World} {b : Nat} {o : AObj} (h : ObjF F R w b o) (hf : ∀ z, F z ↔ F' z) (hr : ∀ z, R z ↔ R' z) : ObjF F' R' w b o := by
  have e1 : F = F' := funext fun z => propext (hf z)
  have e2 : R = R' := funext fun z => propext (hr z)
  rw [← e1, ← e2]; exact h
def ObjO (L : KL) (w : World) (i : Nat) (o : AObj) : Prop := ObjF (fun z => L.own z = some (.obj i)) (fun z => L.own z = some (.lines i)) w (L.loc i) o
structure AK.Ok (s : AK) : Prop where
  fi : ∀ f ∈ s.files, f.2 < s.nob ∧ (s.objs f.2).kd = .disk
  ti : ∀ t ∈ s.terms, t.2 < s.nob ∧ (s.objs t.2).kd = .scr
  di : ∀ d ∈ s.descs, d.ob < s.nob ∧ 0 ≤ d.at_ ∧ d.at_ ≤ 1048576 ∧ 1 ≤ d.hd ∧ d.hd ≤ 1024 ∧ 1 ≤ d.num ∧ d.num < s.next
  fn : (s.files.map (·.1)).Nodup
  tn : (s.terms.map (·.1)).Nodup
  ft : ∀ f ∈ s.files, ∀ t ∈ s.terms, f.1 ≠ t.1
  fo : (s.files.map (·.2)).Nodup
  to : (s.terms.map (·.2)).Nodup
  dn : (s.descs.map (·.num)).Nodup
  nx : 1 ≤ s.next
  dl : s.descs.length ≤ 256
  fl : s.files.length + s.terms.length ≤ 256
  ps : s.ps.length ≤ 4096
  pm : ∀ p ∈ s.ps, mayP p
  c0 : 0 ≤ s.c0
  c1 : 0 ≤ s.c1
def AK.cells (s : AK) (L : KL) : Array Value := #[.bool true, .map (some L.rf), .map (some L.rt), .map (some L.rd), .int .i64 s.next, pd L.pg, .int .i64 s.c0, .int .i64 s.c1]
def AK.mF (s : AK) (L : KL) : List (Value × Value) := s.files.map fun f => (.string f.1, pd (L.loc f.2))
def AK.mT (s : AK) (L : KL) : List (Value × Value) := s.terms.map fun f => (.string f.1, pd (L.loc f.2))
def AK.mD (s : AK) (L : KL) : List (Value × Value) := s.descs.map fun d => (.int .i64 d.num, pd (L.dloc d.num))
structure KernO (w : World) (gk : Nat) (s : AK) (L : KL) : Prop where
  blk : Blk w gk (s.cells L)
  mf : MapO w L.rf .string (s.mF L)
  mt : MapO w L.rt .string (s.mT L)
  md : MapO w L.rd (.int .i64) (s.mD L)
  pl : ∃ a l c, PlO w L.pg a l c s.ps ∧ ∀ b, inA a b → L.own b = some .flts
  ob : ∀ i, i < s.nob → ObjO L w i (s.objs i)
  ds : ∀ d ∈ s.descs, DsO w (L.dloc d.num) (s.objs d.ob).kd (L.loc d.ob) d.fl d.at_ d.hd
  oK : L.own gk = some .kern
  oF : L.own L.rf = some .mf
  oT : L.own L.rt = some .mt
  oD : L.own L.rd = some .md
  oP : L.own L.pg = some .plan
  od : ∀ d ∈ s.descs, L.own (L.dloc d.num) = some (.desc d.num)
  lt : ∀ k, L.own k ≠ none → k < w.heap.size
  ok : s.Ok
theorem KernO.keep {w w' : World} {gk : Nat} {s : AK} {L : KL} (h : KernO w gk s L) {S : Nat → Prop} (k : Kept S w w') (hS : ∀ x, S x → L.own x = none) : KernO w' gk s L where
  blk := h.blk.keep k fun e => by have := hS _ e; rw [h.oK] at this; cases this
  mf := h.mf.keep k fun e => by have := hS _ e; rw [h.oF] at this; cases this
  mt := h.mt.keep k fun e => by have := hS _ e; rw [h.oT] at this; cases this
  md := h.md.keep k fun e => by have := hS _ e; rw [h.oD] at this; cases this
  pl := by
    obtain ⟨a, l, c, h1, h3⟩ := h.pl
    exact ⟨a, l, c, h1.keep k (fun e => by have := hS _ e; rw [h.oP] at this; cases this) (fun b _ hb e => by have := hS _ e; rw [h3 b hb] at this; cases this), h3⟩
  ob := fun i hi => ObjF.keep (h.ob i hi) k (fun x hx e => by have := hS _ e; rw [hx] at this; cases this) (fun x hx e => by have := hS _ e; rw [hx] at this; cases this)
  ds := fun d hd => Blk.keep (h.ds d hd) k fun e => by have := hS _ e; rw [h.od d hd] at this; cases this
  oK := h.oK
  oF := h.oF
  oT := h.oT
  oD := h.oD
  oP := h.oP
  od := h.od
  lt := fun x hx => Nat.lt_of_lt_of_le (h.lt x hx) k.size
  ok := h.ok
theorem KernO.no {w w' : World} {gk : Nat} {s : AK} {L : KL} (h : KernO w gk s L) (k : Kept No w w') : KernO w' gk s L := h.keep k fun _ e => e.elim
structure KStep (w w' : World) (L L' : KL) : Prop where
  kept : Kept (fun z => L.own z ≠ none) w w'
  grew : ∀ z, L'.own z ≠ none → L.own z ≠ none ∨ w.heap.size ≤ z
theorem KStep.refl (w : World) (L : KL) : KStep w w L L := ⟨Kept.refl _ _, fun _ h => .inl h⟩
theorem KStep.of_no {w w' : World} {L : KL} (k : Kept No w w') : KStep w w' L L := ⟨k.mono fun _ _ e => e.elim, fun _ h => .inl h⟩
theorem KStep.trans {w w1 w2 : World} {L L1 L2 : KL} (h : KStep w w1 L L1) (k : KStep w1 w2 L1 L2) : KStep w w2 L L2 :=
  ⟨h.kept.trans k.kept fun x hx e => by
    rcases h.grew x e with e | e
    · exact e
    · omega, fun z hz => by
    rcases k.grew z hz with e | e
    · exact h.grew z e
    · exact .inr (Nat.le_trans h.kept.size e)⟩
theorem KStep.no {w w1 w2 : World} {L L1 : KL} (h : KStep w w1 L L1) (k : Kept No w1 w2) : KStep w w2 L L1 := h.trans (.of_no k)
theorem KStep.fresh {w w0 w1 : World} {L L1 : KL} (k : Kept No w w0) (h : KStep w0 w1 L L1) : KStep w w1 L L1 := (KStep.of_no k).trans h
theorem KStep.own {w w1 w2 : World} {L L1 : KL} (h : KStep w w1 L L1) {b : Nat} (k : Kept (· = b) w1 w2) (hb : w.heap.size ≤ b) : KStep w w2 L L1 :=
  ⟨h.kept.trans k fun x hx e => by omega, h.grew⟩
theorem KStep.size {w w' : World} {L L' : KL} (h : KStep w w' L L') : w.heap.size ≤ w'.heap.size := h.kept.size
namespace AK
theorem desc_of {s : AK} (h : s.Ok) {x : AD} (hx : x ∈ s.descs) : s.desc x.num = some x := by
  cases hd : s.desc x.num with
  | none => exact absurd rfl (desc_none hd x hx)
  | some y =>
    obtain ⟨hy, hn⟩ := desc_some hd
    obtain ⟨i, hi, rfl⟩ := List.mem_iff_getElem.1 hx
    obtain ⟨j, hj, rfl⟩ := List.mem_iff_getElem.1 hy
    have : (s.descs.map (·.num))[j]'(by simpa using hj) = (s.descs.map (·.num))[i]'(by simpa using hi) := by rw [List.getElem_map, List.getElem_map]; exact hn
    have := (List.getElem_inj h.dn).1 this
    subst this
    rfl
theorem Ok.setO {s : AK} (h : s.Ok) {i : Nat} {o : AObj} (ho : o.kd = (s.objs i).kd) : (s.setO i o).Ok := by
  have hk : ∀ j, ((s.setO i o).objs j).kd = (s.objs j).kd := fun j => by
    show (if j = i then o else s.objs j).kd = _
    by_cases e : j = i
    · rw [if_pos e, ho, e]
    · rw [if_neg e]
  exact
    { fi := fun f hf => ⟨(h.fi f hf).1, by rw [hk]; exact (h.fi f hf).2⟩
      ti := fun f hf => ⟨(h.ti f hf).1, by rw [hk]; exact (h.ti f hf).2⟩
      di := h.di, fn := h.fn, tn := h.tn, ft := h.ft, fo := h.fo, to := h.to, dn := h.dn, nx := h.nx, dl := h.dl, fl := h.fl, ps := h.ps, pm := h.pm, c0 := h.c0, c1 := h.c1 }
theorem setD_nums (s : AK) (d at_ hd : Int) : (s.setD d at_ hd).descs.map (·.num) = s.descs.map (·.num) := by
  show (s.descs.map fun x => if x.num = d then { x with at_ := at_, hd := hd } else x).map (·.num) = _
  rw [List.map_map]
  apply List.map_congr_left
  intro x _
  show (if x.num = d then ({ x with at_ := at_, hd := hd } : AD) else x).num = x.num
  split <;> rfl
theorem setD_mem {s : AK} {d at_ hd : Int} {y : AD} (hy : y ∈ (s.setD d at_ hd).descs) : ∃ x ∈ s.descs, (x.num = d ∧ y = { x with at_ := at_, hd := hd }) ∨ (x.num ≠ d ∧ y = x) := by
  obtain ⟨x, hx, rfl⟩ := List.mem_map.1 hy
  refine ⟨x, hx, ?_⟩
  by_cases e : x.num = d
  · exact .inl ⟨e, by rw [if_pos e]⟩
  · exact .inr ⟨e, by rw [if_neg e]⟩
theorem Ok.setD {s : AK} (h : s.Ok) {d at_ hd : Int} (hr : 0 ≤ at_ ∧ at_ ≤ 1048576 ∧ 1 ≤ hd ∧ hd ≤ 1024) : (s.setD d at_ hd).Ok where
  fi := h.fi
  ti := h.ti
  di := fun y hy => by
    obtain ⟨x, hx, ⟨_, rfl⟩ | ⟨_, rfl⟩⟩ := setD_mem hy
    · have := h.di x hx
      exact ⟨this.1, hr.1, hr.2.1, hr.2.2.1, hr.2.2.2, this.2.2.2.2.2.1, this.2.2.2.2.2.2⟩
    · exact h.di y hx
  fn := h.fn
  tn := h.tn
  ft := h.ft
  fo := h.fo
  to := h.to
  dn := by rw [setD_nums]; exact h.dn
  nx := h.nx
  dl := by
    have : (s.setD d at_ hd).descs.length = s.descs.length := by unfold AK.setD; simp
    rw [this]; exact h.dl
  fl := h.fl
  ps := h.ps
  pm := h.pm
  c0 := h.c0
  c1 := h.c1
theorem setD_same {s : AK} (h : s.Ok) {d : Int} {x : AD} (hx : s.desc d = some x) : s.setD d x.at_ x.hd = s := by
  unfold AK.setD
  have : (s.descs.map fun y => if y.num = d then { y with at_ := x.at_, hd := x.hd } else y) = s.descs := by
    rw [List.map_congr_left (g := id), List.map_id]
    intro y hy
    by_cases e : y.num = d
    · have := desc_of h hy
      rw [e, hx] at this
      simp only [Option.some.injEq] at this
      subst this
      rw [if_pos e]; rfl
    · rw [if_neg e]; rfl
  rw [this]
theorem Ok.newD {s : AK} (h : s.Ok) {i : Nat} (hi : i < s.nob) (fl : Int) (hl : s.descs.length < 256) : (s.newD i fl).Ok where
  fi := h.fi
  ti := h.ti
  di := fun d hd => by
    have hd : d ∈ s.descs ++ [⟨s.next, i, fl, 0, 1⟩] := hd
    have hn : (s.newD i fl).next = s.next + 1 := rfl
    rw [hn]
    rcases List.mem_append.1 hd with hd | hd
    · have := h.di d hd
      exact ⟨this.1, by omega⟩
    · have := h.nx
      simp only [List.mem_singleton] at hd
      subst hd
      exact ⟨hi, by dsimp only; omega⟩
  fn := h.fn
  tn := h.tn
  ft := h.ft
  fo := h.fo
  to := h.to
  dn := by
    show ((s.descs ++ [(⟨s.next, i, fl, 0, 1⟩ : AD)]).map (fun d => d.num)).Nodup
    rw [List.map_append, List.nodup_append]
    refine ⟨h.dn, by simp, fun a ha b hb e => ?_⟩
    obtain ⟨x, hx, rfl⟩ := List.mem_map.1 ha
    simp only [List.map_cons, List.map_nil, List.mem_singleton] at hb
    subst hb
    have := (h.di x hx).2.2.2.2.2.2
    omega
  nx := by have := h.nx; show 1 ≤ s.next + 1; omega
  dl := by show (s.descs ++ [_]).length ≤ 256; rw [List.length_append]; simp; omega
  fl := h.fl
  ps := h.ps
  pm := h.pm
  c0 := h.c0
  c1 := h.c1
theorem Ok.delD {s : AK} (h : s.Ok) (d : Int) : (s.delD d).Ok where
  fi := h.fi
  ti := h.ti
  di := fun x hx => h.di x (List.mem_filter.1 hx).1
  fn := h.fn
  tn := h.tn
  ft := h.ft
  fo := h.fo
  to := h.to
  dn := List.Sublist.nodup (List.filter_sublist.map _) h.dn
  nx := h.nx
  dl := Nat.le_trans (List.length_filter_le _ _) h.dl
  fl := h.fl
  ps := h.ps
  pm := h.pm
  c0 := h.c0
  c1 := h.c1
theorem newO_old (s : AK) (o : AObj) {i : Nat} (hi : i < s.nob) : (s.newO o).objs i = s.objs i := by
  show (if i = s.nob then o else s.objs i) = _
  rw [if_neg (by omega)]
theorem objs_newO_new' (s : AK) (o : AObj) : (s.newO o).objs s.nob = o := by
  show (if s.nob = s.nob then o else _) = _
  rw [if_pos rfl]
theorem objs_setO_same' (s : AK) (i : Nat) (o : AObj) : (s.setO i o).objs i = o := by
  show (if i = i then o else _) = _
  rw [if_pos rfl]
theorem Ok.newO {s : AK} (h : s.Ok) (o : AObj) : (s.newO o).Ok where
  fi := fun f hf => by
    have := h.fi f hf
    exact ⟨Nat.lt_succ_of_lt this.1, by rw [newO_old s o this.1]; exact this.2⟩
  ti := fun f hf => by
    have := h.ti f hf
    exact ⟨Nat.lt_succ_of_lt this.1, by rw [newO_old s o this.1]; exact this.2⟩
  di := fun d hd => by
    have := h.di d hd
    exact ⟨Nat.lt_succ_of_lt this.1, this.2⟩
  fn := h.fn
  tn := h.tn
  ft := h.ft
  fo := h.fo
  to := h.to
  dn := h.dn
  nx := h.nx
  dl := h.dl
  fl := h.fl
  ps := h.ps
  pm := h.pm
  c0 := h.c0
  c1 := h.c1
def addF (s : AK) (nm : ByteArray) (o : AObj) : AK := { s.newO o with files := s.files ++ [(nm, s.nob)] }
def addT (s : AK) (nm : ByteArray) (o : AObj) : AK := { s.newO o with terms := s.terms ++ [(nm, s.nob)] }
theorem nodup_snoc {α : Type} {l : List α} {x : α} (h : l.Nodup) (hx : x ∉ l) : (l ++ [x]).Nodup := by
  rw [List.nodup_append]
  refine ⟨h, by simp, fun a ha b hb e => ?_⟩
  simp only [List.mem_singleton] at hb
  subst hb; subst e
  exact hx ha
theorem Ok.addF {s : AK} (h : s.Ok) {nm : ByteArray} {o : AObj} (ho : o.kd = .disk) (h1 : ∀ f ∈ s.files, f.1 ≠ nm) (h2 : ∀ f ∈ s.terms, f.1 ≠ nm) (hl : s.files.length + s.terms.length < 256) : (s.addF nm o).Ok :=
  have g := h.newO o
  { fi := fun f hf => by
      have hf : f ∈ s.files ++ [(nm, s.nob)] := hf
      rcases List.mem_append.1 hf with hf | hf
      · exact g.fi f hf
      · simp only [List.mem_singleton] at hf
        subst hf
        refine ⟨Nat.lt_succ_self _, ?_⟩
        show (if s.nob = s.nob then o else _).kd = _
        rw [if_pos rfl]; exact ho
    ti := g.ti
    di := g.di
    fn := by
      show ((s.files ++ [(nm, s.nob)]).map (·.1)).Nodup
      rw [List.map_append]
      exact nodup_snoc h.fn fun e => by
        obtain ⟨f, hf, e⟩ := List.mem_map.1 e
        exact h1 f hf e
    tn := h.tn
    ft := fun f hf t ht => by
      have hf : f ∈ s.files ++ [(nm, s.nob)] := hf
      rcases List.mem_append.1 hf with hf | hf
      · exact h.ft f hf t ht
      · simp only [List.mem_singleton] at hf
        subst hf
        exact fun e => h2 t ht e.symm
    fo := by
      show ((s.files ++ [(nm, s.nob)]).map (·.2)).Nodup
      rw [List.map_append]
      exact nodup_snoc h.fo fun e => by
        obtain ⟨f, hf, e⟩ := List.mem_map.1 e
        have := (h.fi f hf).1
        dsimp only at e
        omega
    to := h.to
    dn := h.dn
    nx := h.nx
    dl := h.dl
    fl := by show (s.files ++ [(nm, s.nob)]).length + s.terms.length ≤ 256; rw [List.length_append]; simp; omega
    ps := h.ps
    pm := h.pm
    c0 := h.c0
    c1 := h.c1 }
theorem Ok.addT {s : AK} (h : s.Ok) {nm : ByteArray} {o : AObj} (ho : o.kd = .scr) (h1 : ∀ f ∈ s.files, f.1 ≠ nm) (h2 : ∀ f ∈ s.terms, f.1 ≠ nm) (hl : s.files.length + s.terms.length < 256) : (s.addT nm o).Ok :=
  have g := h.newO o
  { ti := fun f hf => by
      have hf : f ∈ s.terms ++ [(nm, s.nob)] := hf
      rcases List.mem_append.1 hf with hf | hf
      · exact g.ti f hf
      · simp only [List.mem_singleton] at hf
        subst hf
        refine ⟨Nat.lt_succ_self _, ?_⟩
        show (if s.nob = s.nob then o else _).kd = _
        rw [if_pos rfl]; exact ho
    fi := g.fi
    di := g.di
    tn := by
      show ((s.terms ++ [(nm, s.nob)]).map (·.1)).Nodup
      rw [List.map_append]
      exact nodup_snoc h.tn fun e => by
        obtain ⟨f, hf, e⟩ := List.mem_map.1 e
        exact h2 f hf e
    fn := h.fn
    ft := fun f hf t ht => by
      have ht : t ∈ s.terms ++ [(nm, s.nob)] := ht
      rcases List.mem_append.1 ht with ht | ht
      · exact h.ft f hf t ht
      · simp only [List.mem_singleton] at ht
        subst ht
        exact h1 f hf
    to := by
      show ((s.terms ++ [(nm, s.nob)]).map (·.2)).Nodup
      rw [List.map_append]
      exact nodup_snoc h.to fun e => by
        obtain ⟨f, hf, e⟩ := List.mem_map.1 e
        have := (h.ti f hf).1
        dsimp only at e
        omega
    fo := h.fo
    dn := h.dn
    nx := h.nx
    dl := h.dl
    fl := by show s.files.length + (s.terms ++ [(nm, s.nob)]).length ≤ 256; rw [List.length_append]; simp; omega
    ps := h.ps
    pm := h.pm
    c0 := h.c0
    c1 := h.c1 }
theorem Ok.met0 {s : AK} (h : s.Ok) : s.met0.Ok :=
  { fi := h.fi, ti := h.ti, di := h.di, fn := h.fn, tn := h.tn, ft := h.ft, fo := h.fo, to := h.to, dn := h.dn, nx := h.nx, dl := h.dl, fl := h.fl
    ps := by have := h.ps; show (s.ps.drop 1).length ≤ 4096; rw [List.length_drop]; omega
    pm := fun p hp => h.pm p (List.mem_of_mem_drop hp)
    c0 := by have := h.c0; show 0 ≤ s.c0 + 1; omega
    c1 := h.c1 }
theorem Ok.met1 {s : AK} (h : s.Ok) : s.met1.Ok :=
  { fi := h.fi, ti := h.ti, di := h.di, fn := h.fn, tn := h.tn, ft := h.ft, fo := h.fo, to := h.to, dn := h.dn, nx := h.nx, dl := h.dl, fl := h.fl
    ps := by have := h.ps; show (s.ps.drop 1).length ≤ 4096; rw [List.length_drop]; omega
    pm := fun p hp => h.pm p (List.mem_of_mem_drop hp)
    c1 := by have := h.c1; show 0 ≤ s.c1 + 1; omega
    c0 := h.c0 }
theorem metF_ok {ps : List (Int × Int)} {n : Int} (hps : ∀ p ∈ ps, mayP p) (h1 : 1 ≤ n) : (metF ps n).2 = 0 ∧ 1 ≤ (metF ps n).1 ∧ (metF ps n).1 ≤ n ∨ (metF ps n).1 = 0 ∧ ((metF ps n).2 = 22 ∨ (metF ps n).2 = 23) ∧ ps ≠ [] := by
  cases ps with
  | nil => left; exact ⟨rfl, h1, Int.le_refl _⟩
  | cons f r =>
    have hf := hps f (by simp)
    unfold metF
    dsimp only
    by_cases e1 : f.1 = 1
    · left
      rw [if_pos e1]
      unfold mayP at hf
      dsimp only
      omega
    · rw [if_neg e1]
      by_cases e2 : f.1 = 2
      · right
        rw [if_pos e2]
        exact ⟨rfl, .inl rfl, by simp⟩
      · rw [if_neg e2]
        by_cases e3 : f.1 = 3
        · right; rw [if_pos e3]; exact ⟨rfl, .inr rfl, by simp⟩
        · left; rw [if_neg e3]; exact ⟨rfl, h1, Int.le_refl _⟩
end AK
end Go.Proofs.YtpoaacnnhgebfaaGreat
namespace Go.Proofs.YtpoaacnnhgebfaaGreat
open Go.Lw
open Classical in
noncomputable def KL.setOwn (L : KL) (i : Nat) (F : Nat → Prop) : KL :=
  { L with own := fun z => if F z then some (.obj i) else if L.own z = some (.obj i) then none else L.own z }
theorem KL.setOwn_eq (L : KL) (i : Nat) (F : Nat → Prop) (z : Nat) : (L.setOwn i F).own z = some (.obj i) ↔ F z := by
  unfold KL.setOwn
  dsimp only
  by_cases h : F z
  · simp [h]
  · rw [if_neg h]
    by_cases e : L.own z = some (.obj i)
    · simp [e, h]
    · rw [if_neg e]; exact ⟨fun h => absurd h e, fun e => absurd e h⟩
theorem KL.setOwn_ne (L : KL) {i : Nat} {F : Nat → Prop} (hF : ∀ z, F z → L.own z = some (.obj i) ∨ L.own z = none) (z : Nat) {t : Tag} (ht : t ≠ .obj i) : (L.setOwn i F).own z = some t ↔ L.own z = some t := by
  unfold KL.setOwn
  dsimp only
  by_cases h : F z
  · rw [if_pos h]
    rcases hF z h with e | e
    · rw [e]
    · rw [e]; simp [Ne.symm ht]
  · rw [if_neg h]
    by_cases e : L.own z = some (.obj i)
    · rw [if_pos e, e]; simp [Ne.symm ht]
    · rw [if_neg e]
theorem KL.setOwn_some (L : KL) (i : Nat) (F : Nat → Prop) {z : Nat} (h : (L.setOwn i F).own z ≠ none) : F z ∨ L.own z ≠ none := by
  unfold KL.setOwn at h
  dsimp only at h
  by_cases e : F z
  · exact .inl e
  · rw [if_neg e] at h
    by_cases e2 : L.own z = some (.obj i)
    · rw [if_pos e2] at h; exact absurd rfl h
    · rw [if_neg e2] at h; exact .inr h
theorem AK.mD_setD (s : AK) (L : KL) (d at_ hd : Int) : (s.setD d at_ hd).mD L = s.mD L := by
  show (s.descs.map fun x => if x.num = d then { x with at_ := at_, hd := hd } else x).map (fun d => (Value.int .i64 d.num, pd (L.dloc d.num))) = _
  rw [List.map_map]
  apply List.map_congr_left
  intro x _
  show (Value.int .i64 (if x.num = d then ({ x with at_ := at_, hd := hd } : AD) else x).num, pd (L.dloc (if x.num = d then ({ x with at_ := at_, hd := hd } : AD) else x).num)) = _
  split <;> rfl
theorem KernO.objStepG {w w' : World} {gk : Nat} {s : AK} {L : KL} (h : KernO w gk s L) {i : Nat} {d : Int} {S : Nat → Prop} (k : Kept S w w')
    (hS : ∀ z, S z → L.own z = some (.obj i) ∨ L.own z = some (.desc d)) {o : AObj} (ho : o.kd = (s.objs i).kd) {F : Nat → Prop} (hF : ∀ z, F z → L.own z = some (.obj i) ∨ w.heap.size ≤ z)
    (hO : ObjF F (fun z => L.own z = some (.lines i)) w' (L.loc i) o) {at' hd' : Int} (hD : ∀ y ∈ s.descs, y.num = d → DsO w' (L.dloc d) (s.objs y.ob).kd (L.loc y.ob) y.fl at' hd') (hr : 0 ≤ at' ∧ at' ≤ 1048576 ∧ 1 ≤ hd' ∧ hd' ≤ 1024) :
    ∃ L', KernO w' gk ((s.setO i o).setD d at' hd') L' ∧ KStep w w' L L' ∧ L'.loc = L.loc ∧ L'.dloc = L.dloc ∧ ∀ z, L'.own z ≠ none → F z ∨ L.own z ≠ none := by
  have hF' : ∀ z, F z → L.own z = some (.obj i) ∨ L.own z = none := fun z hz => by
    rcases hF z hz with e | e
    · exact .inl e
    · right
      cases ho : L.own z with
      | none => rfl
      | some t => have := h.lt z (by rw [ho]; simp); omega
  have ne := fun z {t : Tag} (ht : t ≠ .obj i) => L.setOwn_ne hF' z ht
  have eq := L.setOwn_eq i F
  have no : ∀ z t, L.own z = some t → t ≠ .obj i → t ≠ .desc d → ¬ S z := by
    intro z t hz h1 h2 hs
    rcases hS z hs with e | e
    · rw [hz] at e; simp only [Option.some.injEq] at e; exact h1 e
    · rw [hz] at e; simp only [Option.some.injEq] at e; exact h2 e
  have hkd : ∀ j, ((s.setO i o).objs j).kd = (s.objs j).kd := fun j => by
    show (if j = i then o else s.objs j).kd = _
    by_cases e : j = i
    · rw [if_pos e, ho, e]
    · rw [if_neg e]
  refine ⟨L.setOwn i F,
    { blk := h.blk.keep k (no _ _ h.oK (by simp) (by simp))
      mf := h.mf.keep k (no _ _ h.oF (by simp) (by simp))
      mt := h.mt.keep k (no _ _ h.oT (by simp) (by simp))
      md := by
        rw [AK.mD_setD]
        exact h.md.keep k (no _ _ h.oD (by simp) (by simp))
      pl := ?_
      ob := fun j hj => ?_
      ds := fun y hy => ?_
      oK := (ne _ (by simp)).2 h.oK
      oF := (ne _ (by simp)).2 h.oF
      oT := (ne _ (by simp)).2 h.oT
      oD := (ne _ (by simp)).2 h.oD
      oP := (ne _ (by simp)).2 h.oP
      od := fun y hy => ?_
      lt := fun z hz => ?_
      ok := (h.ok.setO ho).setD hr }, ⟨k.mono fun z _ hz => ?_, fun z hz => ?_⟩, rfl, rfl, fun z hz => L.setOwn_some _ _ hz⟩
  · obtain ⟨a, l, c, h1, h3⟩ := h.pl
    exact ⟨a, l, c, h1.keep k (no _ _ h.oP (by simp) (by simp)) (fun b _ hb => no _ _ (h3 b hb) (by simp) (by simp)), fun b hb => (ne _ (by simp)).2 (h3 b hb)⟩
  · show ObjF _ _ w' (L.loc j) (if j = i then o else s.objs j)
    by_cases e : j = i
    · subst e
      rw [if_pos rfl]
      exact hO.congr (fun z => (eq z).symm) (fun z => (ne z (by simp)).symm)
    · rw [if_neg e]
      have hj' : j < s.nob := hj
      refine ((h.ob j hj').keep k (fun z hz => no _ _ hz (by simpa using e) (by simp)) (fun z hz => no _ _ hz (by simp) (by simp))).congr (fun z => (ne z (by simpa using e)).symm) (fun z => (ne z (by simp)).symm)
  · obtain ⟨y', hy', ⟨hn, rfl⟩ | ⟨hn, rfl⟩⟩ := AK.setD_mem hy
    · show DsO w' (L.dloc y'.num) ((s.setO i o).objs y'.ob).kd (L.loc y'.ob) y'.fl at' hd'
      rw [hkd, hn]
      exact hD y' hy' hn
    · show DsO w' (L.dloc y.num) ((s.setO i o).objs y.ob).kd (L.loc y.ob) y.fl y.at_ y.hd
      rw [hkd]
      have hy' : y ∈ s.descs := hy'
      exact Blk.keep (h.ds y hy') k (no _ _ (h.od y hy') (by simp) (by simpa using hn))
  · obtain ⟨y', hy', ⟨hn, rfl⟩ | ⟨hn, rfl⟩⟩ := AK.setD_mem hy
    · exact (ne _ (by simp)).2 (h.od y' hy')
    · exact (ne _ (by simp)).2 (h.od y hy')
  · rcases L.setOwn_some _ _ hz with e | e
    · exact hO.lt z e
    · exact Nat.lt_of_lt_of_le (h.lt z e) k.size
  · rcases hS z hz with e | e <;> rw [e] <;> simp
  · rcases L.setOwn_some _ _ hz with e | e
    · rcases hF z e with e | e
      · left; rw [e]; simp
      · exact .inr e
    · exact .inl e
theorem KernO.objStep {w w' : World} {gk : Nat} {s : AK} {L : KL} (h : KernO w gk s L) {d : Int} {x : AD} (hx : s.desc d = some x) {S : Nat → Prop} (k : Kept S w w')
    (hS : ∀ z, S z → L.own z = some (.obj x.ob) ∨ L.own z = some (.desc d)) {o : AObj} (ho : o.kd = (s.objs x.ob).kd) {F : Nat → Prop} (hF : ∀ z, F z → L.own z = some (.obj x.ob) ∨ w.heap.size ≤ z)
    (hO : ObjF F (fun z => L.own z = some (.lines x.ob)) w' (L.loc x.ob) o) {at' hd' : Int} (hD : DsO w' (L.dloc d) (s.objs x.ob).kd (L.loc x.ob) x.fl at' hd') (hr : 0 ≤ at' ∧ at' ≤ 1048576 ∧ 1 ≤ hd' ∧ hd' ≤ 1024) :
    ∃ L', KernO w' gk ((s.setO x.ob o).setD d at' hd') L' ∧ KStep w w' L L' ∧ L'.loc = L.loc ∧ L'.dloc = L.dloc ∧ ∀ z, L'.own z ≠ none → F z ∨ L.own z ≠ none :=
  h.objStepG k hS ho hF hO (fun y hy hn => by
    have := AK.desc_of h.ok hy
    rw [hn, hx] at this
    simp only [Option.some.injEq] at this
    subst this
    exact hD) hr
theorem KernO.obOnly {w w' : World} {gk : Nat} {s : AK} {L : KL} (h : KernO w gk s L) {i : Nat} {S : Nat → Prop} (k : Kept S w w')
    (hS : ∀ z, S z → L.own z = some (.obj i)) {o : AObj} (ho : o.kd = (s.objs i).kd) {F : Nat → Prop} (hF : ∀ z, F z → L.own z = some (.obj i) ∨ w.heap.size ≤ z)
    (hO : ObjF F (fun z => L.own z = some (.lines i)) w' (L.loc i) o) :
    ∃ L', KernO w' gk (s.setO i o) L' ∧ KStep w w' L L' ∧ L'.loc = L.loc ∧ L'.dloc = L.dloc ∧ ∀ z, L'.own z ≠ none → F z ∨ L.own z ≠ none := by
  have := h.objStepG (d := s.next) k (fun z hz => .inl (hS z hz)) ho hF hO (at' := 0) (hd' := 1) (fun y hy hn => by have := (h.ok.di y hy).2.2.2.2.2.2; omega) ⟨by omega, by omega, by omega, by omega⟩
  have e : (s.setO i o).setD s.next 0 1 = s.setO i o := by
    unfold AK.setD
    have : ((s.setO i o).descs.map fun x => if x.num = s.next then { x with at_ := 0, hd := 1 } else x) = (s.setO i o).descs := by
      rw [List.map_congr_left (g := id), List.map_id]
      intro y hy
      have := (h.ok.di y hy).2.2.2.2.2.2
      rw [if_neg (by omega)]; rfl
    rw [this]
  rw [e] at this
  exact this
theorem KernO.ofD {w : World} {gk : Nat} {s : AK} {L : KL} (h : KernO w gk s L) {d : Int} {x : AD} (hx : s.desc d = some x) : DsO w (L.dloc d) (s.objs x.ob).kd (L.loc x.ob) x.fl x.at_ x.hd := by
  obtain ⟨hm, hn⟩ := AK.desc_some hx
  rw [← hn]; exact h.ds x hm
theorem KernO.ofO {w : World} {gk : Nat} {s : AK} {L : KL} (h : KernO w gk s L) {d : Int} {x : AD} (hx : s.desc d = some x) : ObjO L w x.ob (s.objs x.ob) := h.ob _ (h.ok.di x (AK.desc_some hx).1).1
theorem KernO.ownD {w : World} {gk : Nat} {s : AK} {L : KL} (h : KernO w gk s L) {d : Int} {x : AD} (hx : s.desc d = some x) : L.own (L.dloc d) = some (.desc d) := by
  obtain ⟨hm, hn⟩ := AK.desc_some hx
  rw [← hn]; exact h.od x hm
theorem KernO.descStep {w w' : World} {gk : Nat} {s : AK} {L : KL} (h : KernO w gk s L) {d : Int} {x : AD} (hx : s.desc d = some x) (k : Kept (· = L.dloc d) w w')
    {at' hd' : Int} (hD : DsO w' (L.dloc d) (s.objs x.ob).kd (L.loc x.ob) x.fl at' hd') (hr : 0 ≤ at' ∧ at' ≤ 1048576 ∧ 1 ≤ hd' ∧ hd' ≤ 1024) :
    ∃ L', KernO w' gk (s.setD d at' hd') L' ∧ KStep w w' L L' ∧ L'.loc = L.loc ∧ L'.dloc = L.dloc ∧ ∀ z, L'.own z ≠ none → L.own z ≠ none := by
  have hd := h.ownD hx
  have := h.objStep hx k (fun z hz => .inr (by rw [hz]; exact hd)) (o := s.objs x.ob) rfl (F := fun z => L.own z = some (.obj x.ob)) (fun z hz => .inl hz)
    (ObjF.keep (h.ofO hx) k (fun z hz e => by rw [e, hd] at hz; cases hz) (fun z hz e => by rw [e, hd] at hz; cases hz)) hD hr
  rw [AK.setO_same] at this
  obtain ⟨L', h1, h2, h3, h4, h5⟩ := this
  exact ⟨L', h1, h2, h3, h4, fun z hz => by
    rcases h5 z hz with e | e
    · rw [e]; simp
    · exact e⟩
theorem KernO.obStep {w w' : World} {gk : Nat} {s : AK} {L : KL} (h : KernO w gk s L) {d : Int} {x : AD} (hx : s.desc d = some x) {S : Nat → Prop} (k : Kept S w w')
    (hS : ∀ z, S z → L.own z = some (.obj x.ob)) {o : AObj} (ho : o.kd = (s.objs x.ob).kd) {F : Nat → Prop} (hF : ∀ z, F z → L.own z = some (.obj x.ob) ∨ w.heap.size ≤ z)
    (hO : ObjF F (fun z => L.own z = some (.lines x.ob)) w' (L.loc x.ob) o) :
    ∃ L', KernO w' gk (s.setO x.ob o) L' ∧ KStep w w' L L' ∧ L'.loc = L.loc ∧ L'.dloc = L.dloc ∧ ∀ z, L'.own z ≠ none → F z ∨ L.own z ≠ none := by
  have hr := h.ok.di x (AK.desc_some hx).1
  have := h.objStep hx k (fun z hz => .inl (hS z hz)) ho hF hO (Blk.keep (h.ofD hx) k fun e => by have := hS _ e; rw [h.ownD hx] at this; cases this) ⟨hr.2.1, hr.2.2.1, hr.2.2.2.1, hr.2.2.2.2.1⟩
  have e : (s.setO x.ob o).setD d x.at_ x.hd = s.setO x.ob o := AK.setD_same (h.ok.setO ho) (x := x) hx
  rw [e] at this
  exact this
theorem KernO.metStep {w w1 w2 : World} {gk : Nat} {s : AK} {L : KL} (h : KernO w gk s L) {x y : Int} (hb : Blk w1 gk (AK.cells { s with c0 := x, c1 := y } L)) (k1 : Kept (· = gk) w w1)
    (hp : ∃ a l c, PlO w2 L.pg a l c (s.ps.drop 1) ∧ ∀ b, inA a b → L.own b = some .flts) (k2 : Kept (· = L.pg) w1 w2) (hok : AK.Ok { s with c0 := x, c1 := y, ps := s.ps.drop 1 }) :
    KernO w2 gk { s with c0 := x, c1 := y, ps := s.ps.drop 1 } L ∧ KStep w w2 L L := by
  have k : Kept (fun z => z = gk ∨ z = L.pg) w w2 := (k1.mono fun _ _ e => .inl e).trans k2 fun _ _ e => .inr e
  have no : ∀ z t, L.own z = some t → t ≠ .kern → t ≠ .plan → ¬ (z = gk ∨ z = L.pg) := by
    rintro z t hz h1 h2 (rfl | rfl)
    · rw [h.oK] at hz; simp only [Option.some.injEq] at hz; exact h1 hz.symm
    · rw [h.oP] at hz; simp only [Option.some.injEq] at hz; exact h2 hz.symm
  refine ⟨{ blk := hb.keep k2 fun e => by have := h.oK; rw [e, h.oP] at this; cases this
            mf := h.mf.keep k (no _ _ h.oF (by simp) (by simp))
            mt := h.mt.keep k (no _ _ h.oT (by simp) (by simp))
            md := h.md.keep k (no _ _ h.oD (by simp) (by simp))
            pl := hp
            ob := fun j hj => (h.ob j hj).keep k (fun z hz => no _ _ hz (by simp) (by simp)) (fun z hz => no _ _ hz (by simp) (by simp))
            ds := fun y hy => Blk.keep (h.ds y hy) k (no _ _ (h.od y hy) (by simp) (by simp))
            oK := h.oK, oF := h.oF, oT := h.oT, oD := h.oD, oP := h.oP, od := h.od
            lt := fun z hz => Nat.lt_of_lt_of_le (h.lt z hz) k.size
            ok := hok }, ⟨k.mono fun z _ hz => ?_, fun z hz => .inl hz⟩⟩
  rcases hz with rfl | rfl
  · rw [h.oK]; simp
  · rw [h.oP]; simp
theorem KernO.mfStep {w w' : World} {gk : Nat} {s : AK} {L : KL} (h : KernO w gk s L) {fs : List (ByteArray × Nat)} (k : Kept (· = L.rf) w w') (hm : MapO w' L.rf .string (AK.mF { s with files := fs } L)) (hok : AK.Ok { s with files := fs }) :
    KernO w' gk { s with files := fs } L ∧ KStep w w' L L := by
  have no : ∀ z t, L.own z = some t → t ≠ .mf → ¬ (z = L.rf) := by
    rintro z t hz h1 rfl
    rw [h.oF] at hz; simp only [Option.some.injEq] at hz; exact h1 hz.symm
  refine ⟨{ blk := h.blk.keep k (no _ _ h.oK (by simp))
            mf := hm
            mt := h.mt.keep k (no _ _ h.oT (by simp))
            md := h.md.keep k (no _ _ h.oD (by simp))
            pl := ?_
            ob := fun j hj => (h.ob j hj).keep k (fun z hz => no _ _ hz (by simp)) (fun z hz => no _ _ hz (by simp))
            ds := fun y hy => Blk.keep (h.ds y hy) k (no _ _ (h.od y hy) (by simp))
            oK := h.oK, oF := h.oF, oT := h.oT, oD := h.oD, oP := h.oP, od := h.od
            lt := fun z hz => Nat.lt_of_lt_of_le (h.lt z hz) k.size
            ok := hok }, ⟨k.mono fun z _ hz => ?_, fun z hz => .inl hz⟩⟩
  · obtain ⟨a, l, c, h1, h3⟩ := h.pl
    exact ⟨a, l, c, h1.keep k (no _ _ h.oP (by simp)) (fun b _ hb => no _ _ (h3 b hb) (by simp)), h3⟩
  · subst hz; rw [h.oF]; simp
theorem KernO.mtStep {w w' : World} {gk : Nat} {s : AK} {L : KL} (h : KernO w gk s L) {fs : List (ByteArray × Nat)} (k : Kept (· = L.rt) w w') (hm : MapO w' L.rt .string (AK.mT { s with terms := fs } L)) (hok : AK.Ok { s with terms := fs }) :
    KernO w' gk { s with terms := fs } L ∧ KStep w w' L L := by
  have no : ∀ z t, L.own z = some t → t ≠ .mt → ¬ (z = L.rt) := by
    rintro z t hz h1 rfl
    rw [h.oT] at hz; simp only [Option.some.injEq] at hz; exact h1 hz.symm
  refine ⟨{ blk := h.blk.keep k (no _ _ h.oK (by simp))
            mt := hm
            mf := h.mf.keep k (no _ _ h.oF (by simp))
            md := h.md.keep k (no _ _ h.oD (by simp))
            pl := ?_
            ob := fun j hj => (h.ob j hj).keep k (fun z hz => no _ _ hz (by simp)) (fun z hz => no _ _ hz (by simp))
            ds := fun y hy => Blk.keep (h.ds y hy) k (no _ _ (h.od y hy) (by simp))
            oK := h.oK, oF := h.oF, oT := h.oT, oD := h.oD, oP := h.oP, od := h.od
            lt := fun z hz => Nat.lt_of_lt_of_le (h.lt z hz) k.size
            ok := hok }, ⟨k.mono fun z _ hz => ?_, fun z hz => .inl hz⟩⟩
  · obtain ⟨a, l, c, h1, h3⟩ := h.pl
    exact ⟨a, l, c, h1.keep k (no _ _ h.oP (by simp)) (fun b _ hb => no _ _ (h3 b hb) (by simp)), h3⟩
  · subst hz; rw [h.oT]; simp
open Classical in
noncomputable def KL.addO (L : KL) (i b : Nat) (F R : Nat → Prop) : KL :=
  { L with loc := fun j => if j = i then b else L.loc j
           own := fun z => if F z then some (.obj i) else if R z then some (.lines i) else if L.own z = some (.obj i) ∨ L.own z = some (.lines i) then none else L.own z }
theorem KernO.newStep {w w' : World} {gk : Nat} {s : AK} {L : KL} (h : KernO w gk s L) (k : Kept No w w') {b : Nat} {F R : Nat → Prop} {o : AObj} (hO : ObjF F R w' b o) (hF : ∀ z, F z → w.heap.size ≤ z) (hR : ∀ z, R z → w.heap.size ≤ z ∧ z < w'.heap.size ∧ ¬ F z) :
    KernO w' gk (s.newO o) (L.addO s.nob b F R) ∧ KStep w w' L (L.addO s.nob b F R) := by
  have old : ∀ z t, L.own z = some t → t ≠ .obj s.nob → t ≠ .lines s.nob → (L.addO s.nob b F R).own z = some t := by
    intro z t hz h1 h2
    have := h.lt z (by rw [hz]; simp)
    unfold KL.addO
    dsimp only
    rw [if_neg (fun e => by have := hF z e; omega), if_neg (fun e => by have := (hR z e).1; omega), hz, if_neg]
    simp [h1, h2]
  have back : ∀ z t, t ≠ .obj s.nob → t ≠ .lines s.nob → (L.addO s.nob b F R).own z = some t → L.own z = some t := by
    intro z t h1 h2 hz
    unfold KL.addO at hz
    dsimp only at hz
    by_cases hf : F z
    · rw [if_pos hf] at hz; simp only [Option.some.injEq] at hz; exact absurd hz.symm h1
    · rw [if_neg hf] at hz
      by_cases hr : R z
      · rw [if_pos hr] at hz; simp only [Option.some.injEq] at hz; exact absurd hz.symm h2
      · rw [if_neg hr] at hz
        split at hz
        · cases hz
        · exact hz
  have newF : ∀ z, (L.addO s.nob b F R).own z = some (.obj s.nob) ↔ F z := by
    intro z
    unfold KL.addO
    dsimp only
    by_cases hf : F z
    · simp [hf]
    · rw [if_neg hf]
      by_cases hr : R z
      · simp [hr, hf]
      · rw [if_neg hr]
        split
        · simp [hf]
        · rename_i hn; simp only [hf, iff_false]; exact fun e => hn (.inl e)
  have newR : ∀ z, (L.addO s.nob b F R).own z = some (.lines s.nob) ↔ R z := by
    intro z
    unfold KL.addO
    dsimp only
    by_cases hf : F z
    · rw [if_pos hf]
      exact ⟨fun e => by simp at e, fun e => absurd hf (hR z e).2.2⟩
    · rw [if_neg hf]
      by_cases hr : R z
      · simp [hr]
      · rw [if_neg hr]
        split
        · simp [hr]
        · rename_i hn; simp only [hr, iff_false]; exact fun e => hn (.inr e)
  have loc : ∀ i, i < s.nob → (L.addO s.nob b F R).loc i = L.loc i := fun i hi => by
    show (if i = s.nob then b else L.loc i) = _
    rw [if_neg (by omega)]
  have some_ : ∀ z, (L.addO s.nob b F R).own z ≠ none → F z ∨ R z ∨ L.own z ≠ none := by
    intro z hz
    unfold KL.addO at hz
    dsimp only at hz
    by_cases hf : F z
    · exact .inl hf
    · rw [if_neg hf] at hz
      by_cases hr : R z
      · exact .inr (.inl hr)
      · rw [if_neg hr] at hz
        split at hz
        · exact absurd rfl hz
        · exact .inr (.inr hz)
  refine ⟨{ blk := h.blk.keep k (fun e => e)
            mf := ?_
            mt := ?_
            md := h.md.keep k (fun e => e)
            pl := ?_
            ob := fun j hj => ?_
            ds := fun y hy => ?_
            oK := old _ _ h.oK (by simp) (by simp)
            oF := old _ _ h.oF (by simp) (by simp)
            oT := old _ _ h.oT (by simp) (by simp)
            oD := old _ _ h.oD (by simp) (by simp)
            oP := old _ _ h.oP (by simp) (by simp)
            od := fun y hy => old _ _ (h.od y hy) (by simp) (by simp)
            lt := fun z hz => ?_
            ok := h.ok.newO o }, ⟨k.mono fun _ _ e => e.elim, fun z hz => ?_⟩⟩
  · have : (s.newO o).mF (L.addO s.nob b F R) = s.mF L := by
      apply List.map_congr_left
      intro f hf
      rw [loc _ (h.ok.fi f hf).1]
    rw [this]; exact h.mf.keep k (fun e => e)
  · have : (s.newO o).mT (L.addO s.nob b F R) = s.mT L := by
      apply List.map_congr_left
      intro f hf
      rw [loc _ (h.ok.ti f hf).1]
    rw [this]; exact h.mt.keep k (fun e => e)
  · obtain ⟨a, l, c, h1, h3⟩ := h.pl
    exact ⟨a, l, c, h1.keep k (fun e => e) (fun b _ hb e => e), fun b hb => old _ _ (h3 b hb) (by simp) (by simp)⟩
  · have hj : j < s.nob + 1 := hj
    by_cases e : j = s.nob
    · subst e
      show ObjF _ _ w' (if s.nob = s.nob then b else _) (if s.nob = s.nob then o else _)
      rw [if_pos rfl, if_pos rfl]
      exact hO.congr (fun z => (newF z).symm) (fun z => (newR z).symm)
    · have hj' : j < s.nob := by omega
      rw [AK.newO_old s o hj']
      show ObjF _ _ w' ((L.addO s.nob b F R).loc j) _
      rw [loc j hj']
      refine ((h.ob j hj').keep k (fun _ _ e => e) (fun _ _ e => e)).congr (fun z => ⟨fun hz => old _ _ hz (by simpa using e) (by simp), fun hz => back _ _ (by simpa using e) (by simp) hz⟩) (fun z => ⟨fun hz => old _ _ hz (by simp) (by simpa using e), fun hz => back _ _ (by simp) (by simpa using e) hz⟩)
  · have hy : y ∈ s.descs := hy
    have := (h.ok.di y hy).1
    show DsO w' (L.dloc y.num) ((s.newO o).objs y.ob).kd ((L.addO s.nob b F R).loc y.ob) y.fl y.at_ y.hd
    rw [AK.newO_old s o this, loc _ this]
    exact Blk.keep (h.ds y hy) k (fun e => e)
  · rcases some_ z hz with e | e | e
    · exact hO.lt z e
    · exact (hR z e).2.1
    · exact Nat.lt_of_lt_of_le (h.lt z e) k.size
  · rcases some_ z hz with e | e | e
    · exact .inr (hF z e)
    · exact .inr (hR z e).1
    · exact .inl e
end Go.Proofs.YtpoaacnnhgebfaaGreat
namespace Go.Proofs.YtpoaacnnhgebfaaGreat
open Go.Lw
def KL.addD (L : KL) (d : Int) (nb : Nat) : KL :=
  { L with dloc := fun x => if x = d then nb else L.dloc x, own := fun z => if z = nb then some (.desc d) else L.own z }
theorem KernO.new_none {w : World} {gk : Nat} {s : AK} {L : KL} (h : KernO w gk s L) {z : Nat} (hz : w.heap.size ≤ z) : L.own z = none := by
  cases ho : L.own z with
  | none => rfl
  | some x => have := h.lt _ (by rw [ho]; simp); omega
theorem describe_ok {w : World} {gk : Nat} {s : AK} {L : KL} (h : KernO w gk s L) {i : Nat} (hi : i < s.nob) (fl : Int) (hn2 : s.next ≤ 4611686018427387904) (hl : s.descs.length < 256) :
    CallR Tryz.prog 121 [pd gk, tv (s.objs i).kd (L.loc i), .int .i64 fl] w fun v w' => v = .int .i64 s.next ∧ ∃ L', KernO w' gk (s.newD i fl) L' ∧ KStep w w' L L' ∧ L'.loc = L.loc := by
  refine C121 ?_
  unfold L121
  have hn1 := h.ok.nx
  have hTT : Tryz.prog.underlying 114 = some (.map 3 256) := by kernel_rfl
  have hI : Tryz.prog.underlying 3 = some (.int .i64) := by kernel_rfl
  have hgd : gk ≠ L.rd := fun e => by have h1 := h.oK; rw [e, h.oD] at h1; cases h1
  have hnb : L.own w.heap.size = none := h.new_none (Nat.le_refl _)
  refine nnI ⟨_, h.blk.at (i := 4) rfl, nnI ⟨_, h.blk.at (i := 4) rfl, ⟨by omega, by omega⟩, nnI (stC_at h.blk (i := 4) (by simp [AK.cells]) fun w1 hb1 hk1 hs1 => ?_)⟩⟩
  have hb1 : Blk w1 gk ((s.newD i fl).cells L) := hb1
  refine nnI ⟨_, hb1.at (i := 3) rfl, ?_⟩
  intro w2
  have hd2 : Blk w2 w1.heap.size #[tv (s.objs i).kd (L.loc i), .int .i64 fl, .int .i64 0, .int .i64 1] := Blk.alloc _ _ _
  have hk2 : Kept No w1 w2 := Kept.alloc _ _ _
  clear_value w2
  rw [hs1] at hd2 ⊢
  have k2 : Kept (· = gk) w w2 := hk1.no hk2
  have hmd2 := h.md.keep k2 (fun e => hgd e.symm)
  have hout : ∀ x ∈ s.mD L, x.1 ≠ .int .i64 s.next := by
    intro x hx e
    obtain ⟨y, hy, rfl⟩ := List.mem_map.1 hx
    simp only [Value.int.injEq, true_and] at e
    have := (h.ok.di y hy).2.2.2.2.2.2
    omega
  obtain ⟨w3, hrun, hmd3, hk3, hs3⟩ := update_new hTT hI hmd2 (k := .int .i64 s.next) rfl hout (pd w.heap.size)
  have kA : Kept (fun x => x = gk ∨ x = L.rd) w w3 := (k2.mono fun _ _ e => .inl e).trans hk3 fun _ _ e => .inr e
  have hd2lt := hd2.lt
  have no : ∀ z t, L.own z = some t → t ≠ .kern → t ≠ .md → ¬ (z = gk ∨ z = L.rd) := by
    rintro z t hz h1 h2 (rfl | rfl)
    · rw [h.oK] at hz; simp only [Option.some.injEq] at hz; exact h1 hz.symm
    · rw [h.oD] at hz; simp only [Option.some.injEq] at hz; exact h2 hz.symm
  have old : ∀ z t, L.own z = some t → (L.addD s.next w.heap.size).own z = some t := by
    intro z t hz
    show (if z = w.heap.size then _ else L.own z) = _
    rw [if_neg (fun e => by rw [e, hnb] at hz; cases hz)]
    exact hz
  have back : ∀ z t, t ≠ .desc s.next → (L.addD s.next w.heap.size).own z = some t → L.own z = some t := by
    intro z t ht hz
    have hz : (if z = w.heap.size then some (Tag.desc s.next) else L.own z) = some t := hz
    by_cases e : z = w.heap.size
    · rw [if_pos e] at hz; simp only [Option.some.injEq] at hz; exact absurd hz.symm ht
    · rw [if_neg e] at hz; exact hz
  have dl : ∀ y ∈ s.descs, (L.addD s.next w.heap.size).dloc y.num = L.dloc y.num := fun y hy => by
    show (if y.num = s.next then w.heap.size else L.dloc y.num) = _
    have := (h.ok.di y hy).2.2.2.2.2.2
    rw [if_neg (by omega)]
  refine ⟨w3, hrun, rfl, L.addD s.next w.heap.size,
    { blk := (hb1.keep hk2 fun e => e).keep hk3 hgd
      mf := h.mf.keep kA (no _ _ h.oF (by simp) (by simp))
      mt := h.mt.keep kA (no _ _ h.oT (by simp) (by simp))
      md := ?_
      pl := ?_
      ob := fun j hj => ?_
      ds := fun d hd => ?_
      oK := old _ _ h.oK
      oF := old _ _ h.oF
      oT := old _ _ h.oT
      oD := old _ _ h.oD
      oP := old _ _ h.oP
      od := fun d hd => ?_
      lt := fun x hx => ?_
      ok := h.ok.newD hi fl hl }, ⟨kA.mono fun z _ hz => ?_, fun z hz => ?_⟩, rfl⟩
  · have : (s.newD i fl).mD (L.addD s.next w.heap.size) = s.mD L ++ [(.int .i64 s.next, pd w.heap.size)] := by
      show (s.descs ++ [_]).map _ = _
      rw [List.map_append]
      have e1 : s.descs.map (fun d => (Value.int .i64 d.num, pd ((L.addD s.next w.heap.size).dloc d.num))) = s.mD L := List.map_congr_left fun y hy => by rw [dl y hy]
      rw [e1]
      show _ ++ [(Value.int .i64 s.next, pd (if s.next = s.next then w.heap.size else _))] = _
      rw [if_pos rfl]
    rw [this]
    exact hmd3
  · obtain ⟨a, l, c, h1, h3⟩ := h.pl
    exact ⟨a, l, c, h1.keep kA (no _ _ h.oP (by simp) (by simp)) (fun b _ hb => no _ _ (h3 b hb) (by simp) (by simp)), fun b hb => old _ _ (h3 b hb)⟩
  · exact ((h.ob j hj).keep kA (fun z hz => no _ _ hz (by simp) (by simp)) (fun z hz => no _ _ hz (by simp) (by simp))).congr (fun z => ⟨fun hz => old _ _ hz, fun hz => back _ _ (by simp) hz⟩) (fun z => ⟨fun hz => old _ _ hz, fun hz => back _ _ (by simp) hz⟩)
  · have hd : d ∈ s.descs ++ [⟨s.next, i, fl, 0, 1⟩] := hd
    rcases List.mem_append.1 hd with hd | hd
    · rw [dl d hd]
      exact Blk.keep (h.ds d hd) kA (no _ _ (h.od d hd) (by simp) (by simp))
    · simp only [List.mem_singleton] at hd
      subst hd
      show DsO w3 (if s.next = s.next then w.heap.size else _) _ _ fl 0 1
      rw [if_pos rfl]
      have hrdlt := h.md.lt
      exact Blk.keep hd2 hk3 (fun e => by omega)
  · have hd : d ∈ s.descs ++ [⟨s.next, i, fl, 0, 1⟩] := hd
    rcases List.mem_append.1 hd with hd | hd
    · rw [dl d hd]; exact old _ _ (h.od d hd)
    · simp only [List.mem_singleton] at hd
      subst hd
      show (if (if s.next = s.next then w.heap.size else _) = w.heap.size then some (Tag.desc s.next) else _) = _
      rw [if_pos rfl, if_pos rfl]
  · have hx : (if x = w.heap.size then some (Tag.desc s.next) else L.own x) ≠ none := hx
    by_cases e : x = w.heap.size
    · omega
    · rw [if_neg e] at hx
      have := h.lt x hx
      omega
  · rcases hz with rfl | rfl
    · rw [h.oK]; simp
    · rw [h.oD]; simp
  · have hx : (if z = w.heap.size then some (Tag.desc s.next) else L.own z) ≠ none := hz
    by_cases e : z = w.heap.size
    · exact .inr (by omega)
    · rw [if_neg e] at hx
      exact .inl hx
theorem enone_to {w : World} {gk : Nat} {s : AK} {L : KL} (h : KernO w gk s L) {Q : Value → World → Prop} (hq : Q (.bool false) w) : CallR Tryz.prog 118 [pd gk] w Q := by
  refine C118 ?_
  unfold L118
  exact condF rfl (nnI ⟨_, h.blk.at0 rfl, hq⟩)
theorem find_ok {w : World} {gk : Nat} {s : AK} {L : KL} (h : KernO w gk s L) (d way : Int) :
    CallR Tryz.prog 165 [pd gk, .int .i64 d, .int .i64 way] w fun v w' => w' = w ∧ ((s.find d way ≠ 0 ∧ v = .tuple #[.pointer none, .int .i64 (s.find d way)]) ∨ (s.find d way = 0 ∧ ∃ x, s.desc d = some x ∧ v = .tuple #[pd (L.dloc d), .int .i64 0])) := by
  refine C165 ?_
  unfold L165
  have hT : Tryz.prog.underlying 114 = some (.map 3 256) := by kernel_rfl
  have hI : Tryz.prog.underlying 3 = some (.int .i64) := by kernel_rfl
  refine enone_to h ⟨false, rfl, condF rfl (nnI ⟨_, h.blk.at (i := 3) rfl, ?_⟩)⟩
  unfold AK.find
  cases hd : s.desc d with
  | none =>
    have hout : ∀ x ∈ s.mD L, x.1 ≠ .int .i64 d := by
      intro x hx e
      obtain ⟨y, hy, rfl⟩ := List.mem_map.1 hx
      simp only [Value.int.injEq, true_and] at e
      exact AK.desc_none hd y hy e
    refine ⟨none, false, w, lookup_out hT hI h.md (k := .int .i64 d) rfl hout (z := .pointer none) (by kernel_rfl) true, condT rfl ⟨rfl, .inl ⟨by simp, rfl⟩⟩⟩
  | some x =>
    obtain ⟨hx, hxn⟩ := AK.desc_some hd
    have hin : (Value.int .i64 d, pd (L.dloc d)) ∈ s.mD L := List.mem_map.2 ⟨x, hx, by rw [hxn]⟩
    refine ⟨some ⟨L.dloc d, 0, none⟩, true, w, lookup_in hT hI h.md (k := .int .i64 d) rfl hin true, condF rfl (nnI ⟨_, Blk.at (h.ofD hd) (i := 1) rfl, ?_⟩)⟩
    refine condI (fun hb => ⟨rfl, .inl ?_⟩) (fun hb => ⟨rfl, .inr ?_⟩)
    · have hb : bitI x.fl way ≠ way := by simpa [bitI] using hb
      dsimp only
      rw [if_pos hb]
      exact ⟨by decide, rfl⟩
    · have hb : ¬ bitI x.fl way ≠ way := by simpa [bitI] using hb
      dsimp only
      rw [if_neg hb]
      exact ⟨rfl, x, rfl, rfl⟩
theorem waitsD_ok {w : World} {gk : Nat} {s : AK} {L : KL} (h : KernO w gk s L) {d : Int} {x : AD} (hx : s.desc d = some x) : CallR Tryz.prog 166 [pd (L.dloc d)] w fun v w' => v = .bool (s.waits x) ∧ Kept No w w' := by
  have hO := h.ofO hx
  have hD := h.ofD hx
  unfold AK.waits
  cases ho : s.objs x.ob with
  | file bs =>
    rw [ho] at hD
    refine (waits_ok hD (bs := []) (e0 := 0) (e1 := 0) (fun hk => by cases hk)).mono fun v w' hv => ?_
    simpa [AObj.kd] using hv
  | term LL scr =>
    rw [ho] at hD
    refine (waits_ok hD (bs := []) (e0 := 0) (e1 := 0) (fun hk => by cases hk)).mono fun v w' hv => ?_
    simpa [AObj.kd] using hv
  | pipe bs e0 e1 =>
    rw [ho] at hD hO
    refine (waits_ok hD (bs := bs) (e0 := e0) (e1 := e1) (fun hk => hO.1)).mono fun v w' hv => ?_
    simpa [AObj.kd] using hv
end Go.Proofs.YtpoaacnnhgebfaaGreat
namespace Go.Proofs.YtpoaacnnhgebfaaGreat
open Go.Lw
theorem add60 (g : Nat) : ((⟨g, 0, none⟩ : Addr).add 6).add (Int.toNat 0) = (⟨g, 0, none⟩ : Addr).add 6 := by rw [Lw.add_add]; rfl
theorem add61 (g : Nat) : ((⟨g, 0, none⟩ : Addr).add 6).add (Int.toNat 1) = (⟨g, 0, none⟩ : Addr).add 7 := by rw [Lw.add_add]; rfl
theorem rdO_ok {w : World} {gk : Nat} {s : AK} {L : KL} (h : KernO w gk s L) {d : Int} {x : AD} (hx : s.desc d = some x) {m : Int} (hm0 : 0 ≤ m) (hm1 : m ≤ 1048576) :
    CallR Tryz.prog (readF (s.objs x.ob).kd) [ag (L.loc x.ob), pd (L.dloc d), .int .i64 m] w fun v w' => ∃ a l c L', v = .slice a l c ∧ OB w' a l c (s.rdO x m).1 ∧ Fresh w a ∧ KernO w' gk (s.rdO x m).2 L' ∧ KStep w w' L L' ∧ (∀ z, inA a z → L'.own z = none) := by
  have ap : ∀ {a : Option Addr} {L' : KL}, Fresh w a → (∀ z, L'.own z ≠ none → L.own z ≠ none) → ∀ z, inA a z → L'.own z = none := by
    intro a L' hf hn z hz
    cases ho : L'.own z with
    | none => rfl
    | some t => exact absurd (h.new_none (hf z hz)) (hn z (by rw [ho]; simp))
  have hO := h.ofO hx
  have hD := h.ofD hx
  have hr := h.ok.di x (AK.desc_some hx).1
  have hn := (AK.desc_some hx).2
  unfold AK.rdO
  cases ho : s.objs x.ob with
  | file bs =>
    rw [ho] at hO hD
    have hO : FileO _ w (L.loc x.ob) bs := hO
    obtain ⟨k, hk⟩ : ∃ k : Nat, x.at_ = (k : Int) := ⟨x.at_.toNat, by omega⟩
    rw [hk] at hD
    refine CallR.mono (dread_ok hO hD (by omega) hm0 hm1) ?_
    rintro v w' ⟨a, c, rfl, ob, hf, hD', hk'⟩
    have hl := hO.len
    have hpl : k + (piece bs (k : Int) m).length ≤ 1048576 := by unfold piece; rw [List.length_take, List.length_drop]; omega
    have hkd : (s.objs x.ob).kd = .disk := by rw [ho]; rfl
    obtain ⟨L', h', st, _, _, hnw⟩ := h.descStep hx hk' (at' := x.at_ + ((piece bs x.at_ m).length : Int)) (hd' := x.hd) (by rw [hkd, hk]; have := hD'; rw [Int.natCast_add] at this; exact this) ⟨by omega, by rw [hk]; omega, hr.2.2.2.1, hr.2.2.2.2.1⟩
    dsimp only
    rw [hn, hk]
    rw [hk] at h'
    exact ⟨a, _, c, L', rfl, ob, hf, h', st, ap hf hnw⟩
  | term LL scr =>
    rw [ho] at hO
    have hO : TermO _ _ w (L.loc x.ob) LL scr := hO
    refine CallR.mono (sread_ok hO m) ?_
    rintro v w' ⟨a, c, rfl, ob, hf, hk', hO'⟩
    obtain ⟨L', h', st, _, _, hnw⟩ := h.obStep hx hk' (fun z hz => by subst hz; exact (h.ofO hx).mem) (o := .term (readT m LL).2.2 scr) (by rw [ho]; rfl) (F := fun z => L.own z = some (.obj x.ob)) (fun z hz => .inl hz) hO'
    exact ⟨a, _, c, L', rfl, ob, hf, h', st, ap hf fun z hz => by
      rcases hnw z hz with e | e
      · rw [e]; simp
      · exact e⟩
  | pipe bs e0 e1 =>
    rw [ho] at hO
    have hO : PipeO w (L.loc x.ob) bs e0 e1 ∧ _ := hO
    refine CallR.mono (cread_ok' hO.1 m) ?_
    rintro v w' ⟨a, l, c, rfl, ob, hf, hO', hk'⟩
    obtain ⟨L', h', st, _, _, hnw⟩ := h.obStep hx hk' (fun z hz => by subst hz; exact (h.ofO hx).mem) (o := .pipe (readP m bs e0 e1).2.2 e0 e1) (by rw [ho]; rfl) (F := fun z => L.own z = some (.obj x.ob)) (fun z hz => .inl hz) ⟨hO', hO.2⟩
    exact ⟨a, l, c, L', rfl, ob, hf, h', st, ap hf fun z hz => by
      rcases hnw z hz with e | e
      · rw [e]; simp
      · exact e⟩
theorem PlO.le {w : World} {g : Nat} {a : Option Addr} {l c : Nat} {ps : List (Int × Int)} (h : PlO w g a l c ps) : ps.length = l := by
  have := h.rd.1
  rw [Fv_len] at this
  omega
theorem kernRead_ok {w : World} {gk : Nat} {s : AK} {L : KL} (h : KernO w gk s L) (d n : Int) (hc : s.c0 ≤ 4611686018427387904) :
    CallR Tryz.prog 64 [pd gk, .int .i64 d, .int .i64 n] w fun v w' => ∃ a l c L', v = .tuple #[.slice a l c, .int .i64 (s.read d n).2.1] ∧ OB w' a l c (s.read d n).1 ∧ Fresh w a ∧ KernO w' gk (s.read d n).2.2 L' ∧ KStep w w' L L' ∧ (∀ z, inA a z → L'.own z = none) := by
  refine C64 ?_
  unfold L64
  have bad : ∀ (e : Int) (w' : World), s.read d n = ([], e, s) → Kept No w w' → ∃ a l c L', (.tuple #[.slice none 0 0, .int .i64 e] : Value) = .tuple #[.slice a l c, .int .i64 (s.read d n).2.1] ∧ OB w' a l c (s.read d n).1 ∧ Fresh w a ∧ KernO w' gk (s.read d n).2.2 L' ∧ KStep w w' L L' ∧ (∀ z, inA a z → L'.own z = none) := by
    intro e w' hr hk
    rw [hr]
    exact ⟨none, 0, 0, L, rfl, OB.nil _, Fresh.none _, h.no hk, .of_no hk, fun z hz => absurd hz (inA_none z)⟩
  refine CallR.mono (find_ok h d 1) ?_
  rintro v w1 ⟨rfl, ⟨hne, rfl⟩ | ⟨he, x, hx, rfl⟩⟩
  · exact ⟨_, _, rfl, condN (fun _ => bad _ _ (by unfold AK.read; rw [if_pos hne]) (Kept.refl _ _)) (fun e => absurd e hne)⟩
  have hr : s.read d n = if n < 0 ∨ n > 1048576 then ([], 4, s) else if n = 0 then ([], 0, s) else
      if s.waits x = true then ([], 52, s) else if (metF s.ps n).2 ≠ 0 then ([], (metF s.ps n).2, s.met0) else ((s.met0.rdO x (metF s.ps n).1).1, 0, (s.met0.rdO x (metF s.ps n).1).2) := by
    unfold AK.read; rw [if_neg (fun e => e he), hx]
  refine ⟨_, _, rfl, condN (fun e => absurd rfl e) (fun _ => condP (fun h1 => bad _ _ (by rw [hr, if_pos (.inl h1)]) (Kept.refl _ _)) (fun h1 => condP (fun h2 => bad _ _ (by rw [hr, if_pos (.inr h2)]) (Kept.refl _ _)) (fun h2 => ?_)))⟩
  rw [if_neg (by omega)] at hr
  refine condI (fun h3 => bad _ _ (by rw [hr, if_pos (by simpa using h3)]) (Kept.refl _ _)) (fun h3 => ?_)
  have h3 : n ≠ 0 := by simpa using h3
  rw [if_neg h3] at hr
  refine CallR.mono (waitsD_ok h hx) ?_
  rintro v w2 ⟨rfl, hk2⟩
  refine ⟨_, rfl, condI (fun hw => bad _ _ (by rw [hr, if_pos hw]) hk2) (fun hw => ?_)⟩
  rw [if_neg (by rw [hw]; simp)] at hr
  intro w3
  have hk3 : Kept No w1 w3 := hk2.no (Kept.drew _ _)
  clear_value w3
  have hK3 := h.no hk3
  have hc0 := h.ok.c0
  refine nnI ⟨⟨by decide, by decide⟩, _, by rw [add60]; exact hK3.blk.at (i := 6) rfl, ⟨by omega, by omega⟩, nnI ⟨⟨by decide, by decide⟩, ?_⟩⟩
  rw [add60]
  refine stC_at hK3.blk (i := 6) (by simp [AK.cells]) fun w4 hb4 hk4 hs4 => ?_
  have hb4 : Blk w4 gk (AK.cells { s with c0 := s.c0 + 1, c1 := s.c1 } L) := hb4
  obtain ⟨ap, lp, cp, hp, hpo⟩ := hK3.pl
  have hps := h.ok.ps
  have hle := hp.le
  have hp4 := hp.keep hk4 (fun e => by have := h.oP; rw [e, h.oK] at this; cases this) (fun b _ hb e => by have := hpo b hb; rw [e, h.oK] at this; cases this)
  refine nnI ⟨_, hb4.at (i := 5) rfl, CallR.mono (fnext_ok hp4 (by omega) (by omega) (by omega)) ?_⟩
  rintro v w5 ⟨rfl, ⟨a', c', hin, hp'⟩, hk5⟩
  obtain ⟨hK5, st5⟩ := hK3.metStep hb4 hk4 ⟨a', _, c', hp', fun b hb => hpo b (hin b hb)⟩ hk5 h.ok.met0
  have st : KStep w1 w5 L L := (KStep.of_no hk3).trans st5
  refine ⟨_, _, rfl, condN (fun hne => ?_) (fun he2 => ?_)⟩
  · rw [if_pos hne] at hr
    rw [hr]
    exact ⟨none, 0, 0, L, rfl, OB.nil _, Fresh.none _, hK5, st, fun z hz => absurd hz (inA_none z)⟩
  · rw [if_neg (fun e => e he2)] at hr
    have hK5 : KernO w5 gk s.met0 L := hK5
    have hx5 : s.met0.desc d = some x := hx
    have hm : 0 ≤ (metF s.ps n).1 ∧ (metF s.ps n).1 ≤ 1048576 := by
      rcases AK.metF_ok h.ok.pm (n := n) (by omega) with ⟨_, h1, h2⟩ | ⟨_, h1, _⟩
      · omega
      · omega
    refine nnI ⟨_, Blk.at0 (hK5.ofD hx5) rfl, _, _, _, tv_read (s.met0.objs x.ob).kd (L.loc x.ob) #[pd (L.dloc d), .int .i64 (metF s.ps n).1] _, CallR.mono (rdO_ok hK5 hx5 hm.1 hm.2) ?_⟩
    rintro v w7 ⟨a, l, c, L', rfl, ob, hf, hK7, st7, hap⟩
    rw [hr]
    have hz := st.size
    exact ⟨a, l, c, rfl, a, l, c, L', rfl, ob, fun b hb => by have := hf b hb; omega, hK7, st.trans st7, hap⟩
theorem roomO_ok {w : World} {gk : Nat} {s : AK} {L : KL} (h : KernO w gk s L) {d : Int} {x : AD} (hx : s.desc d = some x) (n : Int) :
    CallR Tryz.prog (roomF (s.objs x.ob).kd) [ag (L.loc x.ob), pd (L.dloc d), .int .i64 n] w fun v w' => v = .tuple #[.int .i64 (s.roomO x n).1, .int .i64 (s.roomO x n).2] ∧ Kept No w w' := by
  have hO := h.ofO hx
  have hD := h.ofD hx
  have hr := h.ok.di x (AK.desc_some hx).1
  unfold AK.roomO
  cases ho : s.objs x.ob with
  | file bs =>
    rw [ho] at hO hD
    have hO : FileO _ w (L.loc x.ob) bs := hO
    exact droom_ok hO hD hr.2.1 hr.2.2.1
  | term LL scr =>
    rw [ho] at hO
    have hO : TermO _ _ w (L.loc x.ob) LL scr := hO
    exact sroom_ok hO n
  | pipe bs e0 e1 =>
    rw [ho] at hO
    have hO : PipeO w (L.loc x.ob) bs e0 e1 ∧ _ := hO
    exact croom_ok hO.1 n
theorem roomD_le {p n : Int} (h : (roomD p n).2 = 0) (hn : 1 ≤ n) : 1 ≤ (roomD p n).1 ∧ (roomD p n).1 ≤ n ∧ (roomD p n).1 ≤ 1048576 - p := by
  unfold roomD at h ⊢
  by_cases e : 1048576 - p > 0
  · rw [if_pos e]
    show 1 ≤ mn n (1048576 - p) ∧ mn n (1048576 - p) ≤ n ∧ mn n (1048576 - p) ≤ 1048576 - p
    unfold mn
    split <;> omega
  · rw [if_neg e] at h; cases h
theorem wrO_ok {w : World} {gk : Nat} {s : AK} {L : KL} (h : KernO w gk s L) {d : Int} {x : AD} (hx : s.desc d = some x) {a : Option Addr} {l c : Nat} {ds : List Int} (hd : RdB w a l c ds) (hl : l ≤ 1048576) (hap : ds ≠ [] → ∀ k, inA a k → L.own k = none)
    (h0 : ds ≠ []) {n most : Int} (hn : 1 ≤ n) (hm0 : 1 ≤ most) (hr0 : (s.roomO x n).2 = 0) (hm : most ≤ (s.roomO x n).1) :
    CallR Tryz.prog (wrF (s.objs x.ob).kd) [ag (L.loc x.ob), pd (L.dloc d), .slice a l c, .int .i64 most] w fun v w' => v = .int .i64 (s.wrO x ds most).1 ∧ ∃ L', KernO w' gk (s.wrO x ds most).2 L' ∧ KStep w w' L L' := by
  have hO := h.ofO hx
  have hD := h.ofD hx
  have hr := h.ok.di x (AK.desc_some hx).1
  have hnm := (AK.desc_some hx).2
  have hln := hd.len
  unfold AK.roomO at hr0 hm
  unfold AK.wrO
  cases ho : s.objs x.ob with
  | file bs =>
    rw [ho] at hO hD hr0 hm
    dsimp only at hr0 hm
    have hO : FileO _ w (L.loc x.ob) bs := hO
    have hrm := roomD_le hr0 hn
    have hkd : (s.objs x.ob).kd = .disk := by rw [ho]; rfl
    have hpl : 0 ≤ placeF x.fl x.at_ bs := by unfold placeF; split <;> omega
    refine CallR.mono (dwrite_ok hO hD hr.2.1 hr.2.2.1 hd (by omega) (fun k hk => ⟨fun e => ?_, fun e => ?_⟩) (fun e => ?_) (by omega)) ?_
    · have := hap h0 k hk; rw [e] at this; cases this
    · have := hap h0 k hk; rw [e, h.ownD hx] at this; cases this
    · rw [h.ownD hx] at e; cases e
    rintro v w' ⟨rfl, ⟨F', hO', hg⟩, hD', hk'⟩
    rw [hln]
    obtain ⟨L', h', st, _, _, hnw⟩ := h.objStep hx hk' (fun z hz => by
      rcases hz with hz | rfl
      · exact .inl hz
      · exact .inr (h.ownD hx)) (o := .file (writeF bs (placeF x.fl x.at_ bs) (ds.take (min l most.toNat))).2) (by rw [ho]; rfl) (F := F') (fun z hz => hg z hz) hO' (at' := placeF x.fl x.at_ bs + ((min l most.toNat : Nat) : Int)) (hd' := x.hd) (by rw [hkd]; exact hD') ⟨by omega, by omega, hr.2.2.2.1, hr.2.2.2.2.1⟩
    dsimp only
    rw [hnm]
    exact ⟨rfl, L', h', st⟩
  | term LL scr =>
    rw [ho] at hO
    have hO : TermO _ _ w (L.loc x.ob) LL scr := hO
    refine CallR.mono (swrite_ok hO hd (by omega) (by omega)) ?_
    rintro v w' ⟨rfl, F', hO', hg, hk'⟩
    obtain ⟨L', h', st, _, _, hnw⟩ := h.obStep hx hk' (fun z hz => hz) (o := .term LL (writeT (ds.take (min l most.toNat)) scr).2) (by rw [ho]; rfl) (F := F') hg hO'
    rw [hln]
    exact ⟨rfl, L', h', st⟩
  | pipe bs e0 e1 =>
    rw [ho] at hO
    have hO : PipeO w (L.loc x.ob) bs e0 e1 ∧ _ := hO
    refine CallR.mono (cwrite_ok' hO.1 hd (fun _ e => ?_) most) ?_
    · have := hap h0 _ e; rw [(h.ofO hx).mem] at this; cases this
    rintro v w' ⟨rfl, hO', hk'⟩
    obtain ⟨L', h', st, _, _, hnw⟩ := h.obStep hx hk' (fun z hz => by subst hz; exact (h.ofO hx).mem) (o := .pipe (writeP ds most bs e0 e1).2.2 e0 e1) (by rw [ho]; rfl) (F := fun z => L.own z = some (.obj x.ob)) (fun z hz => .inl hz) ⟨hO', hO.2⟩
    exact ⟨rfl, L', h', st⟩
theorem room_le {s : AK} {x : AD} {n : Int} (h : (s.roomO x n).2 = 0) (hn : 1 ≤ n) : 1 ≤ (s.roomO x n).1 := by
  unfold AK.roomO at h ⊢
  cases ho : s.objs x.ob with
  | file bs => rw [ho] at h; exact (roomD_le h hn).1
  | term LL scr => rw [ho] at h; exact (roomD_le h hn).1
  | pipe bs e0 e1 =>
    rw [ho] at h
    dsimp only at h ⊢
    unfold roomC at h ⊢
    by_cases h1 : e0 = 0
    · rw [if_pos h1] at h; cases h
    · rw [if_neg h1] at h ⊢
      by_cases h2 : canWP n bs e0 e1 = false
      · rw [if_pos h2] at h; cases h
      · rw [if_neg h2]; exact hn
set_option maxHeartbeats 1000000 in
theorem kernWrite_ok {w : World} {gk : Nat} {s : AK} {L : KL} (h : KernO w gk s L) (d : Int) {a : Option Addr} {l c : Nat} {ds : List Int} (hd : RdB w a l c ds) (hap : ds ≠ [] → ∀ k, inA a k → L.own k = none) (hc : s.c1 ≤ 4611686018427387904) :
    CallR Tryz.prog 66 [pd gk, .int .i64 d, .slice a l c] w fun v w' => v = .tuple #[.int .i64 (s.write d ds).1, .int .i64 (s.write d ds).2.1] ∧ ∃ L', KernO w' gk (s.write d ds).2.2 L' ∧ KStep w w' L L' := by
  refine C66 ?_
  unfold L66
  have hln := hd.len
  have bad : ∀ (e : Int) (w' : World), s.write d ds = (0, e, s) → Kept No w w' → (.tuple #[.int .i64 0, .int .i64 e] : Value) = .tuple #[.int .i64 (s.write d ds).1, .int .i64 (s.write d ds).2.1] ∧ ∃ L', KernO w' gk (s.write d ds).2.2 L' ∧ KStep w w' L L' := by
    intro e w' hr hk
    rw [hr]
    exact ⟨rfl, L, h.no hk, .of_no hk⟩
  refine CallR.mono (find_ok h d 2) ?_
  rintro v w1 ⟨rfl, ⟨hne, rfl⟩ | ⟨he, x, hx, rfl⟩⟩
  · exact ⟨_, _, rfl, condN (fun _ => bad _ _ (by unfold AK.write; rw [if_pos hne]) (Kept.refl _ _)) (fun e => absurd e hne)⟩
  have hr : s.write d ds = if 1048576 < ds.length then (0, 5, s) else if ds.length = 0 then (0, 0, s) else
      if (s.roomO x ds.length).2 ≠ 0 then (0, (s.roomO x ds.length).2, s) else if (metF s.ps ds.length).2 ≠ 0 then (0, (metF s.ps ds.length).2, s.met1) else
      ((s.met1.wrO x ds (min (metF s.ps ds.length).1 (s.roomO x ds.length).1)).1, 0, (s.met1.wrO x ds (min (metF s.ps ds.length).1 (s.roomO x ds.length).1)).2) := by
    unfold AK.write; rw [if_neg (fun e => e he), hx]
  rw [hln] at hr
  refine ⟨_, _, rfl, condN (fun e => absurd rfl e) (fun _ => condP (fun h1 => bad _ _ (by rw [hr, if_pos (by omega)]) (Kept.refl _ _)) (fun h1 => ?_))⟩
  rw [if_neg (by omega)] at hr
  refine condI (fun h3 => bad _ _ (by rw [hr, if_pos (by simpa using h3)]) (Kept.refl _ _)) (fun h3 => ?_)
  have h3 : l ≠ 0 := by simpa using h3
  rw [if_neg h3] at hr
  have hne : ds ≠ [] := fun e => by rw [e] at hln; simp at hln; omega
  refine nnI ⟨_, Blk.at0 (h.ofD hx) rfl, _, _, _, tv_room (s.objs x.ob).kd (L.loc x.ob) #[pd (L.dloc d), .int .i64 ((l : Nat) : Int)] _, CallR.mono (roomO_ok h hx (l : Int)) ?_⟩
  rintro v w3 ⟨rfl, hk3⟩
  refine ⟨_, _, rfl, condN (fun hn => bad _ _ (by rw [hr, if_pos hn]) hk3) (fun hr0 => ?_)⟩
  rw [if_neg (fun e => e hr0)] at hr
  intro w4
  have hk4 : Kept No w1 w4 := hk3.no (Kept.drew _ _)
  clear_value w4
  have hK4 := h.no hk4
  have hc1 := h.ok.c1
  refine nnI ⟨⟨by decide, by decide⟩, _, by rw [add61]; exact hK4.blk.at (i := 7) rfl, ⟨by omega, by omega⟩, nnI ⟨⟨by decide, by decide⟩, ?_⟩⟩
  rw [add61]
  refine stC_at hK4.blk (i := 7) (by simp [AK.cells]) fun w5 hb5 hk5 hs5 => ?_
  have hb5 : Blk w5 gk (AK.cells { s with c0 := s.c0, c1 := s.c1 + 1 } L) := hb5
  obtain ⟨ap, lp, cp, hp, hpo⟩ := hK4.pl
  have hps := h.ok.ps
  have hle := hp.le
  have hp5 := hp.keep hk5 (fun e => by have := h.oP; rw [e, h.oK] at this; cases this) (fun b _ hb e => by have := hpo b hb; rw [e, h.oK] at this; cases this)
  refine nnI ⟨_, hb5.at (i := 5) rfl, CallR.mono (fnext_ok hp5 (by omega) (by omega) (by omega)) ?_⟩
  rintro v w6 ⟨rfl, ⟨a', c', hin, hp'⟩, hk6⟩
  obtain ⟨hK6, st6⟩ := hK4.metStep hb5 hk5 ⟨a', _, c', hp', fun b hb => hpo b (hin b hb)⟩ hk6 h.ok.met1
  have st : KStep w1 w6 L L := (KStep.of_no hk4).trans st6
  refine ⟨_, _, rfl, condN (fun hne => ?_) (fun he2 => ?_)⟩
  · rw [if_pos hne] at hr
    rw [hr]
    exact ⟨rfl, L, hK6, st⟩
  · rw [if_neg (fun e => e he2)] at hr
    have hK6 : KernO w6 gk s.met1 L := hK6
    have hx6 : s.met1.desc d = some x := hx
    have hm : 1 ≤ (metF s.ps (l : Int)).1 := by
      rcases AK.metF_ok h.ok.pm (n := (l : Int)) (by omega) with ⟨_, h1, h2⟩ | ⟨_, h1, _⟩
      · exact h1
      · omega
    have hrl := room_le hr0 (by omega)
    have hd6 : RdB w6 a l c ds := hd.keep st.kept fun b _ hb e => e (hap hne b hb)
    have hmn : mn (metF s.ps (l : Int)).1 (s.roomO x (l : Int)).1 = min (metF s.ps (l : Int)).1 (s.roomO x (l : Int)).1 := by unfold mn; omega
    rw [hmn]
    refine nnI ⟨_, Blk.at0 (hK6.ofD hx6) rfl, _, _, _, tv_write (s.met1.objs x.ob).kd (L.loc x.ob) #[pd (L.dloc d), .slice a l c, .int .i64 _] _, CallR.mono (wrO_ok hK6 hx6 hd6 (by omega) hap hne (n := (l : Int)) (by omega) (by omega) hr0 (by show _ ≤ (s.roomO x (l : Int)).1; omega)) ?_⟩
    rintro v w8 ⟨rfl, L', hK8, st8⟩
    rw [hr]
    exact ⟨_, rfl, rfl, L', hK8, st.trans st8⟩
end Go.Proofs.YtpoaacnnhgebfaaGreat
namespace Go.Proofs.YtpoaacnnhgebfaaGreat
open Go.Lw
theorem kernSeek_ok {w : World} {gk : Nat} {s : AK} {L : KL} (h : KernO w gk s L) (d off wh : Int) : CallR Tryz.prog 68 [pd gk, .int .i64 d, .int .i64 off, .int .i64 wh] w fun v w' => v = .tuple #[.int .i64 (s.seek d off wh).1, .int .i64 (s.seek d off wh).2.1] ∧ ∃ L', KernO w' gk (s.seek d off wh).2.2 L' ∧ KStep w w' L L' := by
  refine C68 ?_
  unfold L68
  refine CallR.mono (find_ok h d 0) ?_
  unfold AK.seek
  rintro v w1 ⟨rfl, ⟨hne, rfl⟩ | ⟨he, x, hx, rfl⟩⟩
  · refine ⟨_, _, rfl, condN (fun _ => ?_) (fun e => absurd e hne)⟩
    rw [if_pos hne]; exact ⟨rfl, L, h, KStep.refl _ _⟩
  · rw [if_neg (fun e => e he), hx]
    dsimp -zeta only
    refine ⟨_, _, rfl, condN (fun e => absurd rfl e) (fun _ => nnI ⟨_, Blk.at0 (h.ofD hx) rfl, ?_⟩)⟩
    have ht := tv_disk (s.objs x.ob).kd (L.loc x.ob) w1
    have hO := h.ofO hx
    have hD := h.ofD hx
    have hr := h.ok.di x (AK.desc_some hx).1
    cases ho : s.objs x.ob with
    | term LL scr =>
      rw [ho] at ht
      refine ⟨_, _, _, ht, ?_⟩
      intro w3
      have hb3 : Blk w3 w1.heap.size #[.pointer none] := Blk.alloc _ _ _
      have hk3 : Kept No w1 w3 := Kept.alloc _ _ _
      clear_value w3
      refine stC_blk hb3 (by simp) fun w4 hb4 hk4 _ => condTr2 ?_
      have k4 : Kept No w1 w4 := hk3.fresh hk4 (fun x e => by omega)
      exact ⟨rfl, L, h.no k4, .of_no k4⟩
    | pipe bs e0 e1 =>
      rw [ho] at ht
      refine ⟨_, _, _, ht, ?_⟩
      intro w3
      have hb3 : Blk w3 w1.heap.size #[.pointer none] := Blk.alloc _ _ _
      have hk3 : Kept No w1 w3 := Kept.alloc _ _ _
      clear_value w3
      refine stC_blk hb3 (by simp) fun w4 hb4 hk4 _ => condTr2 ?_
      have k4 : Kept No w1 w4 := hk3.fresh hk4 (fun x e => by omega)
      exact ⟨rfl, L, h.no k4, .of_no k4⟩
    | file bs =>
      rw [ho] at ht hO
      refine ⟨_, _, _, ht, ?_⟩
      intro w3
      have hb3 : Blk w3 w1.heap.size #[.pointer none] := Blk.alloc _ _ _
      have hk3 : Kept No w1 w3 := Kept.alloc _ _ _
      clear_value w3
      refine stC_blk hb3 (by simp) fun w4 hb4 hk4 _ => condFa2 ?_
      have hb4 : Blk w4 w1.heap.size #[.pointer (some ⟨L.loc x.ob, 0, none⟩)] := by simpa using hb4
      have k4 : Kept No w1 w4 := hk3.fresh hk4 (fun x e => by omega)
      have bad : ∀ e : Int, (.tuple #[.int .i64 0, .int .i64 e] : Value) = .tuple #[.int .i64 0, .int .i64 e] ∧ ∃ L', KernO w4 gk s L' ∧ KStep w1 w4 L L' := fun e => ⟨rfl, L, h.no k4, .of_no k4⟩
      dsimp only
      refine condP (fun h1 => ?_) (fun h1 => condP (fun h2 => ?_) (fun h2 => ?_))
      · rw [if_pos (.inl h1)]; exact bad 1
      · rw [if_pos (.inr h2)]; exact bad 1
      have hnw : ¬ (wh < 0 ∨ wh > 2) := by omega
      rw [if_neg hnw]
      have hO : FileO _ w1 (L.loc x.ob) bs := hO
      have hlen := hO.len
      refine ⟨fun wS => Kept No w4 wS, Kept.drew _ _, ?_⟩
      have hk5 : Kept No w4 w4.drew := Kept.drew _ _
      generalize w4.drew = w5 at hk5 ⊢
      have hD4 := Blk.keep hD k4 (fun e => e)
      refine nnI ⟨_, fun wS hS => (Blk.keep hD4 hS (fun e => e)).at (i := 2) rfl, _, fun wS hS => ((hb4.keep hS (fun e => e)).cell 0).trans rfl, CallR.mono (size_ok ((hO.keep k4 (fun _ _ e => e)).keep hk5 (fun _ _ e => e))) ?_⟩
      rintro v w6 ⟨rfl, rfl⟩
      have k6 : Kept No w1 w6 := k4.no hk5
      refine ⟨_, rfl, hk5, ⟨by omega, by omega⟩, ?_⟩
      obtain ⟨base, hbase, hget, hb0, hb1⟩ : ∃ base : Int, base = (if wh = 0 then 0 else if wh = 1 then x.at_ else (bs.length : Int)) ∧ (#[.int .i64 0, .int .i64 x.at_, .int .i64 (bs.length : Int)] : Array Value)[Int.toNat wh]? = some (.int .i64 base) ∧ 0 ≤ base ∧ base ≤ 1048576 := by
        by_cases e0 : wh = 0
        · subst e0; exact ⟨0, rfl, rfl, by omega, by omega⟩
        · by_cases e1 : wh = 1
          · subst e1; exact ⟨x.at_, rfl, rfl, by omega, by omega⟩
          · obtain rfl : wh = 2 := by omega
            exact ⟨_, rfl, rfl, by omega, by omega⟩
      rw [← hbase]
      have hK6 := h.no k6
      refine ⟨base, hget, ⟨by omega, by omega⟩, condP (fun h3 => ?_) (fun h3 => ⟨⟨by omega, by omega⟩, condP (fun h4 => ?_) (fun h4 => ⟨⟨by omega, by omega⟩, ?_⟩)⟩)⟩
      · rw [if_pos (.inl (by omega))]; exact ⟨rfl, L, hK6, .of_no k6⟩
      · rw [if_pos (.inr (by omega))]; exact ⟨rfl, L, hK6, .of_no k6⟩
      · have : ¬ (off < -base ∨ off > 1048576 - base) := by omega
        rw [if_neg this]
        have hD6 := hK6.ofD hx
        refine nnI (stC_at hD6 (i := 2) (by simp) fun w7 hb7 hk7 hs7 => nnI ⟨_, hb7.at (i := 2) rfl, ?_⟩)
        obtain ⟨L', h', st, _, _, hnw⟩ := hK6.descStep hx hk7 (at' := base + off) (hd' := x.hd) (by rw [ho] at hb7 ⊢; exact hb7) ⟨by omega, by omega, hr.2.2.2.1, hr.2.2.2.2.1⟩
        exact ⟨rfl, L', h', st.fresh k6⟩
end Go.Proofs.YtpoaacnnhgebfaaGreat
namespace Go.Proofs.YtpoaacnnhgebfaaGreat
open Go.Lw
theorem flagged_ok {w : World} (f : Int) {Q : Value → World → Prop} (hq : Q (.bool (AK.flagged f)) w) : CallR Tryz.prog 123 [.int .i64 f] w Q := by
  refine C123 ?_
  unfold L123
  have fl : AK.flagged f = (decide (f ≥ 0 ∧ f ≤ 63) && (bitI f 3 != 0) && ((bitI f 2 != 0) || (bitI f 20 == 0)) && ((bitI f 8 != 0) || (bitI f 32 == 0))) := rfl
  have b3 : IntKind.wrap .i64 ↑(BitVec.ofInt (IntKind.bits .i64) f &&& BitVec.ofInt (IntKind.bits .i64) 3).toNat = bitI f 3 := rfl
  have b2 : IntKind.wrap .i64 ↑(BitVec.ofInt (IntKind.bits .i64) f &&& BitVec.ofInt (IntKind.bits .i64) 2).toNat = bitI f 2 := rfl
  have b20 : IntKind.wrap .i64 ↑(BitVec.ofInt (IntKind.bits .i64) f &&& BitVec.ofInt (IntKind.bits .i64) 20).toNat = bitI f 20 := rfl
  have b8 : IntKind.wrap .i64 ↑(BitVec.ofInt (IntKind.bits .i64) f &&& BitVec.ofInt (IntKind.bits .i64) 8).toNat = bitI f 8 := rfl
  have b32 : IntKind.wrap .i64 ↑(BitVec.ofInt (IntKind.bits .i64) f &&& BitVec.ofInt (IntKind.bits .i64) 32).toNat = bitI f 32 := rfl
  rw [b3, b2, b20, b8, b32]
  rw [fl] at hq
  refine condP (fun h0 => condP (fun h1 => ?_) (fun h1 => ?_)) (fun h0 => ?_)
  · rw [decide_eq_true (⟨h0, h1⟩ : f ≥ 0 ∧ f ≤ 63)] at hq
    cases h3 : (bitI f 3 != 0)
    · rw [h3] at hq; exact hq
    · rw [h3] at hq
      cases h2 : (bitI f 2 != 0)
      · rw [h2] at hq
        cases h20 : (bitI f 20 == 0)
        · rw [h20] at hq; exact hq
        · rw [h20] at hq
          cases h8 : (bitI f 8 != 0)
          · rw [h8] at hq; simpa using hq
          · rw [h8] at hq; simpa using hq
      · rw [h2] at hq
        cases h8 : (bitI f 8 != 0)
        · rw [h8] at hq; simpa using hq
        · rw [h8] at hq; simpa using hq
  · rw [decide_eq_false (fun h => h1 h.2)] at hq; exact hq
  · rw [decide_eq_false (fun h => h0 h.1)] at hq; exact hq
theorem AK.fileOf_some {s : AK} {nm : ByteArray} {f : ByteArray × Nat} (h : s.fileOf nm = some f) : f ∈ s.files ∧ f.1 = nm := by
  unfold AK.fileOf at h
  exact ⟨List.mem_of_find?_eq_some h, by simpa using List.find?_some h⟩
theorem AK.fileOf_none {s : AK} {nm : ByteArray} (h : s.fileOf nm = none) : ∀ f ∈ s.files, f.1 ≠ nm := by
  unfold AK.fileOf at h
  rw [List.find?_eq_none] at h
  intro x hx
  simpa using h x hx
theorem AK.termOf_some {s : AK} {nm : ByteArray} {f : ByteArray × Nat} (h : s.termOf nm = some f) : f ∈ s.terms ∧ f.1 = nm := by
  unfold AK.termOf at h
  exact ⟨List.mem_of_find?_eq_some h, by simpa using List.find?_some h⟩
theorem AK.termOf_none {s : AK} {nm : ByteArray} (h : s.termOf nm = none) : ∀ f ∈ s.terms, f.1 ≠ nm := by
  unfold AK.termOf at h
  rw [List.find?_eq_none] at h
  intro x hx
  simpa using h x hx
def fP (s : AK) (L : KL) (nm : ByteArray) : Option Addr := match s.fileOf nm with
  | none => none
  | some f => some ⟨L.loc f.2, 0, none⟩
def tP (s : AK) (L : KL) (nm : ByteArray) : Option Addr := match s.termOf nm with
  | none => none
  | some f => some ⟨L.loc f.2, 0, none⟩
theorem look_file {w : World} {gk : Nat} {s : AK} {L : KL} (h : KernO w gk s L) (nm : ByteArray) :
    (Instr.lookup 112 (.map (some L.rf)) (.string nm) true).run Tryz.prog w = .ok (.tuple #[.pointer (fP s L nm), .bool (s.fileOf nm).isSome]) w := by
  have hT : Tryz.prog.underlying 112 = some (.map 9 123) := by kernel_rfl
  have hI : Tryz.prog.underlying 9 = some .string := by kernel_rfl
  unfold fP
  cases hf : s.fileOf nm with
  | none =>
    refine lookup_out hT hI h.mf (k := .string nm) trivial (fun x hx e => ?_) (z := .pointer none) (by kernel_rfl) true
    obtain ⟨y, hy, rfl⟩ := List.mem_map.1 hx
    simp only [Value.string.injEq] at e
    exact AK.fileOf_none hf y hy e
  | some f =>
    obtain ⟨hm, hn⟩ := AK.fileOf_some hf
    exact lookup_in hT hI h.mf (k := .string nm) trivial (v := pd (L.loc f.2)) (List.mem_map.2 ⟨f, hm, by rw [hn]⟩) true
theorem look_term {w : World} {gk : Nat} {s : AK} {L : KL} (h : KernO w gk s L) (nm : ByteArray) :
    (Instr.lookup 113 (.map (some L.rt)) (.string nm) true).run Tryz.prog w = .ok (.tuple #[.pointer (tP s L nm), .bool (s.termOf nm).isSome]) w := by
  have hT : Tryz.prog.underlying 113 = some (.map 9 128) := by kernel_rfl
  have hI : Tryz.prog.underlying 9 = some .string := by kernel_rfl
  unfold tP
  cases hf : s.termOf nm with
  | none =>
    refine lookup_out hT hI h.mt (k := .string nm) trivial (fun x hx e => ?_) (z := .pointer none) (by kernel_rfl) true
    obtain ⟨y, hy, rfl⟩ := List.mem_map.1 hx
    simp only [Value.string.injEq] at e
    exact AK.termOf_none hf y hy e
  | some f =>
    obtain ⟨hm, hn⟩ := AK.termOf_some hf
    exact lookup_in hT hI h.mt (k := .string nm) trivial (v := pd (L.loc f.2)) (List.mem_map.2 ⟨f, hm, by rw [hn]⟩) true
theorem addF_ok {w w1 : World} {gk : Nat} {s : AK} {L : KL} (h : KernO w gk s L) (k : Kept No w w1) {b : Nat} {F : Nat → Prop} {bs : List Int} (hO : FileO F w1 b bs) (hF : ∀ z, F z → w.heap.size ≤ z)
    {nm : ByteArray} (h1 : ∀ f ∈ s.files, f.1 ≠ nm) (h2 : ∀ f ∈ s.terms, f.1 ≠ nm) (hl : s.files.length + s.terms.length < 256) :
    ∃ w2 L', (Instr.mapUpdate 112 (.map (some L.rf)) (.string nm) (pd b)).run Tryz.prog w1 = .ok () w2 ∧ KernO w2 gk (s.addF nm (.file bs)) L' ∧ KStep w w2 L L' ∧ L'.loc s.nob = b ∧ Kept (· = L.rf) w1 w2 := by
  have hT : Tryz.prog.underlying 112 = some (.map 9 123) := by kernel_rfl
  have hI : Tryz.prog.underlying 9 = some .string := by kernel_rfl
  obtain ⟨hn, st⟩ := h.newStep k (R := No) (o := .file bs) hO hF (fun z e => e.elim)
  obtain ⟨w2, hrun, hm, hk2, hs2⟩ := update_new hT hI (hn.mf) (k := .string nm) trivial (fun x hx e => by
    obtain ⟨y, hy, rfl⟩ := List.mem_map.1 hx
    simp only [Value.string.injEq] at e
    exact h1 y hy e) (pd b)
  have hok := h.ok.addF (o := .file bs) rfl h1 h2 hl
  have hb : (L.addO s.nob b F No).loc s.nob = b := if_pos rfl
  obtain ⟨h3, st3⟩ := hn.mfStep (fs := s.files ++ [(nm, s.nob)]) hk2 (by
    show MapO w2 _ .string ((s.files ++ [(nm, s.nob)]).map fun f => (Value.string f.1, pd ((L.addO s.nob b F No).loc f.2)))
    rw [List.map_append]
    show MapO w2 _ .string (_ ++ [(Value.string nm, pd ((L.addO s.nob b F No).loc s.nob))])
    rw [hb]
    exact hm) hok
  exact ⟨w2, _, hrun, h3, st.trans st3, hb, hk2⟩
set_option maxHeartbeats 1000000 in
theorem kernOpen_ok {w : World} {gk : Nat} {s : AK} {L : KL} (h : KernO w gk s L) (nm : ByteArray) (fl : Int) (hn2 : s.next ≤ 4611686018427387904) :
    CallR Tryz.prog 30 [pd gk, .string nm, .int .i64 fl] w fun v w' => v = .tuple #[.int .i64 (s.open_ nm fl).1, .int .i64 (s.open_ nm fl).2.1] ∧ ∃ L', KernO w' gk (s.open_ nm fl).2.2 L' ∧ KStep w w' L L' := by
  refine C30 ?_
  unfold L30
  have bad : ∀ (e : Int) (w' : World), s.openE nm fl = e → e ≠ 0 → Kept No w w' → (.tuple #[.int .i64 0, .int .i64 e] : Value) = .tuple #[.int .i64 (s.open_ nm fl).1, .int .i64 (s.open_ nm fl).2.1] ∧ ∃ L', KernO w' gk (s.open_ nm fl).2.2 L' ∧ KStep w w' L L' := by
    intro e w' he hne hk
    unfold AK.open_
    rw [he, if_pos hne]
    exact ⟨rfl, L, h.no hk, .of_no hk⟩
  have hE : s.openE nm fl = if namedS nm = false then 61 else if AK.flagged fl = false then 65 else if 256 ≤ s.descs.length then 3 else
    if (s.fileOf nm).isSome ∨ (s.termOf nm).isSome then (if bitI fl 32 ≠ 0 then 63 else 0)
    else if bitI fl 8 = 0 then 62 else if 256 ≤ s.files.length + s.terms.length then 3 else 0 := rfl
  refine enone_to h ⟨false, rfl, condF rfl (CallR.mono (named_ok nm) ?_)⟩
  rintro v w2 ⟨rfl, hk2⟩
  refine ⟨_, rfl, condI (fun e => bad 61 _ (by rw [hE, if_pos (by simpa using e)]) (by decide) hk2) (fun e => ?_)⟩
  rw [if_neg (by simpa using e)] at hE
  refine flagged_ok fl ⟨_, rfl, condI (fun e => bad 65 _ (by rw [hE, if_pos (by simpa using e)]) (by decide) hk2) (fun e => ?_)⟩
  rw [if_neg (by simpa using e)] at hE
  have h2 := h.no hk2
  have hTd : Tryz.prog.underlying 114 = some (.map 3 256) := by kernel_rfl
  have hTf : Tryz.prog.underlying 112 = some (.map 9 123) := by kernel_rfl
  have hTt : Tryz.prog.underlying 113 = some (.map 9 128) := by kernel_rfl
  have hlen : (s.mD L).length = s.descs.length := by unfold AK.mD; rw [List.length_map]
  refine nnI ⟨_, h2.blk.at (i := 3) rfl, _, _, len_map hTd h2.md _, condP (fun hd => bad 3 _ (by rw [hE, if_pos (by omega)]) (by decide) hk2) (fun hd => ?_)⟩
  rw [if_neg (by omega)] at hE
  refine nnI ⟨_, h2.blk.at (i := 1) rfl, _, _, _, look_file h2 nm, nnI ⟨_, h2.blk.at (i := 2) rfl, _, _, _, look_term h2 nm, ?_⟩⟩
  have b32 : IntKind.wrap .i64 ↑(BitVec.ofInt (IntKind.bits .i64) fl &&& BitVec.ofInt (IntKind.bits .i64) 32).toNat = bitI fl 32 := rfl
  have b8 : IntKind.wrap .i64 ↑(BitVec.ofInt (IntKind.bits .i64) fl &&& BitVec.ofInt (IntKind.bits .i64) 8).toNat = bitI fl 8 := rfl
  have b16 : IntKind.wrap .i64 ↑(BitVec.ofInt (IntKind.bits .i64) fl &&& BitVec.ofInt (IntKind.bits .i64) 16).toNat = bitI fl 16 := rfl
  rw [b32, b8, b16]
  refine ⟨fun vs w' => ∃ s1 L1 p, vs = [.pointer p] ∧ s.openE nm fl = 0 ∧ KernO w' gk s1 L1 ∧ KStep w w' L L1 ∧ s1.next = s.next ∧ s1.descs = s.descs ∧
    ((∃ t, s.termOf nm = some t ∧ s1 = s ∧ L1 = L) ∨ (s.termOf nm = none ∧ ∃ i bs, p = some ⟨L1.loc i, 0, none⟩ ∧ i < s1.nob ∧ s1.objs i = .file bs ∧ s.openS nm fl = (if bitI fl 16 ≠ 0 then s1.setO i (.file []) else s1).newD i fl)), ?_, ?_⟩
  · have old : ∀ w', (s.fileOf nm).isSome = true ∨ (s.termOf nm).isSome = true → Kept No w w' → bitI fl 32 = 0 → ∃ s1 L1 p, [Value.pointer (fP s L nm)] = [.pointer p] ∧ s.openE nm fl = 0 ∧ KernO w' gk s1 L1 ∧ KStep w w' L L1 ∧ s1.next = s.next ∧ s1.descs = s.descs ∧
      ((∃ t, s.termOf nm = some t ∧ s1 = s ∧ L1 = L) ∨ (s.termOf nm = none ∧ ∃ i bs, p = some ⟨L1.loc i, 0, none⟩ ∧ i < s1.nob ∧ s1.objs i = .file bs ∧ s.openS nm fl = (if bitI fl 16 ≠ 0 then s1.setO i (.file []) else s1).newD i fl)) := by
      intro w' ho hk hz
      refine ⟨s, L, _, rfl, by rw [hE, if_pos ho, if_neg (fun e => e hz)], h.no hk, .of_no hk, rfl, rfl, ?_⟩
      cases ht : s.termOf nm with
      | some t => exact .inl ⟨t, rfl, rfl, rfl⟩
      | none =>
        right
        rw [ht] at ho
        cases hf : s.fileOf nm with
        | none => rw [hf] at ho; simp at ho
        | some f =>
          obtain ⟨hm, hn⟩ := AK.fileOf_some hf
          have hfi := h.ok.fi f hm
          obtain ⟨bs, hbs⟩ : ∃ bs, s.objs f.2 = .file bs := by
            cases ho : s.objs f.2 with
            | file bs => exact ⟨bs, rfl⟩
            | term _ _ => rw [ho] at hfi; cases hfi.2
            | pipe _ _ _ => rw [ho] at hfi; cases hfi.2
          refine ⟨rfl, f.2, bs, by unfold fP; rw [hf], hfi.1, hbs, ?_⟩
          unfold AK.openS
          rw [ht, hf]
    refine condI (fun hf => condI (fun hx => bad 63 _ (by rw [hE, if_pos (.inl hf), if_pos (by simpa using hx)]) (by decide) hk2) (fun hx => old w2 (.inl hf) hk2 (by simpa using hx))) (fun hf => ?_)
    refine condI (fun ht => condI (fun hx => bad 63 _ (by rw [hE, if_pos (.inr ht), if_pos (by simpa using hx)]) (by decide) hk2) (fun hx => old w2 (.inr ht) hk2 (by simpa using hx))) (fun ht => ?_)
    rw [if_neg (by rw [hf, ht]; simp)] at hE
    refine condI (fun h8 => bad 62 _ (by rw [hE, if_pos (by simpa using h8)]) (by decide) hk2) (fun h8 => ?_)
    rw [if_neg (by simpa using h8)] at hE
    refine ⟨fun wS => Kept No w2 wS, Kept.drew _ _, ?_⟩
    intro w7
    have hk7 : Kept No w2 w7 := Kept.drew _ _
    clear_value w7
    have h7 := h2.no hk7
    refine nnI ⟨_, fun wS hS => (h2.no hS).blk.at (i := 1) rfl, nnI ⟨_, fun wS hS => (h2.no hS).blk.at (i := 2) rfl, _, _, len_map hTf h7.mf _, hk7, _, _, len_map hTt h7.mt _, ?_⟩⟩
    have e1 : (s.mF L).length = s.files.length := by unfold AK.mF; rw [List.length_map]
    have e2 : (s.mT L).length = s.terms.length := by unfold AK.mT; rw [List.length_map]
    have hfl := h.ok.fl
    rw [e1, e2]
    have k7 := hk2.no hk7
    refine ⟨⟨by omega, by omega⟩, condP (fun hc => bad 3 _ (by rw [hE, if_pos (by omega)]) (by decide) k7) (fun hc => ?_)⟩
    rw [if_neg (by omega)] at hE
    refine CallR.mono (finew_ok (RdB.nil w7) (by omega)) ?_
    rintro v w10 (⟨hbig, _⟩ | ⟨_, b, F, rfl, hO, hk10, hF⟩)
    · simp at hbig
    have hf' : s.fileOf nm = none := by cases hx : s.fileOf nm with | none => rfl | some _ => rw [hx] at hf; cases hf
    have ht' : s.termOf nm = none := by cases hx : s.termOf nm with | none => rfl | some _ => rw [hx] at ht; cases ht
    obtain ⟨w11, L1, hrun, h11, st, hloc, _⟩ := addF_ok h7 hk10 hO hF (AK.fileOf_none hf') (AK.termOf_none ht') (by omega)
    have h10 := h7.no hk10
    refine ⟨_, _, rfl, nnI ⟨_, h10.blk.at (i := 1) rfl, w11, hrun, s.addF nm (.file []), L1, _, rfl, hE, h11, st.fresh k7, rfl, rfl, .inr ⟨ht', s.nob, [], by rw [hloc], Nat.lt_succ_self _, AK.objs_newO_new' s _, ?_⟩⟩⟩
    have e : (s.addF nm (.file [])).setO s.nob (.file []) = s.addF nm (.file []) := by
      have := AK.setO_same (s.addF nm (.file [])) s.nob
      have e' : (s.addF nm (.file [])).objs s.nob = .file [] := AK.objs_newO_new' s _
      rw [e'] at this
      exact this
    unfold AK.openS
    rw [ht', hf', e]
    simp only [ite_self]
    rfl
  · rintro _ p w12 ⟨s1, L1, p', hvs, hE0, h12, st12, hnx, hds, hcase⟩
    simp only [List.cons.injEq, Value.pointer.injEq, and_true] at hvs
    subst hvs
    have good : s.open_ nm fl = (s.next, 0, s.openS nm fl) := by unfold AK.open_; rw [hE0, if_neg (fun e => e rfl)]
    rw [good]
    have hdl : s1.descs.length < 256 := by rw [hds]; omega
    rcases hcase with ⟨t, ht, rfl, rfl⟩ | ⟨ht, i, bs, rfl, hi, hoi, hS⟩
    · obtain ⟨hm, hn⟩ := AK.termOf_some ht
      have hti := h.ok.ti t hm
      have hd := describe_ok h12 hti.1 fl (by omega) hdl
      rw [hti.2] at hd
      have htp : tP s1 L1 nm = some ⟨L1.loc t.2, 0, none⟩ := by unfold tP; rw [ht]
      refine condT (by rw [ht]; rfl) ?_
      rw [htp]
      refine CallR.mono hd ?_
      rintro v w13 ⟨rfl, L', h', st', _⟩
      refine ⟨_, rfl, rfl, L', ?_, st12.trans st'⟩
      show KernO w13 gk (s1.openS nm fl) L'
      unfold AK.openS
      rw [ht]
      exact h'
    · refine condF (by rw [ht]; rfl) ?_
      dsimp only
      rw [hS]
      refine condI (fun h16 => ?_) (fun h16 => ?_)
      · rw [if_pos (by simpa using h16)]
        have hO := h12.ob i hi
        rw [hoi] at hO
        have hO : FileO _ w12 (L1.loc i) bs := hO
        refine CallR.mono (trunc_ok hO 0) ?_
        rintro v w14 ⟨rfl, F', hO', hg, hk14⟩
        have htr : (truncF bs 0).2 = [] := by unfold truncF; rfl
        rw [htr] at hO'
        obtain ⟨L2, h14, st14, hloc, _, _⟩ := h12.obOnly hk14 (fun z hz => hz) (o := .file []) (by rw [hoi]; rfl) (F := F') (fun z hz => hg z hz) hO'
        refine ⟨_, rfl, ?_⟩
        have hd := describe_ok h14 (i := i) hi fl (by show s1.next ≤ _; omega) hdl
        rw [AK.objs_setO_same', hloc] at hd
        refine CallR.mono hd ?_
        rintro v w15 ⟨rfl, L', h', st', _⟩
        exact ⟨_, rfl, by rw [← hnx]; rfl, L', h', (st12.trans st14).trans st'⟩
      · rw [if_neg (by simpa using h16)]
        have hd := describe_ok h12 (i := i) hi fl (by omega) hdl
        rw [hoi] at hd
        refine CallR.mono hd ?_
        rintro v w15 ⟨rfl, L', h', st', _⟩
        exact ⟨_, rfl, by rw [← hnx], L', h', st12.trans st'⟩
end Go.Proofs.YtpoaacnnhgebfaaGreat
namespace Go.Proofs.YtpoaacnnhgebfaaGreat
open Go.Lw
namespace AK
theorem objs_setO_same (s : AK) (i : Nat) (o : AObj) : (s.setO i o).objs i = o := by
  show (if i = i then o else _) = _
  rw [if_pos rfl]
theorem objs_newO_new (s : AK) (o : AObj) : (s.newO o).objs s.nob = o := by
  show (if s.nob = s.nob then o else _) = _
  rw [if_pos rfl]
theorem find_of {s : AK} {d way : Int} {x : AD} (h : s.desc d = some x) (hb : bitI x.fl way = way) : s.find d way = 0 := by
  unfold find
  rw [h]
  exact if_neg fun e => e hb
end AK
end Go.Proofs.YtpoaacnnhgebfaaGreat
namespace Go.Proofs.YtpoaacnnhgebfaaGreat
open Go.Lw
namespace AK
def empty (ps : List (Int × Int)) : AK := ⟨[], [], fun _ => .file [], 0, [], 1, ps, 0, 0⟩
def withF : List (ByteArray × List Int) → AK → AK
  | [], s => s
  | f :: r, s => withF r (s.addF f.1 (.file f.2))
def withT : List (ByteArray × List (List Int)) → AK → AK
  | [], s => s
  | f :: r, s => withT r (s.addT f.1 (.term f.2 []))
def new (fs : List (ByteArray × List Int)) (ts : List (ByteArray × List (List Int))) (ps : List (Int × Int)) : AK := withT ts (withF fs (empty ps))
theorem freshK_zero {seen : List ByteArray} {s : ByteArray} : freshK seen s = 0 ↔ namedS s = true ∧ s ∉ seen := by
  unfold freshK
  cases hn : namedS s with
  | false => simp
  | true =>
    rw [if_neg (by simp)]
    by_cases hm : s ∈ seen
    · rw [if_pos hm]; simp [hm]
    · rw [if_neg hm]; simp [hm]
theorem ckFs_zero : ∀ {fs : List (ByteArray × List Int)} {seen : List ByteArray}, (ckFs fs seen).1 = 0 → seen.Nodup →
    (ckFs fs seen).2 = seen ++ fs.map (·.1) ∧ (seen ++ fs.map (·.1)).Nodup ∧ ∀ f ∈ fs, namedS f.1 = true ∧ f.2.length ≤ 1048576
  | [], seen, _, hn => ⟨by simp [ckFs], by simpa using hn, by simp⟩
  | f :: r, seen, h, hn => by
    rw [ckFs_cons] at h ⊢
    by_cases h1 : freshK seen f.1 ≠ 0
    · rw [if_pos h1] at h; exact absurd h h1
    · rw [if_neg h1] at h ⊢
      by_cases h2 : 1048576 < f.2.length
      · rw [if_pos h2] at h; cases h
      · rw [if_neg h2] at h ⊢
        obtain ⟨hf1, hf2⟩ := freshK_zero.1 (Decidable.not_not.1 h1)
        obtain ⟨e1, e2, e3⟩ := ckFs_zero h (nodup_snoc hn hf2)
        refine ⟨by rw [e1]; simp, by simpa using e2, fun g hg => ?_⟩
        rcases List.mem_cons.1 hg with rfl | hg
        · exact ⟨hf1, by omega⟩
        · exact e3 g hg
theorem ckTs_zero : ∀ {ts : List (ByteArray × List (List Int))} {seen : List ByteArray}, (ckTs ts seen).1 = 0 → seen.Nodup →
    (seen ++ ts.map (·.1)).Nodup ∧ ∀ f ∈ ts, namedS f.1 = true ∧ newT f.2 = 0
  | [], seen, _, hn => ⟨by simpa using hn, by simp⟩
  | f :: r, seen, h, hn => by
    rw [ckTs_cons] at h
    by_cases h1 : freshK seen f.1 ≠ 0
    · rw [if_pos h1] at h; exact absurd h h1
    · rw [if_neg h1] at h
      by_cases h2 : newT f.2 ≠ 0
      · rw [if_pos h2] at h; exact absurd h h2
      · rw [if_neg h2] at h
        obtain ⟨hf1, hf2⟩ := freshK_zero.1 (Decidable.not_not.1 h1)
        obtain ⟨e2, e3⟩ := ckTs_zero h (nodup_snoc hn hf2)
        refine ⟨by simpa using e2, fun g hg => ?_⟩
        rcases List.mem_cons.1 hg with rfl | hg
        · exact ⟨hf1, Decidable.not_not.1 h2⟩
        · exact e3 g hg
structure CkOk (fs : List (ByteArray × List Int)) (ts : List (ByteArray × List (List Int))) (ps : List (Int × Int)) : Prop where
  len : fs.length + ts.length ≤ 256
  nd : (fs.map (·.1) ++ ts.map (·.1)).Nodup
  fs : ∀ f ∈ fs, namedS f.1 = true ∧ f.2.length ≤ 1048576
  ts : ∀ f ∈ ts, namedS f.1 = true ∧ newT f.2 = 0
  pl : ps.length ≤ 4096
  pm : ∀ p ∈ ps, mayP p
  ck : ckF ps = 0
theorem ckF_zero {ps : List (Int × Int)} (h : ckF ps = 0) : ps.length ≤ 4096 ∧ ∀ p ∈ ps, mayP p := by
  unfold ckF at h
  by_cases h1 : 4096 < ps.length
  · rw [if_pos h1] at h; cases h
  · rw [if_neg h1] at h
    by_cases h2 : badF ps = none
    · refine ⟨by omega, fun p hp => ?_⟩
      unfold badF at h2
      rw [List.findIdx?_eq_none_iff] at h2
      have := h2 p hp
      simpa using this
    · rw [if_neg h2] at h; cases h
theorem check_zero {fs : List (ByteArray × List Int)} {ts : List (ByteArray × List (List Int))} {ps : List (Int × Int)} (h : checkK fs ts ps = 0) : CkOk fs ts ps := by
  unfold checkK at h
  by_cases h1 : 256 < fs.length + ts.length
  · rw [if_pos h1] at h; cases h
  · rw [if_neg h1] at h
    by_cases h2 : (ckFs fs []).1 ≠ 0
    · rw [if_pos h2] at h; exact absurd h h2
    · rw [if_neg h2] at h
      have h2 := Decidable.not_not.1 h2
      by_cases h3 : (ckTs ts (ckFs fs []).2).1 ≠ 0
      · rw [if_pos h3] at h; exact absurd h h3
      · rw [if_neg h3] at h
        have h3 := Decidable.not_not.1 h3
        obtain ⟨a1, a2, a3⟩ := ckFs_zero h2 (by simp)
        simp only [List.nil_append] at a1 a2
        rw [a1] at h3
        obtain ⟨b1, b2⟩ := ckTs_zero h3 a2
        obtain ⟨c1, c2⟩ := ckF_zero h
        exact ⟨by omega, b1, a3, b2, c1, c2, h⟩
theorem ok_empty {ps : List (Int × Int)} (h : ps.length ≤ 4096) (hm : ∀ p ∈ ps, mayP p) : (empty ps).Ok where
  fi := fun f hf => by cases hf
  ti := fun f hf => by cases hf
  di := fun f hf => by cases hf
  fn := by simp [empty]
  tn := by simp [empty]
  ft := fun f hf => by cases hf
  fo := by simp [empty]
  to := by simp [empty]
  dn := by simp [empty]
  nx := by simp [empty]
  dl := by simp [empty]
  fl := by simp [empty]
  ps := h
  pm := hm
  c0 := by simp [empty]
  c1 := by simp [empty]
theorem withF_snoc : ∀ (fs : List (ByteArray × List Int)) (f : ByteArray × List Int) (s : AK), withF (fs ++ [f]) s = (withF fs s).addF f.1 (.file f.2)
  | [], f, s => rfl
  | g :: r, f, s => withF_snoc r f _
theorem withT_snoc : ∀ (fs : List (ByteArray × List (List Int))) (f : ByteArray × List (List Int)) (s : AK), withT (fs ++ [f]) s = (withT fs s).addT f.1 (.term f.2 [])
  | [], f, s => rfl
  | g :: r, f, s => withT_snoc r f _
theorem withF_names : ∀ (fs : List (ByteArray × List Int)) (s : AK), (withF fs s).files.map (·.1) = s.files.map (·.1) ++ fs.map (·.1) ∧ (withF fs s).terms = s.terms ∧ (withF fs s).descs = s.descs ∧ (withF fs s).next = s.next ∧ (withF fs s).ps = s.ps ∧ (withF fs s).c0 = s.c0 ∧ (withF fs s).c1 = s.c1
  | [], s => ⟨by simp [withF], rfl, rfl, rfl, rfl, rfl, rfl⟩
  | f :: r, s => by
    obtain ⟨h1, h2⟩ := withF_names r (s.addF f.1 (.file f.2))
    refine ⟨?_, h2⟩
    show (withF r _).files.map (·.1) = _
    rw [h1]
    show (s.files ++ [(f.1, s.nob)]).map (·.1) ++ _ = _
    simp
theorem withT_names : ∀ (fs : List (ByteArray × List (List Int))) (s : AK), (withT fs s).terms.map (·.1) = s.terms.map (·.1) ++ fs.map (·.1) ∧ (withT fs s).files = s.files ∧ (withT fs s).descs = s.descs ∧ (withT fs s).next = s.next ∧ (withT fs s).ps = s.ps ∧ (withT fs s).c0 = s.c0 ∧ (withT fs s).c1 = s.c1
  | [], s => ⟨by simp [withT], rfl, rfl, rfl, rfl, rfl, rfl⟩
  | f :: r, s => by
    obtain ⟨h1, h2⟩ := withT_names r (s.addT f.1 (.term f.2 []))
    refine ⟨?_, h2⟩
    show (withT r _).terms.map (·.1) = _
    rw [h1]
    show (s.terms ++ [(f.1, s.nob)]).map (·.1) ++ _ = _
    simp
theorem new_is (fs : List (ByteArray × List Int)) (ts : List (ByteArray × List (List Int))) (ps : List (Int × Int)) :
    (new fs ts ps).files.map (·.1) = fs.map (·.1) ∧ (new fs ts ps).terms.map (·.1) = ts.map (·.1) ∧ (new fs ts ps).descs = [] ∧ (new fs ts ps).next = 1 ∧ (new fs ts ps).ps = ps ∧ (new fs ts ps).c0 = 0 ∧ (new fs ts ps).c1 = 0 := by
  obtain ⟨a1, a2, a3, a4, a5, a6, a7⟩ := withF_names fs (empty ps)
  obtain ⟨b1, b2, b3, b4, b5, b6, b7⟩ := withT_names ts (withF fs (empty ps))
  unfold new
  exact ⟨by rw [b2, a1]; rfl, by rw [b1, a2]; rfl, by rw [b3, a3]; rfl, by rw [b4, a4]; rfl, by rw [b5, a5]; rfl, by rw [b6, a6]; rfl, by rw [b7, a7]; rfl⟩
end AK
end Go.Proofs.YtpoaacnnhgebfaaGreat
namespace Go.Proofs.YtpoaacnnhgebfaaGreat
open Go.Lw
namespace AK
structure FD (s : AK) (d : Int) (i : Nat) (bs : List Int) (fl : Int) (at_ : Int) : Prop where
  ex : ∃ hd, s.desc d = some ⟨d, i, fl, at_, hd⟩
  ob : s.objs i = .file bs
  a0 : 0 ≤ at_
end AK
end Go.Proofs.YtpoaacnnhgebfaaGreat
namespace Go.Proofs.YtpoaacnnhgebfaaGreat
open Go.Lw
namespace AK
theorem readT_len {n : Int} {LL : List (List Int)} : (readT n LL).2.1.length ≤ n.toNat := by
  unfold readT
  split
  · simp
  · cases LL with
    | nil => simp
    | cons x r => show (x.take n.toNat).length ≤ _; rw [List.length_take]; omega
theorem readP_len {n : Int} {bs : List Int} {e0 e1 : Nat} : (readP n bs e0 e1).1.length ≤ n.toNat := by
  unfold readP
  split
  · simp
  · split
    · simp
    · split
      · simp
      · show (bs.take n.toNat).length ≤ _; rw [List.length_take]; omega
theorem rdO_len {s : AK} {x : AD} {m : Int} : (s.rdO x m).1.length ≤ m.toNat := by
  unfold rdO
  cases s.objs x.ob with
  | file bs => show (piece bs x.at_ m).length ≤ _; unfold piece; rw [List.length_take]; omega
  | term LL scr => exact readT_len
  | pipe bs e0 e1 => exact readP_len
theorem rdO_cs {s : AK} {x : AD} {m : Int} : (s.rdO x m).2.c0 = s.c0 ∧ (s.rdO x m).2.c1 = s.c1 ∧ (s.rdO x m).2.next = s.next ∧ (s.rdO x m).2.ps = s.ps ∧ (s.rdO x m).2.files = s.files ∧ (s.rdO x m).2.terms = s.terms := by
  unfold rdO
  cases s.objs x.ob with
  | file bs => exact ⟨rfl, rfl, rfl, rfl, rfl, rfl⟩
  | term LL scr => exact ⟨rfl, rfl, rfl, rfl, rfl, rfl⟩
  | pipe bs e0 e1 => exact ⟨rfl, rfl, rfl, rfl, rfl, rfl⟩
theorem read_cases (s : AK) (d n : Int) : (∃ e, e ≠ 0 ∧ s.read d n = ([], e, s)) ∨ (s.read d n = ([], 0, s) ∧ n = 0) ∨
    (∃ x, s.desc d = some x ∧ bitI x.fl 1 = 1 ∧ s.waits x = false ∧ 1 ≤ n ∧ n ≤ 1048576 ∧ ((metF s.ps n).2 ≠ 0 ∧ s.read d n = ([], (metF s.ps n).2, s.met0) ∨ (metF s.ps n).2 = 0 ∧ s.read d n = ((s.met0.rdO x (metF s.ps n).1).1, 0, (s.met0.rdO x (metF s.ps n).1).2))) := by
  unfold read
  by_cases h1 : s.find d 1 ≠ 0
  · rw [if_pos h1]; exact .inl ⟨_, h1, rfl⟩
  rw [if_neg h1]
  by_cases h2 : n < 0 ∨ n > 1048576
  · rw [if_pos h2]; exact .inl ⟨4, by decide, rfl⟩
  rw [if_neg h2]
  by_cases h3 : n = 0
  · rw [if_pos h3]; exact .inr (.inl ⟨rfl, h3⟩)
  rw [if_neg h3]
  obtain ⟨x, hx, hb⟩ := find_zero (Decidable.not_not.1 h1)
  rw [hx]
  dsimp only
  by_cases h4 : s.waits x = true
  · rw [if_pos h4]; exact .inl ⟨52, by decide, rfl⟩
  rw [if_neg h4]
  refine .inr (.inr ⟨x, rfl, hb, by simpa using h4, by omega, by omega, ?_⟩)
  by_cases h5 : (metF s.ps n).2 ≠ 0
  · rw [if_pos h5]; exact .inl ⟨h5, rfl⟩
  · rw [if_neg h5]; exact .inr ⟨Decidable.not_not.1 h5, rfl⟩
theorem metF_le {ps : List (Int × Int)} {n : Int} (h : 0 ≤ n) : (metF ps n).1 ≤ n := by
  unfold metF
  cases ps with
  | nil => exact Int.le_refl _
  | cons f r =>
    dsimp only
    split
    · dsimp only; omega
    · split
      · exact h
      · split
        · exact h
        · exact Int.le_refl _
theorem read_len {s : AK} {d n : Int} (h : 0 ≤ n) : ((s.read d n).1.length : Int) ≤ n := by
  rcases read_cases s d n with ⟨e, he, hr⟩ | ⟨hr, _⟩ | ⟨x, _, _, _, h1, h2, ⟨_, hr⟩ | ⟨_, hr⟩⟩
  · rw [hr]; simpa using h
  · rw [hr]; simpa using h
  · rw [hr]; simpa using h
  · rw [hr]
    have := @rdO_len s.met0 x (metF s.ps n).1
    have := @metF_le s.ps n h
    dsimp only
    omega
theorem read_cs (s : AK) (d n : Int) : s.c0 ≤ (s.read d n).2.2.c0 ∧ (s.read d n).2.2.c0 ≤ s.c0 + 1 ∧ (s.read d n).2.2.c1 = s.c1 ∧ (s.read d n).2.2.next = s.next ∧ (s.read d n).2.2.files = s.files ∧ (s.read d n).2.2.terms = s.terms := by
  rcases read_cases s d n with ⟨e, he, hr⟩ | ⟨hr, _⟩ | ⟨x, _, _, _, h1, h2, ⟨_, hr⟩ | ⟨_, hr⟩⟩
  · rw [hr]; exact ⟨Int.le_refl _, by dsimp only; omega, rfl, rfl, rfl, rfl⟩
  · rw [hr]; exact ⟨Int.le_refl _, by dsimp only; omega, rfl, rfl, rfl, rfl⟩
  · rw [hr]; exact ⟨by show s.c0 ≤ s.c0 + 1; omega, by show s.c0 + 1 ≤ s.c0 + 1; omega, rfl, rfl, rfl, rfl⟩
  · rw [hr]
    obtain ⟨q1, q2, q3, q4, q5, q6⟩ := @rdO_cs s.met0 x (metF s.ps n).1
    have e0 : s.met0.c0 = s.c0 + 1 := rfl
    exact ⟨by dsimp only; omega, by dsimp only; omega, q2, q3, q5, q6⟩
end AK
end Go.Proofs.YtpoaacnnhgebfaaGreat
namespace Go.Proofs.YtpoaacnnhgebfaaGreat
open Go.Lw
namespace AK
end AK
theorem KStep.apart {w w' : World} {L L' : KL} (st : KStep w w' L L') {a : Option Addr} (ha : ∀ z, inA a z → L.own z = none ∧ z < w.heap.size) : ∀ z, inA a z → L'.own z = none := by
  intro z hz
  obtain ⟨h1, h2⟩ := ha z hz
  cases ho : L'.own z with
  | none => rfl
  | some t =>
    exfalso
    rcases st.grew z (by rw [ho]; simp) with e | e
    · exact e h1
    · omega
end Go.Proofs.YtpoaacnnhgebfaaGreat
namespace Go.Proofs.YtpoaacnnhgebfaaGreat
open Go.Lw
namespace AK
theorem wrO_cs {s : AK} {x : AD} {ds : List Int} {m : Int} : (s.wrO x ds m).2.c0 = s.c0 ∧ (s.wrO x ds m).2.c1 = s.c1 ∧ (s.wrO x ds m).2.next = s.next ∧ (s.wrO x ds m).2.ps = s.ps ∧ (s.wrO x ds m).2.files = s.files ∧ (s.wrO x ds m).2.terms = s.terms := by
  unfold wrO
  cases s.objs x.ob with
  | file bs => exact ⟨rfl, rfl, rfl, rfl, rfl, rfl⟩
  | term LL scr => exact ⟨rfl, rfl, rfl, rfl, rfl, rfl⟩
  | pipe bs e0 e1 => exact ⟨rfl, rfl, rfl, rfl, rfl, rfl⟩
theorem write_cs (s : AK) (d : Int) (ds : List Int) : (s.write d ds).2.2.c0 = s.c0 ∧ s.c1 ≤ (s.write d ds).2.2.c1 ∧ (s.write d ds).2.2.c1 ≤ s.c1 + 1 ∧ (s.write d ds).2.2.next = s.next ∧ (s.write d ds).2.2.files = s.files ∧ (s.write d ds).2.2.terms = s.terms := by
  have same : s.c0 = s.c0 ∧ s.c1 ≤ s.c1 ∧ s.c1 ≤ s.c1 + 1 ∧ s.next = s.next ∧ s.files = s.files ∧ s.terms = s.terms := ⟨rfl, by omega, by omega, rfl, rfl, rfl⟩
  have met : s.met1.c0 = s.c0 ∧ s.c1 ≤ s.met1.c1 ∧ s.met1.c1 ≤ s.c1 + 1 ∧ s.met1.next = s.next ∧ s.met1.files = s.files ∧ s.met1.terms = s.terms := ⟨rfl, by show s.c1 ≤ s.c1 + 1; omega, by show s.c1 + 1 ≤ s.c1 + 1; omega, rfl, rfl, rfl⟩
  unfold write
  split
  · exact same
  · split
    · exact same
    · split
      · exact same
      · split
        · exact same
        · rename_i x _
          split
          · exact same
          · split
            · exact met
            · obtain ⟨q1, q2, q3, q4, q5, q6⟩ := @wrO_cs s.met1 x ds (min (metF s.ps ds.length).1 (s.roomO x ds.length).1)
              dsimp only
              rw [q1, q2, q3, q5, q6]
              exact met
theorem open_cs (s : AK) (nm : ByteArray) (fl : Int) : (s.open_ nm fl).2.2.c0 = s.c0 ∧ (s.open_ nm fl).2.2.c1 = s.c1 ∧ s.next ≤ (s.open_ nm fl).2.2.next ∧ (s.open_ nm fl).2.2.next ≤ s.next + 1 := by
  unfold open_
  split
  · exact ⟨rfl, rfl, Int.le_refl _, by dsimp only; omega⟩
  · have : (s.openS nm fl).c0 = s.c0 ∧ (s.openS nm fl).c1 = s.c1 ∧ (s.openS nm fl).next = s.next + 1 := by
      unfold openS
      split
      · exact ⟨rfl, rfl, rfl⟩
      · split
        · split <;> exact ⟨rfl, rfl, rfl⟩
        · exact ⟨rfl, rfl, rfl⟩
    exact ⟨this.1, this.2.1, by dsimp only; omega, by dsimp only; omega⟩
end AK
end Go.Proofs.YtpoaacnnhgebfaaGreat
namespace Go.Proofs.YtpoaacnnhgebfaaGreat
open Go.Lw
theorem addT_ok {w w1 : World} {gk : Nat} {s : AK} {L : KL} (h : KernO w gk s L) (k : Kept No w w1) {b : Nat} {F R : Nat → Prop} {LL : List (List Int)} {scr : List Int} (hO : TermO F R w1 b LL scr) (hF : ∀ z, F z ∨ R z → w.heap.size ≤ z)
    {nm : ByteArray} (h1 : ∀ f ∈ s.files, f.1 ≠ nm) (h2 : ∀ f ∈ s.terms, f.1 ≠ nm) (hl : s.files.length + s.terms.length < 256) :
    ∃ w2 L', (Instr.mapUpdate 113 (.map (some L.rt)) (.string nm) (pd b)).run Tryz.prog w1 = .ok () w2 ∧ KernO w2 gk (s.addT nm (.term LL scr)) L' ∧ KStep w w2 L L' ∧ Kept (· = L.rt) w1 w2 := by
  have hT : Tryz.prog.underlying 113 = some (.map 9 128) := by kernel_rfl
  have hI : Tryz.prog.underlying 9 = some .string := by kernel_rfl
  obtain ⟨hn, st⟩ := h.newStep k (R := R) (o := .term LL scr) hO (fun z hz => hF z (.inl hz)) (fun z hz => ⟨hF z (.inr hz), TermO.lt hO z (.inr hz), by
    obtain ⟨la, ll, lc, i, sa, sl, sc, raw, _, _, _, _, _, _, _, hR, _⟩ := hO
    exact hR z hz⟩)
  obtain ⟨w2, hrun, hm, hk2, hs2⟩ := update_new hT hI (hn.mt) (k := .string nm) trivial (fun x hx e => by
    obtain ⟨y, hy, rfl⟩ := List.mem_map.1 hx
    simp only [Value.string.injEq] at e
    exact h2 y hy e) (pd b)
  have hok := h.ok.addT (o := .term LL scr) rfl h1 h2 hl
  have hb : (L.addO s.nob b F R).loc s.nob = b := if_pos rfl
  obtain ⟨h3, st3⟩ := hn.mtStep (fs := s.terms ++ [(nm, s.nob)]) hk2 (by
    show MapO w2 _ .string ((s.terms ++ [(nm, s.nob)]).map fun f => (Value.string f.1, pd ((L.addO s.nob b F R).loc f.2)))
    rw [List.map_append]
    show MapO w2 _ .string (_ ++ [(Value.string nm, pd ((L.addO s.nob b F R).loc s.nob))])
    rw [hb]
    exact hm) hok
  exact ⟨w2, _, hrun, h3, st.trans st3, hk2⟩
open Classical in
noncomputable def KL.first (gk rf rt rd pg : Nat) (a : Option Addr) : KL :=
  { own := fun z => if z = gk then some .kern else if z = rf then some .mf else if z = rt then some .mt else if z = rd then some .md else if z = pg then some .plan else if inA a z then some .flts else none
    loc := fun _ => 0, dloc := fun _ => 0, rf := rf, rt := rt, rd := rd, pg := pg }
theorem KL.first_some {gk rf rt rd pg z : Nat} {a : Option Addr} (h : (KL.first gk rf rt rd pg a).own z ≠ none) : z = gk ∨ z = rf ∨ z = rt ∨ z = rd ∨ z = pg ∨ inA a z := by
  unfold KL.first at h
  dsimp only at h
  by_cases h1 : z = gk
  · exact .inl h1
  rw [if_neg h1] at h
  by_cases h2 : z = rf
  · exact .inr (.inl h2)
  rw [if_neg h2] at h
  by_cases h3 : z = rt
  · exact .inr (.inr (.inl h3))
  rw [if_neg h3] at h
  by_cases h4 : z = rd
  · exact .inr (.inr (.inr (.inl h4)))
  rw [if_neg h4] at h
  by_cases h5 : z = pg
  · exact .inr (.inr (.inr (.inr (.inl h5))))
  rw [if_neg h5] at h
  by_cases h6 : inA a z
  · exact .inr (.inr (.inr (.inr (.inr h6))))
  rw [if_neg h6] at h
  exact absurd rfl h
theorem first_ok {w : World} {gk rf rt rd pg : Nat} {a : Option Addr} {l c : Nat} {ps : List (Int × Int)} (hb : Blk w gk #[.bool true, .map (some rf), .map (some rt), .map (some rd), .int .i64 1, pd pg, .int .i64 0, .int .i64 0])
    (m1 : MapO w rf .string []) (m2 : MapO w rt .string []) (m3 : MapO w rd (.int .i64) []) (hp : PlO w pg a l c ps) (ha : ∀ b, inA a b → b < w.heap.size ∧ b ≠ gk ∧ b ≠ rf ∧ b ≠ rt ∧ b ≠ rd ∧ b ≠ pg)
    (hd : rf ≠ gk ∧ rt ≠ gk ∧ rd ≠ gk ∧ pg ≠ gk ∧ rt ≠ rf ∧ rd ≠ rf ∧ pg ≠ rf ∧ rd ≠ rt ∧ pg ≠ rt ∧ pg ≠ rd) (hl : ps.length ≤ 4096) (hm : ∀ p ∈ ps, mayP p) : KernO w gk (AK.empty ps) (KL.first gk rf rt rd pg a) := by
  obtain ⟨d1, d2, d3, d4, d5, d6, d7, d8, d9, d10⟩ := hd
  exact
    { blk := hb, mf := m1, mt := m2, md := m3
      pl := ⟨a, l, c, hp, fun b hb => by
        obtain ⟨_, e1, e2, e3, e4, e5⟩ := ha b hb
        show (if b = gk then _ else _) = _
        rw [if_neg e1, if_neg e2, if_neg e3, if_neg e4, if_neg e5, if_pos hb]⟩
      ob := fun i hi => by exact absurd hi (Nat.not_lt_zero i)
      ds := fun d hd => by cases hd
      oK := if_pos rfl
      oF := by show (KL.first gk rf rt rd pg a).own rf = _; unfold KL.first; dsimp only; rw [if_neg d1, if_pos rfl]
      oT := by show (KL.first gk rf rt rd pg a).own rt = _; unfold KL.first; dsimp only; rw [if_neg d2, if_neg d5, if_pos rfl]
      oD := by show (KL.first gk rf rt rd pg a).own rd = _; unfold KL.first; dsimp only; rw [if_neg d3, if_neg d6, if_neg d8, if_pos rfl]
      oP := by show (KL.first gk rf rt rd pg a).own pg = _; unfold KL.first; dsimp only; rw [if_neg d4, if_neg d7, if_neg d9, if_neg d10, if_pos rfl]
      od := fun d hd => by cases hd
      lt := fun z hz => by
        rcases KL.first_some hz with rfl | rfl | rfl | rfl | rfl | e
        · exact hb.lt
        · exact m1.lt
        · exact m2.lt
        · exact m3.lt
        · exact hp.blk.lt
        · exact (ha z e).1
      ok := AK.ok_empty hl hm }
namespace AK
theorem withF_ok_next {fs : List (ByteArray × List Int)} {ts : List (ByteArray × List (List Int))} {ps : List (Int × Int)} (h : CkOk fs ts ps) {i : Nat} (hi : i < fs.length) :
    (∀ f ∈ (withF (fs.take i) (empty ps)).files, f.1 ≠ fs[i].1) ∧ (∀ f ∈ (withF (fs.take i) (empty ps)).terms, f.1 ≠ fs[i].1) ∧ (withF (fs.take i) (empty ps)).files.length + (withF (fs.take i) (empty ps)).terms.length < 256 := by
  obtain ⟨h1, h2, _⟩ := withF_names (fs.take i) (empty ps)
  have hnd := h.nd
  rw [List.nodup_append] at hnd
  have hnd := hnd.1
  have h1 : (withF (fs.take i) (empty ps)).files.map (·.1) = (fs.take i).map (·.1) := by rw [h1]; rfl
  refine ⟨fun f hf e => ?_, fun f hf => by rw [h2] at hf; exact absurd hf (by simp [empty]), ?_⟩
  · have hm : fs[i].1 ∈ (fs.take i).map (·.1) := by rw [← h1, ← e]; exact List.mem_map.2 ⟨f, hf, rfl⟩
    rw [← List.take_append_drop i fs, List.map_append, List.nodup_append] at hnd
    exact hnd.2.2 _ hm _ (List.mem_map.2 ⟨fs[i], by rw [List.drop_eq_getElem_cons hi]; exact List.mem_cons_self, rfl⟩) rfl
  · have e1 := congrArg List.length h1
    rw [List.length_map, List.length_map, List.length_take] at e1
    rw [h2]
    show _ + 0 < 256
    have := h.len
    omega
theorem withT_ok_next {fs : List (ByteArray × List Int)} {ts : List (ByteArray × List (List Int))} {ps : List (Int × Int)} (h : CkOk fs ts ps) {i : Nat} (hi : i < ts.length) :
    (∀ f ∈ (withT (ts.take i) (withF fs (empty ps))).files, f.1 ≠ ts[i].1) ∧ (∀ f ∈ (withT (ts.take i) (withF fs (empty ps))).terms, f.1 ≠ ts[i].1) ∧ (withT (ts.take i) (withF fs (empty ps))).files.length + (withT (ts.take i) (withF fs (empty ps))).terms.length < 256 := by
  obtain ⟨h1, h2, _⟩ := withF_names fs (empty ps)
  obtain ⟨g1, g2, _⟩ := withT_names (ts.take i) (withF fs (empty ps))
  have hnd := h.nd
  rw [List.nodup_append] at hnd
  obtain ⟨_, hnt, hx⟩ := hnd
  have h1 : (withF fs (empty ps)).files.map (·.1) = fs.map (·.1) := by rw [h1]; rfl
  have g1 : (withT (ts.take i) (withF fs (empty ps))).terms.map (·.1) = (ts.take i).map (·.1) := by rw [g1, h2]; rfl
  refine ⟨fun f hf e => ?_, fun f hf e => ?_, ?_⟩
  · rw [g2] at hf
    have hm : ts[i].1 ∈ fs.map (·.1) := by rw [← h1, ← e]; exact List.mem_map.2 ⟨f, hf, rfl⟩
    exact hx _ hm ts[i].1 (List.mem_map.2 ⟨ts[i], List.getElem_mem hi, rfl⟩) rfl
  · have hm : ts[i].1 ∈ (ts.take i).map (·.1) := by rw [← g1, ← e]; exact List.mem_map.2 ⟨f, hf, rfl⟩
    rw [← List.take_append_drop i ts, List.map_append, List.nodup_append] at hnt
    exact hnt.2.2 _ hm _ (List.mem_map.2 ⟨ts[i], by rw [List.drop_eq_getElem_cons hi]; exact List.mem_cons_self, rfl⟩) rfl
  · have e1 := congrArg List.length h1
    have e2 := congrArg List.length g1
    rw [List.length_map, List.length_map] at e1 e2
    rw [List.length_take] at e2
    rw [g2]
    have := h.len
    omega
end AK
set_option maxHeartbeats 2000000 in
theorem kernNew_ok {w : World} {af : Option Addr} {lf cf : Nat} {fs : List (ByteArray × List Int)} {ef : List (ByteArray × Slc)} (hf : RdN RB w af lf cf fs ef) {at_ : Option Addr} {lt ct : Nat} {ts : List (ByteArray × List (List Int))} {et : List (ByteArray × Slc)} (ht : RdN RL w at_ lt ct ts et)
    {ap : Option Addr} {lp cp : Nat} {ps : List (Int × Int)} (hp : RdS 2 w ap lp cp (Fv ps)) (hlf : lf ≤ 140737488355328) (hlt : lt ≤ 140737488355328) :
    CallR Tryz.prog 8 [.agg #[.slice af lf cf, .slice at_ lt ct, .slice ap lp cp]] w fun v w' => Kept No w w' ∧ ((checkK fs ts ps ≠ 0 ∧ v = .tuple #[.pointer none, .int .i64 (checkK fs ts ps)]) ∨
      (checkK fs ts ps = 0 ∧ ∃ gk L, v = .tuple #[pd gk, .int .i64 0] ∧ KernO w' gk (AK.new fs ts ps) L ∧ ∀ z, L.own z ≠ none → w.heap.size ≤ z)) := by
  refine C8 ?_
  unfold L8
  have hfl : fs.length = lf := by have := hf.rd.1; rw [Nv_len, hf.len] at this; omega
  have htl : ts.length = lt := by have := ht.rd.1; rw [Nv_len, ht.len] at this; omega
  intro w1
  have hb1 : Blk w1 w.heap.size #[.slice af lf cf, .slice at_ lt ct, .slice ap lp cp] := Blk.alloc _ _ _
  have hk1 : Kept No w w1 := Kept.alloc _ _ _
  clear_value w1
  refine ⟨_, _, _, _, _, _, _, _, _, (hb1.cell 0).trans rfl, (hb1.cell 1).trans rfl, (hb1.cell 2).trans rfl, ?_⟩
  refine CallR.mono (kcheck_ok (hf.no (fun _ _ _ _ h k => h.no k) hk1) (ht.no (fun _ _ _ _ h k => h.no k) hk1) (hp.keep hk1 fun _ _ _ e => e) hlf hlt) ?_
  rintro v w2 ⟨rfl, hk2⟩
  have k2 := hk1.no hk2
  refine ⟨_, rfl, condN (fun hne => ⟨k2, .inl ⟨hne, rfl⟩⟩) (fun he => ?_)⟩
  have hck := AK.check_zero he
  intro w3 w4 w5 w6
  have m3 : MapO w3 w2.heap.size .string [] := MapO.new w2 _
  have hk3 : Kept No w2 w3 := Kept.alloc _ _ _
  have hs3 : w3.heap.size = w2.heap.size + 1 := by simp [w3]
  clear_value w3
  have m4 : MapO w4 w3.heap.size .string [] := MapO.new w3 _
  have hk4 : Kept No w3 w4 := Kept.alloc _ _ _
  have hs4 : w4.heap.size = w3.heap.size + 1 := by simp [w4]
  clear_value w4
  have m5 : MapO w5 w4.heap.size (.int .i64) [] := MapO.new w4 _
  have hk5 : Kept No w4 w5 := Kept.alloc _ _ _
  have hs5 : w5.heap.size = w4.heap.size + 1 := by simp [w5]
  clear_value w5
  have hb6 : Blk w6 w5.heap.size #[.bool true, .map (some w2.heap.size), .map (some w3.heap.size), .map (some w4.heap.size), .int .i64 1, .pointer none, .int .i64 0, .int .i64 0] := Blk.alloc _ _ _
  have hk6 : Kept No w5 w6 := Kept.alloc _ _ _
  have hs6 : w6.heap.size = w5.heap.size + 1 := by simp [w6]
  clear_value w6
  have k26 : Kept No w2 w6 := ((hk3.no hk4).no hk5).no hk6
  have k6 := k2.no k26
  have hc6 := (hb1.keep hk2 fun e => e).keep k26 fun e => e
  have hz1 := hb1.lt
  have hz2 := hk2.size
  refine ⟨_, _, _, (hc6.cell 2).trans rfl, CallR.mono (fnew_ok (hp.keep k6 fun _ _ _ e => e)) ?_⟩
  rintro v w7 ⟨⟨hne, _⟩ | ⟨_, pg, a', c', rfl, hpl, hpg, ha'⟩, hk7⟩
  · exact absurd hck.ck hne
  refine ⟨_, _, rfl, stC_blk (hb6.keep hk7 fun e => e) (by simp) fun w8 hb8 hk8 hs8 => ?_⟩
  have hb8 : Blk w8 w5.heap.size #[.bool true, .map (some w2.heap.size), .map (some w3.heap.size), .map (some w4.heap.size), .int .i64 1, pd pg, .int .i64 0, .int .i64 0] := hb8
  have hpglt := hpl.blk.lt
  have k8 : Kept No w w8 := (k6.no hk7).fresh hk8 fun x e => by omega
  have hc8 := (hc6.keep hk7 fun e => e).keep hk8 (by omega)
  have m38 := ((((m3.keep hk4 fun e => e).keep hk5 fun e => e).keep hk6 fun e => e).keep hk7 fun e => e).keep hk8 (by omega)
  have m48 := (((m4.keep hk5 fun e => e).keep hk6 fun e => e).keep hk7 fun e => e).keep hk8 (by omega)
  have m58 := ((m5.keep hk6 fun e => e).keep hk7 fun e => e).keep hk8 (by omega)
  have hpl8 := hpl.keep hk8 (by omega) (fun b _ hb e => by have := (ha' b hb).1; omega)
  have h8 : KernO w8 w5.heap.size (AK.empty ps) (KL.first w5.heap.size w2.heap.size w3.heap.size w4.heap.size pg a') :=
    first_ok hb8 m38 m48 m58 hpl8 (fun b hb => by have := ha' b hb; have := hpl.ne b hb; omega) ⟨by omega, by omega, by omega, by omega, by omega, by omega, by omega, by omega, by omega, by omega⟩ hck.pl hck.pm
  have hfirst : ∀ z, (KL.first w5.heap.size w2.heap.size w3.heap.size w4.heap.size pg a').own z ≠ none → w1.heap.size ≤ z := by
    intro z hz
    rcases KL.first_some hz with rfl | rfl | rfl | rfl | rfl | e
    · omega
    · omega
    · omega
    · omega
    · omega
    · have := (ha' z e).1; omega
  generalize KL.first w5.heap.size w2.heap.size w3.heap.size w4.heap.size pg a' = L0 at h8 hfirst
  generalize w5.heap.size = gk at *
  have hz8 := k8.size
  have fin : ∀ {w' : World} {L' : KL}, KStep w8 w' L0 L' → Kept No w w' ∧ (∀ z, L'.own z ≠ none → w.heap.size ≤ z) ∧ Blk w' w.heap.size #[.slice af lf cf, .slice at_ lt ct, .slice ap lp cp] := by
    intro w' L' st
    refine ⟨k8.trans st.kept fun x hx e => by have := hfirst x e; omega, fun z hz => ?_, hc8.keep st.kept fun e => by have := hfirst _ e; omega⟩
    rcases st.grew z hz with e | e
    · have := hfirst z e; omega
    · omega
  refine ⟨_, _, _, (hc8.cell 0).trans rfl, ?_⟩
  refine ⟨fun vs w' => ∃ (i : Nat) (L' : KL), vs = [.int .i64 (i : Int)] ∧ i ≤ lf ∧ KernO w' gk (AK.withF (fs.take i) (AK.empty ps)) L' ∧ KStep w8 w' L0 L',
    fun vs _ => lf - ix vs, ⟨0, L0, rfl, by omega, h8, KStep.refl _ _⟩, ?_⟩
  rintro _ n16 w9 ⟨i, L9, hvs, hi, h9, st9⟩
  simp only [List.cons.injEq, Value.int.injEq, true_and, and_true] at hvs
  subst hvs
  obtain ⟨k9, hge9, hc9⟩ := fin st9
  refine condP (fun hlt => ?_) (fun hge => ?_)
  · have hi' : i < fs.length := by omega
    obtain ⟨q, sl, haq, e1, e2, hR, _⟩ := (hf.no (fun _ _ _ _ h k => h.no k) k9).at hi'
    refine ⟨⟨by omega, by omega⟩, nnE2 haq ⟨fs[i].1, sl.1, sl.2.1, sl.2.2, by simpa using e1, by simpa using e2, ?_⟩⟩
    refine newPair fun w12 hb12 hk12 hz12 => ?_
    refine ⟨fun wS => Kept No w12 wS, Kept.drew _ _, ?_⟩
    intro w13
    have hk13 : Kept No w12 w13 := Kept.drew _ _
    clear_value w13
    have h12 := h9.no hk12
    have h13 := h12.no hk13
    refine ⟨_, fun wS hS => ((h12.no hS).blk.cell 1).trans rfl, _, fun wS hS => ((hb12.keep hS fun e => e).cell 0).trans rfl, _, _, _, fun wS hS => ((hb12.keep hS fun e => e).cell 1).trans rfl, ?_⟩
    have hR13 : RB w13 sl fs[i].2 := (hR.no hk12).no hk13
    have hfl2 := (hck.fs fs[i] (List.getElem_mem hi')).2
    have hsl : fs[i].2.length = sl.2.1 := RdB.len hR13
    refine CallR.mono (finew_ok hR13 (by omega)) ?_
    rintro v w14 (⟨hbig, _⟩ | ⟨_, b, F, rfl, hO, hk14, hF⟩)
    · omega
    obtain ⟨q1, q2, q3⟩ := AK.withF_ok_next hck hi'
    obtain ⟨w15, L15, hrun, h15, st15, _, _⟩ := addF_ok h13 hk14 hO hF (nm := fs[i].1) q1 q2 q3
    have hT : fs.take (i + 1) = fs.take i ++ [fs[i]] := by rw [List.take_add_one, List.getElem?_eq_getElem hi']; rfl
    refine ⟨_, _, rfl, hk13.no hk14, w15, hrun, ⟨by omega, by omega⟩, ⟨i + 1, L15, rfl, by omega, ?_, (st9.no hk12).trans (st15.fresh hk13)⟩, ?_⟩
    · rw [hT, AK.withF_snoc]; exact h15
    · simp only [ix]; omega
  · have hil : i = fs.length := by omega
    rw [List.take_of_length_le (by omega)] at h9
    refine ⟨_, _, _, (hc9.cell 1).trans rfl, ?_⟩
    refine ⟨fun vs w' => ∃ (j : Nat) (L' : KL), vs = [.int .i64 (j : Int)] ∧ j ≤ lt ∧ KernO w' gk (AK.withT (ts.take j) (AK.withF fs (AK.empty ps))) L' ∧ KStep w8 w' L0 L',
      fun vs _ => lt - ix vs, ⟨0, L9, rfl, by omega, h9, st9⟩, ?_⟩
    rintro _ n30 w16 ⟨j, L16', hvs, hj, h16, st16⟩
    simp only [List.cons.injEq, Value.int.injEq, true_and, and_true] at hvs
    subst hvs
    obtain ⟨k16, hge16, hc16⟩ := fin st16
    refine condP (fun hlt => ?_) (fun hge => ?_)
    · have hj' : j < ts.length := by omega
      obtain ⟨q, sl, haq, e1, e2, hR, _⟩ := (ht.no (fun _ _ _ _ h k => h.no k) k16).at hj'
      refine ⟨⟨by omega, by omega⟩, nnE2 haq ⟨ts[j].1, sl.1, sl.2.1, sl.2.2, by simpa using e1, by simpa using e2, ?_⟩⟩
      refine newPair fun w19 hb19 hk19 hz19 => ?_
      refine ⟨fun wS => Kept No w19 wS, Kept.drew _ _, ?_⟩
      intro w20
      have hk20 : Kept No w19 w20 := Kept.drew _ _
      clear_value w20
      have h19 := h16.no hk19
      have h20 := h19.no hk20
      refine ⟨_, fun wS hS => ((h19.no hS).blk.cell 2).trans rfl, _, fun wS hS => ((hb19.keep hS fun e => e).cell 0).trans rfl, _, _, _, fun wS hS => ((hb19.keep hS fun e => e).cell 1).trans rfl, ?_⟩
      have hR20 : RL w20 sl ts[j].2 := (hR.no hk19).no hk20
      have hnt := (hck.ts ts[j] (List.getElem_mem hj')).2
      refine CallR.mono (tnew_ok hR20.1 hR20.2) ?_
      rintro v w21 ⟨hk21, ⟨hne, _⟩ | ⟨_, b, F, R, rfl, hO, hFR⟩⟩
      · exact absurd hnt hne
      obtain ⟨q1, q2, q3⟩ := AK.withT_ok_next hck hj'
      obtain ⟨w22, L22, hrun, h22, st22, _⟩ := addT_ok h20 hk21 hO hFR (nm := ts[j].1) q1 q2 q3
      have hT : ts.take (j + 1) = ts.take j ++ [ts[j]] := by rw [List.take_add_one, List.getElem?_eq_getElem hj']; rfl
      refine ⟨_, _, rfl, hk20.no hk21, w22, hrun, ⟨by omega, by omega⟩, ⟨j + 1, L22, rfl, by omega, ?_, (st16.no hk19).trans (st22.fresh hk20)⟩, ?_⟩
      · rw [hT, AK.withT_snoc]; exact h22
      · simp only [ix]; omega
    · rw [List.take_of_length_le (by omega)] at h16
      exact ⟨k16, .inr ⟨he, gk, L16', rfl, h16, hge16⟩⟩
end Go.Proofs.YtpoaacnnhgebfaaGreat
set_option maxRecDepth 100000
namespace Go.Proofs.YtpoaacnnhgebfaaGreat
open Go.Lw
def A52 : Ann := ⟨[], [], [], [], [], []⟩
def L52 (a1 : Option Addr) (l1 : Nat) (c1 : Nat) (Q : Value → World → Prop) (w : World) : Prop :=
  ∃ (a2 : Option Addr) (l2 : Nat) (c2 : Nat) (w1 : World), Sem.run Tryz.prog (Builtin.append_ #[24, 24] 24 #[.slice none 0 0, .slice a1 l1 c1]) w = .ok ((.slice a2 l2 c2 : Value)) w1 ∧
  Q (.slice a2 l2 c2) w1
theorem C52 {a1 : Option Addr} {l1 : Nat} {c1 : Nat} {Q : Value → World → Prop} {w : World} (h : L52 a1 l1 c1 Q w) : CallR Tryz.prog 52 [.slice a1 l1 c1] w Q :=
  fun_calls (A := A52) mixed Tryz.func52 (c := (Tryz.f52.body).getD .skip) rfl (by kernel_rfl) (Eq.mp (by kernel_rfl) h)
def L7 (a1 : Option Addr) (l1 : Nat) (c1 : Nat) (a2 : Option Addr) (l2 : Nat) (c2 : Nat) (a3 : Option Addr) (l3 : Nat) (c3 : Nat) (Q : Value → World → Prop) (w : World) : Prop :=
  let w1 := World.alloc w (Obj.cells #[.slice a1 l1 c1, .slice a2 l2 c2, .slice a3 l3 c3] 26);
  let w2 := World.alloc w1 (Obj.cells #[.slice none 0 0, .slice none 0 0, .slice none 0 0] 28);
  ∃ (S4 : World → Prop), S4 (World.drew w2) ∧
  let w3 := World.drew w2;
  ∃ (a5 : Option Addr) (l5 : Nat) (c5 : Nat), (∀ wS : World, S4 wS → wS.cell? (Addr.mk w.heap.size 0 none) = some ((.slice a5 l5 c5 : Value))) ∧
  ∃ (a6 : Option Addr) (l6 : Nat) (c6 : Nat), (∀ wS : World, S4 wS → wS.cell? (Addr.mk w.heap.size 1 none) = some ((.slice a6 l6 c6 : Value))) ∧
  ∃ (a7 : Option Addr) (l7 : Nat) (c7 : Nat), (∀ wS : World, S4 wS → wS.cell? (Addr.mk w.heap.size 2 none) = some ((.slice a7 l7 c7 : Value))) ∧
  CallR Tryz.prog 50 [.slice a5 l5 c5] w3 (fun (r9 : Value) (w4 : World) =>
  ∃ (a8 : Option Addr) (l8 : Nat) (c8 : Nat), r9 = .slice a8 l8 c8 ∧
  S4 w4 ∧
  CallR Tryz.prog 51 [.slice a6 l6 c6] w4 (fun (r11 : Value) (w5 : World) =>
  ∃ (a10 : Option Addr) (l10 : Nat) (c10 : Nat), r11 = .slice a10 l10 c10 ∧
  S4 w5 ∧
  CallR Tryz.prog 52 [.slice a7 l7 c7] w5 (fun (r13 : Value) (w6 : World) =>
  ∃ (a12 : Option Addr) (l12 : Nat) (c12 : Nat), r13 = .slice a12 l12 c12 ∧
  stC (Addr.mk w1.heap.size 0 none) (.slice a8 l8 c8) w6 (fun (w7 : World) =>
  stC (Addr.mk w1.heap.size 1 none) (.slice a10 l10 c10) w7 (fun (w8 : World) =>
  stC (Addr.mk w1.heap.size 2 none) (.slice a12 l12 c12) w8 (fun (w9 : World) =>
  ∃ (a14 : Option Addr) (l14 : Nat) (c14 : Nat) (a15 : Option Addr) (l15 : Nat) (c15 : Nat) (a16 : Option Addr) (l16 : Nat) (c16 : Nat), w9.cell? (Addr.mk w1.heap.size 0 none) = some ((.slice a14 l14 c14 : Value)) ∧ w9.cell? (Addr.mk w1.heap.size 1 none) = some ((.slice a15 l15 c15 : Value)) ∧ w9.cell? (Addr.mk w1.heap.size 2 none) = some ((.slice a16 l16 c16 : Value)) ∧ 
  Q (.agg #[.slice a14 l14 c14, .slice a15 l15 c15, .slice a16 l16 c16]) w9))))))
def L15 (Q : Value → World → Prop) (w : World) : Prop :=
  CallR Tryz.prog 90 [] w (fun (r2 : Value) (w1 : World) =>
  ∃ (p1 : Option Addr), r2 = .pointer p1 ∧
  cond (Option.isNone p1)
  (Q (.bool false) w1)
  (CallR Tryz.prog 30 [.pointer p1, .string (ByteArray.mk #[97]), .int .i64 1] w1 (fun (r5 : Value) (w2 : World) =>
  ∃ (n3 : Int) (n4 : Int), r5 = .tuple #[.int .i64 n3, .int .i64 n4] ∧
  CallR Tryz.prog 64 [.pointer p1, .int .i64 n3, .int .i64 5] w2 (fun (r8 : Value) (w3 : World) =>
  ∃ (a6 : Option Addr) (l6 : Nat) (c6 : Nat) (n7 : Int), r8 = .tuple #[.slice a6 l6 c6, .int .i64 n7] ∧
  CallR Tryz.prog 64 [.pointer p1, .int .i64 n3, .int .i64 5] w3 (fun (r11 : Value) (w4 : World) =>
  ∃ (a9 : Option Addr) (l9 : Nat) (c9 : Nat) (n10 : Int), r11 = .tuple #[.slice a9 l9 c9, .int .i64 n10] ∧
  CallR Tryz.prog 64 [.pointer p1, .int .i64 n3, .int .i64 5] w4 (fun (r14 : Value) (w5 : World) =>
  ∃ (a12 : Option Addr) (l12 : Nat) (c12 : Nat) (n13 : Int), r14 = .tuple #[.slice a12 l12 c12, .int .i64 n13] ∧
  CallR Tryz.prog 30 [.pointer p1, .string (ByteArray.mk #[98]), .int .i64 1] w5 (fun (r17 : Value) (w6 : World) =>
  ∃ (n15 : Int) (n16 : Int), r17 = .tuple #[.int .i64 n15, .int .i64 n16] ∧
  CallR Tryz.prog 30 [.pointer p1, .string (ByteArray.mk #[98]), .int .i64 42] w6 (fun (r20 : Value) (w7 : World) =>
  ∃ (n18 : Int) (n19 : Int), r20 = .tuple #[.int .i64 n18, .int .i64 n19] ∧
  CallR Tryz.prog 30 [.pointer p1, .string (ByteArray.mk #[98]), .int .i64 42] w7 (fun (r23 : Value) (w8 : World) =>
  ∃ (n21 : Int) (n22 : Int), r23 = .tuple #[.int .i64 n21, .int .i64 n22] ∧
  CallR Tryz.prog 11 [.int .i64 n4] w8 (fun (r25 : Value) (w9 : World) =>
  ∃ (n24 : Int), r25 = .int .i64 n24 ∧
  CallR Tryz.prog 11 [.int .i64 n7] w9 (fun (r27 : Value) (w10 : World) =>
  ∃ (n26 : Int), r27 = .int .i64 n26 ∧
  inI (n24 + n26) ∧
  CallR Tryz.prog 11 [.int .i64 n13] w10 (fun (r29 : Value) (w11 : World) =>
  ∃ (n28 : Int), r29 = .int .i64 n28 ∧
  inI ((n24 + n26) + n28) ∧
  CallR Tryz.prog 11 [.int .i64 n19] w11 (fun (r31 : Value) (w12 : World) =>
  ∃ (n30 : Int), r31 = .int .i64 n30 ∧
  inI (((n24 + n26) + n28) + n30) ∧
  cond ((((n24 + n26) + n28) + n30) == 0)
  (cond (n3 == 1)
  (cond (n18 == 2)
  (∃ (s32 : ByteArray) (w13 : World), Sem.run Tryz.prog (convert 40 9 (.slice a6 l6 c6)) w12 = .ok ((.string s32 : Value)) w13 ∧
  cond (ByteArray.toList s32 == ByteArray.toList (ByteArray.mk #[104, 101]))
  (∃ (s33 : ByteArray) (w14 : World), Sem.run Tryz.prog (convert 40 9 (.slice a12 l12 c12)) w13 = .ok ((.string s33 : Value)) w14 ∧
  cond (ByteArray.toList s33 == ByteArray.toList (ByteArray.mk #[108, 108, 111]))
  (CallR Tryz.prog 11 [.int .i64 n10] w14 (fun (r35 : Value) (w15 : World) =>
  ∃ (n34 : Int), r35 = .int .i64 n34 ∧
  cond (n34 == 22)
  (CallR Tryz.prog 11 [.int .i64 n16] w15 (fun (r37 : Value) (w16 : World) =>
  ∃ (n36 : Int), r37 = .int .i64 n36 ∧
  cond (n36 == 62)
  (CallR Tryz.prog 11 [.int .i64 n22] w16 (fun (r39 : Value) (w17 : World) =>
  ∃ (n38 : Int), r39 = .int .i64 n38 ∧
  Q (.bool (n38 == 63)) w17))
  (Q (.bool false) w16)))
  (Q (.bool false) w15)))
  (Q (.bool false) w14))
  (Q (.bool false) w13))
  (Q (.bool false) w12))
  (Q (.bool false) w12))
  (Q (.bool false) w12))))))))))))))
def A76 : Ann := ⟨[(5, [(3, .one (.slice))]), (11, [(5, .one (.slice)), (27, .one (.int .i64))])], [], [], [], [], []⟩
def L76 (p1 : Option Addr) (Q : Value → World → Prop) (w : World) : Prop :=
  CallR Tryz.prog 118 [.pointer p1] w (fun (r3 : Value) (w1 : World) =>
  ∃ (b2 : Bool), r3 = .bool b2 ∧
  cond b2
  (Q (.slice none 0 0) w1)
  (nn p1 (fun (q4 : Addr) =>
  ∃ (m5 : Option Nat), w1.cell? (Addr.add q4 1) = some ((.map m5 : Value)) ∧
  ∃ (w2 : World), Sem.run Tryz.prog (Instr.range 112 (.map m5)) w1 = .ok (.pointer (some (Addr.mk w1.heap.size 0 none))) w2 ∧
  ∃ (I6 : List Value → World → Prop) (mu7 : List Value → World → Nat),
  I6 [.slice none 0 0] w2 ∧
  ∀ (_ : Env) (a8 : Option Addr) (l8 : Nat) (c8 : Nat) (w3 : World), I6 [.slice a8 l8 c8] w3 →
  (∃ (w4 : World), Sem.run Tryz.prog (Instr.next (.pointer (some (Addr.mk w1.heap.size 0 none))) false 0) w3 = .ok (.tuple #[.bool false]) w4 ∧
  CallR Tryz.prog 180 [.slice a8 l8 c8] w4 (fun (r11 : Value) (w6 : World) =>
  r11 = .tuple #[] ∧
  ∃ (I12 : List Value → World → Prop) (mu13 : List Value → World → Nat),
  I12 [.slice none 0 0, .int .i64 0] w6 ∧
  ∀ (_ : Env) (a14 : Option Addr) (l14 : Nat) (c14 : Nat) (n15 : Int) (w7 : World), I12 [.slice a14 l14 c14, .int .i64 n15] w7 →
  cond (decide (n15 < (((l8 : Nat) : Int))))
  ((0 ≤ (n15 : Int) ∧ (n15 : Int) < ((l8 : Nat) : Int)) ∧
  nn a8 (fun (q16 : Addr) =>
  ∃ (s17 : ByteArray), w7.cell? (Addr.add q16 (Int.toNat n15)) = some ((.string s17 : Value)) ∧
  nn p1 (fun (q18 : Addr) =>
  ∃ (m19 : Option Nat), w7.cell? (Addr.add q18 1) = some ((.map m19 : Value)) ∧
  ∃ (p20 : Option Addr) (w8 : World), Sem.run Tryz.prog (Instr.lookup 112 (.map m19) (.string s17) false) w7 = .ok ((.pointer p20 : Value)) w8 ∧
  CallR Tryz.prog 181 [.pointer p20] w8 (fun (r22 : Value) (w9 : World) =>
  ∃ (a21 : Option Addr) (l21 : Nat) (c21 : Nat), r22 = .slice a21 l21 c21 ∧
  let w10 := World.alloc w9 (Obj.cells #[.string s17, .slice a21 l21 c21] 122);
  ∃ (a23 : Option Addr) (l23 : Nat) (c23 : Nat) (w11 : World), Sem.run Tryz.prog (Builtin.append_ #[22, 22] 22 #[.slice a14 l14 c14, .slice (some (Addr.mk w9.heap.size 0 none)) 1 1]) w10 = .ok ((.slice a23 l23 c23 : Value)) w11 ∧
  inI (n15 + 1) ∧
  I12 [.slice a23 l23 c23, .int .i64 (n15 + 1)] w11 ∧ mu13 [.slice a23 l23 c23, .int .i64 (n15 + 1)] w11 < mu13 [.slice a14 l14 c14, .int .i64 n15] w7))))
  (Q (.slice a14 l14 c14) w7))) ∨
  (∃ (v9 : Value) (v10 : Value) (w5 : World), Sem.run Tryz.prog (Instr.next (.pointer (some (Addr.mk w1.heap.size 0 none))) false 0) w3 = .ok (.tuple #[.bool true, v9, v10]) w5 ∧
  ∃ (s24 : ByteArray) (v25 : Value) (w12 : World), Sem.run Tryz.prog (Instr.entry (.pointer (some (Addr.mk w1.heap.size 0 none)))) w5 = .ok (.tuple #[.string s24, v25]) w12 ∧
  let w13 := World.alloc w12 (Obj.cells #[.string s24] 9);
  ∃ (a26 : Option Addr) (l26 : Nat) (c26 : Nat) (w14 : World), Sem.run Tryz.prog (Builtin.append_ #[131, 131] 131 #[.slice a8 l8 c8, .slice (some (Addr.mk w12.heap.size 0 none)) 1 1]) w13 = .ok ((.slice a26 l26 c26 : Value)) w14 ∧
  I6 [.slice a26 l26 c26] w14 ∧ mu7 [.slice a26 l26 c26] w14 < mu7 [.slice a8 l8 c8] w3))))
theorem C76 {p1 : Option Addr} {Q : Value → World → Prop} {w : World} (h : L76 p1 Q w) : CallR Tryz.prog 76 [.pointer p1] w Q :=
  fun_calls (A := A76) mixed Tryz.func76 (c := (Tryz.f76.body).getD .skip) rfl (by kernel_rfl) (Eq.mp (by kernel_rfl) h)
def A75 : Ann := ⟨[(4, [(5, .one (.int .i64))])], [], [], [(6, [0, 1, 2, 3, 4, 5, 6, 7, 8, 9, 10, 11, 12, 13, 14, 15, 16, 17, 18, 19, 20, 21, 22, 23, 24])], [], []⟩
def L75 (a1 : Option Addr) (l1 : Nat) (c1 : Nat) (a2 : Option Addr) (l2 : Nat) (c2 : Nat) (Q : Value → World → Prop) (w : World) : Prop :=
  cond ((((l1 : Nat) : Int)) != (((l2 : Nat) : Int)))
  (Q (.bool false) w)
  (∃ (I3 : List Value → World → Prop) (mu4 : List Value → World → Nat),
  I3 [.int .i64 0] w ∧
  ∀ (_ : Env) (n5 : Int) (w1 : World), I3 [.int .i64 n5] w1 →
  cond (decide (n5 < (((l1 : Nat) : Int))))
  (let w2 := World.drew w1;
  (0 ≤ (n5 : Int) ∧ (n5 : Int) < ((l1 : Nat) : Int)) ∧
  nn a1 (fun (q6 : Addr) =>
  ∃ (s7 : ByteArray), w2.cell? (Addr.add q6 (Int.toNat n5 * 2)) = some ((.string s7 : Value)) ∧
  (0 ≤ (n5 : Int) ∧ (n5 : Int) < ((l2 : Nat) : Int)) ∧
  nn a2 (fun (q8 : Addr) =>
  ∃ (s9 : ByteArray), w2.cell? (Addr.add q8 (Int.toNat n5 * 2)) = some ((.string s9 : Value)) ∧
  cond (!(ByteArray.toList s7 == ByteArray.toList s9))
  (Q (.bool false) w2)
  ((0 ≤ (n5 : Int) ∧ (n5 : Int) < ((l1 : Nat) : Int)) ∧
  nn a1 (fun (q10 : Addr) =>
  ∃ (a11 : Option Addr) (l11 : Nat) (c11 : Nat), w2.cell? (Addr.add (Addr.add q10 (Int.toNat n5 * 2)) 1) = some ((.slice a11 l11 c11 : Value)) ∧
  (0 ≤ (n5 : Int) ∧ (n5 : Int) < ((l2 : Nat) : Int)) ∧
  nn a2 (fun (q12 : Addr) =>
  ∃ (a13 : Option Addr) (l13 : Nat) (c13 : Nat), w2.cell? (Addr.add (Addr.add q12 (Int.toNat n5 * 2)) 1) = some ((.slice a13 l13 c13 : Value)) ∧
  CallR Tryz.prog 39 [.slice a11 l11 c11, .slice a13 l13 c13] w2 (fun (r15 : Value) (w3 : World) =>
  ∃ (b14 : Bool), r15 = .bool b14 ∧
  cond (!b14)
  (Q (.bool false) w3)
  (inI (n5 + 1) ∧
  I3 [.int .i64 (n5 + 1)] w3 ∧ mu4 [.int .i64 (n5 + 1)] w3 < mu4 [.int .i64 n5] w1))))))))
  (Q (.bool true) w1))
theorem C75 {a1 : Option Addr} {l1 : Nat} {c1 : Nat} {a2 : Option Addr} {l2 : Nat} {c2 : Nat} {Q : Value → World → Prop} {w : World} (h : L75 a1 l1 c1 a2 l2 c2 Q w) : CallR Tryz.prog 75 [.slice a1 l1 c1, .slice a2 l2 c2] w Q :=
  fun_calls (A := A75) mixed Tryz.func75 (c := (Tryz.f75.body).getD .skip) rfl (by kernel_rfl) (Eq.mp (by kernel_rfl) h)
def A74 : Ann := ⟨[], [], [], [], [], []⟩
def L74 (p1 : Option Addr) (Q : Value → World → Prop) (w : World) : Prop :=
  CallR Tryz.prog 118 [.pointer p1] w (fun (r3 : Value) (w1 : World) =>
  ∃ (b2 : Bool), r3 = .bool b2 ∧
  cond b2
  (Q (.tuple #[.int .i64 0, .int .i64 0]) w1)
  (nn p1 (fun (q5 : Addr) =>
  (0 ≤ (0 : Int) ∧ (0 : Int) < ((2 : Nat) : Int)) ∧
  ∃ (n6 : Int), w1.cell? (Addr.add (Addr.add q5 6) (Int.toNat 0)) = some ((.int .i64 n6 : Value)) ∧
  nn p1 (fun (q7 : Addr) =>
  (0 ≤ (1 : Int) ∧ (1 : Int) < ((2 : Nat) : Int)) ∧
  ∃ (n8 : Int), w1.cell? (Addr.add (Addr.add q7 6) (Int.toNat 1)) = some ((.int .i64 n8 : Value)) ∧
  ∀ nd4 : Nat, let w2 := World.drewN w1 nd4;
  Q (.tuple #[.int .i64 n6, .int .i64 n8]) w2))))
theorem C74 {p1 : Option Addr} {Q : Value → World → Prop} {w : World} (h : L74 p1 Q w) : CallR Tryz.prog 74 [.pointer p1] w Q :=
  fun_calls (A := A74) mixed Tryz.func74 (c := (Tryz.f74.body).getD .skip) rfl (by kernel_rfl) (Eq.mp (by kernel_rfl) h)
def A81 : Ann := ⟨[], [], [], [], [], []⟩
def L81 (p1 : Option Addr) (s2 : ByteArray) (Q : Value → World → Prop) (w : World) : Prop :=
  CallR Tryz.prog 118 [.pointer p1] w (fun (r4 : Value) (w1 : World) =>
  ∃ (b3 : Bool), r4 = .bool b3 ∧
  cond b3
  (Q (.tuple #[.slice none 0 0, .bool false]) w1)
  (nn p1 (fun (q5 : Addr) =>
  ∃ (m6 : Option Nat), w1.cell? (Addr.add q5 2) = some ((.map m6 : Value)) ∧
  ∃ (p7 : Option Addr) (b8 : Bool) (w2 : World), Sem.run Tryz.prog (Instr.lookup 113 (.map m6) (.string s2) true) w1 = .ok ((.tuple #[.pointer p7, .bool b8] : Value)) w2 ∧
  CallR Tryz.prog 183 [.pointer p7] w2 (fun (r10 : Value) (w3 : World) =>
  ∃ (a9 : Option Addr) (l9 : Nat) (c9 : Nat), r10 = .slice a9 l9 c9 ∧
  Q (.tuple #[.slice a9 l9 c9, .bool b8]) w3))))
theorem C81 {p1 : Option Addr} {s2 : ByteArray} {Q : Value → World → Prop} {w : World} (h : L81 p1 s2 Q w) : CallR Tryz.prog 81 [.pointer p1, .string s2] w Q :=
  fun_calls (A := A81) mixed Tryz.func81 (c := (Tryz.f81.body).getD .skip) rfl (by kernel_rfl) (Eq.mp (by kernel_rfl) h)
def A192 : Ann := ⟨[], [], [], [], [], []⟩
def L192 (p1 : Option Addr) (n2 : Int) (n3 : Int) (n4 : Int) (Q : Value → World → Prop) (w : World) : Prop :=
  let w1 := World.alloc w (Obj.cells #[.pointer p1, .int .i64 n2] 70);
  ∃ (p5 : Option Addr), w1.cell? (Addr.mk w.heap.size 0 none) = some ((.pointer p5 : Value)) ∧
  ∃ (n6 : Int), w1.cell? (Addr.mk w.heap.size 1 none) = some ((.int .i64 n6 : Value)) ∧
  CallR Tryz.prog 68 [.pointer p5, .int .i64 n6, .int .i64 n3, .int .i64 n4] w1 (fun (r9 : Value) (w2 : World) =>
  ∃ (n7 : Int) (n8 : Int), r9 = .tuple #[.int .i64 n7, .int .i64 n8] ∧
  Q (.tuple #[.int .i64 n7, .int .i64 n8]) w2)
theorem C192 {p1 : Option Addr} {n2 : Int} {n3 : Int} {n4 : Int} {Q : Value → World → Prop} {w : World} (h : L192 p1 n2 n3 n4 Q w) : CallR Tryz.prog 192 [.agg #[.pointer p1, .int .i64 n2], .int .i64 n3, .int .i64 n4] w Q :=
  fun_calls (A := A192) mixed Tryz.func192 (c := (Tryz.f192.body).getD .skip) rfl (by kernel_rfl) (Eq.mp (by kernel_rfl) h)
def A180 : Ann := ⟨[], [], [], [], [], []⟩
def L180 (a1 : Option Addr) (l1 : Nat) (c1 : Nat) (Q : Value → World → Prop) (w : World) : Prop :=
  CallR Tryz.prog 207 [.int .u64 (IntKind.wrap .u64 (((l1 : Nat) : Int)))] w (fun (r3 : Value) (w1 : World) =>
  ∃ (n2 : Int), r3 = .int .i64 n2 ∧
  CallR Tryz.prog 206 [.slice a1 l1 c1, .int .i64 0, .int .i64 (((l1 : Nat) : Int)), .int .i64 n2] w1 (fun (r4 : Value) (w2 : World) =>
  r4 = .tuple #[] ∧
  Q (.tuple #[]) w2))
theorem C180 {a1 : Option Addr} {l1 : Nat} {c1 : Nat} {Q : Value → World → Prop} {w : World} (h : L180 a1 l1 c1 Q w) : CallR Tryz.prog 180 [.slice a1 l1 c1] w Q :=
  fun_calls (A := A180) mixed Tryz.func180 (c := (Tryz.f180.body).getD .skip) rfl (by kernel_rfl) (Eq.mp (by kernel_rfl) h)
def A206 : Ann := ⟨[(2, [(1, .one (.int .i64)), (2, .one (.int .i64)), (3, .one (.int .i64)), (8, .one (.bool)), (9, .one (.bool))])], [(10, [(3, .one (.int .i64))]), (15, [(11, .one (.int .i64)), (12, .one (.int .i64))]), (17, [])], [], [(17, [0, 1, 2, 3, 4, 5, 6, 7, 8, 9, 10, 11, 12, 13, 14])], [], []⟩
def L206 (a1 : Option Addr) (l1 : Nat) (c1 : Nat) (n2 : Int) (n3 : Int) (n4 : Int) (Q : Value → World → Prop) (w : World) : Prop :=
  ∃ (I5 : List Value → World → Prop) (mu6 : List Value → World → Nat),
  I5 [.int .i64 n2, .int .i64 n3, .int .i64 n4, .bool true, .bool true] w ∧
  ∀ (_ : Env) (n7 : Int) (n8 : Int) (n9 : Int) (b10 : Bool) (b11 : Bool) (w1 : World), I5 [.int .i64 n7, .int .i64 n8, .int .i64 n9, .bool b10, .bool b11] w1 →
  inI (n8 - n7) ∧
  cond (decide ((n8 - n7) ≤ 12))
  (CallR Tryz.prog 211 [.slice a1 l1 c1, .int .i64 n7, .int .i64 n8] w1 (fun (r12 : Value) (w2 : World) =>
  r12 = .tuple #[] ∧
  Q (.tuple #[]) w2))
  (cond (n9 == 0)
  (CallR Tryz.prog 212 [.slice a1 l1 c1, .int .i64 n7, .int .i64 n8] w1 (fun (r13 : Value) (w3 : World) =>
  r13 = .tuple #[] ∧
  Q (.tuple #[]) w3))
  (∃ (J14 : List Value → World → Prop),
  (cond (!b10)
  (CallR Tryz.prog 213 [.slice a1 l1 c1, .int .i64 n7, .int .i64 n8] w1 (fun (r15 : Value) (w4 : World) =>
  r15 = .tuple #[] ∧
  inI (n9 - 1) ∧
  J14 [.int .i64 (n9 - 1)] w4))
  (J14 [.int .i64 n9] w1)) ∧
  (∀ (_ : Env) (n16 : Int) (w5 : World), J14 [.int .i64 n16] w5 →
  CallR Tryz.prog 214 [.slice a1 l1 c1, .int .i64 n7, .int .i64 n8] w5 (fun (r19 : Value) (w6 : World) =>
  ∃ (n17 : Int) (n18 : Int), r19 = .tuple #[.int .i64 n17, .int .i64 n18] ∧
  ∃ (J20 : List Value → World → Prop),
  (cond (n18 == 2)
  (CallR Tryz.prog 215 [.slice a1 l1 c1, .int .i64 n7, .int .i64 n8] w6 (fun (r21 : Value) (w7 : World) =>
  r21 = .tuple #[] ∧
  inI (n8 - 1) ∧
  inI (n17 - n7) ∧
  inI ((n8 - 1) - (n17 - n7)) ∧
  J20 [.int .i64 ((n8 - 1) - (n17 - n7)), .int .i64 1] w7))
  (J20 [.int .i64 n17, .int .i64 n18] w6)) ∧
  (∀ (_ : Env) (n22 : Int) (n23 : Int) (w8 : World), J20 [.int .i64 n22, .int .i64 n23] w8 →
  ∃ (J24 : List Value → World → Prop),
  (cond b10
  (cond b11
  (cond (n23 == 1)
  (CallR Tryz.prog 216 [.slice a1 l1 c1, .int .i64 n7, .int .i64 n8] w8 (fun (r26 : Value) (w9 : World) =>
  ∃ (b25 : Bool), r26 = .bool b25 ∧
  cond b25
  (Q (.tuple #[]) w9)
  (J24 [] w9)))
  (J24 [] w8))
  (J24 [] w8))
  (J24 [] w8)) ∧
  (∀ (_ : Env) (w10 : World), J24 [] w10 →
  let w11 := World.drew w10;
  cond (decide (n7 > 0))
  (inI (n7 - 1) ∧
  (0 ≤ (n7 - 1 : Int) ∧ (n7 - 1 : Int) < ((l1 : Nat) : Int)) ∧
  nn a1 (fun (q27 : Addr) =>
  ∃ (s28 : ByteArray), w11.cell? (Addr.add q27 (Int.toNat (n7 - 1))) = some ((.string s28 : Value)) ∧
  (0 ≤ (n22 : Int) ∧ (n22 : Int) < ((l1 : Nat) : Int)) ∧
  nn a1 (fun (q29 : Addr) =>
  ∃ (s30 : ByteArray), w11.cell? (Addr.add q29 (Int.toNat n22)) = some ((.string s30 : Value)) ∧
  CallR Tryz.prog 217 [.string s28, .string s30] w11 (fun (r32 : Value) (w12 : World) =>
  ∃ (b31 : Bool), r32 = .bool b31 ∧
  cond (!b31)
  (CallR Tryz.prog 218 [.slice a1 l1 c1, .int .i64 n7, .int .i64 n8, .int .i64 n22] w12 (fun (r34 : Value) (w13 : World) =>
  ∃ (n33 : Int), r34 = .int .i64 n33 ∧
  I5 [.int .i64 n33, .int .i64 n8, .int .i64 n16, .bool b10, .bool b11] w13 ∧ mu6 [.int .i64 n33, .int .i64 n8, .int .i64 n16, .bool b10, .bool b11] w13 < mu6 [.int .i64 n7, .int .i64 n8, .int .i64 n9, .bool b10, .bool b11] w1))
  (CallR Tryz.prog 219 [.slice a1 l1 c1, .int .i64 n7, .int .i64 n8, .int .i64 n22] w12 (fun (r37 : Value) (w14 : World) =>
  ∃ (n35 : Int) (b36 : Bool), r37 = .tuple #[.int .i64 n35, .bool b36] ∧
  inI (n35 - n7) ∧
  inI (n8 - n35) ∧
  (8 : Int) ≠ 0 ∧
  inI (Int.tdiv (n8 - n7) (8 : Int)) ∧
  cond (decide ((n35 - n7) < (n8 - n35)))
  (CallR Tryz.prog 206 [.slice a1 l1 c1, .int .i64 n7, .int .i64 n35, .int .i64 n16] w14 (fun (r38 : Value) (w15 : World) =>
  r38 = .tuple #[] ∧
  inI (n35 + 1) ∧
  I5 [.int .i64 (n35 + 1), .int .i64 n8, .int .i64 n16, .bool (decide ((n35 - n7) ≥ (Int.tdiv (n8 - n7) (8 : Int)))), .bool b36] w15 ∧ mu6 [.int .i64 (n35 + 1), .int .i64 n8, .int .i64 n16, .bool (decide ((n35 - n7) ≥ (Int.tdiv (n8 - n7) (8 : Int)))), .bool b36] w15 < mu6 [.int .i64 n7, .int .i64 n8, .int .i64 n9, .bool b10, .bool b11] w1))
  (inI (n35 + 1) ∧
  CallR Tryz.prog 206 [.slice a1 l1 c1, .int .i64 (n35 + 1), .int .i64 n8, .int .i64 n16] w14 (fun (r39 : Value) (w16 : World) =>
  r39 = .tuple #[] ∧
  I5 [.int .i64 n7, .int .i64 n35, .int .i64 n16, .bool (decide ((n8 - n35) ≥ (Int.tdiv (n8 - n7) (8 : Int)))), .bool b36] w16 ∧ mu6 [.int .i64 n7, .int .i64 n35, .int .i64 n16, .bool (decide ((n8 - n35) ≥ (Int.tdiv (n8 - n7) (8 : Int)))), .bool b36] w16 < mu6 [.int .i64 n7, .int .i64 n8, .int .i64 n9, .bool b10, .bool b11] w1))))))))
  (CallR Tryz.prog 219 [.slice a1 l1 c1, .int .i64 n7, .int .i64 n8, .int .i64 n22] w11 (fun (r42 : Value) (w17 : World) =>
  ∃ (n40 : Int) (b41 : Bool), r42 = .tuple #[.int .i64 n40, .bool b41] ∧
  inI (n40 - n7) ∧
  inI (n8 - n40) ∧
  (8 : Int) ≠ 0 ∧
  inI (Int.tdiv (n8 - n7) (8 : Int)) ∧
  cond (decide ((n40 - n7) < (n8 - n40)))
  (CallR Tryz.prog 206 [.slice a1 l1 c1, .int .i64 n7, .int .i64 n40, .int .i64 n16] w17 (fun (r43 : Value) (w18 : World) =>
  r43 = .tuple #[] ∧
  inI (n40 + 1) ∧
  I5 [.int .i64 (n40 + 1), .int .i64 n8, .int .i64 n16, .bool (decide ((n40 - n7) ≥ (Int.tdiv (n8 - n7) (8 : Int)))), .bool b41] w18 ∧ mu6 [.int .i64 (n40 + 1), .int .i64 n8, .int .i64 n16, .bool (decide ((n40 - n7) ≥ (Int.tdiv (n8 - n7) (8 : Int)))), .bool b41] w18 < mu6 [.int .i64 n7, .int .i64 n8, .int .i64 n9, .bool b10, .bool b11] w1))
  (inI (n40 + 1) ∧
  CallR Tryz.prog 206 [.slice a1 l1 c1, .int .i64 (n40 + 1), .int .i64 n8, .int .i64 n16] w17 (fun (r44 : Value) (w19 : World) =>
  r44 = .tuple #[] ∧
  I5 [.int .i64 n7, .int .i64 n40, .int .i64 n16, .bool (decide ((n8 - n40) ≥ (Int.tdiv (n8 - n7) (8 : Int)))), .bool b41] w19 ∧ mu6 [.int .i64 n7, .int .i64 n40, .int .i64 n16, .bool (decide ((n8 - n40) ≥ (Int.tdiv (n8 - n7) (8 : Int)))), .bool b41] w19 < mu6 [.int .i64 n7, .int .i64 n8, .int .i64 n9, .bool b10, .bool b11] w1))))))))))
theorem C206 {a1 : Option Addr} {l1 : Nat} {c1 : Nat} {n2 : Int} {n3 : Int} {n4 : Int} {Q : Value → World → Prop} {w : World} (h : L206 a1 l1 c1 n2 n3 n4 Q w) : CallR Tryz.prog 206 [.slice a1 l1 c1, .int .i64 n2, .int .i64 n3, .int .i64 n4] w Q :=
  fun_calls (A := A206) mixed Tryz.func206 (c := (Tryz.f206.body).getD .skip) rfl (by kernel_rfl) (Eq.mp (by kernel_rfl) h)
def A211 : Ann := ⟨[(1, [(6, .one (.int .i64))]), (4, [(7, .one (.int .i64))])], [], [], [(4, [0, 1, 2, 3, 4, 5, 6, 7, 8, 9, 10, 11, 12, 13, 14]), (6, [0, 1, 2, 3, 4, 5, 6, 7, 8, 9, 10, 11, 12, 13, 14, 15, 16, 17])], [], []⟩
def L211 (a1 : Option Addr) (l1 : Nat) (c1 : Nat) (n2 : Int) (n3 : Int) (Q : Value → World → Prop) (w : World) : Prop :=
  inI (n2 + 1) ∧
  ∃ (I4 : List Value → World → Prop) (mu5 : List Value → World → Nat),
  I4 [.int .i64 (n2 + 1)] w ∧
  ∀ (_ : Env) (n6 : Int) (w1 : World), I4 [.int .i64 n6] w1 →
  cond (decide (n6 < n3))
  (∃ (I7 : List Value → World → Prop) (mu8 : List Value → World → Nat),
  I7 [.int .i64 n6] w1 ∧
  ∀ (_ : Env) (n9 : Int) (w2 : World), I7 [.int .i64 n9] w2 →
  let w3 := World.drew w2;
  cond (decide (n9 > n2))
  ((0 ≤ (n9 : Int) ∧ (n9 : Int) < ((l1 : Nat) : Int)) ∧
  nn a1 (fun (q10 : Addr) =>
  ∃ (s11 : ByteArray), w3.cell? (Addr.add q10 (Int.toNat n9)) = some ((.string s11 : Value)) ∧
  inI (n9 - 1) ∧
  (0 ≤ (n9 - 1 : Int) ∧ (n9 - 1 : Int) < ((l1 : Nat) : Int)) ∧
  nn a1 (fun (q12 : Addr) =>
  ∃ (s13 : ByteArray), w3.cell? (Addr.add q12 (Int.toNat (n9 - 1))) = some ((.string s13 : Value)) ∧
  CallR Tryz.prog 217 [.string s11, .string s13] w3 (fun (r15 : Value) (w4 : World) =>
  ∃ (b14 : Bool), r15 = .bool b14 ∧
  cond b14
  (let w5 := World.drew w4;
  inI (n9 - 1) ∧
  inI (n9 - 1) ∧
  (0 ≤ (n9 - 1 : Int) ∧ (n9 - 1 : Int) < ((l1 : Nat) : Int)) ∧
  nn a1 (fun (q16 : Addr) =>
  ∃ (s17 : ByteArray), w5.cell? (Addr.add q16 (Int.toNat (n9 - 1))) = some ((.string s17 : Value)) ∧
  (0 ≤ (n9 : Int) ∧ (n9 : Int) < ((l1 : Nat) : Int)) ∧
  nn a1 (fun (q18 : Addr) =>
  ∃ (s19 : ByteArray), w5.cell? (Addr.add q18 (Int.toNat n9)) = some ((.string s19 : Value)) ∧
  (0 ≤ (n9 : Int) ∧ (n9 : Int) < ((l1 : Nat) : Int)) ∧
  nn a1 (fun (q20 : Addr) =>
  stC (Addr.add q20 (Int.toNat n9)) (.string s17) w5 (fun (w6 : World) =>
  (0 ≤ (n9 - 1 : Int) ∧ (n9 - 1 : Int) < ((l1 : Nat) : Int)) ∧
  nn a1 (fun (q21 : Addr) =>
  stC (Addr.add q21 (Int.toNat (n9 - 1))) (.string s19) w6 (fun (w7 : World) =>
  inI (n9 - 1) ∧
  I7 [.int .i64 (n9 - 1)] w7 ∧ mu8 [.int .i64 (n9 - 1)] w7 < mu8 [.int .i64 n9] w2)))))))
  (inI (n6 + 1) ∧
  I4 [.int .i64 (n6 + 1)] w4 ∧ mu5 [.int .i64 (n6 + 1)] w4 < mu5 [.int .i64 n6] w1)))))
  (inI (n6 + 1) ∧
  I4 [.int .i64 (n6 + 1)] w3 ∧ mu5 [.int .i64 (n6 + 1)] w3 < mu5 [.int .i64 n6] w1))
  (Q (.tuple #[]) w1)
theorem C211 {a1 : Option Addr} {l1 : Nat} {c1 : Nat} {n2 : Int} {n3 : Int} {Q : Value → World → Prop} {w : World} (h : L211 a1 l1 c1 n2 n3 Q w) : CallR Tryz.prog 211 [.slice a1 l1 c1, .int .i64 n2, .int .i64 n3] w Q :=
  fun_calls (A := A211) mixed Tryz.func211 (c := (Tryz.f211.body).getD .skip) rfl (by kernel_rfl) (Eq.mp (by kernel_rfl) h)
end Go.Proofs.YtpoaacnnhgebfaaGreat
set_option maxRecDepth 512
namespace Go.Proofs.YtpoaacnnhgebfaaGreat
open Go.Lw
def hv (gk : Nat) (d : Int) : Value := .iface 70 (.agg #[pd gk, .int .i64 d])
theorem hv_read {w : World} {g : Nat} {d : Int} (args : Array Value) : Sem.run Tryz.prog (callMethod (hv g d) "Read" args) w = .ok (.enter 190 (#[.agg #[pd g, .int .i64 d]] ++ args)) w :=
  call_of (by intro recv w; kernel_rfl) (by kernel_rfl) _ _ _
theorem hread_ok {w : World} {gk : Nat} {s : AK} {L : KL} (h : KernO w gk s L) (d n : Int) (hc : s.c0 ≤ 4611686018427387904) :
    CallR Tryz.prog 190 [.agg #[pd gk, .int .i64 d], .int .i64 n] w fun v w' => ∃ a l c L', v = .tuple #[.slice a l c, .int .i64 (s.read d n).2.1] ∧ OB w' a l c (s.read d n).1 ∧ Fresh w a ∧ KernO w' gk (s.read d n).2.2 L' ∧ KStep w w' L L' ∧ (∀ z, inA a z → L'.own z = none) := by
  refine C190 ?_
  unfold L190
  intro w1
  have hb1 : Blk w1 w.heap.size #[pd gk, .int .i64 d] := Blk.alloc _ _ _
  have hk1 : Kept No w w1 := Kept.alloc _ _ _
  clear_value w1
  have hz := hk1.size
  refine ⟨_, (hb1.cell 0).trans rfl, _, (hb1.cell 1).trans rfl, CallR.mono (kernRead_ok (h.no hk1) d n hc) ?_⟩
  rintro v w2 ⟨a, l, c, L', rfl, ob, hf, h2, st, hap⟩
  exact ⟨a, l, c, _, rfl, a, l, c, L', rfl, ob, fun b hb => by have := hf b hb; omega, h2, st.fresh hk1, hap⟩
end Go.Proofs.YtpoaacnnhgebfaaGreat
namespace Go.Proofs.YtpoaacnnhgebfaaGreat
open Go.Lw
theorem rdN_one {α : Type} {R : World → Slc → α → Prop} {w : World} {b : Nat} {nm : ByteArray} {s : Slc} {x : α} (hb : Blk w b #[.string nm, .slice s.1 s.2.1 s.2.2]) (hR : R w s x) : RdN R w (some ⟨b, 0, none⟩) 1 1 [(nm, x)] [(nm, s)] :=
  ⟨(SlO.of_blk (sz := 2) (n := 1) hb (by simp)).rd, rfl, fun i h1 h2 => by
    have : i = 0 := by simpa using h1
    subst this
    exact ⟨rfl, hR⟩⟩
end Go.Proofs.YtpoaacnnhgebfaaGreat
namespace Go.Proofs.YtpoaacnnhgebfaaGreat
open Go.Lw
namespace AK
end AK
theorem hv_write {w : World} {g : Nat} {d : Int} (args : Array Value) : Sem.run Tryz.prog (callMethod (hv g d) "Write" args) w = .ok (.enter 191 (#[.agg #[pd g, .int .i64 d]] ++ args)) w :=
  call_of (by intro recv w; kernel_rfl) (by kernel_rfl) _ _ _
theorem hwrite_ok {w : World} {gk : Nat} {s : AK} {L : KL} (h : KernO w gk s L) (d : Int) {a : Option Addr} {l c : Nat} {ds : List Int} (hd : RdB w a l c ds) (hap : ds ≠ [] → ∀ k, inA a k → L.own k = none) (hc : s.c1 ≤ 4611686018427387904) :
    CallR Tryz.prog 191 [.agg #[pd gk, .int .i64 d], .slice a l c] w fun v w' => v = .tuple #[.int .i64 (s.write d ds).1, .int .i64 (s.write d ds).2.1] ∧ ∃ L', KernO w' gk (s.write d ds).2.2 L' ∧ KStep w w' L L' := by
  refine C191 ?_
  unfold L191
  intro w1
  have hb1 : Blk w1 w.heap.size #[pd gk, .int .i64 d] := Blk.alloc _ _ _
  have hk1 : Kept No w w1 := Kept.alloc _ _ _
  clear_value w1
  refine ⟨_, (hb1.cell 0).trans rfl, _, (hb1.cell 1).trans rfl, CallR.mono (kernWrite_ok (h.no hk1) d (hd.keep hk1 fun _ _ _ e => e) hap hc) ?_⟩
  rintro v w2 ⟨rfl, L', h2, st⟩
  exact ⟨_, _, rfl, rfl, L', h2, st.fresh hk1⟩
end Go.Proofs.YtpoaacnnhgebfaaGreat
set_option maxRecDepth 100000
namespace Go.Proofs.YtpoaacnnhgebfaaGreat
open Go.Lw
def A158 : Ann := ⟨[], [], [], [], [], []⟩
def L158 (n1 : Int) (n2 : Int) (Q : Value → World → Prop) (w : World) : Prop :=
  let w1 := World.alloc w (Obj.cells #[.int .i64 n1, .int .i64 n2] 188);
  ∃ (n3 : Int), w1.cell? (Addr.mk w.heap.size 0 none) = some ((.int .i64 n3 : Value)) ∧
  cond (n3 == 1)
  (∃ (n4 : Int), w1.cell? (Addr.mk w.heap.size 1 none) = some ((.int .i64 n4 : Value)) ∧
  cond (decide (n4 ≥ 1))
  (∃ (n5 : Int), w1.cell? (Addr.mk w.heap.size 1 none) = some ((.int .i64 n5 : Value)) ∧
  Q (.bool (decide (n5 ≤ 1048576))) w1)
  (Q (.bool false) w1))
  (∃ (n6 : Int), w1.cell? (Addr.mk w.heap.size 0 none) = some ((.int .i64 n6 : Value)) ∧
  cond (decide (n6 ≥ 0))
  (∃ (n7 : Int), w1.cell? (Addr.mk w.heap.size 0 none) = some ((.int .i64 n7 : Value)) ∧
  cond (decide (n7 ≤ 3))
  (∃ (n8 : Int), w1.cell? (Addr.mk w.heap.size 1 none) = some ((.int .i64 n8 : Value)) ∧
  Q (.bool (n8 == 0)) w1)
  (Q (.bool false) w1))
  (Q (.bool false) w1))
theorem C158 {n1 : Int} {n2 : Int} {Q : Value → World → Prop} {w : World} (h : L158 n1 n2 Q w) : CallR Tryz.prog 158 [.agg #[.int .i64 n1, .int .i64 n2]] w Q :=
  fun_calls (A := A158) mixed Tryz.func158 (c := (Tryz.f158.body).getD .skip) rfl (by kernel_rfl) (Eq.mp (by kernel_rfl) h)
def A59 : Ann := ⟨[(4, [(4, .one (.int .i64))])], [], [], [], [], []⟩
def L59 (a1 : Option Addr) (l1 : Nat) (c1 : Nat) (Q : Value → World → Prop) (w : World) : Prop :=
  cond (decide ((((l1 : Nat) : Int)) > 4096))
  (Q (.tuple #[.int .i64 3, .int .i64 0]) w)
  (∃ (I2 : List Value → World → Prop) (mu3 : List Value → World → Nat),
  I2 [.int .i64 0] w ∧
  ∀ (_ : Env) (n4 : Int) (w1 : World), I2 [.int .i64 n4] w1 →
  cond (decide (n4 < (((l1 : Nat) : Int))))
  ((0 ≤ (n4 : Int) ∧ (n4 : Int) < ((l1 : Nat) : Int)) ∧
  nn a1 (fun (q5 : Addr) =>
  ∃ (n6 : Int) (n7 : Int), w1.cell? (Addr.add q5 (Int.toNat n4 * 2)) = some ((.int .i64 n6 : Value)) ∧ w1.cell? (Addr.add (Addr.add q5 (Int.toNat n4 * 2)) 1) = some ((.int .i64 n7 : Value)) ∧ 
  CallR Tryz.prog 158 [.agg #[.int .i64 n6, .int .i64 n7]] w1 (fun (r9 : Value) (w2 : World) =>
  ∃ (b8 : Bool), r9 = .bool b8 ∧
  cond (!b8)
  (Q (.tuple #[.int .i64 21, .int .i64 n4]) w2)
  (inI (n4 + 1) ∧
  I2 [.int .i64 (n4 + 1)] w2 ∧ mu3 [.int .i64 (n4 + 1)] w2 < mu3 [.int .i64 n4] w1))))
  (Q (.tuple #[.int .i64 0, .int .i64 (((l1 : Nat) : Int))]) w1))
theorem C59 {a1 : Option Addr} {l1 : Nat} {c1 : Nat} {Q : Value → World → Prop} {w : World} (h : L59 a1 l1 c1 Q w) : CallR Tryz.prog 59 [.slice a1 l1 c1] w Q :=
  fun_calls (A := A59) mixed Tryz.func59 (c := (Tryz.f59.body).getD .skip) rfl (by kernel_rfl) (Eq.mp (by kernel_rfl) h)
def A170 : Ann := ⟨[], [], [], [], [], []⟩
def L170 (p1 : Option Addr) (n2 : Int) (Q : Value → World → Prop) (w : World) : Prop :=
  cond (decide (n2 < 1))
  (Q (.tuple #[.int .i64 0, .int .i64 4]) w)
  (cond (decide (n2 > 1048576))
  (Q (.tuple #[.int .i64 0, .int .i64 4]) w)
  (nn p1 (fun (q3 : Addr) =>
  ∃ (a4 : Option Addr) (l4 : Nat) (c4 : Nat), w.cell? q3 = some ((.slice a4 l4 c4 : Value)) ∧
  cond ((((l4 : Nat) : Int)) == 0)
  (Q (.tuple #[.int .i64 n2, .int .i64 0]) w)
  (nn p1 (fun (q5 : Addr) =>
  ∃ (a6 : Option Addr) (l6 : Nat) (c6 : Nat), w.cell? q5 = some ((.slice a6 l6 c6 : Value)) ∧
  (0 ≤ (0 : Int) ∧ (0 : Int) < ((l6 : Nat) : Int)) ∧
  nn a6 (fun (q7 : Addr) =>
  ∃ (n8 : Int) (n9 : Int), w.cell? (Addr.add q7 (Int.toNat 0 * 2)) = some ((.int .i64 n8 : Value)) ∧ w.cell? (Addr.add (Addr.add q7 (Int.toNat 0 * 2)) 1) = some ((.int .i64 n9 : Value)) ∧ 
  let w1 := World.alloc w (Obj.cells #[.int .i64 0, .int .i64 0] 188);
  stC (Addr.mk w.heap.size 0 none) (.int .i64 n8) w1 (fun (w2 : World) =>
  stC (Addr.mk w.heap.size 1 none) (.int .i64 n9) w2 (fun (w3 : World) =>
  nn p1 (fun (q10 : Addr) =>
  ∃ (a11 : Option Addr) (l11 : Nat) (c11 : Nat), w3.cell? q10 = some ((.slice a11 l11 c11 : Value)) ∧
  (0 ≤ (1 : Int) ∧ (1 : Int) ≤ ((l11 : Nat) : Int)) ∧
  nn p1 (fun (q12 : Addr) =>
  stC q12 (.slice (adv a11 (Int.toNat 1) c11 2) (l11 - Int.toNat 1) (c11 - Int.toNat 1)) w3 (fun (w4 : World) =>
  ∃ (n13 : Int), w4.cell? (Addr.mk w.heap.size 0 none) = some ((.int .i64 n13 : Value)) ∧
  cond (n13 == 1)
  (∃ (n14 : Int), w4.cell? (Addr.mk w.heap.size 1 none) = some ((.int .i64 n14 : Value)) ∧
  Q (.tuple #[.int .i64 (mn n2 n14), .int .i64 0]) w4)
  (cond (n13 == 2)
  (Q (.tuple #[.int .i64 0, .int .i64 22]) w4)
  (cond (n13 == 3)
  (Q (.tuple #[.int .i64 0, .int .i64 23]) w4)
  (Q (.tuple #[.int .i64 n2, .int .i64 0]) w4))))))))))))))
theorem C170 {p1 : Option Addr} {n2 : Int} {Q : Value → World → Prop} {w : World} (h : L170 p1 n2 Q w) : CallR Tryz.prog 170 [.pointer p1, .int .i64 n2] w Q :=
  fun_calls (A := A170) mixed Tryz.func170 (c := (Tryz.f170.body).getD .skip) rfl (by kernel_rfl) (Eq.mp (by kernel_rfl) h)
def A127 : Ann := ⟨[], [], [], [], [], []⟩
def L127 (a1 : Option Addr) (l1 : Nat) (c1 : Nat) (Q : Value → World → Prop) (w : World) : Prop :=
  cond (decide ((((l1 : Nat) : Int)) > 1048576))
  (Q (.tuple #[.pointer none, .int .i64 5]) w)
  (let w1 := World.alloc w (Obj.cells #[.slice none 0 0] 215);
  ∃ (a2 : Option Addr) (l2 : Nat) (c2 : Nat), w1.cell? (Addr.mk w.heap.size 0 none) = some ((.slice a2 l2 c2 : Value)) ∧
  ∃ (a3 : Option Addr) (l3 : Nat) (c3 : Nat) (w2 : World), Sem.run Tryz.prog (Builtin.append_ #[40, 40] 40 #[.slice a2 l2 c2, .slice a1 l1 c1]) w1 = .ok ((.slice a3 l3 c3 : Value)) w2 ∧
  stC (Addr.mk w.heap.size 0 none) (.slice a3 l3 c3) w2 (fun (w3 : World) =>
  Q (.tuple #[.pointer (some (Addr.mk w.heap.size 0 none)), .int .i64 0]) w3))
theorem C127 {a1 : Option Addr} {l1 : Nat} {c1 : Nat} {Q : Value → World → Prop} {w : World} (h : L127 a1 l1 c1 Q w) : CallR Tryz.prog 127 [.slice a1 l1 c1] w Q :=
  fun_calls (A := A127) mixed Tryz.func127 (c := (Tryz.f127.body).getD .skip) rfl (by kernel_rfl) (Eq.mp (by kernel_rfl) h)
def A205 : Ann := ⟨[], [], [], [], [], []⟩
def L205 (n1 : Int) (Q : Value → World → Prop) (w : World) : Prop :=
  cond (decide (n1 ≥ 0))
  (Q (.bool (decide (n1 ≤ 1048576))) w)
  (Q (.bool false) w)
theorem C205 {n1 : Int} {Q : Value → World → Prop} {w : World} (h : L205 n1 Q w) : CallR Tryz.prog 205 [.int .i64 n1] w Q :=
  fun_calls (A := A205) mixed Tryz.func205 (c := (Tryz.f205.body).getD .skip) rfl (by kernel_rfl) (Eq.mp (by kernel_rfl) h)
def A148 : Ann := ⟨[], [], [], [], [], []⟩
def L148 (a1 : Option Addr) (l1 : Nat) (c1 : Nat) (n2 : Int) (n3 : Int) (Q : Value → World → Prop) (w : World) : Prop :=
  cond (decide (n2 ≥ (((l1 : Nat) : Int))))
  (Q (.slice none 0 0) w)
  (inI ((((l1 : Nat) : Int)) - n2) ∧
  inI (n2 + (mn n3 ((((l1 : Nat) : Int)) - n2))) ∧
  (0 ≤ (n2 + (mn n3 ((((l1 : Nat) : Int)) - n2)) : Int) ∧ (n2 + (mn n3 ((((l1 : Nat) : Int)) - n2)) : Int) ≤ ((c1 : Nat) : Int)) ∧
  (0 ≤ (n2 : Int) ∧ (n2 : Int) ≤ ((Int.toNat (n2 + (mn n3 ((((l1 : Nat) : Int)) - n2))) : Nat) : Int)) ∧
  ∃ (a4 : Option Addr) (l4 : Nat) (c4 : Nat) (w1 : World), Sem.run Tryz.prog (Builtin.append_ #[40, 40] 40 #[.slice none 0 0, .slice (adv a1 (Int.toNat n2) c1 1) (Int.toNat (n2 + (mn n3 ((((l1 : Nat) : Int)) - n2))) - Int.toNat n2) (c1 - Int.toNat n2)]) w = .ok ((.slice a4 l4 c4 : Value)) w1 ∧
  Q (.slice a4 l4 c4) w1)
theorem C148 {a1 : Option Addr} {l1 : Nat} {c1 : Nat} {n2 : Int} {n3 : Int} {Q : Value → World → Prop} {w : World} (h : L148 a1 l1 c1 n2 n3 Q w) : CallR Tryz.prog 148 [.slice a1 l1 c1, .int .i64 n2, .int .i64 n3] w Q :=
  fun_calls (A := A148) mixed Tryz.func148 (c := (Tryz.f148.body).getD .skip) rfl (by kernel_rfl) (Eq.mp (by kernel_rfl) h)
def A150 : Ann := ⟨[(1, [(0, .one (.slice))]), (4, [(0, .one (.slice)), (7, .one (.int .i64))])], [], [], [], [], []⟩
def L150 (a1 : Option Addr) (l1 : Nat) (c1 : Nat) (n2 : Int) (a3 : Option Addr) (l3 : Nat) (c3 : Nat) (Q : Value → World → Prop) (w : World) : Prop :=
  ∃ (I4 : List Value → World → Prop) (mu5 : List Value → World → Nat),
  I4 [.slice a1 l1 c1] w ∧
  ∀ (_ : Env) (a6 : Option Addr) (l6 : Nat) (c6 : Nat) (w1 : World), I4 [.slice a6 l6 c6] w1 →
  cond (decide ((((l6 : Nat) : Int)) < n2))
  (let w2 := World.alloc w1 (Obj.cells #[.int .u8 0] 5);
  ∃ (a7 : Option Addr) (l7 : Nat) (c7 : Nat) (w3 : World), Sem.run Tryz.prog (Builtin.append_ #[40, 40] 40 #[.slice a6 l6 c6, .slice (some (Addr.mk w1.heap.size 0 none)) 1 1]) w2 = .ok ((.slice a7 l7 c7 : Value)) w3 ∧
  I4 [.slice a7 l7 c7] w3 ∧ mu5 [.slice a7 l7 c7] w3 < mu5 [.slice a6 l6 c6] w1)
  (∃ (I8 : List Value → World → Prop) (mu9 : List Value → World → Nat),
  I8 [.slice a6 l6 c6, .int .i64 0] w1 ∧
  ∀ (_ : Env) (a10 : Option Addr) (l10 : Nat) (c10 : Nat) (n11 : Int) (w4 : World), I8 [.slice a10 l10 c10, .int .i64 n11] w4 →
  cond (decide (n11 < (((l3 : Nat) : Int))))
  (inI (n2 + n11) ∧
  cond (decide ((n2 + n11) < (((l10 : Nat) : Int))))
  (inI (n2 + n11) ∧
  (0 ≤ (n11 : Int) ∧ (n11 : Int) < ((l3 : Nat) : Int)) ∧
  nn a3 (fun (q12 : Addr) =>
  ∃ (n13 : Int), w4.cell? (Addr.add q12 (Int.toNat n11)) = some ((.int .u8 n13 : Value)) ∧
  (0 ≤ (n2 + n11 : Int) ∧ (n2 + n11 : Int) < ((l10 : Nat) : Int)) ∧
  nn a10 (fun (q14 : Addr) =>
  stC (Addr.add q14 (Int.toNat (n2 + n11))) (.int .u8 n13) w4 (fun (w5 : World) =>
  inI (n11 + 1) ∧
  I8 [.slice a10 l10 c10, .int .i64 (n11 + 1)] w5 ∧ mu9 [.slice a10 l10 c10, .int .i64 (n11 + 1)] w5 < mu9 [.slice a10 l10 c10, .int .i64 n11] w4))))
  ((0 ≤ (n11 : Int) ∧ (n11 : Int) < ((l3 : Nat) : Int)) ∧
  nn a3 (fun (q15 : Addr) =>
  ∃ (n16 : Int), w4.cell? (Addr.add q15 (Int.toNat n11)) = some ((.int .u8 n16 : Value)) ∧
  let w6 := World.alloc w4 (Obj.cells #[.int .u8 n16] 5);
  ∃ (a17 : Option Addr) (l17 : Nat) (c17 : Nat) (w7 : World), Sem.run Tryz.prog (Builtin.append_ #[40, 40] 40 #[.slice a10 l10 c10, .slice (some (Addr.mk w4.heap.size 0 none)) 1 1]) w6 = .ok ((.slice a17 l17 c17 : Value)) w7 ∧
  inI (n11 + 1) ∧
  I8 [.slice a17 l17 c17, .int .i64 (n11 + 1)] w7 ∧ mu9 [.slice a17 l17 c17, .int .i64 (n11 + 1)] w7 < mu9 [.slice a10 l10 c10, .int .i64 n11] w4)))
  (Q (.slice a10 l10 c10) w4))
theorem C150 {a1 : Option Addr} {l1 : Nat} {c1 : Nat} {n2 : Int} {a3 : Option Addr} {l3 : Nat} {c3 : Nat} {Q : Value → World → Prop} {w : World} (h : L150 a1 l1 c1 n2 a3 l3 c3 Q w) : CallR Tryz.prog 150 [.slice a1 l1 c1, .int .i64 n2, .slice a3 l3 c3] w Q :=
  fun_calls (A := A150) mixed Tryz.func150 (c := (Tryz.f150.body).getD .skip) rfl (by kernel_rfl) (Eq.mp (by kernel_rfl) h)
def A177 : Ann := ⟨[], [], [], [], [], []⟩
def L177 (p1 : Option Addr) (n2 : Int) (a3 : Option Addr) (l3 : Nat) (c3 : Nat) (Q : Value → World → Prop) (w : World) : Prop :=
  CallR Tryz.prog 205 [.int .i64 n2] w (fun (r5 : Value) (w1 : World) =>
  ∃ (b4 : Bool), r5 = .bool b4 ∧
  cond (!b4)
  (Q (.int .i64 4) w1)
  (inI ((1048576 : Int) - n2) ∧
  cond (decide ((((l3 : Nat) : Int)) > ((1048576 : Int) - n2)))
  (Q (.int .i64 31) w1)
  (cond (decide ((((l3 : Nat) : Int)) > 0))
  (nn p1 (fun (q6 : Addr) =>
  ∃ (a7 : Option Addr) (l7 : Nat) (c7 : Nat), w1.cell? q6 = some ((.slice a7 l7 c7 : Value)) ∧
  CallR Tryz.prog 150 [.slice a7 l7 c7, .int .i64 n2, .slice a3 l3 c3] w1 (fun (r9 : Value) (w2 : World) =>
  ∃ (a8 : Option Addr) (l8 : Nat) (c8 : Nat), r9 = .slice a8 l8 c8 ∧
  nn p1 (fun (q10 : Addr) =>
  stC q10 (.slice a8 l8 c8) w2 (fun (w3 : World) =>
  Q (.int .i64 0) w3)))))
  (Q (.int .i64 0) w1))))
theorem C177 {p1 : Option Addr} {n2 : Int} {a3 : Option Addr} {l3 : Nat} {c3 : Nat} {Q : Value → World → Prop} {w : World} (h : L177 p1 n2 a3 l3 c3 Q w) : CallR Tryz.prog 177 [.pointer p1, .int .i64 n2, .slice a3 l3 c3] w Q :=
  fun_calls (A := A177) mixed Tryz.func177 (c := (Tryz.f177.body).getD .skip) rfl (by kernel_rfl) (Eq.mp (by kernel_rfl) h)
def A58 : Ann := ⟨[(4, [(3, .one (.int .i64))])], [], [], [], [], []⟩
def L58 (a1 : Option Addr) (l1 : Nat) (c1 : Nat) (Q : Value → World → Prop) (w : World) : Prop :=
  cond (decide ((((l1 : Nat) : Int)) > 256))
  (Q (.int .i64 3) w)
  (∃ (I2 : List Value → World → Prop) (mu3 : List Value → World → Nat),
  I2 [.int .i64 0] w ∧
  ∀ (_ : Env) (n4 : Int) (w1 : World), I2 [.int .i64 n4] w1 →
  cond (decide (n4 < (((l1 : Nat) : Int))))
  ((0 ≤ (n4 : Int) ∧ (n4 : Int) < ((l1 : Nat) : Int)) ∧
  nn a1 (fun (q5 : Addr) =>
  ∃ (a6 : Option Addr) (l6 : Nat) (c6 : Nat), w1.cell? (Addr.add q5 (Int.toNat n4)) = some ((.slice a6 l6 c6 : Value)) ∧
  cond (decide ((((l6 : Nat) : Int)) > 4096))
  (Q (.int .i64 5) w1)
  (inI (n4 + 1) ∧
  I2 [.int .i64 (n4 + 1)] w1 ∧ mu3 [.int .i64 (n4 + 1)] w1 < mu3 [.int .i64 n4] w1)))
  (Q (.int .i64 0) w1))
theorem C58 {a1 : Option Addr} {l1 : Nat} {c1 : Nat} {Q : Value → World → Prop} {w : World} (h : L58 a1 l1 c1 Q w) : CallR Tryz.prog 58 [.slice a1 l1 c1] w Q :=
  fun_calls (A := A58) mixed Tryz.func58 (c := (Tryz.f58.body).getD .skip) rfl (by kernel_rfl) (Eq.mp (by kernel_rfl) h)
def A159 : Ann := ⟨[(6, [(6, .one (.int .i64))])], [], [], [], [(9, [0, 1, 2, 3, 4, 5, 6, 7, 8, 9, 10, 11], 12, [13, 14, 15])], []⟩
def L159 (a1 : Option Addr) (l1 : Nat) (c1 : Nat) (Q : Value → World → Prop) (w : World) : Prop :=
  CallR Tryz.prog 58 [.slice a1 l1 c1] w (fun (r3 : Value) (w1 : World) =>
  ∃ (n2 : Int), r3 = .int .i64 n2 ∧
  cond (n2 != 0)
  (Q (.tuple #[.pointer none, .int .i64 n2]) w1)
  (let w2 := World.alloc w1 (Obj.cells #[.slice none 0 0, .slice none 0 0] 282);
  ∃ (I4 : List Value → World → Prop) (mu5 : List Value → World → Nat),
  I4 [.int .i64 0] w2 ∧
  ∀ (_ : Env) (n6 : Int) (w3 : World), I4 [.int .i64 n6] w3 →
  cond (decide (n6 < (((l1 : Nat) : Int))))
  (∃ (S7 : World → Prop), S7 (World.drew w3) ∧
  let w4 := World.drew w3;
  ∃ (a8 : Option Addr) (l8 : Nat) (c8 : Nat), (∀ wS : World, S7 wS → wS.cell? (Addr.mk w1.heap.size 0 none) = some ((.slice a8 l8 c8 : Value))) ∧
  (0 ≤ (n6 : Int) ∧ (n6 : Int) < ((l1 : Nat) : Int)) ∧
  nn a1 (fun (q9 : Addr) =>
  ∃ (a10 : Option Addr) (l10 : Nat) (c10 : Nat), (∀ wS : World, S7 wS → wS.cell? (Addr.add q9 (Int.toNat n6)) = some ((.slice a10 l10 c10 : Value))) ∧
  ∃ (a11 : Option Addr) (l11 : Nat) (c11 : Nat) (w5 : World), Sem.run Tryz.prog (Builtin.append_ #[40, 40] 40 #[.slice none 0 0, .slice a10 l10 c10]) w4 = .ok ((.slice a11 l11 c11 : Value)) w5 ∧
  S7 w5 ∧
  let w6 := World.alloc w5 (Obj.cells #[.slice a11 l11 c11] 40);
  S7 w6 ∧
  ∃ (a12 : Option Addr) (l12 : Nat) (c12 : Nat) (w7 : World), Sem.run Tryz.prog (Builtin.append_ #[84, 84] 84 #[.slice a8 l8 c8, .slice (some (Addr.mk w5.heap.size 0 none)) 1 1]) w6 = .ok ((.slice a12 l12 c12 : Value)) w7 ∧
  stC (Addr.mk w1.heap.size 0 none) (.slice a12 l12 c12) w7 (fun (w8 : World) =>
  inI (n6 + 1) ∧
  I4 [.int .i64 (n6 + 1)] w8 ∧ mu5 [.int .i64 (n6 + 1)] w8 < mu5 [.int .i64 n6] w3)))
  (Q (.tuple #[.pointer (some (Addr.mk w1.heap.size 0 none)), .int .i64 0]) w3)))
theorem C159 {a1 : Option Addr} {l1 : Nat} {c1 : Nat} {Q : Value → World → Prop} {w : World} (h : L159 a1 l1 c1 Q w) : CallR Tryz.prog 159 [.slice a1 l1 c1] w Q :=
  fun_calls (A := A159) mixed Tryz.func159 (c := (Tryz.f159.body).getD .skip) rfl (by kernel_rfl) (Eq.mp (by kernel_rfl) h)
def A171 : Ann := ⟨[], [], [], [(9, [0, 1, 2, 3, 4, 5, 6, 7, 8])], [], []⟩
def L171 (p1 : Option Addr) (n2 : Int) (Q : Value → World → Prop) (w : World) : Prop :=
  cond (decide (n2 < 1))
  (Q (.tuple #[.slice none 0 0, .int .i64 4]) w)
  (cond (decide (n2 > 1048576))
  (Q (.tuple #[.slice none 0 0, .int .i64 4]) w)
  (nn p1 (fun (q3 : Addr) =>
  ∃ (a4 : Option Addr) (l4 : Nat) (c4 : Nat), w.cell? q3 = some ((.slice a4 l4 c4 : Value)) ∧
  cond ((((l4 : Nat) : Int)) == 0)
  (Q (.tuple #[.slice none 0 0, .int .i64 0]) w)
  (nn p1 (fun (q5 : Addr) =>
  ∃ (a6 : Option Addr) (l6 : Nat) (c6 : Nat), w.cell? q5 = some ((.slice a6 l6 c6 : Value)) ∧
  (0 ≤ (0 : Int) ∧ (0 : Int) < ((l6 : Nat) : Int)) ∧
  nn a6 (fun (q7 : Addr) =>
  ∃ (a8 : Option Addr) (l8 : Nat) (c8 : Nat), w.cell? (Addr.add q7 (Int.toNat 0)) = some ((.slice a8 l8 c8 : Value)) ∧
  cond ((mn n2 (((l8 : Nat) : Int))) == (((l8 : Nat) : Int)))
  (nn p1 (fun (q9 : Addr) =>
  ∃ (a10 : Option Addr) (l10 : Nat) (c10 : Nat), w.cell? q9 = some ((.slice a10 l10 c10 : Value)) ∧
  (0 ≤ (1 : Int) ∧ (1 : Int) ≤ ((l10 : Nat) : Int)) ∧
  nn p1 (fun (q11 : Addr) =>
  stC q11 (.slice (adv a10 (Int.toNat 1) c10 1) (l10 - Int.toNat 1) (c10 - Int.toNat 1)) w (fun (w1 : World) =>
  (0 ≤ (mn n2 (((l8 : Nat) : Int)) : Int) ∧ (mn n2 (((l8 : Nat) : Int)) : Int) ≤ ((c8 : Nat) : Int)) ∧
  Q (.tuple #[.slice a8 (Int.toNat (mn n2 (((l8 : Nat) : Int)))) c8, .int .i64 0]) w1))))
  (let w2 := World.drew w;
  nn p1 (fun (q12 : Addr) =>
  ∃ (a13 : Option Addr) (l13 : Nat) (c13 : Nat), w2.cell? q12 = some ((.slice a13 l13 c13 : Value)) ∧
  (0 ≤ (mn n2 (((l8 : Nat) : Int)) : Int) ∧ (mn n2 (((l8 : Nat) : Int)) : Int) ≤ ((l8 : Nat) : Int)) ∧
  (0 ≤ (0 : Int) ∧ (0 : Int) < ((l13 : Nat) : Int)) ∧
  nn a13 (fun (q14 : Addr) =>
  stC (Addr.add q14 (Int.toNat 0)) (.slice (adv a8 (Int.toNat (mn n2 (((l8 : Nat) : Int)))) c8 1) (l8 - Int.toNat (mn n2 (((l8 : Nat) : Int)))) (c8 - Int.toNat (mn n2 (((l8 : Nat) : Int))))) w2 (fun (w3 : World) =>
  (0 ≤ (mn n2 (((l8 : Nat) : Int)) : Int) ∧ (mn n2 (((l8 : Nat) : Int)) : Int) ≤ ((c8 : Nat) : Int)) ∧
  Q (.tuple #[.slice a8 (Int.toNat (mn n2 (((l8 : Nat) : Int)))) c8, .int .i64 0]) w3))))))))))
theorem C171 {p1 : Option Addr} {n2 : Int} {Q : Value → World → Prop} {w : World} (h : L171 p1 n2 Q w) : CallR Tryz.prog 171 [.pointer p1, .int .i64 n2] w Q :=
  fun_calls (A := A171) mixed Tryz.func171 (c := (Tryz.f171.body).getD .skip) rfl (by kernel_rfl) (Eq.mp (by kernel_rfl) h)
def A176 : Ann := ⟨[], [], [], [], [], []⟩
def L176 (p1 : Option Addr) (a2 : Option Addr) (l2 : Nat) (c2 : Nat) (Q : Value → World → Prop) (w : World) : Prop :=
  nn p1 (fun (q3 : Addr) =>
  ∃ (a4 : Option Addr) (l4 : Nat) (c4 : Nat), w.cell? (Addr.add q3 1) = some ((.slice a4 l4 c4 : Value)) ∧
  inI ((((l4 : Nat) : Int)) + (((l2 : Nat) : Int))) ∧
  cond (decide (((((l4 : Nat) : Int)) + (((l2 : Nat) : Int))) > 1048576))
  (Q (.int .i64 31) w)
  (nn p1 (fun (q5 : Addr) =>
  ∃ (a6 : Option Addr) (l6 : Nat) (c6 : Nat), w.cell? (Addr.add q5 1) = some ((.slice a6 l6 c6 : Value)) ∧
  ∃ (a7 : Option Addr) (l7 : Nat) (c7 : Nat) (w1 : World), Sem.run Tryz.prog (Builtin.append_ #[40, 40] 40 #[.slice a6 l6 c6, .slice a2 l2 c2]) w = .ok ((.slice a7 l7 c7 : Value)) w1 ∧
  nn p1 (fun (q8 : Addr) =>
  stC (Addr.add q8 1) (.slice a7 l7 c7) w1 (fun (w2 : World) =>
  Q (.int .i64 0) w2)))))
theorem C176 {p1 : Option Addr} {a2 : Option Addr} {l2 : Nat} {c2 : Nat} {Q : Value → World → Prop} {w : World} (h : L176 p1 a2 l2 c2 Q w) : CallR Tryz.prog 176 [.pointer p1, .slice a2 l2 c2] w Q :=
  fun_calls (A := A176) mixed Tryz.func176 (c := (Tryz.f176.body).getD .skip) rfl (by kernel_rfl) (Eq.mp (by kernel_rfl) h)
def A172 : Ann := ⟨[], [], [], [], [], []⟩
def L172 (p1 : Option Addr) (n2 : Int) (Q : Value → World → Prop) (w : World) : Prop :=
  cond (decide (n2 < 1))
  (Q (.tuple #[.slice none 0 0, .int .i64 4]) w)
  (cond (decide (n2 > 1048576))
  (Q (.tuple #[.slice none 0 0, .int .i64 4]) w)
  (nn p1 (fun (q3 : Addr) =>
  ∃ (n4 : Int), w.cell? (Addr.add q3 1) = some ((.int .i64 n4 : Value)) ∧
  cond (n4 == 0)
  (Q (.tuple #[.slice none 0 0, .int .i64 51]) w)
  (nn p1 (fun (q5 : Addr) =>
  ∃ (a6 : Option Addr) (l6 : Nat) (c6 : Nat), w.cell? q5 = some ((.slice a6 l6 c6 : Value)) ∧
  cond ((((l6 : Nat) : Int)) == 0)
  (nn p1 (fun (q7 : Addr) =>
  ∃ (n8 : Int), w.cell? (Addr.add q7 2) = some ((.int .i64 n8 : Value)) ∧
  cond (decide (n8 > 0))
  (Q (.tuple #[.slice none 0 0, .int .i64 52]) w)
  (nn p1 (fun (q9 : Addr) =>
  ∃ (a10 : Option Addr) (l10 : Nat) (c10 : Nat), w.cell? q9 = some ((.slice a10 l10 c10 : Value)) ∧
  nn p1 (fun (q11 : Addr) =>
  ∃ (a12 : Option Addr) (l12 : Nat) (c12 : Nat), w.cell? q11 = some ((.slice a12 l12 c12 : Value)) ∧
  (0 ≤ (mn n2 (((l10 : Nat) : Int)) : Int) ∧ (mn n2 (((l10 : Nat) : Int)) : Int) ≤ ((c12 : Nat) : Int)) ∧
  nn p1 (fun (q13 : Addr) =>
  ∃ (a14 : Option Addr) (l14 : Nat) (c14 : Nat), w.cell? q13 = some ((.slice a14 l14 c14 : Value)) ∧
  (0 ≤ (mn n2 (((l10 : Nat) : Int)) : Int) ∧ (mn n2 (((l10 : Nat) : Int)) : Int) ≤ ((l14 : Nat) : Int)) ∧
  nn p1 (fun (q15 : Addr) =>
  stC q15 (.slice (adv a14 (Int.toNat (mn n2 (((l10 : Nat) : Int)))) c14 1) (l14 - Int.toNat (mn n2 (((l10 : Nat) : Int)))) (c14 - Int.toNat (mn n2 (((l10 : Nat) : Int))))) w (fun (w1 : World) =>
  Q (.tuple #[.slice a12 (Int.toNat (mn n2 (((l10 : Nat) : Int)))) c12, .int .i64 0]) w1))))))))
  (nn p1 (fun (q16 : Addr) =>
  ∃ (a17 : Option Addr) (l17 : Nat) (c17 : Nat), w.cell? q16 = some ((.slice a17 l17 c17 : Value)) ∧
  nn p1 (fun (q18 : Addr) =>
  ∃ (a19 : Option Addr) (l19 : Nat) (c19 : Nat), w.cell? q18 = some ((.slice a19 l19 c19 : Value)) ∧
  (0 ≤ (mn n2 (((l17 : Nat) : Int)) : Int) ∧ (mn n2 (((l17 : Nat) : Int)) : Int) ≤ ((c19 : Nat) : Int)) ∧
  nn p1 (fun (q20 : Addr) =>
  ∃ (a21 : Option Addr) (l21 : Nat) (c21 : Nat), w.cell? q20 = some ((.slice a21 l21 c21 : Value)) ∧
  (0 ≤ (mn n2 (((l17 : Nat) : Int)) : Int) ∧ (mn n2 (((l17 : Nat) : Int)) : Int) ≤ ((l21 : Nat) : Int)) ∧
  nn p1 (fun (q22 : Addr) =>
  stC q22 (.slice (adv a21 (Int.toNat (mn n2 (((l17 : Nat) : Int)))) c21 1) (l21 - Int.toNat (mn n2 (((l17 : Nat) : Int)))) (c21 - Int.toNat (mn n2 (((l17 : Nat) : Int))))) w (fun (w2 : World) =>
  Q (.tuple #[.slice a19 (Int.toNat (mn n2 (((l17 : Nat) : Int)))) c19, .int .i64 0]) w2)))))))))))
theorem C172 {p1 : Option Addr} {n2 : Int} {Q : Value → World → Prop} {w : World} (h : L172 p1 n2 Q w) : CallR Tryz.prog 172 [.pointer p1, .int .i64 n2] w Q :=
  fun_calls (A := A172) mixed Tryz.func172 (c := (Tryz.f172.body).getD .skip) rfl (by kernel_rfl) (Eq.mp (by kernel_rfl) h)
def A175 : Ann := ⟨[], [(18, [(9, .one (.int .i64))])], [], [(19, [0, 1, 2, 3, 4, 5, 7, 8, 9, 6, 10, 11, 12, 13])], [], []⟩
def L175 (p1 : Option Addr) (a2 : Option Addr) (l2 : Nat) (c2 : Nat) (n3 : Int) (Q : Value → World → Prop) (w : World) : Prop :=
  nn p1 (fun (q4 : Addr) =>
  ∃ (a5 : Option Addr) (l5 : Nat) (c5 : Nat), w.cell? q4 = some ((.slice a5 l5 c5 : Value)) ∧
  inI ((4096 : Int) - (((l5 : Nat) : Int))) ∧
  ∃ (J6 : List Value → World → Prop),
  (cond (decide ((((l2 : Nat) : Int)) > 1048576))
  (Q (.tuple #[.int .i64 0, .int .i64 5]) w)
  (cond (decide (n3 < 1))
  (Q (.tuple #[.int .i64 0, .int .i64 4]) w)
  (cond (decide (n3 > 1048576))
  (Q (.tuple #[.int .i64 0, .int .i64 4]) w)
  (nn p1 (fun (q7 : Addr) =>
  ∃ (n8 : Int), w.cell? (Addr.add q7 2) = some ((.int .i64 n8 : Value)) ∧
  cond (n8 == 0)
  (Q (.tuple #[.int .i64 0, .int .i64 51]) w)
  (nn p1 (fun (q9 : Addr) =>
  ∃ (n10 : Int), w.cell? (Addr.add q9 1) = some ((.int .i64 n10 : Value)) ∧
  cond (n10 == 0)
  (Q (.tuple #[.int .i64 0, .int .i64 53]) w)
  (cond ((((l2 : Nat) : Int)) == 0)
  (Q (.tuple #[.int .i64 0, .int .i64 0]) w)
  (cond (decide ((((l2 : Nat) : Int)) ≤ 512))
  (cond (decide (((4096 : Int) - (((l5 : Nat) : Int))) < (((l2 : Nat) : Int))))
  (Q (.tuple #[.int .i64 0, .int .i64 52]) w)
  (cond (((4096 : Int) - (((l5 : Nat) : Int))) == 0)
  (Q (.tuple #[.int .i64 0, .int .i64 52]) w)
  (cond (decide ((((l2 : Nat) : Int)) ≤ 512))
  (J6 [.int .i64 (((l2 : Nat) : Int))] w)
  (J6 [.int .i64 (mn (mn (((l2 : Nat) : Int)) ((4096 : Int) - (((l5 : Nat) : Int)))) n3)] w))))
  (cond (((4096 : Int) - (((l5 : Nat) : Int))) == 0)
  (Q (.tuple #[.int .i64 0, .int .i64 52]) w)
  (cond (decide ((((l2 : Nat) : Int)) ≤ 512))
  (J6 [.int .i64 (((l2 : Nat) : Int))] w)
  (J6 [.int .i64 (mn (mn (((l2 : Nat) : Int)) ((4096 : Int) - (((l5 : Nat) : Int)))) n3)] w)))))))))))) ∧
  (∀ (_ : Env) (n11 : Int) (w1 : World), J6 [.int .i64 n11] w1 →
  let w2 := World.drew w1;
  nn p1 (fun (q12 : Addr) =>
  ∃ (a13 : Option Addr) (l13 : Nat) (c13 : Nat), w2.cell? q12 = some ((.slice a13 l13 c13 : Value)) ∧
  (0 ≤ (n11 : Int) ∧ (n11 : Int) ≤ ((c2 : Nat) : Int)) ∧
  ∃ (a14 : Option Addr) (l14 : Nat) (c14 : Nat) (w3 : World), Sem.run Tryz.prog (Builtin.append_ #[40, 40] 40 #[.slice none 0 0, .slice a13 l13 c13]) w2 = .ok ((.slice a14 l14 c14 : Value)) w3 ∧
  ∃ (a15 : Option Addr) (l15 : Nat) (c15 : Nat) (w4 : World), Sem.run Tryz.prog (Builtin.append_ #[40, 40] 40 #[.slice a14 l14 c14, .slice a2 (Int.toNat n11) c2]) w3 = .ok ((.slice a15 l15 c15 : Value)) w4 ∧
  nn p1 (fun (q16 : Addr) =>
  stC q16 (.slice a15 l15 c15) w4 (fun (w5 : World) =>
  Q (.tuple #[.int .i64 n11, .int .i64 0]) w5)))))
theorem C175 {p1 : Option Addr} {a2 : Option Addr} {l2 : Nat} {c2 : Nat} {n3 : Int} {Q : Value → World → Prop} {w : World} (h : L175 p1 a2 l2 c2 n3 Q w) : CallR Tryz.prog 175 [.pointer p1, .slice a2 l2 c2, .int .i64 n3] w Q :=
  fun_calls (A := A175) mixed Tryz.func175 (c := (Tryz.f175.body).getD .skip) rfl (by kernel_rfl) (Eq.mp (by kernel_rfl) h)
def A169 : Ann := ⟨[], [], [], [], [], []⟩
def L169 (p1 : Option Addr) (Q : Value → World → Prop) (w : World) : Prop :=
  nn p1 (fun (q2 : Addr) =>
  ∃ (n3 : Int), w.cell? (Addr.add q2 1) = some ((.int .i64 n3 : Value)) ∧
  cond (decide (n3 > 0))
  (nn p1 (fun (q4 : Addr) =>
  ∃ (a5 : Option Addr) (l5 : Nat) (c5 : Nat), w.cell? q4 = some ((.slice a5 l5 c5 : Value)) ∧
  cond (decide ((((l5 : Nat) : Int)) > 0))
  (Q (.bool true) w)
  (nn p1 (fun (q6 : Addr) =>
  ∃ (n7 : Int), w.cell? (Addr.add q6 2) = some ((.int .i64 n7 : Value)) ∧
  Q (.bool (n7 == 0)) w))))
  (Q (.bool false) w))
theorem C169 {p1 : Option Addr} {Q : Value → World → Prop} {w : World} (h : L169 p1 Q w) : CallR Tryz.prog 169 [.pointer p1] w Q :=
  fun_calls (A := A169) mixed Tryz.func169 (c := (Tryz.f169.body).getD .skip) rfl (by kernel_rfl) (Eq.mp (by kernel_rfl) h)
def A173 : Ann := ⟨[], [], [], [], [], []⟩
def L173 (p1 : Option Addr) (n2 : Int) (Q : Value → World → Prop) (w : World) : Prop :=
  nn p1 (fun (q3 : Addr) =>
  ∃ (a4 : Option Addr) (l4 : Nat) (c4 : Nat), w.cell? q3 = some ((.slice a4 l4 c4 : Value)) ∧
  inI ((4096 : Int) - (((l4 : Nat) : Int))) ∧
  nn p1 (fun (q5 : Addr) =>
  ∃ (n6 : Int), w.cell? (Addr.add q5 2) = some ((.int .i64 n6 : Value)) ∧
  cond (decide (n6 > 0))
  (cond (decide (n2 ≥ 1))
  (cond (decide (n2 ≤ 1048576))
  (nn p1 (fun (q7 : Addr) =>
  ∃ (n8 : Int), w.cell? (Addr.add q7 1) = some ((.int .i64 n8 : Value)) ∧
  cond (n8 == 0)
  (Q (.bool true) w)
  (cond (decide (n2 ≤ 512))
  (cond (decide (((4096 : Int) - (((l4 : Nat) : Int))) ≥ n2))
  (Q (.bool true) w)
  (cond (decide (n2 > 512))
  (Q (.bool (decide (((4096 : Int) - (((l4 : Nat) : Int))) > 0))) w)
  (Q (.bool false) w)))
  (cond (decide (n2 > 512))
  (Q (.bool (decide (((4096 : Int) - (((l4 : Nat) : Int))) > 0))) w)
  (Q (.bool false) w)))))
  (Q (.bool false) w))
  (Q (.bool false) w))
  (Q (.bool false) w)))
theorem C173 {p1 : Option Addr} {n2 : Int} {Q : Value → World → Prop} {w : World} (h : L173 p1 n2 Q w) : CallR Tryz.prog 173 [.pointer p1, .int .i64 n2] w Q :=
  fun_calls (A := A173) mixed Tryz.func173 (c := (Tryz.f173.body).getD .skip) rfl (by kernel_rfl) (Eq.mp (by kernel_rfl) h)
def L10 (a1 : Option Addr) (l1 : Nat) (c1 : Nat) (a2 : Option Addr) (l2 : Nat) (c2 : Nat) (a3 : Option Addr) (l3 : Nat) (c3 : Nat) (Q : Value → World → Prop) (w : World) : Prop :=
  let w1 := World.alloc w (Obj.cells #[.slice a1 l1 c1, .slice a2 l2 c2, .slice a3 l3 c3] 26);
  ∃ (a4 : Option Addr) (l4 : Nat) (c4 : Nat), w1.cell? (Addr.mk w.heap.size 0 none) = some ((.slice a4 l4 c4 : Value)) ∧
  ∃ (a5 : Option Addr) (l5 : Nat) (c5 : Nat), w1.cell? (Addr.mk w.heap.size 1 none) = some ((.slice a5 l5 c5 : Value)) ∧
  ∃ (a6 : Option Addr) (l6 : Nat) (c6 : Nat), w1.cell? (Addr.mk w.heap.size 2 none) = some ((.slice a6 l6 c6 : Value)) ∧
  CallR Tryz.prog 9 [.slice a4 l4 c4, .slice a5 l5 c5, .slice a6 l6 c6] w1 (fun (r8 : Value) (w2 : World) =>
  ∃ (n7 : Int), r8 = .int .i64 n7 ∧
  cond (n7 != 0)
  (Q (.pointer none) w2)
  (∃ (S9 : World → Prop), S9 (World.drew w2) ∧
  let w3 := World.drew w2;
  ∃ (a10 : Option Addr) (l10 : Nat) (c10 : Nat), (∀ wS : World, S9 wS → wS.cell? (Addr.mk w.heap.size 0 none) = some ((.slice a10 l10 c10 : Value))) ∧
  ∃ (a11 : Option Addr) (l11 : Nat) (c11 : Nat), (∀ wS : World, S9 wS → wS.cell? (Addr.mk w.heap.size 1 none) = some ((.slice a11 l11 c11 : Value))) ∧
  ∃ (a12 : Option Addr) (l12 : Nat) (c12 : Nat), (∀ wS : World, S9 wS → wS.cell? (Addr.mk w.heap.size 2 none) = some ((.slice a12 l12 c12 : Value))) ∧
  CallR Tryz.prog 52 [.slice a12 l12 c12] w3 (fun (r14 : Value) (w4 : World) =>
  ∃ (a13 : Option Addr) (l13 : Nat) (c13 : Nat), r14 = .slice a13 l13 c13 ∧
  S9 w4 ∧
  CallR Tryz.prog 60 [.slice a10 l10 c10, .slice a11 l11 c11, .slice a13 l13 c13] w4 (fun (r16 : Value) (w5 : World) =>
  ∃ (p15 : Option Addr), r16 = .pointer p15 ∧
  Q (.pointer p15) w5))))
def L3 (a1 : Option Addr) (l1 : Nat) (c1 : Nat) (a2 : Option Addr) (l2 : Nat) (c2 : Nat) (a3 : Option Addr) (l3 : Nat) (c3 : Nat) (a4 : Option Addr) (l4 : Nat) (c4 : Nat) (Q : Value → World → Prop) (w : World) : Prop :=
  let w1 := World.alloc w (Obj.cells #[.slice a1 l1 c1, .slice a2 l2 c2, .slice a3 l3 c3] 26);
  ∃ (a5 : Option Addr) (l5 : Nat) (c5 : Nat) (a6 : Option Addr) (l6 : Nat) (c6 : Nat) (a7 : Option Addr) (l7 : Nat) (c7 : Nat), w1.cell? (Addr.mk w.heap.size 0 none) = some ((.slice a5 l5 c5 : Value)) ∧ w1.cell? (Addr.mk w.heap.size 1 none) = some ((.slice a6 l6 c6 : Value)) ∧ w1.cell? (Addr.mk w.heap.size 2 none) = some ((.slice a7 l7 c7 : Value)) ∧ 
  CallR Tryz.prog 7 [.agg #[.slice a5 l5 c5, .slice a6 l6 c6, .slice a7 l7 c7]] w1 (fun (r11 : Value) (w2 : World) =>
  ∃ (a8 : Option Addr) (l8 : Nat) (c8 : Nat) (a9 : Option Addr) (l9 : Nat) (c9 : Nat) (a10 : Option Addr) (l10 : Nat) (c10 : Nat), r11 = .agg #[.slice a8 l8 c8, .slice a9 l9 c9, .slice a10 l10 c10] ∧
  let w3 := World.alloc w2 (Obj.cells #[.slice none 0 0, .slice none 0 0, .slice none 0 0] 28);
  stC (Addr.mk w2.heap.size 0 none) (.slice a8 l8 c8) w3 (fun (w4 : World) =>
  stC (Addr.mk w2.heap.size 1 none) (.slice a9 l9 c9) w4 (fun (w5 : World) =>
  stC (Addr.mk w2.heap.size 2 none) (.slice a10 l10 c10) w5 (fun (w6 : World) =>
  ∃ (a12 : Option Addr) (l12 : Nat) (c12 : Nat) (a13 : Option Addr) (l13 : Nat) (c13 : Nat) (a14 : Option Addr) (l14 : Nat) (c14 : Nat), w6.cell? (Addr.mk w2.heap.size 0 none) = some ((.slice a12 l12 c12 : Value)) ∧ w6.cell? (Addr.mk w2.heap.size 1 none) = some ((.slice a13 l13 c13 : Value)) ∧ w6.cell? (Addr.mk w2.heap.size 2 none) = some ((.slice a14 l14 c14 : Value)) ∧ 
  CallR Tryz.prog 8 [.agg #[.slice a12 l12 c12, .slice a13 l13 c13, .slice a14 l14 c14]] w6 (fun (r17 : Value) (w7 : World) =>
  ∃ (p15 : Option Addr) (n16 : Int), r17 = .tuple #[.pointer p15, .int .i64 n16] ∧
  ∃ (a18 : Option Addr) (l18 : Nat) (c18 : Nat), w7.cell? (Addr.mk w.heap.size 0 none) = some ((.slice a18 l18 c18 : Value)) ∧
  ∃ (a19 : Option Addr) (l19 : Nat) (c19 : Nat), w7.cell? (Addr.mk w.heap.size 1 none) = some ((.slice a19 l19 c19 : Value)) ∧
  ∃ (a20 : Option Addr) (l20 : Nat) (c20 : Nat), w7.cell? (Addr.mk w.heap.size 2 none) = some ((.slice a20 l20 c20 : Value)) ∧
  CallR Tryz.prog 9 [.slice a18 l18 c18, .slice a19 l19 c19, .slice a20 l20 c20] w7 (fun (r22 : Value) (w8 : World) =>
  ∃ (n21 : Int), r22 = .int .i64 n21 ∧
  ∃ (a23 : Option Addr) (l23 : Nat) (c23 : Nat) (a24 : Option Addr) (l24 : Nat) (c24 : Nat) (a25 : Option Addr) (l25 : Nat) (c25 : Nat), w8.cell? (Addr.mk w.heap.size 0 none) = some ((.slice a23 l23 c23 : Value)) ∧ w8.cell? (Addr.mk w.heap.size 1 none) = some ((.slice a24 l24 c24 : Value)) ∧ w8.cell? (Addr.mk w.heap.size 2 none) = some ((.slice a25 l25 c25 : Value)) ∧ 
  CallR Tryz.prog 10 [.agg #[.slice a23 l23 c23, .slice a24 l24 c24, .slice a25 l25 c25]] w8 (fun (r27 : Value) (w9 : World) =>
  ∃ (p26 : Option Addr), r27 = .pointer p26 ∧
  CallR Tryz.prog 11 [.int .i64 n16] w9 (fun (r29 : Value) (w10 : World) =>
  ∃ (n28 : Int), r29 = .int .i64 n28 ∧
  cond (n28 != n21)
  (Q (.bool false) w10)
  (∃ (a30 : Option Addr) (l30 : Nat) (c30 : Nat) (a31 : Option Addr) (l31 : Nat) (c31 : Nat) (a32 : Option Addr) (l32 : Nat) (c32 : Nat), w10.cell? (Addr.mk w2.heap.size 0 none) = some ((.slice a30 l30 c30 : Value)) ∧ w10.cell? (Addr.mk w2.heap.size 1 none) = some ((.slice a31 l31 c31 : Value)) ∧ w10.cell? (Addr.mk w2.heap.size 2 none) = some ((.slice a32 l32 c32 : Value)) ∧ 
  CallR Tryz.prog 12 [.agg #[.slice a30 l30 c30, .slice a31 l31 c31, .slice a32 l32 c32]] w10 (fun (r34 : Value) (w11 : World) =>
  ∃ (n33 : Int), r34 = .int .i64 n33 ∧
  CallR Tryz.prog 11 [.int .i64 n33] w11 (fun (r36 : Value) (w12 : World) =>
  ∃ (n35 : Int), r36 = .int .i64 n35 ∧
  cond (n35 != n21)
  (Q (.bool false) w12)
  (cond (!((Option.isNone p15) == (Option.isNone p26)))
  (Q (.bool false) w12)
  (∃ (I37 : List Value → World → Prop) (mu38 : List Value → World → Nat),
  I37 [.int .i64 0] w12 ∧
  ∀ (_ : Env) (n39 : Int) (w13 : World), I37 [.int .i64 n39] w13 →
  cond (!(Option.isNone p15))
  (cond (decide (n39 < (((l4 : Nat) : Int))))
  ((0 ≤ (n39 : Int) ∧ (n39 : Int) < ((l4 : Nat) : Int)) ∧
  nn a4 (fun (q40 : Addr) =>
  ∃ (n41 : Int) (s42 : ByteArray) (n43 : Int) (n44 : Int) (n45 : Int) (a46 : Option Addr) (l46 : Nat) (c46 : Nat), w13.cell? (Addr.add q40 (Int.toNat n39 * 6)) = some ((.int .i64 n41 : Value)) ∧ w13.cell? (Addr.add (Addr.add q40 (Int.toNat n39 * 6)) 1) = some ((.string s42 : Value)) ∧ w13.cell? (Addr.add (Addr.add q40 (Int.toNat n39 * 6)) 2) = some ((.int .i64 n43 : Value)) ∧ w13.cell? (Addr.add (Addr.add q40 (Int.toNat n39 * 6)) 3) = some ((.int .i64 n44 : Value)) ∧ w13.cell? (Addr.add (Addr.add q40 (Int.toNat n39 * 6)) 4) = some ((.int .i64 n45 : Value)) ∧ w13.cell? (Addr.add (Addr.add q40 (Int.toNat n39 * 6)) 5) = some ((.slice a46 l46 c46 : Value)) ∧ 
  CallR Tryz.prog 13 [.pointer p15, .pointer p26, .agg #[.int .i64 n41, .string s42, .int .i64 n43, .int .i64 n44, .int .i64 n45, .slice a46 l46 c46]] w13 (fun (r48 : Value) (w14 : World) =>
  ∃ (b47 : Bool), r48 = .bool b47 ∧
  cond (!b47)
  (Q (.bool false) w14)
  ((4 : Int) ≠ 0 ∧
  cond ((Int.tmod n39 (4 : Int)) == 3)
  (CallR Tryz.prog 14 [.pointer p15, .pointer p26] w14 (fun (r50 : Value) (w15 : World) =>
  ∃ (b49 : Bool), r50 = .bool b49 ∧
  cond (!b49)
  (Q (.bool false) w15)
  (inI (n39 + 1) ∧
  I37 [.int .i64 (n39 + 1)] w15 ∧ mu38 [.int .i64 (n39 + 1)] w15 < mu38 [.int .i64 n39] w13)))
  (inI (n39 + 1) ∧
  I37 [.int .i64 (n39 + 1)] w14 ∧ mu38 [.int .i64 (n39 + 1)] w14 < mu38 [.int .i64 n39] w13)))))
  (cond (Option.isNone p15)
  (CallR Tryz.prog 15 [] w13 (fun (r52 : Value) (w16 : World) =>
  ∃ (b51 : Bool), r52 = .bool b51 ∧
  Q (.bool b51) w16))
  (CallR Tryz.prog 14 [.pointer p15, .pointer p26] w13 (fun (r54 : Value) (w17 : World) =>
  ∃ (b53 : Bool), r54 = .bool b53 ∧
  cond b53
  (CallR Tryz.prog 15 [] w17 (fun (r56 : Value) (w18 : World) =>
  ∃ (b55 : Bool), r56 = .bool b55 ∧
  Q (.bool b55) w18))
  (Q (.bool false) w17)))))
  (cond (Option.isNone p15)
  (CallR Tryz.prog 15 [] w13 (fun (r58 : Value) (w19 : World) =>
  ∃ (b57 : Bool), r58 = .bool b57 ∧
  Q (.bool b57) w19))
  (CallR Tryz.prog 14 [.pointer p15, .pointer p26] w13 (fun (r60 : Value) (w20 : World) =>
  ∃ (b59 : Bool), r60 = .bool b59 ∧
  cond b59
  (CallR Tryz.prog 15 [] w20 (fun (r62 : Value) (w21 : World) =>
  ∃ (b61 : Bool), r62 = .bool b61 ∧
  Q (.bool b61) w21))
  (Q (.bool false) w20)))))))))))))))))
end Go.Proofs.YtpoaacnnhgebfaaGreat
