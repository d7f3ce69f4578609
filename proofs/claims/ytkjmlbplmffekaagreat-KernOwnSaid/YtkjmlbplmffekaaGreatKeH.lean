/-
  A kernel as it lies in memory, over its value; what stays of it when a call turned a part. Conditions: as each says.
-/
import Derived.Test.YtkjmlbplmffekaaGreatKeG
set_option linter.unusedVariables false
namespace Go.Proofs.YtkjmlbplmffekaaGreat
open Go.Lw

/-- Whose a block is. -/
inductive Tag
  | kern | mf | mt | md | plan | flts
  | desc (d : Int)
  | obj (i : Nat)
  | lines (i : Nat)
  deriving DecidableEq

/-- Where a kernel's parts lie. -/
structure KL where
  own : Nat → Option Tag
  loc : Nat → Nat
  dloc : Int → Nat
  rf : Nat
  rt : Nat
  rd : Nat
  pg : Nat

/-- A thing in memory: F is what it writes, R what it only reads. -/
def ObjF (F R : Nat → Prop) (w : World) (b : Nat) : AObj → Prop
  | .file bs => FileO F w b bs
  | .term LL scr => TermO F R w b LL scr
  | .pipe bs e0 e1 => PipeO w b bs e0 e1 ∧ ∀ z, F z ↔ z = b

theorem ObjF.keep {F R S : Nat → Prop} {w w' : World} {b : Nat} {o : AObj} (h : ObjF F R w b o) (k : Kept S w w') (hf : ∀ z, F z → ¬ S z) (hr : ∀ z, R z → ¬ S z) : ObjF F R w' b o := by
  cases o with
  | file bs => exact FileO.keep h k hf
  | term LL scr => exact TermO.keep h k hf hr
  | pipe bs e0 e1 => exact ⟨PipeO.keep h.1 k (hf b ((h.2 b).2 rfl)), h.2⟩

theorem ObjF.mem {F R : Nat → Prop} {w : World} {b : Nat} {o : AObj} (h : ObjF F R w b o) : F b := by
  cases o with
  | file bs => obtain ⟨a, l, c, hb, ho, hna, hl, hF⟩ := h; exact (hF b).2 (.inl rfl)
  | term LL scr => obtain ⟨la, ll, lc, i, sa, sl, sc, raw, hb, hl, hc, ho, hna, hs, hF, hR, hlt, h1, h2⟩ := h; exact (hF b).2 (.inl rfl)
  | pipe bs e0 e1 => exact (h.2 b).2 rfl

theorem ObjF.lt {F R : Nat → Prop} {w : World} {b : Nat} {o : AObj} (h : ObjF F R w b o) : ∀ z, F z → z < w.heap.size := by
  cases o with
  | file bs => exact FileO.lt h
  | term LL scr => exact fun z hz => TermO.lt h z (.inl hz)
  | pipe bs e0 e1 => intro z hz; rw [(h.2 z).1 hz]; exact h.1.lt

theorem ObjF.ltR {F R : Nat → Prop} {w : World} {b : Nat} {LL : List (List Int)} {scr : List Int} (h : ObjF F R w b (.term LL scr)) : ∀ z, R z → z < w.heap.size := fun z hz => TermO.lt h z (.inr hz)

theorem ObjF.congr {F F' R R' : Nat → Prop} {w : World} {b : Nat} {o : AObj} (h : ObjF F R w b o) (hf : ∀ z, F z ↔ F' z) (hr : ∀ z, R z ↔ R' z) : ObjF F' R' w b o := by
  have e1 : F = F' := funext fun z => propext (hf z)
  have e2 : R = R' := funext fun z => propext (hr z)
  rw [← e1, ← e2]; exact h

def ObjO (L : KL) (w : World) (i : Nat) (o : AObj) : Prop := ObjF (fun z => L.own z = some (.obj i)) (fun z => L.own z = some (.lines i)) w (L.loc i) o

/-- What always holds of a kernel's value. -/
structure AK.Ok (s : AK) : Prop where
  fi : ∀ f ∈ s.files, f.2 < s.nob ∧ (s.objs f.2).kd = .disk
  ti : ∀ t ∈ s.terms, t.2 < s.nob ∧ (s.objs t.2).kd = .scr
  di : ∀ d ∈ s.descs, d.ob < s.nob ∧ 0 ≤ d.at_ ∧ d.at_ ≤ 1048576 ∧ 1 ≤ d.hd ∧ d.hd ≤ 1024 ∧ 1 ≤ d.num ∧ d.num < s.next
  fn : (s.files.map (·.1)).Nodup
  tn : (s.terms.map (·.1)).Nodup
  ft : ∀ f ∈ s.files, ∀ t ∈ s.terms, f.1 ≠ t.1
  fo : (s.files.map (·.2)).Nodup
  to : (s.terms.map (·.2)).Nodup
  dn : (s.descs.map (·.num)).Nodup
  nx : 1 ≤ s.next
  dl : s.descs.length ≤ 256
  fl : s.files.length + s.terms.length ≤ 256
  ps : s.ps.length ≤ 4096
  pm : ∀ p ∈ s.ps, mayP p
  c0 : 0 ≤ s.c0
  c1 : 0 ≤ s.c1

def AK.cells (s : AK) (L : KL) : Array Value := #[.bool true, .map (some L.rf), .map (some L.rt), .map (some L.rd), .int .i64 s.next, pd L.pg, .int .i64 s.c0, .int .i64 s.c1]

def AK.mF (s : AK) (L : KL) : List (Value × Value) := s.files.map fun f => (.string f.1, pd (L.loc f.2))
def AK.mT (s : AK) (L : KL) : List (Value × Value) := s.terms.map fun f => (.string f.1, pd (L.loc f.2))
def AK.mD (s : AK) (L : KL) : List (Value × Value) := s.descs.map fun d => (.int .i64 d.num, pd (L.dloc d.num))

structure KernO (w : World) (gk : Nat) (s : AK) (L : KL) : Prop where
  blk : Blk w gk (s.cells L)
  mf : MapO w L.rf .string (s.mF L)
  mt : MapO w L.rt .string (s.mT L)
  md : MapO w L.rd (.int .i64) (s.mD L)
  pl : ∃ a l c, PlO w L.pg a l c s.ps ∧ ∀ b, inA a b → L.own b = some .flts
  ob : ∀ i, i < s.nob → ObjO L w i (s.objs i)
  ds : ∀ d ∈ s.descs, DsO w (L.dloc d.num) (s.objs d.ob).kd (L.loc d.ob) d.fl d.at_ d.hd
  oK : L.own gk = some .kern
  oF : L.own L.rf = some .mf
  oT : L.own L.rt = some .mt
  oD : L.own L.rd = some .md
  oP : L.own L.pg = some .plan
  od : ∀ d ∈ s.descs, L.own (L.dloc d.num) = some (.desc d.num)
  lt : ∀ k, L.own k ≠ none → k < w.heap.size
  ok : s.Ok

theorem KernO.keep {w w' : World} {gk : Nat} {s : AK} {L : KL} (h : KernO w gk s L) {S : Nat → Prop} (k : Kept S w w') (hS : ∀ x, S x → L.own x = none) : KernO w' gk s L where
  blk := h.blk.keep k fun e => by have := hS _ e; rw [h.oK] at this; cases this
  mf := h.mf.keep k fun e => by have := hS _ e; rw [h.oF] at this; cases this
  mt := h.mt.keep k fun e => by have := hS _ e; rw [h.oT] at this; cases this
  md := h.md.keep k fun e => by have := hS _ e; rw [h.oD] at this; cases this
  pl := by
    obtain ⟨a, l, c, h1, h3⟩ := h.pl
    exact ⟨a, l, c, h1.keep k (fun e => by have := hS _ e; rw [h.oP] at this; cases this) (fun b _ hb e => by have := hS _ e; rw [h3 b hb] at this; cases this), h3⟩
  ob := fun i hi => ObjF.keep (h.ob i hi) k (fun x hx e => by have := hS _ e; rw [hx] at this; cases this) (fun x hx e => by have := hS _ e; rw [hx] at this; cases this)
  ds := fun d hd => Blk.keep (h.ds d hd) k fun e => by have := hS _ e; rw [h.od d hd] at this; cases this
  oK := h.oK
  oF := h.oF
  oT := h.oT
  oD := h.oD
  oP := h.oP
  od := h.od
  lt := fun x hx => Nat.lt_of_lt_of_le (h.lt x hx) k.size
  ok := h.ok

theorem KernO.no {w w' : World} {gk : Nat} {s : AK} {L : KL} (h : KernO w gk s L) (k : Kept No w w') : KernO w' gk s L := h.keep k fun _ e => e.elim

/-- What a call may have turned: the kernel's own memory; what it owns behind it is its own or new. -/
structure KStep (w w' : World) (L L' : KL) : Prop where
  kept : Kept (fun z => L.own z ≠ none) w w'
  grew : ∀ z, L'.own z ≠ none → L.own z ≠ none ∨ w.heap.size ≤ z

theorem KStep.refl (w : World) (L : KL) : KStep w w L L := ⟨Kept.refl _ _, fun _ h => .inl h⟩
theorem KStep.of_no {w w' : World} {L : KL} (k : Kept No w w') : KStep w w' L L := ⟨k.mono fun _ _ e => e.elim, fun _ h => .inl h⟩
theorem KStep.trans {w w1 w2 : World} {L L1 L2 : KL} (h : KStep w w1 L L1) (k : KStep w1 w2 L1 L2) : KStep w w2 L L2 :=
  ⟨h.kept.trans k.kept fun x hx e => by
    rcases h.grew x e with e | e
    · exact e
    · omega, fun z hz => by
    rcases k.grew z hz with e | e
    · exact h.grew z e
    · exact .inr (Nat.le_trans h.kept.size e)⟩
theorem KStep.no {w w1 w2 : World} {L L1 : KL} (h : KStep w w1 L L1) (k : Kept No w1 w2) : KStep w w2 L L1 := h.trans (.of_no k)
theorem KStep.fresh {w w0 w1 : World} {L L1 : KL} (k : Kept No w w0) (h : KStep w0 w1 L L1) : KStep w w1 L L1 := (KStep.of_no k).trans h
/-- A block of the caller's own, new behind the beginning. -/
theorem KStep.own {w w1 w2 : World} {L L1 : KL} (h : KStep w w1 L L1) {b : Nat} (k : Kept (· = b) w1 w2) (hb : w.heap.size ≤ b) : KStep w w2 L L1 :=
  ⟨h.kept.trans k fun x hx e => by omega, h.grew⟩
theorem KStep.size {w w' : World} {L L' : KL} (h : KStep w w' L L') : w.heap.size ≤ w'.heap.size := h.kept.size

/-! ## The value's laws -/

namespace AK

theorem desc_of {s : AK} (h : s.Ok) {x : AD} (hx : x ∈ s.descs) : s.desc x.num = some x := by
  cases hd : s.desc x.num with
  | none => exact absurd rfl (desc_none hd x hx)
  | some y =>
    obtain ⟨hy, hn⟩ := desc_some hd
    obtain ⟨i, hi, rfl⟩ := List.mem_iff_getElem.1 hx
    obtain ⟨j, hj, rfl⟩ := List.mem_iff_getElem.1 hy
    have : (s.descs.map (·.num))[j]'(by simpa using hj) = (s.descs.map (·.num))[i]'(by simpa using hi) := by rw [List.getElem_map, List.getElem_map]; exact hn
    have := (List.getElem_inj h.dn).1 this
    subst this
    rfl

theorem Ok.setO {s : AK} (h : s.Ok) {i : Nat} {o : AObj} (ho : o.kd = (s.objs i).kd) : (s.setO i o).Ok := by
  have hk : ∀ j, ((s.setO i o).objs j).kd = (s.objs j).kd := fun j => by
    show (if j = i then o else s.objs j).kd = _
    by_cases e : j = i
    · rw [if_pos e, ho, e]
    · rw [if_neg e]
  exact
    { fi := fun f hf => ⟨(h.fi f hf).1, by rw [hk]; exact (h.fi f hf).2⟩
      ti := fun f hf => ⟨(h.ti f hf).1, by rw [hk]; exact (h.ti f hf).2⟩
      di := h.di, fn := h.fn, tn := h.tn, ft := h.ft, fo := h.fo, to := h.to, dn := h.dn, nx := h.nx, dl := h.dl, fl := h.fl, ps := h.ps, pm := h.pm, c0 := h.c0, c1 := h.c1 }

theorem setD_nums (s : AK) (d at_ hd : Int) : (s.setD d at_ hd).descs.map (·.num) = s.descs.map (·.num) := by
  show (s.descs.map fun x => if x.num = d then { x with at_ := at_, hd := hd } else x).map (·.num) = _
  rw [List.map_map]
  apply List.map_congr_left
  intro x _
  show (if x.num = d then ({ x with at_ := at_, hd := hd } : AD) else x).num = x.num
  split <;> rfl

theorem setD_mem {s : AK} {d at_ hd : Int} {y : AD} (hy : y ∈ (s.setD d at_ hd).descs) : ∃ x ∈ s.descs, (x.num = d ∧ y = { x with at_ := at_, hd := hd }) ∨ (x.num ≠ d ∧ y = x) := by
  obtain ⟨x, hx, rfl⟩ := List.mem_map.1 hy
  refine ⟨x, hx, ?_⟩
  by_cases e : x.num = d
  · exact .inl ⟨e, by rw [if_pos e]⟩
  · exact .inr ⟨e, by rw [if_neg e]⟩

theorem Ok.setD {s : AK} (h : s.Ok) {d at_ hd : Int} (hr : 0 ≤ at_ ∧ at_ ≤ 1048576 ∧ 1 ≤ hd ∧ hd ≤ 1024) : (s.setD d at_ hd).Ok where
  fi := h.fi
  ti := h.ti
  di := fun y hy => by
    obtain ⟨x, hx, ⟨_, rfl⟩ | ⟨_, rfl⟩⟩ := setD_mem hy
    · have := h.di x hx
      exact ⟨this.1, hr.1, hr.2.1, hr.2.2.1, hr.2.2.2, this.2.2.2.2.2.1, this.2.2.2.2.2.2⟩
    · exact h.di y hx
  fn := h.fn
  tn := h.tn
  ft := h.ft
  fo := h.fo
  to := h.to
  dn := by rw [setD_nums]; exact h.dn
  nx := h.nx
  dl := by
    have : (s.setD d at_ hd).descs.length = s.descs.length := by unfold AK.setD; simp
    rw [this]; exact h.dl
  fl := h.fl
  ps := h.ps
  pm := h.pm
  c0 := h.c0
  c1 := h.c1

theorem setD_same {s : AK} (h : s.Ok) {d : Int} {x : AD} (hx : s.desc d = some x) : s.setD d x.at_ x.hd = s := by
  unfold AK.setD
  have : (s.descs.map fun y => if y.num = d then { y with at_ := x.at_, hd := x.hd } else y) = s.descs := by
    rw [List.map_congr_left (g := id), List.map_id]
    intro y hy
    by_cases e : y.num = d
    · have := desc_of h hy
      rw [e, hx] at this
      simp only [Option.some.injEq] at this
      subst this
      rw [if_pos e]; rfl
    · rw [if_neg e]; rfl
  rw [this]

theorem Ok.newD {s : AK} (h : s.Ok) {i : Nat} (hi : i < s.nob) (fl : Int) (hl : s.descs.length < 256) : (s.newD i fl).Ok where
  fi := h.fi
  ti := h.ti
  di := fun d hd => by
    have hd : d ∈ s.descs ++ [⟨s.next, i, fl, 0, 1⟩] := hd
    have hn : (s.newD i fl).next = s.next + 1 := rfl
    rw [hn]
    rcases List.mem_append.1 hd with hd | hd
    · have := h.di d hd
      exact ⟨this.1, by omega⟩
    · have := h.nx
      simp only [List.mem_singleton] at hd
      subst hd
      exact ⟨hi, by dsimp only; omega⟩
  fn := h.fn
  tn := h.tn
  ft := h.ft
  fo := h.fo
  to := h.to
  dn := by
    show ((s.descs ++ [(⟨s.next, i, fl, 0, 1⟩ : AD)]).map (fun d => d.num)).Nodup
    rw [List.map_append, List.nodup_append]
    refine ⟨h.dn, by simp, fun a ha b hb e => ?_⟩
    obtain ⟨x, hx, rfl⟩ := List.mem_map.1 ha
    simp only [List.map_cons, List.map_nil, List.mem_singleton] at hb
    subst hb
    have := (h.di x hx).2.2.2.2.2.2
    omega
  nx := by have := h.nx; show 1 ≤ s.next + 1; omega
  dl := by show (s.descs ++ [_]).length ≤ 256; rw [List.length_append]; simp; omega
  fl := h.fl
  ps := h.ps
  pm := h.pm
  c0 := h.c0
  c1 := h.c1

theorem Ok.delD {s : AK} (h : s.Ok) (d : Int) : (s.delD d).Ok where
  fi := h.fi
  ti := h.ti
  di := fun x hx => h.di x (List.mem_filter.1 hx).1
  fn := h.fn
  tn := h.tn
  ft := h.ft
  fo := h.fo
  to := h.to
  dn := List.Sublist.nodup (List.filter_sublist.map _) h.dn
  nx := h.nx
  dl := Nat.le_trans (List.length_filter_le _ _) h.dl
  fl := h.fl
  ps := h.ps
  pm := h.pm
  c0 := h.c0
  c1 := h.c1

theorem newO_old (s : AK) (o : AObj) {i : Nat} (hi : i < s.nob) : (s.newO o).objs i = s.objs i := by
  show (if i = s.nob then o else s.objs i) = _
  rw [if_neg (by omega)]

theorem objs_newO_new' (s : AK) (o : AObj) : (s.newO o).objs s.nob = o := by
  show (if s.nob = s.nob then o else _) = _
  rw [if_pos rfl]
theorem objs_setO_same' (s : AK) (i : Nat) (o : AObj) : (s.setO i o).objs i = o := by
  show (if i = i then o else _) = _
  rw [if_pos rfl]

theorem Ok.newO {s : AK} (h : s.Ok) (o : AObj) : (s.newO o).Ok where
  fi := fun f hf => by
    have := h.fi f hf
    exact ⟨Nat.lt_succ_of_lt this.1, by rw [newO_old s o this.1]; exact this.2⟩
  ti := fun f hf => by
    have := h.ti f hf
    exact ⟨Nat.lt_succ_of_lt this.1, by rw [newO_old s o this.1]; exact this.2⟩
  di := fun d hd => by
    have := h.di d hd
    exact ⟨Nat.lt_succ_of_lt this.1, this.2⟩
  fn := h.fn
  tn := h.tn
  ft := h.ft
  fo := h.fo
  to := h.to
  dn := h.dn
  nx := h.nx
  dl := h.dl
  fl := h.fl
  ps := h.ps
  pm := h.pm
  c0 := h.c0
  c1 := h.c1

def addF (s : AK) (nm : ByteArray) (o : AObj) : AK := { s.newO o with files := s.files ++ [(nm, s.nob)] }
def addT (s : AK) (nm : ByteArray) (o : AObj) : AK := { s.newO o with terms := s.terms ++ [(nm, s.nob)] }

theorem nodup_snoc {α : Type} {l : List α} {x : α} (h : l.Nodup) (hx : x ∉ l) : (l ++ [x]).Nodup := by
  rw [List.nodup_append]
  refine ⟨h, by simp, fun a ha b hb e => ?_⟩
  simp only [List.mem_singleton] at hb
  subst hb; subst e
  exact hx ha

theorem Ok.addF {s : AK} (h : s.Ok) {nm : ByteArray} {o : AObj} (ho : o.kd = .disk) (h1 : ∀ f ∈ s.files, f.1 ≠ nm) (h2 : ∀ f ∈ s.terms, f.1 ≠ nm) (hl : s.files.length + s.terms.length < 256) : (s.addF nm o).Ok :=
  have g := h.newO o
  { fi := fun f hf => by
      have hf : f ∈ s.files ++ [(nm, s.nob)] := hf
      rcases List.mem_append.1 hf with hf | hf
      · exact g.fi f hf
      · simp only [List.mem_singleton] at hf
        subst hf
        refine ⟨Nat.lt_succ_self _, ?_⟩
        show (if s.nob = s.nob then o else _).kd = _
        rw [if_pos rfl]; exact ho
    ti := g.ti
    di := g.di
    fn := by
      show ((s.files ++ [(nm, s.nob)]).map (·.1)).Nodup
      rw [List.map_append]
      exact nodup_snoc h.fn fun e => by
        obtain ⟨f, hf, e⟩ := List.mem_map.1 e
        exact h1 f hf e
    tn := h.tn
    ft := fun f hf t ht => by
      have hf : f ∈ s.files ++ [(nm, s.nob)] := hf
      rcases List.mem_append.1 hf with hf | hf
      · exact h.ft f hf t ht
      · simp only [List.mem_singleton] at hf
        subst hf
        exact fun e => h2 t ht e.symm
    fo := by
      show ((s.files ++ [(nm, s.nob)]).map (·.2)).Nodup
      rw [List.map_append]
      exact nodup_snoc h.fo fun e => by
        obtain ⟨f, hf, e⟩ := List.mem_map.1 e
        have := (h.fi f hf).1
        dsimp only at e
        omega
    to := h.to
    dn := h.dn
    nx := h.nx
    dl := h.dl
    fl := by show (s.files ++ [(nm, s.nob)]).length + s.terms.length ≤ 256; rw [List.length_append]; simp; omega
    ps := h.ps
    pm := h.pm
    c0 := h.c0
    c1 := h.c1 }

theorem Ok.addT {s : AK} (h : s.Ok) {nm : ByteArray} {o : AObj} (ho : o.kd = .scr) (h1 : ∀ f ∈ s.files, f.1 ≠ nm) (h2 : ∀ f ∈ s.terms, f.1 ≠ nm) (hl : s.files.length + s.terms.length < 256) : (s.addT nm o).Ok :=
  have g := h.newO o
  { ti := fun f hf => by
      have hf : f ∈ s.terms ++ [(nm, s.nob)] := hf
      rcases List.mem_append.1 hf with hf | hf
      · exact g.ti f hf
      · simp only [List.mem_singleton] at hf
        subst hf
        refine ⟨Nat.lt_succ_self _, ?_⟩
        show (if s.nob = s.nob then o else _).kd = _
        rw [if_pos rfl]; exact ho
    fi := g.fi
    di := g.di
    tn := by
      show ((s.terms ++ [(nm, s.nob)]).map (·.1)).Nodup
      rw [List.map_append]
      exact nodup_snoc h.tn fun e => by
        obtain ⟨f, hf, e⟩ := List.mem_map.1 e
        exact h2 f hf e
    fn := h.fn
    ft := fun f hf t ht => by
      have ht : t ∈ s.terms ++ [(nm, s.nob)] := ht
      rcases List.mem_append.1 ht with ht | ht
      · exact h.ft f hf t ht
      · simp only [List.mem_singleton] at ht
        subst ht
        exact h1 f hf
    to := by
      show ((s.terms ++ [(nm, s.nob)]).map (·.2)).Nodup
      rw [List.map_append]
      exact nodup_snoc h.to fun e => by
        obtain ⟨f, hf, e⟩ := List.mem_map.1 e
        have := (h.ti f hf).1
        dsimp only at e
        omega
    fo := h.fo
    dn := h.dn
    nx := h.nx
    dl := h.dl
    fl := by show s.files.length + (s.terms ++ [(nm, s.nob)]).length ≤ 256; rw [List.length_append]; simp; omega
    ps := h.ps
    pm := h.pm
    c0 := h.c0
    c1 := h.c1 }

theorem Ok.met0 {s : AK} (h : s.Ok) : s.met0.Ok :=
  { fi := h.fi, ti := h.ti, di := h.di, fn := h.fn, tn := h.tn, ft := h.ft, fo := h.fo, to := h.to, dn := h.dn, nx := h.nx, dl := h.dl, fl := h.fl
    ps := by have := h.ps; show (s.ps.drop 1).length ≤ 4096; rw [List.length_drop]; omega
    pm := fun p hp => h.pm p (List.mem_of_mem_drop hp)
    c0 := by have := h.c0; show 0 ≤ s.c0 + 1; omega
    c1 := h.c1 }
theorem Ok.met1 {s : AK} (h : s.Ok) : s.met1.Ok :=
  { fi := h.fi, ti := h.ti, di := h.di, fn := h.fn, tn := h.tn, ft := h.ft, fo := h.fo, to := h.to, dn := h.dn, nx := h.nx, dl := h.dl, fl := h.fl
    ps := by have := h.ps; show (s.ps.drop 1).length ≤ 4096; rw [List.length_drop]; omega
    pm := fun p hp => h.pm p (List.mem_of_mem_drop hp)
    c1 := by have := h.c1; show 0 ≤ s.c1 + 1; omega
    c0 := h.c0 }

theorem metF_ok {ps : List (Int × Int)} {n : Int} (hps : ∀ p ∈ ps, mayP p) (h1 : 1 ≤ n) : (metF ps n).2 = 0 ∧ 1 ≤ (metF ps n).1 ∧ (metF ps n).1 ≤ n ∨ (metF ps n).1 = 0 ∧ ((metF ps n).2 = 22 ∨ (metF ps n).2 = 23) ∧ ps ≠ [] := by
  cases ps with
  | nil => left; exact ⟨rfl, h1, Int.le_refl _⟩
  | cons f r =>
    have hf := hps f (by simp)
    unfold metF
    dsimp only
    by_cases e1 : f.1 = 1
    · left
      rw [if_pos e1]
      unfold mayP at hf
      dsimp only
      omega
    · rw [if_neg e1]
      by_cases e2 : f.1 = 2
      · right
        rw [if_pos e2]
        exact ⟨rfl, .inl rfl, by simp⟩
      · rw [if_neg e2]
        by_cases e3 : f.1 = 3
        · right; rw [if_pos e3]; exact ⟨rfl, .inr rfl, by simp⟩
        · left; rw [if_neg e3]; exact ⟨rfl, h1, Int.le_refl _⟩


end AK
end Go.Proofs.YtkjmlbplmffekaaGreat
