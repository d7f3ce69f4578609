/-
  A kernel as a value: its files, terminals, pipes, descriptions, faults; what each call answers and leaves, in plain words. Conditions: none.
-/
import Derived.Test.YtkjmlbplmffekaaGreatKeC
set_option linter.unusedVariables false
namespace Go.Proofs.YtkjmlbplmffekaaGreat
open Go.Lw

/-- A thing: a file's bytes; a terminal's lines and screen; a pipe's bytes, readers, writers. -/
inductive AObj
  | file (bs : List Int)
  | term (LL : List (List Int)) (scr : List Int)
  | pipe (bs : List Int) (e0 e1 : Nat)

def AObj.kd : AObj → TK
  | .file _ => .disk
  | .term _ _ => .scr
  | .pipe _ _ _ => .con

/-- A description. -/
structure AD where
  num : Int
  ob : Nat
  fl : Int
  at_ : Int
  hd : Int

structure AK where
  files : List (ByteArray × Nat)
  terms : List (ByteArray × Nat)
  objs : Nat → AObj
  nob : Nat
  descs : List AD
  next : Int
  ps : List (Int × Int)
  c0 : Int
  c1 : Int

namespace AK

def setO (s : AK) (i : Nat) (o : AObj) : AK := { s with objs := fun j => if j = i then o else s.objs j }
def setD (s : AK) (d at_ hd : Int) : AK := { s with descs := s.descs.map fun x => if x.num = d then { x with at_ := at_, hd := hd } else x }
def newO (s : AK) (o : AObj) : AK := { s with objs := fun j => if j = s.nob then o else s.objs j, nob := s.nob + 1 }
def newD (s : AK) (i : Nat) (fl : Int) : AK := { s with descs := s.descs ++ [⟨s.next, i, fl, 0, 1⟩], next := s.next + 1 }
def delD (s : AK) (d : Int) : AK := { s with descs := s.descs.filter fun x => decide (x.num ≠ d) }

theorem setO_same (s : AK) (i : Nat) : s.setO i (s.objs i) = s := by
  unfold setO
  have : (fun j => if j = i then s.objs i else s.objs j) = s.objs := by
    funext j
    by_cases h : j = i
    · rw [if_pos h, h]
    · rw [if_neg h]
  rw [this]

/-- The description of that number. -/
def desc (s : AK) (d : Int) : Option AD := s.descs.find? fun x => decide (x.num = d)

theorem desc_some {s : AK} {d : Int} {x : AD} (h : s.desc d = some x) : x ∈ s.descs ∧ x.num = d := by
  unfold desc at h
  exact ⟨List.mem_of_find?_eq_some h, by simpa using List.find?_some h⟩
theorem desc_none {s : AK} {d : Int} (h : s.desc d = none) : ∀ x ∈ s.descs, x.num ≠ d := by
  unfold desc at h
  rw [List.find?_eq_none] at h
  intro x hx
  simpa using h x hx

/-- What find answers: an error, or none. -/
def find (s : AK) (d way : Int) : Int := match s.desc d with
  | none => 64
  | some x => if bitI x.fl way ≠ way then 65 else 0

theorem find_zero {s : AK} {d way : Int} (h : s.find d way = 0) : ∃ x, s.desc d = some x ∧ bitI x.fl way = way := by
  unfold find at h
  cases hd : s.desc d with
  | none => rw [hd] at h; cases h
  | some x =>
    rw [hd] at h
    dsimp only at h
    by_cases hb : bitI x.fl way ≠ way
    · rw [if_pos hb] at h; cases h
    · exact ⟨x, rfl, by simpa using hb⟩

def waits (s : AK) (x : AD) : Bool := match s.objs x.ob with
  | .pipe bs e0 e1 => !canRP bs e0 e1
  | _ => false

def canRead (s : AK) (d : Int) : Bool := if s.find d 1 ≠ 0 then false else match s.desc d with
  | none => false
  | some x => !s.waits x

def kindN : TK → Int
  | .disk => 1
  | .scr => 2
  | .con => 3

def kind (s : AK) (d : Int) : Int := if s.find d 0 ≠ 0 then 0 else match s.desc d with
  | none => 0
  | some x => kindN (s.objs x.ob).kd

/-- What a description's thing answers to a read of n bytes, and leaves. -/
def rdO (s : AK) (x : AD) (n : Int) : List Int × AK := match s.objs x.ob with
  | .file bs => (piece bs x.at_ n, s.setD x.num (x.at_ + ((piece bs x.at_ n).length : Int)) x.hd)
  | .term LL scr => ((readT n LL).2.1, s.setO x.ob (.term (readT n LL).2.2 scr))
  | .pipe bs e0 e1 => ((readP n bs e0 e1).1, s.setO x.ob (.pipe (readP n bs e0 e1).2.2 e0 e1))

def met0 (s : AK) : AK := { s with c0 := s.c0 + 1, ps := s.ps.drop 1 }
def met1 (s : AK) : AK := { s with c1 := s.c1 + 1, ps := s.ps.drop 1 }

def read (s : AK) (d n : Int) : List Int × Int × AK :=
  if s.find d 1 ≠ 0 then ([], s.find d 1, s) else if n < 0 ∨ n > 1048576 then ([], 4, s) else if n = 0 then ([], 0, s) else match s.desc d with
    | none => ([], 64, s)
    | some x => if s.waits x = true then ([], 52, s) else if (metF s.ps n).2 ≠ 0 then ([], (metF s.ps n).2, s.met0) else ((s.met0.rdO x (metF s.ps n).1).1, 0, (s.met0.rdO x (metF s.ps n).1).2)

/-- How many of n bytes a thing takes at most, or an error. -/
def roomO (s : AK) (x : AD) (n : Int) : Int × Int := match s.objs x.ob with
  | .file bs => roomD (placeF x.fl x.at_ bs) n
  | .term LL scr => roomD (scr.length : Int) n
  | .pipe bs e0 e1 => roomC n bs e0 e1

/-- What a thing takes of bytes, at most so many, and leaves. -/
def wrO (s : AK) (x : AD) (ds : List Int) (most : Int) : Int × AK := match s.objs x.ob with
  | .file bs => (((min ds.length most.toNat : Nat) : Int), (s.setO x.ob (.file (writeF bs (placeF x.fl x.at_ bs) (ds.take (min ds.length most.toNat))).2)).setD x.num (placeF x.fl x.at_ bs + ((min ds.length most.toNat : Nat) : Int)) x.hd)
  | .term LL scr => (((min ds.length most.toNat : Nat) : Int), s.setO x.ob (.term LL (writeT (ds.take (min ds.length most.toNat)) scr).2))
  | .pipe bs e0 e1 => ((writeP ds most bs e0 e1).1, s.setO x.ob (.pipe (writeP ds most bs e0 e1).2.2 e0 e1))

def write (s : AK) (d : Int) (ds : List Int) : Int × Int × AK :=
  if s.find d 2 ≠ 0 then (0, s.find d 2, s) else if 1048576 < ds.length then (0, 5, s) else if ds.length = 0 then (0, 0, s) else match s.desc d with
    | none => (0, 64, s)
    | some x => if (s.roomO x ds.length).2 ≠ 0 then (0, (s.roomO x ds.length).2, s) else if (metF s.ps ds.length).2 ≠ 0 then (0, (metF s.ps ds.length).2, s.met1) else
      ((s.met1.wrO x ds (min (metF s.ps ds.length).1 (s.roomO x ds.length).1)).1, 0, (s.met1.wrO x ds (min (metF s.ps ds.length).1 (s.roomO x ds.length).1)).2)

def canWrite (s : AK) (d n : Int) : Bool := if s.find d 2 ≠ 0 ∨ n < 1 ∨ n > 1048576 then false else match s.desc d with
  | none => false
  | some x => decide ((s.roomO x n).2 ≠ 52)

def seek (s : AK) (d off wh : Int) : Int × Int × AK :=
  if s.find d 0 ≠ 0 then (0, s.find d 0, s) else match s.desc d with
    | none => (0, 64, s)
    | some x => match s.objs x.ob with
      | .file bs =>
        if wh < 0 ∨ wh > 2 then (0, 1, s) else
          let base : Int := if wh = 0 then 0 else if wh = 1 then x.at_ else (bs.length : Int)
          if off < -base ∨ off > 1048576 - base then (0, 4, s) else (base + off, 0, s.setD d (base + off) x.hd)
      | _ => (0, 66, s)

def keep (s : AK) (d : Int) : Int × AK :=
  if s.find d 0 ≠ 0 then (s.find d 0, s) else match s.desc d with
    | none => (64, s)
    | some x => if x.hd ≥ 1024 then (3, s) else (0, s.setD d x.at_ (x.hd + 1))

def leave (s : AK) (x : AD) : AK := match s.objs x.ob with
  | .pipe bs e0 e1 => s.setO x.ob (.pipe bs (leaveP (bitI x.fl 2 != 0) e0 e1).2.1 (leaveP (bitI x.fl 2 != 0) e0 e1).2.2)
  | _ => s

def drop (s : AK) (d : Int) : Int × AK :=
  if s.find d 0 ≠ 0 then (s.find d 0, s) else match s.desc d with
    | none => (64, s)
    | some x => if x.hd = 1 then (0, (s.delD d).leave x) else (0, s.setD d x.at_ (x.hd - 1))

def held (s : AK) (d : Int) : List Int := if s.find d 0 ≠ 0 then [] else match s.desc d with
  | none => []
  | some x => match s.objs x.ob with
    | .pipe bs _ _ => bs
    | _ => []

def flagged (f : Int) : Bool := decide (f ≥ 0 ∧ f ≤ 63) && (bitI f 3 != 0) && ((bitI f 2 != 0) || (bitI f 20 == 0)) && ((bitI f 8 != 0) || (bitI f 32 == 0))

def fileOf (s : AK) (nm : ByteArray) : Option (ByteArray × Nat) := s.files.find? fun f => decide (f.1 = nm)
def termOf (s : AK) (nm : ByteArray) : Option (ByteArray × Nat) := s.terms.find? fun f => decide (f.1 = nm)

def openE (s : AK) (nm : ByteArray) (fl : Int) : Int :=
  if namedS nm = false then 61 else if flagged fl = false then 65 else if 256 ≤ s.descs.length then 3 else
    if (s.fileOf nm).isSome ∨ (s.termOf nm).isSome then (if bitI fl 32 ≠ 0 then 63 else 0)
    else if bitI fl 8 = 0 then 62 else if 256 ≤ s.files.length + s.terms.length then 3 else 0

/-- An opening that is not refused. -/
def openS (s : AK) (nm : ByteArray) (fl : Int) : AK := match s.termOf nm with
  | some t => s.newD t.2 fl
  | none => match s.fileOf nm with
    | some f => (if bitI fl 16 ≠ 0 then s.setO f.2 (.file []) else s).newD f.2 fl
    | none => ({ s.newO (.file []) with files := s.files ++ [(nm, s.nob)] }).newD s.nob fl

def open_ (s : AK) (nm : ByteArray) (fl : Int) : Int × Int × AK := if s.openE nm fl ≠ 0 then (0, s.openE nm fl, s) else (s.next, 0, s.openS nm fl)

def pipe (s : AK) : Int × Int × Int × AK := if 254 < s.descs.length then (0, 0, 3, s) else (s.next, s.next + 1, 0, ((s.newO (.pipe [] 1 1)).newD s.nob 1).newD s.nob 2)

end AK
end Go.Proofs.YtkjmlbplmffekaaGreat
