/-
  A kernel's value: which description and which thing is there behind a change. Conditions: as each says.
-/
import Derived.Test.YtbiofmgebbdflaaKeH
set_option linter.unusedVariables false
namespace Go.Proofs.Ytbiofmgebbdflaa
open Go.Lw
namespace AK

theorem desc_setD (s : AK) (d' at_ hd d : Int) : (s.setD d' at_ hd).desc d = (s.desc d).map fun x => if x.num = d' then { x with at_ := at_, hd := hd } else x := by
  unfold desc setD
  dsimp only
  rw [List.find?_map]
  congr 1
  congr 1
  funext x
  show decide ((if x.num = d' then ({ x with at_ := at_, hd := hd } : AD) else x).num = d) = _
  by_cases e : x.num = d'
  · rw [if_pos e]
  · rw [if_neg e]

theorem desc_setD_same {s : AK} {d at_ hd : Int} {x : AD} (h : s.desc d = some x) : (s.setD d at_ hd).desc d = some { x with at_ := at_, hd := hd } := by
  rw [desc_setD, h]
  show some (if x.num = d then _ else x) = _
  rw [if_pos (desc_some h).2]

theorem desc_setD_ne {s : AK} {d' at_ hd d : Int} (hd' : d ≠ d') : (s.setD d' at_ hd).desc d = s.desc d := by
  rw [desc_setD]
  cases h : s.desc d with
  | none => rfl
  | some x =>
    show some (if x.num = d' then _ else x) = _
    rw [if_neg (fun e => hd' (by rw [← e]; exact (desc_some h).2.symm))]

theorem desc_newD_old {s : AK} {i : Nat} {fl d : Int} (hd : d ≠ s.next) : (s.newD i fl).desc d = s.desc d := by
  unfold desc newD
  dsimp only
  rw [List.find?_append]
  cases h : s.descs.find? (fun x => decide (x.num = d)) with
  | some x => rfl
  | none =>
    rw [Option.none_or, List.find?_cons_of_neg (by simpa using fun e => hd e.symm)]
    rfl

theorem desc_newD_new {s : AK} (h : s.Ok) {i : Nat} {fl : Int} : (s.newD i fl).desc s.next = some ⟨s.next, i, fl, 0, 1⟩ := by
  unfold desc newD
  dsimp only
  rw [List.find?_append]
  have : s.descs.find? (fun x => decide (x.num = s.next)) = none := by
    rw [List.find?_eq_none]
    intro x hx
    have := (h.di x hx).2.2.2.2.2.2
    simp only [decide_eq_true_eq]
    omega
  rw [this, Option.none_or, List.find?_cons_of_pos (by simp)]

theorem desc_delD_same (s : AK) (d : Int) : (s.delD d).desc d = none := by
  unfold desc delD
  dsimp only
  rw [List.find?_eq_none]
  intro x hx
  have := (List.mem_filter.1 hx).2
  simpa using this

theorem desc_delD_ne {s : AK} {d d' : Int} (hd : d ≠ d') : (s.delD d').desc d = s.desc d := by
  unfold desc delD
  dsimp only
  rw [List.find?_filter]
  congr 1
  funext x
  by_cases e : x.num = d
  · simp [e, hd]
  · simp [e]

theorem objs_setO_same (s : AK) (i : Nat) (o : AObj) : (s.setO i o).objs i = o := by
  show (if i = i then o else _) = _
  rw [if_pos rfl]
theorem objs_setO_ne (s : AK) {i j : Nat} (o : AObj) (h : j ≠ i) : (s.setO i o).objs j = s.objs j := by
  show (if j = i then o else _) = _
  rw [if_neg h]
theorem objs_newO_new (s : AK) (o : AObj) : (s.newO o).objs s.nob = o := by
  show (if s.nob = s.nob then o else _) = _
  rw [if_pos rfl]

theorem find_of {s : AK} {d way : Int} {x : AD} (h : s.desc d = some x) (hb : bitI x.fl way = way) : s.find d way = 0 := by
  unfold find
  rw [h]
  exact if_neg fun e => e hb
theorem find_bad {s : AK} {d way : Int} {x : AD} (h : s.desc d = some x) (hb : bitI x.fl way ≠ way) : s.find d way = 65 := by
  unfold find
  rw [h]
  exact if_pos hb
theorem find_none {s : AK} {d : Int} (way : Int) (h : s.desc d = none) : s.find d way = 64 := by
  unfold find
  rw [h]

theorem bit0 (n : Int) : bitI n 0 = 0 := by
  unfold bitI
  have : BitVec.ofInt (IntKind.bits .i64) n &&& BitVec.ofInt (IntKind.bits .i64) 0 = 0#(IntKind.bits .i64) := by
    rw [show BitVec.ofInt (IntKind.bits .i64) 0 = 0#(IntKind.bits .i64) from rfl]
    exact BitVec.and_zero
  rw [this]
  rfl

/-- A file that is read. -/
theorem read_file {s : AK} {d n : Int} {x : AD} {bs : List Int} (h : s.desc d = some x) (ho : s.objs x.ob = .file bs) (hb : bitI x.fl 1 = 1) (h1 : 1 ≤ n) (h2 : n ≤ 1048576) :
    s.read d n = if (metF s.ps n).2 ≠ 0 then ([], (metF s.ps n).2, s.met0) else
      (piece bs x.at_ (metF s.ps n).1, 0, s.met0.setD d (x.at_ + ((piece bs x.at_ (metF s.ps n).1).length : Int)) x.hd) := by
  unfold read
  rw [if_neg (fun e => e (find_of h hb)), if_neg (by omega), if_neg (by omega), h]
  dsimp only
  have hw : s.waits x = false := by unfold waits; rw [ho]
  have ho' : s.met0.objs x.ob = .file bs := ho
  rw [hw, if_neg (by simp)]
  unfold rdO
  rw [ho', (desc_some h).2]

end AK
end Go.Proofs.Ytbiofmgebbdflaa
