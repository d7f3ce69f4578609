/-
  The library's sort of names, over a slice that is owned; a kernel's files as a value, sorted by name. Conditions: as each says.
-/
import Derived.Test.YtkjmlbplmffekaaGreatSrt
import Derived.Test.YtkjmlbplmffekaaGreatLSo
import Derived.Test.YtkjmlbplmffekaaGreatKeT
import Derived.Sort.KeysCollected
import Derived.Sort.OwnSorted
set_option linter.unusedVariables false
namespace Go.Proofs.YtkjmlbplmffekaaGreat
open Go.Lw Go.Sort

def Sv (ss : List ByteArray) : List Value := ss.map .string
theorem Sv_one (ss : List ByteArray) : ∀ u ∈ Sv ss, u.oneCell' = true := by
  intro u hu; unfold Sv at hu; rw [List.mem_map] at hu; obtain ⟨n, _, rfl⟩ := hu; rfl
theorem Sv_len (ss : List ByteArray) : (Sv ss).length = ss.length := by unfold Sv; rw [List.length_map]

def dataL (ss : List ByteArray) : List (List UInt8) := ss.map (·.data.toList)
def strL (ls : List (List UInt8)) : List ByteArray := ls.map fun x => ⟨x.toArray⟩
theorem strL_dataL (ss : List ByteArray) : strL (dataL ss) = ss := by
  unfold strL dataL
  rw [List.map_map]
  conv => rhs; rw [← List.map_id ss]
  apply List.map_congr_left
  intro x _
  show (⟨x.data.toList.toArray⟩ : ByteArray) = x
  rfl

/-- Names, sorted. -/
def sortN (ss : List ByteArray) : List ByteArray := strL ((dataL ss).mergeSort leB)

theorem sortN_perm (ss : List ByteArray) : (sortN ss).Perm ss := by
  have := (List.mergeSort_perm (dataL ss) leB).map fun x => (⟨x.toArray⟩ : ByteArray)
  unfold sortN
  have e : strL (dataL ss) = ss := strL_dataL ss
  unfold strL at e ⊢
  rw [e] at this
  exact this
theorem sortN_of_perm {ss ts : List ByteArray} (h : ss.Perm ts) : sortN ss = sortN ts := by
  unfold sortN
  have h2 : (dataL ss).Perm (dataL ts) := h.map _
  rw [mergeSort_of_perm h2]
theorem sortN_len (ss : List ByteArray) : (sortN ss).length = ss.length := (sortN_perm ss).length_eq

theorem sort_nil {w : World} {c : Nat} : CallR Tryz.prog 96 [.slice none 0 c] w fun v w' => v = .tuple #[] ∧ w' = w := by
  refine C96 ?_
  unfold L96
  have hlen := lenBits 0 w (by omega)
  refine Calls.mono (hlen : Calls Tryz.prog 193 #[.int .u64 ((0 : Nat) : Int)] w _) ?_
  rintro e w1 ⟨rfl, rfl⟩
  refine ⟨_, rfl, _, rfl, C192 ?_⟩
  unfold L192
  refine ⟨fun vs w' => w' = w1 ∧ ∃ n b1 b2, vs = [.int .i64 0, .int .i64 0, .int .i64 n, .bool b1, .bool b2], fun _ _ => 0, ⟨rfl, _, _, _, rfl⟩, ?_⟩
  rintro _ n7 n8 n9 b10 b11 w2 ⟨rfl, n, b1, b2, hv⟩
  simp only [List.cons.injEq, Value.int.injEq, true_and, and_true] at hv
  obtain ⟨rfl, rfl, _⟩ := hv
  refine ⟨⟨by decide, by decide⟩, condTr2 (C234 ?_)⟩
  unfold L234
  refine ⟨⟨by decide, by decide⟩, fun vs w' => w' = w2 ∧ vs = [.int .i64 1], fun _ _ => 0, ⟨rfl, rfl⟩, ?_⟩
  rintro _ n6 w3 ⟨rfl, hv⟩
  simp only [List.cons.injEq, Value.int.injEq, true_and, and_true] at hv
  subst hv
  exact condFa2 ⟨rfl, rfl, rfl, rfl⟩

/-- The sort of names. -/
theorem sort_ok {w : World} {a : Option Addr} {l c : Nat} {ss : List ByteArray} (h : SlO 1 w a l c (Sv ss)) (hl : l < 4611686018427387904) :
    CallR Tryz.prog 96 [.slice a l c] w fun v w' => v = .tuple #[] ∧ RdS 1 w' a l c (Sv (sortN ss)) ∧ Kept (inA a) w w' := by
  have hlen : ss.length = l := by have := h.1; rw [Sv_len] at this; omega
  rcases h.2 with ⟨rfl, rfl, rfl⟩ | ⟨g, off, cur, rfl, hb, hlc, hcs, htk⟩
  · refine CallR.mono sort_nil ?_
    rintro v w' ⟨rfl, rfl⟩
    have : ss = [] := List.eq_nil_of_length_eq_zero hlen
    subst this
    have e : sortN [] = [] := List.eq_nil_of_length_eq_zero (by rw [sortN_len]; rfl)
    rw [e]
    exact ⟨rfl, RdS.nil 1 _, Kept.refl _ _⟩
  · have hdl : (dataL ss).length = l := by unfold dataL; rw [List.length_map, hlen]
    have henc : ∀ j, j < l → w.cell? ⟨g, off + j, none⟩ = (Sv ss)[j]? := fun j hj => by
      rw [hb.cell, ← htk, List.getElem?_take, if_pos (by omega), List.getElem?_drop]
      simp
    have hH : Holds encStr w g off (dataL ss).toArray := by
      intro j hj
      have hj' : j < ss.length := by have : j < (dataL ss).length := by simpa using hj
                                     omega
      refine ⟨?_, hb.frozen _⟩
      rw [henc j (by omega)]
      unfold Sv dataL
      simp [hj']
    have hs := sortStr g off c (dataL ss) w hH hb.lt (by omega)
    rw [hdl] at hs
    have hs : Calls Tryz.prog 96 #[.slice (some ⟨g, off, none⟩) l c] w _ := hs
    refine Calls.mono hs ?_
    rintro e w' ⟨rfl, n, os, rfl⟩
    have hml : ((dataL ss).mergeSort fun x y => decide (x ≤ y)).length = l := by rw [List.length_mergeSort, hdl]
    have hms : Sv (sortN ss) = ((dataL ss).mergeSort fun x y => decide (x ≤ y)).map encStr := by
      unfold Sv sortN strL
      rw [List.map_map]
      rfl
    generalize hT : ((dataL ss).mergeSort fun x y => decide (x ≤ y)) = T at hml hms
    refine ⟨_, rfl, rfl, ⟨by rw [hms, List.length_map, hml]; omega, hlc, (fun h => by cases h), fun ad had i v hi => ?_⟩, ?_⟩
    · cases had
      rw [add_none]
      have hil : i < T.length := by
        have := (List.getElem?_eq_some_iff.1 hi).1
        rw [hms, List.length_map] at this; exact this
      rw [cell?_grow _ _ _ (by simpa using hb.lt), putRow_ahead, cell?_ahead, cell?_putRow encStr w g off (dataL ss).toArray T.toArray hH (by simp [hml, hdl]) i (by simpa using hil)]
      rw [hms] at hi
      rw [List.getElem?_map, List.getElem?_eq_getElem hil] at hi
      simp only [Option.map_some, Option.some.injEq] at hi
      rw [← hi]
      simp [hil]
    · refine ⟨rfl, rfl, rfl, by simp, fun k hk hne => ?_⟩
      rw [heap_grow_old _ _ (by simpa using hk)]
      have : g ≠ k := fun e => hne ((inA_some _ _ _ _).2 e.symm)
      simp [putRow, mapBlock, Sort.ahead, Array.getElem?_modify, this]

/-! ## A kernel's files as a value -/

def dataO : AObj → List Int
  | .file bs => bs
  | _ => []

/-- Pairs of a list of names: what is found under each name. -/
def AK.bytesOf (s : AK) (nm : ByteArray) : List Int := match s.fileOf nm with
  | some f => dataO (s.objs f.2)
  | none => []

/-- All files: their names, rising, and their bytes. -/
def AK.filesV (s : AK) : List (ByteArray × List Int) := (sortN (s.files.map (·.1))).map fun nm => (nm, s.bytesOf nm)

theorem AK.fileOf_mem {s : AK} (h : s.Ok) {f : ByteArray × Nat} (hf : f ∈ s.files) : s.fileOf f.1 = some f := by
  unfold AK.fileOf
  cases hd : s.files.find? (fun g => decide (g.1 = f.1)) with
  | none =>
    rw [List.find?_eq_none] at hd
    have := hd f hf
    simp at this
  | some g =>
    have hg := List.mem_of_find?_eq_some hd
    have hn : g.1 = f.1 := by simpa using List.find?_some hd
    obtain ⟨i, hi, rfl⟩ := List.mem_iff_getElem.1 hf
    obtain ⟨j, hj, rfl⟩ := List.mem_iff_getElem.1 hg
    have : (s.files.map (·.1))[j]'(by simpa using hj) = (s.files.map (·.1))[i]'(by simpa using hi) := by rw [List.getElem_map, List.getElem_map]; exact hn
    have := (List.getElem_inj h.fn).1 this
    subst this
    rfl

theorem AK.filesV_len (s : AK) : s.filesV.length = s.files.length := by
  unfold AK.filesV; rw [List.length_map, sortN_len, List.length_map]

end Go.Proofs.YtkjmlbplmffekaaGreat
