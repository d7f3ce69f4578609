/-
  The library's sort of names, over a slice that is owned; a kernel's files as a value, sorted by name. Conditions: as each says.
  All of a kernel's files: what is answered is the caller's. Conditions: as each says.
  Whether named files, and faults, are the same; a kernel's faults that are left, its counts, its screens; a handle's seek. Conditions: as each says.
  Two views of a kernel's files; two kernels of one value, apart from each other; what a seek counts. Conditions: as each says.
-/
import Derived.Test.YtpoaacnnhgebfaaGreatSrt
import Derived.Test.YtpoaacnnhgebfaaGreatLRt
import Derived.Test.YtpoaacnnhgebfaaGreatKeP
import Derived.Sort.KeysCollected
import Derived.Sort.OwnSorted
import Derived.Test.YtpoaacnnhgebfaaGreatMpR
import Derived.Laws.StructEq
set_option linter.unusedVariables false
namespace Go.Proofs.YtpoaacnnhgebfaaGreat
open Go.Lw Go.Sort

def Sv (ss : List ByteArray) : List Value := ss.map .string
theorem Sv_one (ss : List ByteArray) : ∀ u ∈ Sv ss, u.oneCell' = true := by
  intro u hu; unfold Sv at hu; rw [List.mem_map] at hu; obtain ⟨n, _, rfl⟩ := hu; rfl
theorem Sv_len (ss : List ByteArray) : (Sv ss).length = ss.length := by unfold Sv; rw [List.length_map]

def dataL (ss : List ByteArray) : List (List UInt8) := ss.map (·.data.toList)
def strL (ls : List (List UInt8)) : List ByteArray := ls.map fun x => ⟨x.toArray⟩
theorem strL_dataL (ss : List ByteArray) : strL (dataL ss) = ss := by
  unfold strL dataL
  rw [List.map_map]
  conv => rhs; rw [← List.map_id ss]
  apply List.map_congr_left
  intro x _
  show (⟨x.data.toList.toArray⟩ : ByteArray) = x
  rfl

/-- Names, sorted. -/
def sortN (ss : List ByteArray) : List ByteArray := strL ((dataL ss).mergeSort leB)

theorem sortN_perm (ss : List ByteArray) : (sortN ss).Perm ss := by
  have := (List.mergeSort_perm (dataL ss) leB).map fun x => (⟨x.toArray⟩ : ByteArray)
  unfold sortN
  have e : strL (dataL ss) = ss := strL_dataL ss
  unfold strL at e ⊢
  rw [e] at this
  exact this
theorem sortN_of_perm {ss ts : List ByteArray} (h : ss.Perm ts) : sortN ss = sortN ts := by
  unfold sortN
  have h2 : (dataL ss).Perm (dataL ts) := h.map _
  rw [mergeSort_of_perm h2]
theorem sortN_len (ss : List ByteArray) : (sortN ss).length = ss.length := (sortN_perm ss).length_eq

theorem sort_nil {w : World} {c : Nat} : CallR Tryz.prog 180 [.slice none 0 c] w fun v w' => v = .tuple #[] ∧ w' = w := by
  refine C180 ?_
  unfold L180
  have hlen := lenBits 0 w (by omega)
  refine Calls.mono (hlen : Calls Tryz.prog 207 #[.int .u64 ((0 : Nat) : Int)] w _) ?_
  rintro e w1 ⟨rfl, rfl⟩
  refine ⟨_, rfl, _, rfl, C206 ?_⟩
  unfold L206
  refine ⟨fun vs w' => w' = w1 ∧ ∃ n b1 b2, vs = [.int .i64 0, .int .i64 0, .int .i64 n, .bool b1, .bool b2], fun _ _ => 0, ⟨rfl, _, _, _, rfl⟩, ?_⟩
  rintro _ n7 n8 n9 b10 b11 w2 ⟨rfl, n, b1, b2, hv⟩
  simp only [List.cons.injEq, Value.int.injEq, true_and, and_true] at hv
  obtain ⟨rfl, rfl, _⟩ := hv
  refine ⟨⟨by decide, by decide⟩, condTr2 (C211 ?_)⟩
  unfold L211
  refine ⟨⟨by decide, by decide⟩, fun vs w' => w' = w2 ∧ vs = [.int .i64 1], fun _ _ => 0, ⟨rfl, rfl⟩, ?_⟩
  rintro _ n6 w3 ⟨rfl, hv⟩
  simp only [List.cons.injEq, Value.int.injEq, true_and, and_true] at hv
  subst hv
  exact condFa2 ⟨rfl, rfl, rfl, rfl⟩

/-- The sort of names. -/
theorem sort_ok {w : World} {a : Option Addr} {l c : Nat} {ss : List ByteArray} (h : SlO 1 w a l c (Sv ss)) (hl : l < 4611686018427387904) :
    CallR Tryz.prog 180 [.slice a l c] w fun v w' => v = .tuple #[] ∧ RdS 1 w' a l c (Sv (sortN ss)) ∧ Kept (inA a) w w' := by
  have hlen : ss.length = l := by have := h.1; rw [Sv_len] at this; omega
  rcases h.2 with ⟨rfl, rfl, rfl⟩ | ⟨g, off, cur, rfl, hb, hlc, hcs, htk⟩
  · refine CallR.mono sort_nil ?_
    rintro v w' ⟨rfl, rfl⟩
    have : ss = [] := List.eq_nil_of_length_eq_zero hlen
    subst this
    have e : sortN [] = [] := List.eq_nil_of_length_eq_zero (by rw [sortN_len]; rfl)
    rw [e]
    exact ⟨rfl, RdS.nil 1 _, Kept.refl _ _⟩
  · have hdl : (dataL ss).length = l := by unfold dataL; rw [List.length_map, hlen]
    have henc : ∀ j, j < l → w.cell? ⟨g, off + j, none⟩ = (Sv ss)[j]? := fun j hj => by
      rw [hb.cell, ← htk, List.getElem?_take, if_pos (by omega), List.getElem?_drop]
      simp
    have hH : Holds encStr w g off (dataL ss).toArray := by
      intro j hj
      have hj' : j < ss.length := by have : j < (dataL ss).length := by simpa using hj
                                     omega
      refine ⟨?_, hb.frozen _⟩
      rw [henc j (by omega)]
      unfold Sv dataL
      simp [hj']
    have hs := sortStr g off c (dataL ss) w hH hb.lt (by omega)
    rw [hdl] at hs
    have hs : Calls Tryz.prog 180 #[.slice (some ⟨g, off, none⟩) l c] w _ := hs
    refine Calls.mono hs ?_
    rintro e w' ⟨rfl, n, os, rfl⟩
    have hml : ((dataL ss).mergeSort fun x y => decide (x ≤ y)).length = l := by rw [List.length_mergeSort, hdl]
    have hms : Sv (sortN ss) = ((dataL ss).mergeSort fun x y => decide (x ≤ y)).map encStr := by
      unfold Sv sortN strL
      rw [List.map_map]
      rfl
    generalize hT : ((dataL ss).mergeSort fun x y => decide (x ≤ y)) = T at hml hms
    refine ⟨_, rfl, rfl, ⟨by rw [hms, List.length_map, hml]; omega, hlc, (fun h => by cases h), fun ad had i v hi => ?_⟩, ?_⟩
    · cases had
      rw [add_none]
      have hil : i < T.length := by
        have := (List.getElem?_eq_some_iff.1 hi).1
        rw [hms, List.length_map] at this; exact this
      rw [cell?_grow _ _ _ (by simpa using hb.lt), putRow_ahead, cell?_ahead, cell?_putRow encStr w g off (dataL ss).toArray T.toArray hH (by simp [hml, hdl]) i (by simpa using hil)]
      rw [hms] at hi
      rw [List.getElem?_map, List.getElem?_eq_getElem hil] at hi
      simp only [Option.map_some, Option.some.injEq] at hi
      rw [← hi]
      simp [hil]
    · refine ⟨rfl, rfl, rfl, by simp, fun k hk hne => ?_⟩
      rw [heap_grow_old _ _ (by simpa using hk)]
      have : g ≠ k := fun e => hne ((inA_some _ _ _ _).2 e.symm)
      simp [putRow, mapBlock, Sort.ahead, Array.getElem?_modify, this]

/-! ## A kernel's files as a value -/

def dataO : AObj → List Int
  | .file bs => bs
  | _ => []

/-- Pairs of a list of names: what is found under each name. -/
def AK.bytesOf (s : AK) (nm : ByteArray) : List Int := match s.fileOf nm with
  | some f => dataO (s.objs f.2)
  | none => []

/-- All files: their names, rising, and their bytes. -/
def AK.filesV (s : AK) : List (ByteArray × List Int) := (sortN (s.files.map (·.1))).map fun nm => (nm, s.bytesOf nm)

theorem AK.fileOf_mem {s : AK} (h : s.Ok) {f : ByteArray × Nat} (hf : f ∈ s.files) : s.fileOf f.1 = some f := by
  unfold AK.fileOf
  cases hd : s.files.find? (fun g => decide (g.1 = f.1)) with
  | none =>
    rw [List.find?_eq_none] at hd
    have := hd f hf
    simp at this
  | some g =>
    have hg := List.mem_of_find?_eq_some hd
    have hn : g.1 = f.1 := by simpa using List.find?_some hd
    obtain ⟨i, hi, rfl⟩ := List.mem_iff_getElem.1 hf
    obtain ⟨j, hj, rfl⟩ := List.mem_iff_getElem.1 hg
    have : (s.files.map (·.1))[j]'(by simpa using hj) = (s.files.map (·.1))[i]'(by simpa using hi) := by rw [List.getElem_map, List.getElem_map]; exact hn
    have := (List.getElem_inj h.fn).1 this
    subst this
    rfl

theorem AK.termOf_mem {s : AK} (h : (s.terms.map (·.1)).Nodup) {f : ByteArray × Nat} (hf : f ∈ s.terms) : s.termOf f.1 = some f := by
  unfold AK.termOf
  cases hd : s.terms.find? (fun g => decide (g.1 = f.1)) with
  | none =>
    rw [List.find?_eq_none] at hd
    have := hd f hf
    simp at this
  | some g =>
    have hg := List.mem_of_find?_eq_some hd
    have hn : g.1 = f.1 := by simpa using List.find?_some hd
    obtain ⟨i, hi, rfl⟩ := List.mem_iff_getElem.1 hf
    obtain ⟨j, hj, rfl⟩ := List.mem_iff_getElem.1 hg
    have : (s.terms.map (·.1))[j]'(by simpa using hj) = (s.terms.map (·.1))[i]'(by simpa using hi) := by rw [List.getElem_map, List.getElem_map]; exact hn
    have := (List.getElem_inj h).1 this
    subst this
    rfl

theorem AK.filesV_len (s : AK) : s.filesV.length = s.files.length := by
  unfold AK.filesV; rw [List.length_map, sortN_len, List.length_map]

end Go.Proofs.YtpoaacnnhgebfaaGreat

namespace Go.Proofs.YtpoaacnnhgebfaaGreat
open Go.Lw

theorem Nv_one' (es : List (ByteArray × Slc)) : ∀ u ∈ Nv es, u.oneCell' = true := by
  intro u hu
  simp only [Nv, List.mem_flatMap, List.mem_cons, List.not_mem_nil, or_false] at hu
  obtain ⟨f, _, h | h⟩ := hu
  · subst h; rfl
  · subst h; rfl
theorem Nv_app' (a b : List (ByteArray × Slc)) : Nv (a ++ b) = Nv a ++ Nv b := by simp [Nv]

/-- Named bytes that are owned: new since w0, each in memory of its own. -/
structure OwnN (w0 w : World) (a : Option Addr) (l c : Nat) (fs : List (ByteArray × List Int)) (es : List (ByteArray × Slc)) : Prop where
  sl : SlO 2 w a l c (Nv es)
  len : es.length = fs.length
  each : ∀ i, (h : i < es.length) → (h2 : i < fs.length) → es[i].1 = fs[i].1 ∧ OB w es[i].2.1 es[i].2.2.1 es[i].2.2.2 fs[i].2
  fr : ∀ b, inA a b → w0.heap.size ≤ b
  fe : ∀ i, (h : i < es.length) → ∀ b, inA es[i].2.1 b → w0.heap.size ≤ b ∧ ¬ inA a b
  ap : ∀ i j, (hi : i < es.length) → (hj : j < es.length) → i ≠ j → ∀ b, inA es[i].2.1 b → ¬ inA es[j].2.1 b

theorem OwnN.rd {w0 w : World} {a : Option Addr} {l c : Nat} {fs : List (ByteArray × List Int)} {es : List (ByteArray × Slc)} (h : OwnN w0 w a l c fs es) : RdN RB w a l c fs es :=
  ⟨h.sl.rd, h.len, fun i h1 h2 => ⟨(h.each i h1 h2).1, (h.each i h1 h2).2.rd⟩⟩

theorem OwnN.keep {w0 w w' : World} {a : Option Addr} {l c : Nat} {fs : List (ByteArray × List Int)} {es : List (ByteArray × Slc)} (h : OwnN w0 w a l c fs es) {S : Nat → Prop} (k : Kept S w w') (hn : ∀ b, w0.heap.size ≤ b → b < w.heap.size → ¬ S b) : OwnN w0 w' a l c fs es :=
  ⟨h.sl.keep k fun b hb => hn b (h.fr b hb) (SlO.lt h.sl b hb), h.len, fun i h1 h2 => ⟨(h.each i h1 h2).1, (h.each i h1 h2).2.keep k fun b hb => hn b (h.fe i h1 b hb).1 (SlO.lt (h.each i h1 h2).2 b hb)⟩, h.fr, h.fe, h.ap⟩

theorem OwnN.no {w0 w w' : World} {a : Option Addr} {l c : Nat} {fs : List (ByteArray × List Int)} {es : List (ByteArray × Slc)} (h : OwnN w0 w a l c fs es) (k : Kept No w w') : OwnN w0 w' a l c fs es := h.keep k fun _ _ _ e => e

theorem AK.mF_mem {s : AK} {L : KL} {f : ByteArray × Nat} (hf : f ∈ s.files) : ((.string f.1, pd (L.loc f.2)) : Value × Value) ∈ s.mF L := List.mem_map.2 ⟨f, hf, rfl⟩

set_option maxHeartbeats 2000000 in
theorem kernFiles_ok {w : World} {gk : Nat} {s : AK} {L : KL} (h : KernO w gk s L) :
    CallR Tryz.prog 76 [pd gk] w fun v w' => ∃ a l c es, v = .slice a l c ∧ OwnN w w' a l c s.filesV es ∧ Kept No w w' := by
  refine C76 ?_
  unfold L76
  have hTm : Tryz.prog.underlying 112 = some (.map 9 123) := by kernel_rfl
  have hTs : Tryz.prog.underlying 9 = some .string := by kernel_rfl
  refine enone_to h ⟨false, rfl, condF rfl (nnI ⟨_, h.blk.at (i := 1) rfl, ?_⟩)⟩
  obtain ⟨w2, hrun2, hr2, hk2, hz2⟩ := range_map (P := Tryz.prog) hTm h.mf
  refine ⟨w2, hrun2, ?_⟩
  have hfl := h.ok.fl
  have hLF := h.lt L.rf (by rw [h.oF]; simp)
  obtain ⟨I, hI⟩ : ∃ I : List Value → World → Prop, I = fun vs w' => ∃ (a : Option Addr) (c : Nat) (done : List ByteArray) (lf : List (ByteArray × Nat)), vs = [.slice a done.length c] ∧ RngO w' L.rf w.heap.size .string (s.mF L) (lf.map fun f => (.string f.1, pd (L.loc f.2))) ∧
    SlO 1 w' a done.length c (Sv done) ∧ (∀ b, inA a b → w.heap.size < b) ∧ (done ++ lf.map (·.1)).Perm (s.files.map (·.1)) ∧ Kept No w w' := ⟨_, rfl⟩
  obtain ⟨mu, hmu⟩ : ∃ mu : List Value → World → Nat, mu = fun vs _ => match vs with | [.slice _ l _] => s.files.length - l | _ => 0 := ⟨_, rfl⟩
  refine ⟨I, mu, by rw [hI]; exact ⟨none, 0, [], s.files, rfl, hr2, SlO.nil 1 _, fun b hb => absurd hb (inA_none b), by simp, hk2⟩, ?_⟩
  rintro _ a8 l8 c8 w3 hInv
  rw [hI] at hInv
  obtain ⟨a, c, done, lf, hvs, hr3, hs3, hf3, hp3, hk3⟩ := hInv
  simp only [List.cons.injEq, Value.slice.injEq, and_true] at hvs
  obtain ⟨rfl, rfl, rfl⟩ := hvs
  have hcount : done.length + lf.length = s.files.length := by have := hp3.length_eq; simpa using this
  rcases next_map (P := Tryz.prog) hr3 0 with ⟨hl, hrun⟩ | ⟨p, l1, l2, w5, hl, hpm, hrun, hr5, hk5, hz5, hent⟩
  · left
    have hlf : lf = [] := List.map_eq_nil_iff.1 hl
    subst hlf
    have hp3 : done.Perm (s.files.map (·.1)) := by simpa using hp3
    refine ⟨w3, hrun, CallR.mono (sort_ok hs3 (by omega)) ?_⟩
    rintro v w6 ⟨rfl, hrd6, hk6⟩
    rw [sortN_of_perm hp3] at hrd6
    have k6 : Kept No w w6 := hk3.fresh hk6 fun x hx => by have := hf3 x hx; omega
    have h6 := h.no k6
    have hNl : (sortN (s.files.map (·.1))).length = done.length := by rw [sortN_len, ← hp3.length_eq]
    have hfv : s.filesV.length = done.length := by rw [AK.filesV_len]; simpa using hcount.symm
    refine ⟨rfl, ?_⟩
    obtain ⟨I2, hI2⟩ : ∃ I : List Value → World → Prop, I = fun vs w' => ∃ (i : Nat) (a' : Option Addr) (c' : Nat) (es : List (ByteArray × Slc)), vs = [.slice a' i c', .int .i64 (i : Int)] ∧ i ≤ done.length ∧ OwnN w6 w' a' i c' (s.filesV.take i) es ∧ Kept No w6 w' := ⟨_, rfl⟩
    obtain ⟨mu2, hmu2⟩ : ∃ mu : List Value → World → Nat, mu = fun vs _ => match vs with | [_, .int _ i] => done.length - i.toNat | _ => 0 := ⟨_, rfl⟩
    refine ⟨I2, mu2, by
      rw [hI2]
      exact ⟨0, none, 0, [], rfl, Nat.zero_le _, ⟨SlO.nil 2 _, by simp, fun i h1 => by simp at h1, fun b hb => absurd hb (inA_none b), fun i h1 => by simp at h1, fun i j h1 => by simp at h1⟩, Kept.refl _ _⟩, ?_⟩
    rintro _ a14 l14 c14 n15 w7 hInv
    rw [hI2] at hInv
    obtain ⟨i, a', c', es, hvs, hi, hO, hk7⟩ := hInv
    simp only [List.cons.injEq, Value.slice.injEq, Value.int.injEq, true_and, and_true] at hvs
    obtain ⟨⟨rfl, rfl, rfl⟩, rfl⟩ := hvs
    have hesl : es.length = l14 := by rw [hO.len, List.length_take]; omega
    refine condP (fun hlt => ?_) (fun hge => ?_)
    · have hil : l14 < done.length := by omega
      have hN : l14 < (sortN (s.files.map (·.1))).length := by omega
      have hrd7 := hrd6.keep hk7 fun _ _ _ e => e
      have h7 := h6.no hk7
      obtain ⟨q, hq⟩ : ∃ q, a8 = some q := by
        cases ha : a8 with
        | none => have := RdS.isNone hrd7 ha; omega
        | some q => exact ⟨q, rfl⟩
      generalize hnm : (sortN (s.files.map (·.1)))[l14] = nm
      have hcell := hrd7.2.2.2 q hq l14 (.string nm) (by unfold Sv; rw [List.getElem?_map, List.getElem?_eq_getElem hN, hnm]; rfl)
      obtain ⟨f, hf, hfn⟩ : ∃ f ∈ s.files, f.1 = nm := by
        have : nm ∈ s.files.map (·.1) := (sortN_perm _).mem_iff.1 (by rw [← hnm]; exact List.getElem_mem hN)
        obtain ⟨f, hf, e⟩ := List.mem_map.1 this
        exact ⟨f, hf, e⟩
      have hfo := AK.fileOf_mem h.ok hf
      rw [hfn] at hfo
      have hfi := h.ok.fi f hf
      obtain ⟨bs, hob⟩ : ∃ bs, s.objs f.2 = .file bs := by
        cases ho : s.objs f.2 with
        | file bs => exact ⟨bs, rfl⟩
        | term LL scr => have := hfi.2; rw [ho] at this; cases this
        | pipe bs e0 e1 => have := hfi.2; rw [ho] at this; cases this
      have hby : s.bytesOf nm = bs := by unfold AK.bytesOf; rw [hfo]; dsimp only; rw [hob]; rfl
      have hfv1 : s.filesV.take (l14 + 1) = s.filesV.take l14 ++ [(nm, bs)] := by
        have hx : s.filesV[l14]? = some (nm, bs) := by
          unfold AK.filesV
          rw [List.getElem?_map, List.getElem?_eq_getElem hN, hnm]
          show some (nm, s.bytesOf nm) = _
          rw [hby]
        rw [List.take_add_one, hx]
        rfl
      have hF := h7.ob f.2 hfi.1
      rw [hob] at hF
      have hF : FileO _ w7 (L.loc f.2) bs := hF
      refine ⟨⟨by omega, by omega⟩, nnE2 hq ⟨nm, by rw [Int.toNat_natCast]; exact hcell, nnI ⟨_, h7.blk.at (i := 1) rfl, some ⟨L.loc f.2, 0, none⟩, w7, ?_, ?_⟩⟩⟩
      · have := lookup_in (P := Tryz.prog) hTm hTs h7.mf (k := .string nm) trivial (by have := AK.mF_mem (L := L) hf; rw [hfn] at this; exact this) false
        exact this
      refine CallR.mono (bytes_ok hF) ?_
      rintro v w9 ⟨a21, c21, rfl, ob9, hf9, hk9⟩
      refine ⟨_, _, _, rfl, ?_⟩
      intro w10
      have hk10 : Kept No w9 w10 := Kept.alloc _ _ _
      have hz10 : w10.heap.size = w9.heap.size + 1 := by simp [w10]
      have hnew : SlO 2 w10 (some ⟨w9.heap.size, 0, none⟩) 1 1 (Nv [(nm, (a21, bs.length, c21))]) := SlO.of_blk (sz := 2) (n := 1) (Blk.alloc w9 #[.string nm, .slice a21 bs.length c21] _) rfl
      clear_value w10
      have k710 := hk9.no hk10
      have hO10 := hO.no k710
      obtain ⟨a23, c23, w11, hrun11, hs11, hk11, hat, _⟩ := run_app_sl (P := Tryz.prog) (t := 22) (t2 := 22) (ty := 22) (by kernel_rfl : slTyB Tryz.prog 22 2 40 = true) (by kernel_rfl) hO10.sl hnew.rd (Nv_one' _) (by omega) (by omega)
      rw [← Nv_app'] at hs11
      have hob10 := ob9.keep hk10 fun _ _ e => e
      have hlt9 := SlO.lt ob9
      have hltA := SlO.lt hO.sl
      have hz7 := hk7.size
      have hz9 := hk9.size
      have hz11 := hk11.size
      have hin23 : ∀ b, inA a23 b → inA a14 b ∨ b = w10.heap.size := fun b hb => hat.in hb
      refine ⟨a23, _, c23, w11, hrun11, ⟨by omega, by omega⟩, by
        rw [hI2]
        refine ⟨l14 + 1, a23, c23, es ++ [(nm, (a21, bs.length, c21))], rfl, by omega, ⟨hs11, by rw [hfv1, List.length_append, List.length_append, hO.len]; rfl, fun j h1 h2 => ?_, fun b hb => ?_, fun j h1 b hb => ?_, fun j k h1 h2 hjk b hb hb2 => ?_⟩, (hk7.no k710).fresh hk11 fun x hx => hO.fr x hx⟩
        · by_cases hj : j < es.length
          · have hj2 : j < (s.filesV.take l14).length := by rw [← hO.len]; exact hj
            have e1 : (s.filesV.take (l14 + 1))[j] = (s.filesV.take l14)[j] := by
              simp only [hfv1]
              rw [List.getElem_append_left hj2]
            rw [List.getElem_append_left hj, e1]
            obtain ⟨g1, g2⟩ := hO10.each j hj hj2
            exact ⟨g1, g2.keep hk11 fun b hb e => (hO.fe j hj b hb).2 e⟩
          · have hje : j = l14 := by simp at h1; omega
            subst hje
            have e1 : (s.filesV.take (j + 1))[j] = (nm, bs) := by
              simp only [hfv1]
              rw [List.getElem_append_right (by rw [← hO.len]; omega)]
              simp [← hO.len, hesl]
            rw [List.getElem_append_right (by omega), e1]
            simp only [hesl, Nat.sub_self, List.getElem_cons_zero]
            exact ⟨trivial, hob10.keep hk11 fun b hb e => by have := hf9 b hb; have := hltA b e; omega⟩
        · rcases hin23 b hb with e | e
          · exact hO.fr b e
          · omega
        · by_cases hj : j < es.length
          · rw [List.getElem_append_left hj] at hb
            obtain ⟨g1, g2⟩ := hO.fe j hj b hb
            refine ⟨g1, fun e => ?_⟩
            rcases hin23 b e with e | e
            · exact g2 e
            · have hj2 : j < (s.filesV.take l14).length := by rw [← hO.len]; exact hj
              have := SlO.lt (hO.each j hj hj2).2 b hb
              omega
          · have hje : j = l14 := by simp at h1; omega
            subst hje
            rw [List.getElem_append_right (by omega)] at hb
            simp only [hesl, Nat.sub_self, List.getElem_cons_zero] at hb
            have := hf9 b hb
            refine ⟨by omega, fun e => ?_⟩
            rcases hin23 b e with e | e
            · have := hltA b e; omega
            · have := hlt9 b hb; omega
        · have old : ∀ {m : Nat} (hm : m < es.length), inA es[m].2.1 b → b < w7.heap.size := fun {m} hm hb => by
            have hm2 : m < (s.filesV.take l14).length := by rw [← hO.len]; exact hm
            exact SlO.lt (hO.each m hm hm2).2 b hb
          by_cases hj : j < es.length
          · by_cases hk : k < es.length
            · rw [List.getElem_append_left hj] at hb
              rw [List.getElem_append_left hk] at hb2
              exact hO.ap j k hj hk hjk b hb hb2
            · have hke : k = l14 := by simp at h2; omega
              subst hke
              rw [List.getElem_append_left hj] at hb
              rw [List.getElem_append_right (by omega)] at hb2
              simp only [hesl, Nat.sub_self, List.getElem_cons_zero] at hb2
              have := old hj hb
              have := hf9 b hb2
              omega
          · have hje : j = l14 := by simp at h1; omega
            by_cases hk : k < es.length
            · subst hje
              rw [List.getElem_append_left hk] at hb2
              rw [List.getElem_append_right (by omega)] at hb
              simp only [hesl, Nat.sub_self, List.getElem_cons_zero] at hb
              have := old hk hb2
              have := hf9 b hb
              omega
            · have hke : k = l14 := by simp at h2; omega
              omega, ?_⟩
      rw [hmu2]
      show done.length - ((l14 : Int) + 1).toNat < done.length - (l14 : Int).toNat
      omega
    · have hle : l14 = done.length := by omega
      have htk : s.filesV.take l14 = s.filesV := List.take_of_length_le (by omega)
      rw [htk] at hO
      refine ⟨_, _, _, es, rfl, ⟨hO.sl, hO.len, hO.each, fun b hb => ?_, fun j h1 b hb => ?_, hO.ap⟩, k6.no hk7⟩
      · have := hO.fr b hb; have := k6.size; omega
      · obtain ⟨g1, g2⟩ := hO.fe j h1 b hb
        exact ⟨by have := k6.size; omega, g2⟩
  · right
    obtain ⟨lf1, f, lf2, rfl, e1, rfl, e2⟩ : ∃ lf1 f lf2, lf = lf1 ++ f :: lf2 ∧ l1 = lf1.map (fun f => ((.string f.1, pd (L.loc f.2)) : Value × Value)) ∧ p = (.string f.1, pd (L.loc f.2)) ∧ l2 = lf2.map (fun f => ((.string f.1, pd (L.loc f.2)) : Value × Value)) := by
      obtain ⟨x1, x2, e1, e2, e3⟩ := List.map_eq_append_iff.1 hl
      obtain ⟨f, x3, e4, e5, e6⟩ := List.map_eq_cons_iff.1 e3
      exact ⟨x1, f, x3, by rw [e1, e4], e2.symm, e5.symm, e6.symm⟩
    rw [e1, e2, ← List.map_append] at hr5
    refine ⟨_, _, w5, hrun, f.1, _, w5, hent, ?_⟩
    intro w13
    have hk13 : Kept No w5 w13 := Kept.alloc _ _ _
    have hz13 : w13.heap.size = w5.heap.size + 1 := by simp [w13]
    have hnew : SlO 1 w13 (some ⟨w5.heap.size, 0, none⟩) 1 1 (Sv [f.1]) := SlO.of_blk (sz := 1) (n := 1) (Blk.alloc w5 #[.string f.1] _) rfl
    clear_value w13
    have hit : w.heap.size < w3.heap.size := hr3.lt
    have hs13 := (hs3.keep hk5 fun b hb e => by have := hf3 b hb; omega).keep hk13 fun _ _ e => e
    obtain ⟨a26, c26, w14, hrun14, hs14, hk14, hat, _⟩ := run_app_sl (P := Tryz.prog) (t := 131) (t2 := 131) (ty := 131) (by kernel_rfl : slTyB Tryz.prog 131 1 16 = true) (by kernel_rfl) hs13 hnew.rd (Sv_one _) (by omega) (by omega)
    have hsv : Sv done ++ Sv [f.1] = Sv (done ++ [f.1]) := by simp [Sv]
    rw [hsv] at hs14
    have hdl : done.length + 1 = (done ++ [f.1]).length := by simp
    have hin26 : ∀ b, inA a26 b → w.heap.size < b := fun b hb => by
      rcases hat.in hb with e | e
      · exact hf3 b e
      · omega
    have k5 : Kept No w w5 := hk3.fresh hk5 fun x e => by omega
    refine ⟨a26, _, c26, w14, hrun14, ?_, ?_⟩
    · rw [hI, hdl]
      refine ⟨a26, c26, done ++ [f.1], lf1 ++ lf2, rfl, (hr5.keep hk13 (fun e => e) fun e => e).keep hk14 (fun e => ?_) fun e => ?_, by rw [← hdl]; exact hs14, hin26, ?_, (k5.no hk13).fresh hk14 fun x e => by have := hf3 x e; omega⟩
      · have := hf3 _ e; omega
      · have := hf3 _ e; omega
      · refine List.Perm.trans ?_ hp3
        simp only [List.map_append, List.map_cons, List.append_assoc, List.singleton_append]
        refine List.Perm.append_left _ ?_
        exact (List.perm_middle (l₁ := lf1.map (·.1))).symm
    · rw [hmu]
      show s.files.length - (done.length + 1) < s.files.length - done.length
      have : (lf1 ++ f :: lf2).length = lf1.length + (lf2.length + 1) := by simp
      omega

end Go.Proofs.YtpoaacnnhgebfaaGreat

namespace Go.Proofs.YtpoaacnnhgebfaaGreat
open Go.Lw

theorem strEq (a b : ByteArray) : (ByteArray.toList a == ByteArray.toList b) = decide (a = b) := by
  rw [ByteArray.toList_eq, ByteArray.toList_eq]
  by_cases h : a = b
  · subst h; simp
  · rw [decide_eq_false h]
    have : ¬ a.data.toList = b.data.toList := fun e => h (by
      cases a; cases b
      simp only at e
      rw [Array.toList_inj.1 e])
    simpa using this

theorem sameNamed_ok {w : World} {a : Option Addr} {l c : Nat} {fs : List (ByteArray × List Int)} {es : List (ByteArray × Slc)} (h : RdN RB w a l c fs es) {a2 : Option Addr} {l2 c2 : Nat} {gs : List (ByteArray × List Int)} {es2 : List (ByteArray × Slc)} (h2 : RdN RB w a2 l2 c2 gs es2)
    (hl : l ≤ 140737488355328) (hb : ∀ f ∈ fs, f.2.length ≤ 140737488355328) :
    CallR Tryz.prog 75 [.slice a l c, .slice a2 l2 c2] w fun v w' => v = .bool (decide (fs = gs)) ∧ Kept No w w' := by
  have hfl : fs.length = l := by have := h.rd.1; rw [Nv_len, h.len] at this; omega
  have hgl : gs.length = l2 := by have := h2.rd.1; rw [Nv_len, h2.len] at this; omega
  refine C75 ?_
  unfold L75
  refine condI (fun hne => ⟨?_, Kept.refl _ _⟩) (fun heq => ?_)
  · have hne : l ≠ l2 := by simp at hne; omega
    rw [decide_eq_false]
    rintro rfl
    omega
  · have hll : l = l2 := by simp at heq; omega
    subst hll
    refine ⟨fun vs w' => ∃ n : Nat, vs = [.int .i64 (n : Int)] ∧ n ≤ l ∧ fs.take n = gs.take n ∧ Kept No w w', fun vs _ => l - ix vs, ⟨0, rfl, Nat.zero_le _, by simp, Kept.refl _ _⟩, ?_⟩
    rintro _ n5 w1 ⟨n, hv, hn, htk, hk⟩
    simp only [List.cons.injEq, Value.int.injEq, true_and, and_true] at hv
    subst hv
    refine condP (fun hlt => ?_) (fun hge => ?_)
    · intro w2
      have hk2 : Kept No w w2 := hk.no (Kept.drew _ _)
      clear_value w2
      have hx : n < fs.length := by omega
      have hy : n < gs.length := by omega
      obtain ⟨q, sl, haq, e1, e2, hR, _⟩ := (h.no (fun _ _ _ _ h k => h.no k) hk2).at hx
      obtain ⟨q2, sl2, haq2, e3, e4, hR2, _⟩ := (h2.no (fun _ _ _ _ h k => h.no k) hk2).at hy
      have e0 : Int.toNat (n : Int) = n := Int.toNat_natCast n
      rw [e0]
      have hr : 0 ≤ (n : Int) ∧ (n : Int) < ((l : Nat) : Int) := by omega
      have no : fs[n] ≠ gs[n] → ((.bool false : Value) = .bool (decide (fs = gs)) ∧ Kept No w w2) := fun hne => ⟨by
        rw [decide_eq_false]
        rintro rfl
        exact hne rfl, hk2⟩
      refine ⟨hr, nnE2 haq ⟨_, e1, hr, nnE2 haq2 ⟨_, e3, ?_⟩⟩⟩
      rw [strEq]
      by_cases hnm : fs[n].1 = gs[n].1
      · rw [decide_eq_true hnm]
        have hbl := hb fs[n] (List.getElem_mem hx)
        refine condFa2 ⟨hr, nnE2 haq ⟨_, _, _, e2, hr, nnE2 haq2 ⟨_, _, _, e4, CallR.mono (same_ok hR hR2 (by have := RdB.len hR; omega)) ?_⟩⟩⟩
        rintro v w3 ⟨rfl, hk3, _⟩
        refine ⟨_, rfl, ?_⟩
        by_cases hd : fs[n].2 = gs[n].2
        · rw [decide_eq_true hd]
          refine condFa2 ⟨⟨by omega, by omega⟩, ⟨n + 1, rfl, by omega, ?_, hk2.no hk3⟩, by simp only [ix]; omega⟩
          rw [List.take_add_one, List.take_add_one, htk, List.getElem?_eq_getElem hx, List.getElem?_eq_getElem hy, Prod.ext hnm hd]
        · rw [decide_eq_false hd]
          have := no fun e => hd (by rw [e])
          exact condTr2 ⟨this.1, hk2.no hk3⟩
      · rw [decide_eq_false hnm]
        exact condTr2 (no fun e => hnm (by rw [e]))
    · have : n = l := by omega
      subst this
      rw [List.take_of_length_le (by omega), List.take_of_length_le (by omega)] at htk
      exact ⟨by rw [decide_eq_true htk], hk⟩

theorem run_Bind' {α β : Type} {P : Program} (m : Sem α) (f : α → Sem β) (w : World) : Sem.run P (Sem.bind m f) w = (m.run P w).andThen fun a w' => (f a).run P w' := by
  have : Sem.bind m f = (m >>= f) := rfl
  rw [this, Sem.run_bind]

def intsB (P : Program) (n : Nat) : List Field → Nat → Bool
  | [], o => Nat.beq o n
  | f :: r, o => Nat.beq f.offset o && !(f.name == "_") && (match P.underlying f.type with | some (.int .i64) => true | _ => false) && intsB P n r (o + 1)

theorem eqfI {P : Program} {w : World} {m : Nat} {xs ys : Array Value} {X Y : Nat → Int} (hx : ∀ i, i < m → xs[i]? = some (.int .i64 (X i))) (hy : ∀ i, i < m → ys[i]? = some (.int .i64 (Y i))) (d : Nat) :
    ∀ (fs : List Field) (o : Nat), intsB P m fs o = true → (Op.eqFields (d + 1) xs ys fs).run P w = .ok ((List.range' o fs.length).all fun i => X i == Y i) w ∧ o + fs.length = m
  | [], o, h => by
    have := Nat.eq_of_beq_eq_true h
    subst this
    exact ⟨rfl, rfl⟩
  | f :: r, o, h => by
    unfold intsB at h
    simp only [Bool.and_eq_true] at h
    obtain ⟨⟨⟨h1, h2⟩, h3⟩, h4⟩ := h
    have ho : f.offset = o := Nat.eq_of_beq_eq_true h1
    have hn : f.name ≠ "_" := by simpa using h2
    have hu : P.underlying f.type = some (.int .i64) := by
      split at h3
      · assumption
      · cases h3
    obtain ⟨ih, hl⟩ := eqfI (w := w) hx hy d r (o + 1) h4
    have hlen : o + (f :: r).length = m := by simp; omega
    have ho8 : o < m := by simp at hlen; omega
    have hag : isAggB P f.type = false := by unfold isAggB; rw [hu]
    have px : (part f.type xs f.offset).run P w = .ok (.int .i64 (X o)) w := by
      unfold part
      simp only [Sem.run_bind, run_isAgg hu, hag, Result.andThen_ok, Bool.false_eq_true, if_false, ho, hx o ho8, Sem.run_pure]
    have py : (part f.type ys f.offset).run P w = .ok (.int .i64 (Y o)) w := by
      unfold part
      simp only [Sem.run_bind, run_isAgg hu, hag, Result.andThen_ok, Bool.false_eq_true, if_false, ho, hy o ho8, Sem.run_pure]
    refine ⟨?_, hlen⟩
    unfold Op.eqFields
    simp only [hn, ne_eq, not_false_eq_true, if_true, Sem.run_bind, px, py, Result.andThen_ok, run_equalIn_int w d f.type .i64 .i64 (X o) (Y o) hu]
    cases hxy : (X o == Y o) with
    | false => simp [List.range'_succ, hxy]
    | true => simp [List.range'_succ, hxy, ih]

theorem neFault {w : World} {x y : Operand} (f g : Int × Int) : Sem.run Tryz.prog (Sem.bind (eqGuard .neq 188 x y (.agg #[.int .i64 f.1, .int .i64 f.2]) (.agg #[.int .i64 g.1, .int .i64 g.2])) (fun _ => binOp .neq 188 (.agg #[.int .i64 f.1, .int .i64 f.2]) (.agg #[.int .i64 g.1, .int .i64 g.2]))) w = .ok (.bool (!decide (f = g))) w := by
  have h1 : Tryz.prog.eqGuardType Tryz.prog.depth 188 = false := by kernel_rfl
  have h2 : Tryz.prog.underlying 188 = some (.struct (Tryz.prog.fieldsOf 188)) := by kernel_rfl
  have h3 : Tryz.prog.stoodInHeld 188 = false := by kernel_rfl
  have h4 : intsB Tryz.prog 2 (Tryz.prog.fieldsOf 188).toList 0 = true := by kernel_rfl
  have he := eqfI (P := Tryz.prog) (w := w) (m := 2) (xs := #[.int .i64 f.1, .int .i64 f.2]) (ys := #[.int .i64 g.1, .int .i64 g.2]) (X := fun i => if i = 0 then f.1 else f.2) (Y := fun i => if i = 0 then g.1 else g.2)
    (fun i hi => by match i, hi with | 0, _ => rfl | 1, _ => rfl) (fun i hi => by match i, hi with | 0, _ => rfl | 1, _ => rfl) 9998 _ 0 h4
  have hlen : (Tryz.prog.fieldsOf 188).toList.length = 2 := by have := he.2; omega
  have hall : ((List.range' 0 2).all fun i => (if i = 0 then f.1 else f.2) == (if i = 0 then g.1 else g.2)) = decide (f = g) := by
    obtain ⟨f1, f2⟩ := f
    obtain ⟨g1, g2⟩ := g
    rw [Bool.eq_iff_iff]
    simp [List.range'_succ]
  rw [run_Bind', run_eqGuard_agg w .neq 188 x y _ _ h1, Result.andThen_ok, run_neq_struct, run_equalIn_struct w 9999 188 _ _ h2 h3, he.1, hlen, hall]
  rfl

theorem sameFaults_ok {w : World} {a : Option Addr} {l c : Nat} {ps : List (Int × Int)} (h : RdS 2 w a l c (Fv ps)) {a2 : Option Addr} {l2 c2 : Nat} {qs : List (Int × Int)} (h2 : RdS 2 w a2 l2 c2 (Fv qs)) (hl : l ≤ 140737488355328) :
    CallR Tryz.prog 78 [.slice a l c, .slice a2 l2 c2] w fun v w' => v = .bool (decide (ps = qs)) ∧ Kept No w w' := by
  have hfl : ps.length = l := by have := h.1; rw [Fv_len] at this; omega
  have hgl : qs.length = l2 := by have := h2.1; rw [Fv_len] at this; omega
  refine C78 ?_
  unfold L78
  refine condI (fun hne => ⟨?_, Kept.refl _ _⟩) (fun heq => ?_)
  · have hne : l ≠ l2 := by simp at hne; omega
    rw [decide_eq_false]
    rintro rfl
    omega
  · have hll : l = l2 := by simp at heq; omega
    subst hll
    refine ⟨fun vs w' => ∃ n : Nat, vs = [.int .i64 (n : Int)] ∧ n ≤ l ∧ ps.take n = qs.take n ∧ Kept No w w', fun vs _ => l - ix vs, ⟨0, rfl, Nat.zero_le _, by simp, Kept.refl _ _⟩, ?_⟩
    rintro _ n5 w1 ⟨n, hv, hn, htk, hk⟩
    simp only [List.cons.injEq, Value.int.injEq, true_and, and_true] at hv
    subst hv
    refine condP (fun hlt => ?_) (fun hge => ?_)
    · intro w2
      have hk2 : Kept No w w2 := hk.no (Kept.drew _ _)
      clear_value w2
      have hx : n < ps.length := by omega
      have hy : n < qs.length := by omega
      have h' := h.keep hk2 fun _ _ _ e => e
      have h2' := h2.keep hk2 fun _ _ _ e => e
      obtain ⟨q, haq⟩ : ∃ q, a = some q := by
        cases ha : a with
        | none => have := RdS.isNone h' ha; omega
        | some q => exact ⟨q, rfl⟩
      obtain ⟨q2, haq2⟩ : ∃ q, a2 = some q := by
        cases ha : a2 with
        | none => have := RdS.isNone h2' ha; omega
        | some q => exact ⟨q, rfl⟩
      obtain ⟨f1, f2⟩ := Fv_at hx
      obtain ⟨g1, g2⟩ := Fv_at hy
      have e1 := h'.2.2.2 q haq _ _ f1
      have e2 := h'.2.2.2 q haq _ _ f2
      have e3 := h2'.2.2.2 q2 haq2 _ _ g1
      have e4 := h2'.2.2.2 q2 haq2 _ _ g2
      rw [← Lw.add_add] at e2 e4
      have e0 : Int.toNat (n : Int) = n := Int.toNat_natCast n
      rw [e0]
      have hr : 0 ≤ (n : Int) ∧ (n : Int) < ((l : Nat) : Int) := by omega
      refine ⟨hr, nnE2 haq ⟨_, _, e1, e2, hr, nnE2 haq2 ⟨_, _, e3, e4, _, _, neFault ps[n] qs[n], ?_⟩⟩⟩
      by_cases he : ps[n] = qs[n]
      · rw [decide_eq_true he]
        refine condFa2 ⟨⟨by omega, by omega⟩, ⟨n + 1, rfl, by omega, ?_, hk2⟩, by simp only [ix]; omega⟩
        rw [List.take_add_one, List.take_add_one, htk, List.getElem?_eq_getElem hx, List.getElem?_eq_getElem hy, he]
      · rw [decide_eq_false he]
        refine condTr2 ⟨?_, hk2⟩
        rw [decide_eq_false]
        rintro rfl
        exact he rfl
    · have : n = l := by omega
      subst this
      rw [List.take_of_length_le (by omega), List.take_of_length_le (by omega)] at htk
      exact ⟨by rw [decide_eq_true htk], hk⟩

/-- Six cells, filled. -/
theorem newSix {w : World} {e : TypeId} {v0 v1 v2 v3 v4 v5 u0 u1 u2 u3 u4 u5 : Value} {K : World → Prop} (hk : ∀ w', Blk w' w.heap.size #[v0, v1, v2, v3, v4, v5] → Kept No w w' → K w') :
    stC (Addr.mk w.heap.size 0 none) v0 (w.alloc (.cells #[u0, u1, u2, u3, u4, u5] e)) fun w1 => stC (Addr.mk w.heap.size 1 none) v1 w1 fun w2 => stC (Addr.mk w.heap.size 2 none) v2 w2 fun w3 => stC (Addr.mk w.heap.size 3 none) v3 w3 fun w4 => stC (Addr.mk w.heap.size 4 none) v4 w4 fun w5 => stC (Addr.mk w.heap.size 5 none) v5 w5 K := by
  have hb : Blk (w.alloc (.cells #[u0, u1, u2, u3, u4, u5] e)) w.heap.size #[u0, u1, u2, u3, u4, u5] := Blk.alloc _ _ _
  have hk1 : Kept No w (w.alloc (.cells #[u0, u1, u2, u3, u4, u5] e)) := Kept.alloc _ _ _
  refine stC_blk hb (by simp) fun w1 h1 k1 _ => stC_blk h1 (by simp) fun w2 h2 k2 _ => stC_blk h2 (by simp) fun w3 h3 k3 _ => stC_blk h3 (by simp) fun w4 h4 k4 _ => stC_blk h4 (by simp) fun w5 h5 k5 _ => stC_blk h5 (by simp) fun w6 h6 k6 _ => ?_
  have h6' : Blk w6 w.heap.size #[v0, v1, v2, v3, v4, v5] := by simpa using h6
  exact hk w6 h6' ((((((hk1.fresh k1 fun x e => by omega).fresh k2 fun x e => by omega).fresh k3 fun x e => by omega).fresh k4 fun x e => by omega).fresh k5 fun x e => by omega).fresh k6 fun x e => by omega)

/-- The faults that are left: the caller's. -/
theorem rest_ok {w : World} {gk : Nat} {s : AK} {L : KL} (h : KernO w gk s L) :
    CallR Tryz.prog 79 [pd gk] w fun v w' => ∃ a c, v = .slice a s.ps.length c ∧ SlO 2 w' a s.ps.length c (Fv s.ps) ∧ Kept No w w' ∧ Fresh w a := by
  refine C79 ?_
  unfold L79
  refine enone_to h ⟨false, rfl, condF rfl (nnI ⟨_, h.blk.at (i := 5) rfl, C182 ?_⟩)⟩
  unfold L182
  obtain ⟨a, l, c, hp, _⟩ := h.pl
  have hl : s.ps.length = l := by have := hp.rd.1; rw [Fv_len] at this; omega
  have := h.ok.ps
  refine condFa2 (nnI ⟨_, _, _, hp.blk.at (i := 1) rfl, CallR.mono (fclone_ok hp.rd (by omega)) ?_⟩)
  rintro v w1 ⟨a', c', rfl, hs, hk, hf⟩
  exact ⟨_, _, _, rfl, _, _, _, rfl, a', c', by rw [hl], by rw [hl]; exact hs, hk, hf⟩

theorem calls_ok {w : World} {gk : Nat} {s : AK} {L : KL} (h : KernO w gk s L) :
    CallR Tryz.prog 74 [pd gk] w fun v w' => v = .tuple #[.int .i64 s.c0, .int .i64 s.c1] ∧ Kept No w w' := by
  refine C74 ?_
  unfold L74
  have hc : ((⟨gk, 0, none⟩ : Addr).add 6).add 1 = (⟨gk, 0, none⟩ : Addr).add 7 := by rw [Lw.add_add]
  have hc0 : ((⟨gk, 0, none⟩ : Addr).add 6).add (Int.toNat 0) = (⟨gk, 0, none⟩ : Addr).add 6 := by rw [Lw.add_add]; rfl
  refine enone_to h ⟨false, rfl, condF rfl (nnI ⟨⟨by omega, by omega⟩, s.c0, ?_, nnI ⟨⟨by omega, by omega⟩, s.c1, ?_, fun nd => ⟨rfl, Kept.drewN _ _ _⟩⟩⟩)⟩
  · rw [hc0]; exact h.blk.at (i := 6) rfl
  · show w.cell? (((⟨gk, 0, none⟩ : Addr).add 6).add 1) = _
    rw [hc]; exact h.blk.at (i := 7) rfl

def scrO : AObj → List Int
  | .term _ scr => scr
  | _ => []

/-- What a terminal's screen is; whether there is one of that name. -/
def AK.screenV (s : AK) (nm : ByteArray) : List Int × Bool := match s.termOf nm with
  | some t => (scrO (s.objs t.2), true)
  | none => ([], false)

theorem screen_ok {w : World} {gk : Nat} {s : AK} {L : KL} (h : KernO w gk s L) (nm : ByteArray) :
    CallR Tryz.prog 81 [pd gk, .string nm] w fun v w' => ∃ a l c, v = .tuple #[.slice a l c, .bool (s.screenV nm).2] ∧ OB w' a l c (s.screenV nm).1 ∧ Kept No w w' ∧ Fresh w a := by
  refine C81 ?_
  unfold L81
  have hT : Tryz.prog.underlying 113 = some (.map 9 128) := by kernel_rfl
  have hS : Tryz.prog.underlying 9 = some .string := by kernel_rfl
  refine enone_to h ⟨false, rfl, condF rfl (nnI ⟨_, h.blk.at (i := 2) rfl, ?_⟩)⟩
  unfold AK.screenV
  cases ht : s.termOf nm with
  | none =>
    have hout : ∀ x ∈ s.mT L, x.1 ≠ .string nm := by
      intro x hx e
      obtain ⟨t, htm, rfl⟩ := List.mem_map.1 hx
      simp only [Value.string.injEq] at e
      unfold AK.termOf at ht
      rw [List.find?_eq_none] at ht
      have := ht t htm
      simp [e] at this
    refine ⟨none, false, w, lookup_out hT hS h.mt (k := .string nm) trivial hout (z := .pointer none) (by kernel_rfl) true, C183 ?_⟩
    unfold L183
    exact condTr2 ⟨_, _, _, rfl, none, 0, 0, rfl, OB.nil _, Kept.refl _ _, Fresh.none _⟩
  | some t =>
    have htm := List.mem_of_find?_eq_some ht
    have htn : t.1 = nm := by simpa using List.find?_some ht
    have hti := h.ok.ti t htm
    obtain ⟨LL, scr, hob⟩ : ∃ LL scr, s.objs t.2 = .term LL scr := by
      cases ho : s.objs t.2 with
      | file bs => have := hti.2; rw [ho] at this; cases this
      | term LL scr => exact ⟨LL, scr, rfl⟩
      | pipe bs e0 e1 => have := hti.2; rw [ho] at this; cases this
    have hO := h.ob t.2 hti.1
    rw [hob] at hO
    have hO : TermO _ _ w (L.loc t.2) LL scr := hO
    have hin : ((.string nm, pd (L.loc t.2)) : Value × Value) ∈ s.mT L := by rw [← htn]; exact List.mem_map.2 ⟨t, htm, rfl⟩
    refine ⟨some ⟨L.loc t.2, 0, none⟩, true, w, lookup_in hT hS h.mt (k := .string nm) trivial hin true, CallR.mono (tscreen_ok hO) ?_⟩
    rintro v w' ⟨a', c', rfl, ho, hf, hk⟩
    dsimp only
    rw [hob]
    exact ⟨_, _, _, rfl, a', _, c', rfl, ho, hk, hf⟩

theorem hseek_ok {w : World} {gk : Nat} {s : AK} {L : KL} (h : KernO w gk s L) (d off wh : Int) :
    CallR Tryz.prog 192 [.agg #[pd gk, .int .i64 d], .int .i64 off, .int .i64 wh] w fun v w' => v = .tuple #[.int .i64 (s.seek d off wh).1, .int .i64 (s.seek d off wh).2.1] ∧ ∃ L', KernO w' gk (s.seek d off wh).2.2 L' ∧ KStep w w' L L' := by
  refine C192 ?_
  unfold L192
  intro w1
  have hb1 : Blk w1 w.heap.size #[pd gk, .int .i64 d] := Blk.alloc _ _ _
  have hk1 : Kept No w w1 := Kept.alloc _ _ _
  clear_value w1
  refine ⟨_, (hb1.cell 0).trans rfl, _, (hb1.cell 1).trans rfl, CallR.mono (kernSeek_ok (h.no hk1) d off wh) ?_⟩
  rintro v w2 ⟨rfl, L', h2, st⟩
  exact ⟨_, _, rfl, rfl, L', h2, st.fresh hk1⟩

end Go.Proofs.YtpoaacnnhgebfaaGreat

namespace Go.Proofs.YtpoaacnnhgebfaaGreat
open Go.Lw

theorem AK.filesV_bound {w : World} {gk : Nat} {s : AK} {L : KL} (h : KernO w gk s L) : ∀ f ∈ s.filesV, f.2.length ≤ 1048576 := by
  intro f hf
  unfold AK.filesV at hf
  obtain ⟨nm, _, rfl⟩ := List.mem_map.1 hf
  show (s.bytesOf nm).length ≤ 1048576
  unfold AK.bytesOf
  split
  · rename_i g hg
    have hm := List.mem_of_find?_eq_some hg
    have hO := h.ob g.2 (h.ok.fi g hm).1
    cases ho : s.objs g.2 with
    | file bs =>
      rw [ho] at hO
      obtain ⟨_, _, _, _, _, _, hl, _⟩ := hO
      exact hl
    | term _ _ => simp [dataO]
    | pipe _ _ _ => simp [dataO]
  · simp

theorem OwnN.len_eq {w0 w : World} {a : Option Addr} {l c : Nat} {fs : List (ByteArray × List Int)} {es : List (ByteArray × Slc)} (h : OwnN w0 w a l c fs es) : l = fs.length := by
  have := h.rd.rd.1; rw [Nv_len, h.len] at this; omega

/-- Two views of the same kernel's files are the same. -/
theorem same_files {w0 w1 w : World} {gk : Nat} {s : AK} {L : KL} (hk : KernO w gk s L) {a : Option Addr} {l c : Nat} {fs : List (ByteArray × List Int)} {es : List (ByteArray × Slc)} (h : OwnN w0 w a l c s.filesV es) {a2 : Option Addr} {l2 c2 : Nat} {es2 : List (ByteArray × Slc)} (h2 : OwnN w1 w a2 l2 c2 fs es2) :
    CallR Tryz.prog 75 [.slice a l c, .slice a2 l2 c2] w fun v w' => v = .bool (decide (s.filesV = fs)) ∧ Kept No w w' := by
  have e1 := h.len_eq
  rw [AK.filesV_len] at e1
  have := hk.ok.fl
  exact sameNamed_ok h.rd h2.rd (by omega) fun f hf => by have := AK.filesV_bound hk f hf; omega

theorem AK.seek_cs (s : AK) (d off wh : Int) : (s.seek d off wh).2.2.c0 = s.c0 ∧ (s.seek d off wh).2.2.c1 = s.c1 ∧ (s.seek d off wh).2.2.next = s.next := by
  unfold AK.seek
  split
  · exact ⟨rfl, rfl, rfl⟩
  · split
    · exact ⟨rfl, rfl, rfl⟩
    · split
      · split
        · exact ⟨rfl, rfl, rfl⟩
        · rename_i x _ _ _ _ _
          have : ∀ base : Int, ∀ r : Int × Int × AK, r = (if off < -base ∨ off > 1048576 - base then ((0 : Int), (4 : Int), s) else (base + off, 0, s.setD d (base + off) x.hd)) → r.2.2.c0 = s.c0 ∧ r.2.2.c1 = s.c1 ∧ r.2.2.next = s.next := fun base r hr => by
            rw [hr]
            by_cases h3 : off < -base ∨ off > 1048576 - base
            · rw [if_pos h3]; exact ⟨rfl, rfl, rfl⟩
            · rw [if_neg h3]; exact ⟨rfl, rfl, rfl⟩
          exact this _ _ rfl
      · exact ⟨rfl, rfl, rfl⟩

theorem AK.read_bound (s : AK) (d n : Int) : (s.read d n).1.length ≤ 1048576 := by
  by_cases h : n < 0 ∨ n > 1048576
  · unfold AK.read
    split
    · simp
    · simp
  · have := AK.read_len (s := s) (d := d) (n := n) (by omega)
    omega

/-- Two kernels of the same value, apart from each other, both new since W. -/
structure Two (W w : World) (gk gm : Nat) (s r : AK) (L M : KL) : Prop where
  hk : KernO w gk s L
  hm : KernO w gm r M
  ap : ∀ z, L.own z ≠ none → M.own z = none
  nk : ∀ z, L.own z ≠ none → W.heap.size ≤ z
  nm : ∀ z, M.own z ≠ none → W.heap.size ≤ z
  kp : Kept No W w

theorem Two.no {W w w' : World} {gk gm : Nat} {s r : AK} {L M : KL} (h : Two W w gk gm s r L M) (k : Kept No w w') : Two W w' gk gm s r L M := ⟨h.hk.no k, h.hm.no k, h.ap, h.nk, h.nm, h.kp.no k⟩

theorem Two.first {W w w' : World} {gk gm : Nat} {s r s' : AK} {L M L' : KL} (h : Two W w gk gm s r L M) (hK : KernO w' gk s' L') (st : KStep w w' L L') : Two W w' gk gm s' r L' M where
  hk := hK
  hm := h.hm.keep st.kept fun x hx => h.ap x hx
  ap := fun z hz => by
    rcases st.grew z hz with e | e
    · exact h.ap z e
    · cases ho : M.own z with
      | none => rfl
      | some t => have := h.hm.lt z (by rw [ho]; simp); omega
  nk := fun z hz => by
    rcases st.grew z hz with e | e
    · exact h.nk z e
    · have := h.kp.size; omega
  nm := h.nm
  kp := h.kp.trans st.kept fun y hy e => by have := h.nk y e; omega

theorem Two.second {W w w' : World} {gk gm : Nat} {s r r' : AK} {L M M' : KL} (h : Two W w gk gm s r L M) (hK : KernO w' gm r' M') (st : KStep w w' M M') : Two W w' gk gm s r' L M' where
  hk := h.hk.keep st.kept fun x hx => by
    cases ho : L.own x with
    | none => rfl
    | some t => exact absurd (h.ap x (by rw [ho]; simp)) hx
  hm := hK
  ap := fun z hz => by
    cases ho : M'.own z with
    | none => rfl
    | some t =>
      rcases st.grew z (by rw [ho]; simp) with e | e
      · exact absurd (h.ap z hz) e
      · have := h.hk.lt z hz; omega
  nk := h.nk
  nm := fun z hz => by
    rcases st.grew z hz with e | e
    · exact h.nm z e
    · have := h.kp.size; omega
  kp := h.kp.trans st.kept fun y hy e => by have := h.nm y e; omega

theorem Two.old {W w : World} {gk gm : Nat} {s r : AK} {L M : KL} (h : Two W w gk gm s r L M) {z : Nat} (hz : z < W.heap.size) : L.own z = none ∧ M.own z = none := by
  constructor
  · cases ho : L.own z with
    | none => rfl
    | some t => have := h.nk z (by rw [ho]; simp); omega
  · cases ho : M.own z with
    | none => rfl
    | some t => have := h.nm z (by rw [ho]; simp); omega

theorem none_new {w : World} {gk : Nat} {s : AK} {L : KL} (h : KernO w gk s L) {z : Nat} (hz : w.heap.size ≤ z) : L.own z = none := by
  cases ho : L.own z with
  | none => rfl
  | some t => have := h.lt z (by rw [ho]; simp); omega

end Go.Proofs.YtpoaacnnhgebfaaGreat
