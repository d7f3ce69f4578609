/-
  All of a kernel's files: what is answered is the caller's. Conditions: as each says.
-/
import Derived.Test.YtkjmlbplmffekaaGreatKf
import Derived.Test.YtkjmlbplmffekaaGreatLKf
import Derived.Test.YtkjmlbplmffekaaGreatMpR
set_option linter.unusedVariables false
namespace Go.Proofs.YtkjmlbplmffekaaGreat
open Go.Lw

theorem Nv_one' (es : List (ByteArray × Slc)) : ∀ u ∈ Nv es, u.oneCell' = true := by
  intro u hu
  simp only [Nv, List.mem_flatMap, List.mem_cons, List.not_mem_nil, or_false] at hu
  obtain ⟨f, _, h | h⟩ := hu
  · subst h; rfl
  · subst h; rfl
theorem Nv_app' (a b : List (ByteArray × Slc)) : Nv (a ++ b) = Nv a ++ Nv b := by simp [Nv]

/-- Named bytes that are owned: new since w0, each in memory of its own. -/
structure OwnN (w0 w : World) (a : Option Addr) (l c : Nat) (fs : List (ByteArray × List Int)) (es : List (ByteArray × Slc)) : Prop where
  sl : SlO 2 w a l c (Nv es)
  len : es.length = fs.length
  each : ∀ i, (h : i < es.length) → (h2 : i < fs.length) → es[i].1 = fs[i].1 ∧ OB w es[i].2.1 es[i].2.2.1 es[i].2.2.2 fs[i].2
  fr : ∀ b, inA a b → w0.heap.size ≤ b
  fe : ∀ i, (h : i < es.length) → ∀ b, inA es[i].2.1 b → w0.heap.size ≤ b ∧ ¬ inA a b
  ap : ∀ i j, (hi : i < es.length) → (hj : j < es.length) → i ≠ j → ∀ b, inA es[i].2.1 b → ¬ inA es[j].2.1 b

theorem OwnN.rd {w0 w : World} {a : Option Addr} {l c : Nat} {fs : List (ByteArray × List Int)} {es : List (ByteArray × Slc)} (h : OwnN w0 w a l c fs es) : RdN RB w a l c fs es :=
  ⟨h.sl.rd, h.len, fun i h1 h2 => ⟨(h.each i h1 h2).1, (h.each i h1 h2).2.rd⟩⟩

theorem OwnN.keep {w0 w w' : World} {a : Option Addr} {l c : Nat} {fs : List (ByteArray × List Int)} {es : List (ByteArray × Slc)} (h : OwnN w0 w a l c fs es) {S : Nat → Prop} (k : Kept S w w') (hn : ∀ b, w0.heap.size ≤ b → b < w.heap.size → ¬ S b) : OwnN w0 w' a l c fs es :=
  ⟨h.sl.keep k fun b hb => hn b (h.fr b hb) (SlO.lt h.sl b hb), h.len, fun i h1 h2 => ⟨(h.each i h1 h2).1, (h.each i h1 h2).2.keep k fun b hb => hn b (h.fe i h1 b hb).1 (SlO.lt (h.each i h1 h2).2 b hb)⟩, h.fr, h.fe, h.ap⟩

theorem OwnN.no {w0 w w' : World} {a : Option Addr} {l c : Nat} {fs : List (ByteArray × List Int)} {es : List (ByteArray × Slc)} (h : OwnN w0 w a l c fs es) (k : Kept No w w') : OwnN w0 w' a l c fs es := h.keep k fun _ _ _ e => e

theorem AK.mF_mem {s : AK} {L : KL} {f : ByteArray × Nat} (hf : f ∈ s.files) : ((.string f.1, pd (L.loc f.2)) : Value × Value) ∈ s.mF L := List.mem_map.2 ⟨f, hf, rfl⟩

set_option maxHeartbeats 2000000 in
theorem kernFiles_ok {w : World} {gk : Nat} {s : AK} {L : KL} (h : KernO w gk s L) :
    CallR Tryz.prog 25 [pd gk] w fun v w' => ∃ a l c es, v = .slice a l c ∧ OwnN w w' a l c s.filesV es ∧ Kept No w w' := by
  refine C25 ?_
  unfold L25
  have hTm : Tryz.prog.underlying 67 = some (.map 9 155) := by kernel_rfl
  have hTs : Tryz.prog.underlying 9 = some .string := by kernel_rfl
  refine enone_to h ⟨false, rfl, condF rfl (nnI ⟨_, h.blk.at (i := 1) rfl, ?_⟩)⟩
  obtain ⟨w2, hrun2, hr2, hk2, hz2⟩ := range_map (P := Tryz.prog) hTm h.mf
  refine ⟨w2, hrun2, ?_⟩
  have hfl := h.ok.fl
  have hLF := h.lt L.rf (by rw [h.oF]; simp)
  obtain ⟨I, hI⟩ : ∃ I : List Value → World → Prop, I = fun vs w' => ∃ (a : Option Addr) (c : Nat) (done : List ByteArray) (lf : List (ByteArray × Nat)), vs = [.slice a done.length c] ∧ RngO w' L.rf w.heap.size .string (s.mF L) (lf.map fun f => (.string f.1, pd (L.loc f.2))) ∧
    SlO 1 w' a done.length c (Sv done) ∧ (∀ b, inA a b → w.heap.size < b) ∧ (done ++ lf.map (·.1)).Perm (s.files.map (·.1)) ∧ Kept No w w' := ⟨_, rfl⟩
  obtain ⟨mu, hmu⟩ : ∃ mu : List Value → World → Nat, mu = fun vs _ => match vs with | [.slice _ l _] => s.files.length - l | _ => 0 := ⟨_, rfl⟩
  refine ⟨I, mu, by rw [hI]; exact ⟨none, 0, [], s.files, rfl, hr2, SlO.nil 1 _, fun b hb => absurd hb (inA_none b), by simp, hk2⟩, ?_⟩
  rintro _ a8 l8 c8 w3 hInv
  rw [hI] at hInv
  obtain ⟨a, c, done, lf, hvs, hr3, hs3, hf3, hp3, hk3⟩ := hInv
  simp only [List.cons.injEq, Value.slice.injEq, and_true] at hvs
  obtain ⟨rfl, rfl, rfl⟩ := hvs
  have hcount : done.length + lf.length = s.files.length := by have := hp3.length_eq; simpa using this
  rcases next_map (P := Tryz.prog) hr3 0 with ⟨hl, hrun⟩ | ⟨p, l1, l2, w5, hl, hpm, hrun, hr5, hk5, hz5, hent⟩
  · left
    have hlf : lf = [] := List.map_eq_nil_iff.1 hl
    subst hlf
    have hp3 : done.Perm (s.files.map (·.1)) := by simpa using hp3
    refine ⟨w3, hrun, CallR.mono (sort_ok hs3 (by omega)) ?_⟩
    rintro v w6 ⟨rfl, hrd6, hk6⟩
    rw [sortN_of_perm hp3] at hrd6
    have k6 : Kept No w w6 := hk3.fresh hk6 fun x hx => by have := hf3 x hx; omega
    have h6 := h.no k6
    have hNl : (sortN (s.files.map (·.1))).length = done.length := by rw [sortN_len, ← hp3.length_eq]
    have hfv : s.filesV.length = done.length := by rw [AK.filesV_len]; simpa using hcount.symm
    refine ⟨rfl, ?_⟩
    obtain ⟨I2, hI2⟩ : ∃ I : List Value → World → Prop, I = fun vs w' => ∃ (i : Nat) (a' : Option Addr) (c' : Nat) (es : List (ByteArray × Slc)), vs = [.slice a' i c', .int .i64 (i : Int)] ∧ i ≤ done.length ∧ OwnN w6 w' a' i c' (s.filesV.take i) es ∧ Kept No w6 w' := ⟨_, rfl⟩
    obtain ⟨mu2, hmu2⟩ : ∃ mu : List Value → World → Nat, mu = fun vs _ => match vs with | [_, .int _ i] => done.length - i.toNat | _ => 0 := ⟨_, rfl⟩
    refine ⟨I2, mu2, by
      rw [hI2]
      exact ⟨0, none, 0, [], rfl, Nat.zero_le _, ⟨SlO.nil 2 _, by simp, fun i h1 => by simp at h1, fun b hb => absurd hb (inA_none b), fun i h1 => by simp at h1, fun i j h1 => by simp at h1⟩, Kept.refl _ _⟩, ?_⟩
    rintro _ a14 l14 c14 n15 w7 hInv
    rw [hI2] at hInv
    obtain ⟨i, a', c', es, hvs, hi, hO, hk7⟩ := hInv
    simp only [List.cons.injEq, Value.slice.injEq, Value.int.injEq, true_and, and_true] at hvs
    obtain ⟨⟨rfl, rfl, rfl⟩, rfl⟩ := hvs
    have hesl : es.length = l14 := by rw [hO.len, List.length_take]; omega
    refine condP (fun hlt => ?_) (fun hge => ?_)
    · have hil : l14 < done.length := by omega
      have hN : l14 < (sortN (s.files.map (·.1))).length := by omega
      have hrd7 := hrd6.keep hk7 fun _ _ _ e => e
      have h7 := h6.no hk7
      obtain ⟨q, hq⟩ : ∃ q, a8 = some q := by
        cases ha : a8 with
        | none => have := RdS.isNone hrd7 ha; omega
        | some q => exact ⟨q, rfl⟩
      generalize hnm : (sortN (s.files.map (·.1)))[l14] = nm
      have hcell := hrd7.2.2.2 q hq l14 (.string nm) (by unfold Sv; rw [List.getElem?_map, List.getElem?_eq_getElem hN, hnm]; rfl)
      obtain ⟨f, hf, hfn⟩ : ∃ f ∈ s.files, f.1 = nm := by
        have : nm ∈ s.files.map (·.1) := (sortN_perm _).mem_iff.1 (by rw [← hnm]; exact List.getElem_mem hN)
        obtain ⟨f, hf, e⟩ := List.mem_map.1 this
        exact ⟨f, hf, e⟩
      have hfo := AK.fileOf_mem h.ok hf
      rw [hfn] at hfo
      have hfi := h.ok.fi f hf
      obtain ⟨bs, hob⟩ : ∃ bs, s.objs f.2 = .file bs := by
        cases ho : s.objs f.2 with
        | file bs => exact ⟨bs, rfl⟩
        | term LL scr => have := hfi.2; rw [ho] at this; cases this
        | pipe bs e0 e1 => have := hfi.2; rw [ho] at this; cases this
      have hby : s.bytesOf nm = bs := by unfold AK.bytesOf; rw [hfo]; dsimp only; rw [hob]; rfl
      have hfv1 : s.filesV.take (l14 + 1) = s.filesV.take l14 ++ [(nm, bs)] := by
        have hx : s.filesV[l14]? = some (nm, bs) := by
          unfold AK.filesV
          rw [List.getElem?_map, List.getElem?_eq_getElem hN, hnm]
          show some (nm, s.bytesOf nm) = _
          rw [hby]
        rw [List.take_add_one, hx]
        rfl
      have hF := h7.ob f.2 hfi.1
      rw [hob] at hF
      have hF : FileO _ w7 (L.loc f.2) bs := hF
      refine ⟨⟨by omega, by omega⟩, nnE2 hq ⟨nm, by rw [Int.toNat_natCast]; exact hcell, nnI ⟨_, h7.blk.at (i := 1) rfl, some ⟨L.loc f.2, 0, none⟩, w7, ?_, ?_⟩⟩⟩
      · have := lookup_in (P := Tryz.prog) hTm hTs h7.mf (k := .string nm) trivial (by have := AK.mF_mem (L := L) hf; rw [hfn] at this; exact this) false
        exact this
      refine CallR.mono (bytes_ok hF) ?_
      rintro v w9 ⟨a21, c21, rfl, ob9, hf9, hk9⟩
      refine ⟨_, _, _, rfl, ?_⟩
      intro w10
      have hk10 : Kept No w9 w10 := Kept.alloc _ _ _
      have hz10 : w10.heap.size = w9.heap.size + 1 := by simp [w10]
      have hnew : SlO 2 w10 (some ⟨w9.heap.size, 0, none⟩) 1 1 (Nv [(nm, (a21, bs.length, c21))]) := SlO.of_blk (sz := 2) (n := 1) (Blk.alloc w9 #[.string nm, .slice a21 bs.length c21] _) rfl
      clear_value w10
      have k710 := hk9.no hk10
      have hO10 := hO.no k710
      obtain ⟨a23, c23, w11, hrun11, hs11, hk11, hat, _⟩ := run_app_sl (P := Tryz.prog) (t := 22) (t2 := 22) (ty := 22) (by kernel_rfl : slTyB Tryz.prog 22 2 40 = true) (by kernel_rfl) hO10.sl hnew.rd (Nv_one' _) (by omega) (by omega)
      rw [← Nv_app'] at hs11
      have hob10 := ob9.keep hk10 fun _ _ e => e
      have hlt9 := SlO.lt ob9
      have hltA := SlO.lt hO.sl
      have hz7 := hk7.size
      have hz9 := hk9.size
      have hz11 := hk11.size
      have hin23 : ∀ b, inA a23 b → inA a14 b ∨ b = w10.heap.size := fun b hb => hat.in hb
      refine ⟨a23, _, c23, w11, hrun11, ⟨by omega, by omega⟩, by
        rw [hI2]
        refine ⟨l14 + 1, a23, c23, es ++ [(nm, (a21, bs.length, c21))], rfl, by omega, ⟨hs11, by rw [hfv1, List.length_append, List.length_append, hO.len]; rfl, fun j h1 h2 => ?_, fun b hb => ?_, fun j h1 b hb => ?_, fun j k h1 h2 hjk b hb hb2 => ?_⟩, (hk7.no k710).fresh hk11 fun x hx => hO.fr x hx⟩
        · by_cases hj : j < es.length
          · have hj2 : j < (s.filesV.take l14).length := by rw [← hO.len]; exact hj
            have e1 : (s.filesV.take (l14 + 1))[j] = (s.filesV.take l14)[j] := by
              simp only [hfv1]
              rw [List.getElem_append_left hj2]
            rw [List.getElem_append_left hj, e1]
            obtain ⟨g1, g2⟩ := hO10.each j hj hj2
            exact ⟨g1, g2.keep hk11 fun b hb e => (hO.fe j hj b hb).2 e⟩
          · have hje : j = l14 := by simp at h1; omega
            subst hje
            have e1 : (s.filesV.take (j + 1))[j] = (nm, bs) := by
              simp only [hfv1]
              rw [List.getElem_append_right (by rw [← hO.len]; omega)]
              simp [← hO.len, hesl]
            rw [List.getElem_append_right (by omega), e1]
            simp only [hesl, Nat.sub_self, List.getElem_cons_zero]
            exact ⟨trivial, hob10.keep hk11 fun b hb e => by have := hf9 b hb; have := hltA b e; omega⟩
        · rcases hin23 b hb with e | e
          · exact hO.fr b e
          · omega
        · by_cases hj : j < es.length
          · rw [List.getElem_append_left hj] at hb
            obtain ⟨g1, g2⟩ := hO.fe j hj b hb
            refine ⟨g1, fun e => ?_⟩
            rcases hin23 b e with e | e
            · exact g2 e
            · have hj2 : j < (s.filesV.take l14).length := by rw [← hO.len]; exact hj
              have := SlO.lt (hO.each j hj hj2).2 b hb
              omega
          · have hje : j = l14 := by simp at h1; omega
            subst hje
            rw [List.getElem_append_right (by omega)] at hb
            simp only [hesl, Nat.sub_self, List.getElem_cons_zero] at hb
            have := hf9 b hb
            refine ⟨by omega, fun e => ?_⟩
            rcases hin23 b e with e | e
            · have := hltA b e; omega
            · have := hlt9 b hb; omega
        · have old : ∀ {m : Nat} (hm : m < es.length), inA es[m].2.1 b → b < w7.heap.size := fun {m} hm hb => by
            have hm2 : m < (s.filesV.take l14).length := by rw [← hO.len]; exact hm
            exact SlO.lt (hO.each m hm hm2).2 b hb
          by_cases hj : j < es.length
          · by_cases hk : k < es.length
            · rw [List.getElem_append_left hj] at hb
              rw [List.getElem_append_left hk] at hb2
              exact hO.ap j k hj hk hjk b hb hb2
            · have hke : k = l14 := by simp at h2; omega
              subst hke
              rw [List.getElem_append_left hj] at hb
              rw [List.getElem_append_right (by omega)] at hb2
              simp only [hesl, Nat.sub_self, List.getElem_cons_zero] at hb2
              have := old hj hb
              have := hf9 b hb2
              omega
          · have hje : j = l14 := by simp at h1; omega
            by_cases hk : k < es.length
            · subst hje
              rw [List.getElem_append_left hk] at hb2
              rw [List.getElem_append_right (by omega)] at hb
              simp only [hesl, Nat.sub_self, List.getElem_cons_zero] at hb
              have := old hk hb2
              have := hf9 b hb
              omega
            · have hke : k = l14 := by simp at h2; omega
              omega, ?_⟩
      rw [hmu2]
      show done.length - ((l14 : Int) + 1).toNat < done.length - (l14 : Int).toNat
      omega
    · have hle : l14 = done.length := by omega
      have htk : s.filesV.take l14 = s.filesV := List.take_of_length_le (by omega)
      rw [htk] at hO
      refine ⟨_, _, _, es, rfl, ⟨hO.sl, hO.len, hO.each, fun b hb => ?_, fun j h1 b hb => ?_, hO.ap⟩, k6.no hk7⟩
      · have := hO.fr b hb; have := k6.size; omega
      · obtain ⟨g1, g2⟩ := hO.fe j h1 b hb
        exact ⟨by have := k6.size; omega, g2⟩
  · right
    obtain ⟨lf1, f, lf2, rfl, e1, rfl, e2⟩ : ∃ lf1 f lf2, lf = lf1 ++ f :: lf2 ∧ l1 = lf1.map (fun f => ((.string f.1, pd (L.loc f.2)) : Value × Value)) ∧ p = (.string f.1, pd (L.loc f.2)) ∧ l2 = lf2.map (fun f => ((.string f.1, pd (L.loc f.2)) : Value × Value)) := by
      obtain ⟨x1, x2, e1, e2, e3⟩ := List.map_eq_append_iff.1 hl
      obtain ⟨f, x3, e4, e5, e6⟩ := List.map_eq_cons_iff.1 e3
      exact ⟨x1, f, x3, by rw [e1, e4], e2.symm, e5.symm, e6.symm⟩
    rw [e1, e2, ← List.map_append] at hr5
    refine ⟨_, _, w5, hrun, f.1, _, w5, hent, ?_⟩
    intro w13
    have hk13 : Kept No w5 w13 := Kept.alloc _ _ _
    have hz13 : w13.heap.size = w5.heap.size + 1 := by simp [w13]
    have hnew : SlO 1 w13 (some ⟨w5.heap.size, 0, none⟩) 1 1 (Sv [f.1]) := SlO.of_blk (sz := 1) (n := 1) (Blk.alloc w5 #[.string f.1] _) rfl
    clear_value w13
    have hit : w.heap.size < w3.heap.size := hr3.lt
    have hs13 := (hs3.keep hk5 fun b hb e => by have := hf3 b hb; omega).keep hk13 fun _ _ e => e
    obtain ⟨a26, c26, w14, hrun14, hs14, hk14, hat, _⟩ := run_app_sl (P := Tryz.prog) (t := 186) (t2 := 186) (ty := 186) (by kernel_rfl : slTyB Tryz.prog 186 1 16 = true) (by kernel_rfl) hs13 hnew.rd (Sv_one _) (by omega) (by omega)
    have hsv : Sv done ++ Sv [f.1] = Sv (done ++ [f.1]) := by simp [Sv]
    rw [hsv] at hs14
    have hdl : done.length + 1 = (done ++ [f.1]).length := by simp
    have hin26 : ∀ b, inA a26 b → w.heap.size < b := fun b hb => by
      rcases hat.in hb with e | e
      · exact hf3 b e
      · omega
    have k5 : Kept No w w5 := hk3.fresh hk5 fun x e => by omega
    refine ⟨a26, _, c26, w14, hrun14, ?_, ?_⟩
    · rw [hI, hdl]
      refine ⟨a26, c26, done ++ [f.1], lf1 ++ lf2, rfl, (hr5.keep hk13 (fun e => e) fun e => e).keep hk14 (fun e => ?_) fun e => ?_, by rw [← hdl]; exact hs14, hin26, ?_, (k5.no hk13).fresh hk14 fun x e => by have := hf3 x e; omega⟩
      · have := hf3 _ e; omega
      · have := hf3 _ e; omega
      · refine List.Perm.trans ?_ hp3
        simp only [List.map_append, List.map_cons, List.append_assoc, List.singleton_append]
        refine List.Perm.append_left _ ?_
        exact (List.perm_middle (l₁ := lf1.map (·.1))).symm
    · rw [hmu]
      show s.files.length - (done.length + 1) < s.files.length - done.length
      have : (lf1 ++ f :: lf2).length = lf1.length + (lf2.length + 1) := by simp
      omega

end Go.Proofs.YtkjmlbplmffekaaGreat
