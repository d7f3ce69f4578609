/-
  A file's description: what its methods do. Conditions: as each says.
-/
import Derived.Test.YtbiofmgebbdflaaKeD
set_option linter.unusedVariables false
namespace Go.Proofs.Ytbiofmgebbdflaa
open Go.Lw

def DsO (w : World) (bd : Nat) (k : TK) (b : Nat) (fl at_ hd : Int) : Prop := Blk w bd #[tv k b, .int .i64 fl, .int .i64 at_, .int .i64 hd]

/-- The bits that both have. -/
def bitI (n m : Int) : Int := IntKind.wrap .i64 ↑(BitVec.ofInt (IntKind.bits .i64) n &&& BitVec.ofInt (IntKind.bits .i64) m).toNat

def placeF (fl at_ : Int) (bs : List Int) : Int := if bitI fl 4 ≠ 0 then (bs.length : Int) else at_

theorem place_ok {F : Nat → Prop} {w : World} {b bd : Nat} {bs : List Int} {fl at_ hd : Int} (h : FileO F w b bs) (hd' : DsO w bd .disk b fl at_ hd) :
    CallR Try.prog 215 [.agg #[.pointer (some ⟨b, 0, none⟩)], .pointer (some ⟨bd, 0, none⟩)] w fun v w' => v = .int .i64 (placeF fl at_ bs) ∧ Kept No w w' := by
  refine C215 ?_
  unfold L215
  intro w1
  have hb1 : Blk w1 w.heap.size #[.pointer (some ⟨b, 0, none⟩)] := Blk.alloc _ _ _
  have hk1 : Kept No w w1 := Kept.alloc _ _ _
  clear_value w1
  have hd1 : Blk w1 bd #[tv .disk b, .int .i64 fl, .int .i64 at_, .int .i64 hd] := Blk.keep hd' hk1 (fun e => e)
  have h1 := h.keep hk1 (fun _ _ e => e)
  refine nnI ⟨_, hd1.at (i := 1) rfl, condI (fun hb => ⟨_, (hb1.cell 0).trans rfl, CallR.mono (size_ok h1) ?_⟩) (fun hb => nnI ⟨_, hd1.at (i := 2) rfl, ?_⟩)⟩
  · rintro v w2 ⟨rfl, rfl⟩
    refine ⟨_, rfl, ?_, hk1⟩
    unfold placeF
    rw [if_pos (by simpa [bitI] using hb)]
  · refine ⟨?_, hk1⟩
    unfold placeF
    rw [if_neg (by simpa [bitI] using hb)]

theorem dread_ok {F : Nat → Prop} {w : World} {b bd : Nat} {bs : List Int} {fl hd n : Int} {k : Nat} (h : FileO F w b bs) (hd' : DsO w bd .disk b fl (k : Int) hd) (hk : k ≤ 1048576) (hn1 : 0 ≤ n) (hn2 : n ≤ 1048576) :
    CallR Try.prog 211 [.agg #[.pointer (some ⟨b, 0, none⟩)], .pointer (some ⟨bd, 0, none⟩), .int .i64 n] w fun v w' => ∃ a' c', v = .slice a' (piece bs k n).length c' ∧ OB w' a' (piece bs k n).length c' (piece bs k n) ∧ Fresh w a' ∧
      DsO w' bd .disk b fl ((k + (piece bs k n).length : Nat) : Int) hd ∧ Kept (· = bd) w w' := by
  refine C211 ?_
  unfold L211
  intro w1
  have hb1 : Blk w1 w.heap.size #[.pointer (some ⟨b, 0, none⟩)] := Blk.alloc _ _ _
  have hk1 : Kept No w w1 := Kept.alloc _ _ _
  clear_value w1
  intro w2
  have hb2 : Blk w2 w.heap.size #[.pointer (some ⟨b, 0, none⟩)] := hb1.drew
  have hk2 : Kept No w w2 := hk1.no (Kept.drew _ _)
  clear_value w2
  have hd2 : Blk w2 bd #[tv .disk b, .int .i64 fl, .int .i64 (k : Int), .int .i64 hd] := Blk.keep hd' hk2 (fun e => e)
  have h2 := h.keep hk2 (fun _ _ e => e)
  have hbd := Blk.lt hd'
  have hlen := h.len
  refine ⟨_, (hb2.cell 0).trans rfl, nnI ⟨_, hd2.at (i := 2) rfl, CallR.mono (readAt_ok h2 (k : Int) n) ?_⟩⟩
  rintro v w3 ⟨a', c', cs, e, rfl, ho, hf, hk3, hok, _⟩
  obtain ⟨rfl, rfl⟩ := hok (by unfold okN; simp; omega) (by unfold okN; simp; omega)
  have hd3 := hd2.keep hk3 (fun e => e)
  have hpl : (piece bs (k : Int) n).length ≤ 1048576 := by unfold piece; rw [List.length_take, List.length_drop]; omega
  have hlt := ho.lt
  have hz2 := hk2.size
  refine ⟨_, _, _, _, rfl, nnI ⟨_, hd3.at (i := 2) rfl, ⟨by omega, by omega⟩, nnI (stC_at hd3 (i := 2) (by simp) fun w4 hd4 hk4 hs4 => ?_)⟩⟩
  refine ⟨a', c', rfl, ho.keep hk4 (fun x hx e => by have := hf x hx; omega), fun x hx => by have := hf x hx; omega, ?_, ?_⟩
  · show Blk w4 bd _
    have : (((k + (piece bs (k : Int) n).length : Nat)) : Int) = (k : Int) + ((piece bs (k : Int) n).length : Int) := by omega
    rw [this]
    simpa using hd4
  · exact ((hk2.no hk3).mono fun _ _ e => e.elim).trans hk4 fun _ _ e => e

def roomD (p n : Int) : Int × Int := if 1048576 - p > 0 then (mn n (1048576 - p), 0) else (0, 31)

theorem droom_ok {F : Nat → Prop} {w : World} {b bd : Nat} {bs : List Int} {fl at_ hd n : Int} (h : FileO F w b bs) (hd' : DsO w bd .disk b fl at_ hd) (h0 : 0 ≤ at_) (h1 : at_ ≤ 1048576) :
    CallR Try.prog 212 [.agg #[.pointer (some ⟨b, 0, none⟩)], .pointer (some ⟨bd, 0, none⟩), .int .i64 n] w fun v w' => v = .tuple #[.int .i64 (roomD (placeF fl at_ bs) n).1, .int .i64 (roomD (placeF fl at_ bs) n).2] ∧ Kept No w w' := by
  refine C212 ?_
  unfold L212
  intro w1
  have hb1 : Blk w1 w.heap.size #[.pointer (some ⟨b, 0, none⟩)] := Blk.alloc _ _ _
  have hk1 : Kept No w w1 := Kept.alloc _ _ _
  clear_value w1
  have hd1 : DsO w1 bd .disk b fl at_ hd := Blk.keep hd' hk1 (fun e => e)
  have hf1 := h.keep hk1 (fun _ _ e => e)
  have hlen := h.len
  refine ⟨_, (hb1.cell 0).trans rfl, CallR.mono (place_ok hf1 hd1) ?_⟩
  rintro v w2 ⟨rfl, hk2⟩
  have hp : 0 ≤ placeF fl at_ bs ∧ placeF fl at_ bs ≤ 1048576 := by
    unfold placeF
    split <;> omega
  refine ⟨_, rfl, ⟨by omega, by omega⟩, condP (fun hr => ⟨?_, hk1.no hk2⟩) (fun hr => ⟨?_, hk1.no hk2⟩)⟩
  · unfold roomD; rw [if_pos hr]
  · unfold roomD; rw [if_neg hr]

theorem dwrite_ok {F : Nat → Prop} {w : World} {b bd : Nat} {bs : List Int} {fl at_ hd most : Int} {a : Option Addr} {l c : Nat} {ds : List Int} (h : FileO F w b bs) (hd' : DsO w bd .disk b fl at_ hd) (h0 : 0 ≤ at_) (h1 : at_ ≤ 1048576)
    (hr : RdB w a l c ds) (hl : l ≤ 140737488355328) (hap : ∀ k, inA a k → ¬ F k ∧ k ≠ bd) (hbF : ¬ F bd) (hm : 0 ≤ most) :
    CallR Try.prog 213 [.agg #[.pointer (some ⟨b, 0, none⟩)], .pointer (some ⟨bd, 0, none⟩), .slice a l c, .int .i64 most] w fun v w' => v = .int .i64 ((min l most.toNat : Nat) : Int) ∧
      (∃ F', FileO F' w' b (writeF bs (placeF fl at_ bs) (ds.take (min l most.toNat))).2 ∧ Grew F w F') ∧ DsO w' bd .disk b fl (placeF fl at_ bs + ((min l most.toNat : Nat) : Int)) hd ∧ Kept (fun z => F z ∨ z = bd) w w' := by
  refine C213 ?_
  unfold L213
  have hcl : l ≤ c := hr.2.1
  have hmn : mn (((l : Nat) : Int)) most = ((min l most.toNat : Nat) : Int) := by unfold mn; omega
  rw [hmn]
  have htn : Int.toNat ((min l most.toNat : Nat) : Int) = min l most.toNat := by omega
  rw [htn]
  intro w1
  have hb1 : Blk w1 w.heap.size #[.pointer (some ⟨b, 0, none⟩)] := Blk.alloc _ _ _
  have hk1 : Kept No w w1 := Kept.alloc _ _ _
  clear_value w1
  have hd1 : DsO w1 bd .disk b fl at_ hd := Blk.keep hd' hk1 (fun e => e)
  have hf1 := h.keep hk1 (fun _ _ e => e)
  have hlen := h.len
  have hbd := Blk.lt hd'
  have hflt := h.lt
  have hp : 0 ≤ placeF fl at_ bs ∧ placeF fl at_ bs ≤ 1048576 := by
    unfold placeF
    split <;> omega
  refine ⟨⟨by omega, by omega⟩, _, (hb1.cell 0).trans rfl, CallR.mono (place_ok hf1 hd1) ?_⟩
  rintro v w2 ⟨rfl, hk2⟩
  have hd2 : Blk w2 bd #[tv .disk b, .int .i64 fl, .int .i64 at_, .int .i64 hd] := Blk.keep hd1 hk2 (fun e => e)
  have hb2 := hb1.keep hk2 (fun e => e)
  have k2 := hk1.no hk2
  refine ⟨_, rfl, nnI (stC_at hd2 (i := 2) (by simp) fun w3 hd3 hk3 hs3 => ?_)⟩
  have hd3 : Blk w3 bd #[tv .disk b, .int .i64 fl, .int .i64 (placeF fl at_ bs), .int .i64 hd] := by simpa using hd3
  have hb3 := hb2.keep hk3 (by omega)
  have k3 : Kept (fun z => F z ∨ z = bd) w w3 := (k2.mono fun _ _ e => e.elim).trans hk3 fun _ _ e => .inr e
  have hf3 := (h.keep k2 (fun _ _ e => e)).keep hk3 (fun x hx e => hbF (by rw [← e]; exact hx))
  have hr3 := (hr.keep k2 (fun _ _ _ e => e)).keep hk3 (fun x _ hx e => (hap x hx).2 e)
  intro w4
  have hd4 : Blk w4 bd #[tv .disk b, .int .i64 fl, .int .i64 (placeF fl at_ bs), .int .i64 hd] := hd3.drew
  have hb4 : Blk w4 w.heap.size #[.pointer (some ⟨b, 0, none⟩)] := hb3.drew
  have hf4 : FileO F w4 b bs := hf3.keep (Kept.drew No _) (fun _ _ e => e)
  have hr4 : RdB w4 a l c ds := hr3.keep (Kept.drew No _) (fun _ _ _ e => e)
  have k4 : Kept (fun z => F z ∨ z = bd) w w4 := k3.no (Kept.drew _ _)
  clear_value w4
  have hz4 := k4.size
  refine ⟨_, (hb4.cell 0).trans rfl, nnI ⟨_, hd4.at (i := 2) rfl, CallR.mono (writeAt_ok hf4 (placeF fl at_ bs) (hr4.to (min l most.toNat) (by omega)) (by omega) (fun _ x hx => (hap x hx).1)) ?_⟩⟩
  rintro v w5 ⟨rfl, F', hf5, hg5, hk5⟩
  have hd5 := hd4.keep hk5 hbF
  have hk05 : Kept (fun z => F z ∨ z = bd) w w5 := k4.trans hk5 fun _ _ e => .inl e
  refine ⟨_, rfl, nnI ⟨_, hd5.at (i := 2) rfl, ⟨by omega, by omega⟩, nnI (stC_at hd5 (i := 2) (by simp) fun w6 hd6 hk6 hs6 => ?_)⟩⟩
  have hbF' : ¬ F' bd := fun e => by
    rcases hg5 bd e with e | e
    · exact hbF e
    · omega
  refine ⟨rfl, ⟨F', hf5.keep hk6 (fun x hx e => hbF' (by rw [← e]; exact hx)), fun x hx => ?_⟩, by show Blk w6 bd _; simpa using hd6, hk05.trans hk6 fun _ _ e => .inr e⟩
  rcases hg5 x hx with e | e
  · exact .inl e
  · right; omega

end Go.Proofs.Ytbiofmgebbdflaa
