/-
  A terminal's and a pipe's description: what their methods do; whether a read would wait. Conditions: as each says.
-/
import Derived.Test.YtbiofmgebbdflaaKeE
set_option linter.unusedVariables false
namespace Go.Proofs.Ytbiofmgebbdflaa
open Go.Lw

theorem condTr2 {A B : Prop} (h : A) : cond true A B := h
theorem condFa2 {A B : Prop} (h : B) : cond false A B := h

abbrev ag (b : Nat) : Value := .agg #[.pointer (some ⟨b, 0, none⟩)]
abbrev pd (b : Nat) : Value := .pointer (some ⟨b, 0, none⟩)

theorem sread_ok {F R : Nat → Prop} {w : World} {b bd : Nat} {LL : List (List Int)} {scr : List Int} (h : TermO F R w b LL scr) (n : Int) :
    CallR Try.prog 205 [ag b, pd bd, .int .i64 n] w fun v w' => ∃ a' c', v = .slice a' (readT n LL).2.1.length c' ∧ OB w' a' (readT n LL).2.1.length c' (readT n LL).2.1 ∧ Fresh w a' ∧ Kept (· = b) w w' ∧ TermO F R w' b (readT n LL).2.2 scr := by
  refine C205 ?_
  unfold L205
  intro w1
  have hb1 : Blk w1 w.heap.size #[.pointer (some ⟨b, 0, none⟩)] := Blk.alloc _ _ _
  have hk1 : Kept No w w1 := Kept.alloc _ _ _
  clear_value w1
  have hz := hk1.size
  refine ⟨_, (hb1.cell 0).trans rfl, CallR.mono (tread_ok (h.keep hk1 (fun _ _ e => e) (fun _ _ e => e)) n) ?_⟩
  rintro v w2 ⟨a', c', rfl, ho, hf, hk2, ht⟩
  exact ⟨_, _, _, _, rfl, a', c', rfl, ho, fun x hx => by have := hf x hx; omega, (hk1.mono fun _ _ e => e.elim).trans hk2 fun _ _ e => e, ht⟩

theorem sroom_ok {F R : Nat → Prop} {w : World} {b bd : Nat} {LL : List (List Int)} {scr : List Int} (h : TermO F R w b LL scr) (n : Int) :
    CallR Try.prog 206 [ag b, pd bd, .int .i64 n] w fun v w' => v = .tuple #[.int .i64 (roomD (scr.length : Int) n).1, .int .i64 (roomD (scr.length : Int) n).2] ∧ Kept No w w' := by
  refine C206 ?_
  unfold L206
  intro w1
  have hb1 : Blk w1 w.heap.size #[.pointer (some ⟨b, 0, none⟩)] := Blk.alloc _ _ _
  have hk1 : Kept No w w1 := Kept.alloc _ _ _
  clear_value w1
  have hs := h.scr
  refine ⟨_, (hb1.cell 0).trans rfl, CallR.mono (tscreen_ok (h.keep hk1 (fun _ _ e => e) (fun _ _ e => e))) ?_⟩
  rintro v w2 ⟨a', c', rfl, _, _, hk2⟩
  refine ⟨_, _, _, rfl, ⟨by omega, by omega⟩, condP (fun hr => ⟨?_, hk1.no hk2⟩) (fun hr => ⟨?_, hk1.no hk2⟩)⟩
  · unfold roomD; rw [if_pos hr]
  · unfold roomD; rw [if_neg hr]

theorem swrite_ok {F R : Nat → Prop} {w : World} {b bd : Nat} {LL : List (List Int)} {scr : List Int} (h : TermO F R w b LL scr) {a : Option Addr} {l c : Nat} {ds : List Int} (hr : RdB w a l c ds) (hl : l ≤ 140737488355328) {most : Int} (hm : 0 ≤ most) :
    CallR Try.prog 207 [ag b, pd bd, .slice a l c, .int .i64 most] w fun v w' => v = .int .i64 ((min l most.toNat : Nat) : Int) ∧ ∃ F', TermO F' R w' b LL (writeT (ds.take (min l most.toNat)) scr).2 ∧ (∀ k, F' k → F k ∨ w.heap.size ≤ k) ∧ Kept F w w' := by
  refine C207 ?_
  unfold L207
  have hcl : l ≤ c := hr.2.1
  have hmn : mn (((l : Nat) : Int)) most = ((min l most.toNat : Nat) : Int) := by unfold mn; omega
  rw [hmn]
  have htn : Int.toNat ((min l most.toNat : Nat) : Int) = min l most.toNat := by omega
  rw [htn]
  intro w1
  have hb1 : Blk w1 w.heap.size #[.pointer (some ⟨b, 0, none⟩)] := Blk.alloc _ _ _
  have hk1 : Kept No w w1 := Kept.alloc _ _ _
  clear_value w1
  have hz := hk1.size
  refine ⟨⟨by omega, by omega⟩, _, (hb1.cell 0).trans rfl, CallR.mono (twrite_ok (h.keep hk1 (fun _ _ e => e) (fun _ _ e => e)) ((hr.keep hk1 fun _ _ _ e => e).to (min l most.toNat) (by omega)) (by omega)) ?_⟩
  rintro v w2 ⟨rfl, F', ht, hg, hk2⟩
  exact ⟨_, rfl, rfl, F', ht, fun x hx => by
    rcases hg x hx with e | e
    · exact .inl e
    · right; omega, (hk1.mono fun _ _ e => e.elim).trans hk2 fun _ _ e => e⟩

theorem cread_ok' {w : World} {b bd : Nat} {bs : List Int} {e0 e1 : Nat} (h : PipeO w b bs e0 e1) (n : Int) :
    CallR Try.prog 197 [ag b, pd bd, .int .i64 n] w fun v w' => ∃ a l c, v = .slice a l c ∧ OB w' a l c (readP n bs e0 e1).1 ∧ Fresh w a ∧ PipeO w' b (readP n bs e0 e1).2.2 e0 e1 ∧ Kept (· = b) w w' := by
  refine C197 ?_
  unfold L197
  intro w1
  have hb1 : Blk w1 w.heap.size #[.pointer (some ⟨b, 0, none⟩)] := Blk.alloc _ _ _
  have hk1 : Kept No w w1 := Kept.alloc _ _ _
  clear_value w1
  have hz := hk1.size
  refine ⟨_, (hb1.cell 0).trans rfl, CallR.mono (kread_ok (h.keep hk1 (fun e => e)) n) ?_⟩
  rintro v w2 ⟨a, l, c, rfl, ho, hf, hp, hk2⟩
  exact ⟨_, _, _, _, rfl, a, l, c, rfl, ho, fun x hx => by have := hf x hx; omega, hp, (hk1.mono fun _ _ e => e.elim).trans hk2 fun _ _ e => e⟩

/-- Room in a pipe, by the kernel: nobody reads; it would wait; all. -/
def roomC (n : Int) (bs : List Int) (e0 e1 : Nat) : Int × Int := if e0 = 0 then (0, 53) else if canWP n bs e0 e1 = false then (0, 52) else (n, 0)

theorem croom_ok {w : World} {b bd : Nat} {bs : List Int} {e0 e1 : Nat} (h : PipeO w b bs e0 e1) (n : Int) :
    CallR Try.prog 198 [ag b, pd bd, .int .i64 n] w fun v w' => v = .tuple #[.int .i64 (roomC n bs e0 e1).1, .int .i64 (roomC n bs e0 e1).2] ∧ Kept No w w' := by
  refine C198 ?_
  unfold L198
  intro w1
  have hb1 : Blk w1 w.heap.size #[.pointer (some ⟨b, 0, none⟩)] := Blk.alloc _ _ _
  have hk1 : Kept No w w1 := Kept.alloc _ _ _
  clear_value w1
  refine ⟨_, (hb1.cell 0).trans rfl, kends_to (h.keep hk1 (fun e => e)) fun nd => ?_⟩
  have hk2 : Kept No w (w1.drewN nd) := hk1.no (Kept.drewN _ _ _)
  have hb2 : Blk (w1.drewN nd) w.heap.size #[.pointer (some ⟨b, 0, none⟩)] := hb1.drewN nd
  generalize w1.drewN nd = w2 at hk2 hb2 ⊢
  refine ⟨_, _, rfl, condI (fun he => ⟨?_, hk2⟩) (fun he => ⟨_, (hb2.cell 0).trans rfl, kcanw_to (h.keep hk2 (fun e => e)) n ⟨_, rfl, condI (fun hc => ⟨?_, hk2⟩) (fun hc => ⟨?_, hk2⟩)⟩⟩)⟩
  · have : e0 = 0 := by simpa using he
    unfold roomC; rw [if_pos this]
  · have : ¬ e0 = 0 := by simpa using he
    unfold roomC; rw [if_neg this, if_pos (notT hc)]
  · have : ¬ e0 = 0 := by simpa using he
    unfold roomC; rw [if_neg this, if_neg (by rw [notF hc]; simp)]

theorem cwrite_ok' {w : World} {b bd : Nat} {bs : List Int} {e0 e1 : Nat} (h : PipeO w b bs e0 e1) {a : Option Addr} {l c : Nat} {ds : List Int} (hd : RdB w a l c ds) (hab : ds ≠ [] → ¬ inA a b) (most : Int) :
    CallR Try.prog 199 [ag b, pd bd, .slice a l c, .int .i64 most] w fun v w' => v = .int .i64 (writeP ds most bs e0 e1).1 ∧ PipeO w' b (writeP ds most bs e0 e1).2.2 e0 e1 ∧ Kept (· = b) w w' := by
  refine C199 ?_
  unfold L199
  intro w1
  have hb1 : Blk w1 w.heap.size #[.pointer (some ⟨b, 0, none⟩)] := Blk.alloc _ _ _
  have hk1 : Kept No w w1 := Kept.alloc _ _ _
  clear_value w1
  refine ⟨_, (hb1.cell 0).trans rfl, CallR.mono (kwrite_ok (h.keep hk1 (fun e => e)) (hd.keep hk1 fun _ _ _ e => e) hab hd.2.1 most) ?_⟩
  rintro v w2 ⟨rfl, hp, hk2⟩
  exact ⟨_, _, rfl, rfl, hp, (hk1.mono fun _ _ e => e.elim).trans hk2 fun _ _ e => e⟩

theorem cdrop_ok {w : World} {b bd : Nat} {bs : List Int} {e0 e1 : Nat} {k : TK} {o : Nat} {fl at_ hd : Int} (h : PipeO w b bs e0 e1) (hds : DsO w bd k o fl at_ hd) :
    CallR Try.prog 195 [ag b, pd bd] w fun v w' => v = .tuple #[] ∧ PipeO w' b bs (leaveP (bitI fl 2 != 0) e0 e1).2.1 (leaveP (bitI fl 2 != 0) e0 e1).2.2 ∧ Kept (· = b) w w' := by
  refine C195 ?_
  unfold L195
  intro w1
  have hb1 : Blk w1 w.heap.size #[.pointer (some ⟨b, 0, none⟩)] := Blk.alloc _ _ _
  have hk1 : Kept No w w1 := Kept.alloc _ _ _
  clear_value w1
  intro w2
  have hb2 : Blk w2 w.heap.size #[.pointer (some ⟨b, 0, none⟩)] := hb1.drew
  have hk2 : Kept No w w2 := hk1.no (Kept.drew _ _)
  clear_value w2
  have hd2 : Blk w2 bd #[tv k o, .int .i64 fl, .int .i64 at_, .int .i64 hd] := Blk.keep hds hk2 (fun e => e)
  refine ⟨_, (hb2.cell 0).trans rfl, nnI ⟨_, hd2.at (i := 1) rfl, CallR.mono (kleave_ok (h.keep hk2 (fun e => e)) _) ?_⟩⟩
  rintro v w3 ⟨rfl, hp, hk3⟩
  exact ⟨_, rfl, rfl, hp, (hk2.mono fun _ _ e => e.elim).trans hk3 fun _ _ e => e⟩

/-- Would a read wait? -/
theorem waits_ok {w : World} {bd : Nat} {k : TK} {b : Nat} {fl at_ hd : Int} (h : DsO w bd k b fl at_ hd) {bs : List Int} {e0 e1 : Nat} (hp : k = .con → PipeO w b bs e0 e1) :
    CallR Try.prog 69 [pd bd] w fun v w' => v = .bool (if k = .con then !canRP bs e0 e1 else false) ∧ Kept No w w' := by
  refine C69 ?_
  unfold L69
  refine nnI ⟨_, Blk.at0 h rfl, ?_⟩
  by_cases hk : k = .con
  · have ht := tv_con k b w
    rw [if_pos hk] at ht
    refine ⟨_, _, _, ht, ?_⟩
    intro w2
    have hb2 : Blk w2 w.heap.size #[.pointer none] := Blk.alloc _ _ _
    have hk2 : Kept No w w2 := Kept.alloc _ _ _
    clear_value w2
    refine stC_blk hb2 (by simp) fun w3 hb3 hk3 _ => condTr2 ?_
    have hb3 : Blk w3 w.heap.size #[.pointer (some ⟨b, 0, none⟩)] := by simpa using hb3
    have k3 : Kept No w w3 := hk2.fresh hk3 (fun x e => by omega)
    refine ⟨_, (hb3.cell 0).trans rfl, kcanr_to ((hp hk).keep k3 (fun e => e)) ⟨_, rfl, ?_, k3⟩⟩
    rw [if_pos hk]
  · have ht := tv_con k b w
    rw [if_neg hk] at ht
    refine ⟨_, _, _, ht, ?_⟩
    intro w2
    have hb2 : Blk w2 w.heap.size #[.pointer none] := Blk.alloc _ _ _
    have hk2 : Kept No w w2 := Kept.alloc _ _ _
    clear_value w2
    refine stC_blk hb2 (by simp) fun w3 hb3 hk3 _ => condFa2 ⟨?_, hk2.fresh hk3 (fun x e => by omega)⟩
    rw [if_neg hk]

end Go.Proofs.Ytbiofmgebbdflaa
