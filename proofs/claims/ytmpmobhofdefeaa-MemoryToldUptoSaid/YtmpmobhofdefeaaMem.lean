/-
  Memory of a size, that grows, that is read: what its methods do. Conditions: as each says.
-/
import Derived.Test.YtmpmobhofdefeaaLay
import Derived.Test.YtmpmobhofdefeaaLM
set_option linter.unusedVariables false
namespace Go.Proofs.Ytmpmobhofdefeaa
open Go.Lw

/-- A store of these bytes, this room and this place; F is the memory it has. -/
def StO (F : Nat → Prop) (w : World) (b : Nat) (bs : List Int) (room pl : Nat) : Prop :=
  ∃ a l c, Blk w b #[.bool true, .slice a l c, .int .i64 (room : Int), .int .i64 (pl : Int)] ∧ OB w a l c bs ∧ ¬ inA a b ∧ bs.length ≤ room ∧ pl ≤ room ∧ room ≤ 1048576 ∧ ∀ k, F k ↔ k = b ∨ inA a k

theorem StO.keep {F S : Nat → Prop} {w w' : World} {b : Nat} {bs : List Int} {room pl : Nat} (h : StO F w b bs room pl) (k : Kept S w w') (hn : ∀ k, F k → ¬ S k) : StO F w' b bs room pl := by
  obtain ⟨a, l, c, hb, ho, hna, h1, h2, h3, hF⟩ := h
  exact ⟨a, l, c, hb.keep k (hn b ((hF b).2 (.inl rfl))), ho.keep k fun x hx => hn x ((hF x).2 (.inr hx)), hna, h1, h2, h3, hF⟩

theorem StO.lt {F : Nat → Prop} {w : World} {b : Nat} {bs : List Int} {room pl : Nat} (h : StO F w b bs room pl) : ∀ k, F k → k < w.heap.size := by
  obtain ⟨a, l, c, hb, ho, hna, h1, h2, h3, hF⟩ := h
  intro k hk
  rcases (hF k).1 hk with rfl | hk
  · exact hb.lt
  · exact SlO.lt ho k hk

theorem StO.is {F : Nat → Prop} {w : World} {b : Nat} {bs : List Int} {room pl : Nat} (h : StO F w b bs room pl) : bs.length ≤ room ∧ pl ≤ room ∧ room ≤ 1048576 ∧ F b := by
  obtain ⟨a, l, c, hb, ho, hna, h1, h2, h3, hF⟩ := h; exact ⟨h1, h2, h3, (hF b).2 (.inl rfl)⟩

def readM (n : Int) (bs : List Int) (pl : Nat) : List Int × Int × Nat :=
  if n < 0 ∨ n > 1048576 then ([], 4, pl) else ((bs.drop pl).take n.toNat, 0, pl + ((bs.drop pl).take n.toNat).length)

def writeM (ds bs : List Int) (room pl : Nat) : Int × Int × List Int × Nat :=
  if ds.length > 1048576 then (0, 5, bs, pl) else if ds = [] then (0, 0, bs, pl) else if pl ≥ room then (0, 31, bs, pl) else
    (((min ds.length (room - pl) : Nat) : Int), 0, lay bs pl (ds.take (min ds.length (room - pl))), pl + min ds.length (room - pl))

def baseM (whence : Int) (bs : List Int) (pl : Nat) : Int := if whence = 0 then 0 else if whence = 1 then (pl : Int) else (bs.length : Int)
def seekM (off whence : Int) (bs : List Int) (room pl : Nat) : Int × Int × Nat :=
  if whence < 0 ∨ whence > 2 then (0, 1, pl) else if off < -(baseM whence bs pl) ∨ off > (room : Int) - baseM whence bs pl then (0, 4, pl) else (baseM whence bs pl + off, 0, (baseM whence bs pl + off).toNat)

theorem mkept_ok {w : World} {a : Option Addr} {l c : Nat} {bs : List Int} (h : RdB w a l c bs) (hl : l ≤ 140737488355328) (room : Int) :
    CallR Try.prog 80 [.slice a l c, .int .i64 room] w fun v w' => ∃ a' c', v = .agg #[.bool true, .slice a' l c', .int .i64 room, .int .i64 0] ∧ OB w' a' l c' bs ∧ Kept No w w' ∧ Fresh w a' := by
  refine C80 ?_
  unfold L80
  intro w1
  have hb1 : Blk w1 w.heap.size #[.bool false, .slice none 0 0, .int .i64 0, .int .i64 0] := Blk.alloc w _ _
  have hk1 : Kept No w w1 := Kept.alloc _ w _
  have hs1 : w1.heap.size = w.heap.size + 1 := by simp [w1]
  clear_value w1
  have hlen := h.len
  refine (clone_ok (h.keep hk1 (fun _ _ _ e => e)) hl).mono fun v w2 ⟨a', c', hv, ho, hk2, hf, hn⟩ => ⟨a', _, c', hv, ?_⟩
  have hb2 := hb1.keep hk2 (fun e => e)
  rw [hlen] at ho
  have hs2 := hk2.size
  generalize hg : w.heap.size = g at *
  refine stC_blk hb2 (by simp) fun w3 hb3 hk3 _ => stC_blk hb3 (by simp) fun w4 hb4 hk4 _ => stC_blk hb4 (by simp) fun w5 hb5 hk5 _ => stC_blk hb5 (by simp) fun w6 hb6 hk6 _ => ?_
  have hb6 : Blk w6 g #[.bool true, .slice a' l c', .int .i64 room, .int .i64 0] := by simpa using hb6
  have hga : ¬ inA a' g := fun e => by have := hf _ e; omega
  refine ⟨true, a', l, c', room, 0, hb6.cell 0, hb6.cell 1, hb6.cell 2, hb6.cell 3, a', c', rfl, ?_, ?_, ?_⟩
  · exact (((ho.keep hk3 (fun x hx e => hga (e ▸ hx))).keep hk4 (fun x hx e => hga (e ▸ hx))).keep hk5 (fun x hx e => hga (e ▸ hx))).keep hk6 (fun x hx e => hga (e ▸ hx))
  · have h2 := hk1.no hk2
    exact (((h2.fresh hk3 (by intro x e; omega)).fresh hk4 (by intro x e; omega)).fresh hk5 (by intro x e; omega)).fresh hk6 (by intro x e; omega)
  · intro x hx; have := hf x hx; omega

/-- What a new one is. -/
theorem mnew_of {w w1 : World} {a' : Option Addr} {l c' : Nat} {bs : List Int} {room : Nat} (ho : OB w1 a' l c' bs) (hk : Kept No w w1) (hf : Fresh w a') (h1 : bs.length ≤ room) (h2 : room ≤ 1048576) (t : TypeId) :
    ∃ F', StO F' (w1.alloc (.cells #[.bool true, .slice a' l c', .int .i64 (room : Int), .int .i64 0] t)) w1.heap.size bs room 0 ∧ Kept No w (w1.alloc (.cells #[.bool true, .slice a' l c', .int .i64 (room : Int), .int .i64 0] t)) ∧ (∀ x, F' x → w.heap.size ≤ x) := by
  have hs := hk.size
  refine ⟨fun x => x = w1.heap.size ∨ inA a' x, ⟨a', l, c', Blk.alloc w1 _ _, ho.keep (Kept.alloc No w1 _) (fun _ _ e => e), fun e => by have := SlO.lt ho _ e; omega, h1, by omega, h2, fun k => Iff.rfl⟩, hk.no (Kept.alloc No w1 _), ?_⟩
  rintro x (rfl | hx)
  · exact hs
  · exact hf x hx

/-- A new memory, or none. -/
def MNew (w : World) (e : Int) (bs : List Int) (room : Nat) (v : Value) (w' : World) : Prop :=
  (e ≠ 0 ∧ v = .tuple #[.pointer none, .int .i64 e] ∧ Kept No w w') ∨ (e = 0 ∧ ∃ b F', v = .tuple #[pt b, .int .i64 0] ∧ StO F' w' b bs room 0 ∧ Kept No w w' ∧ ∀ x, F' x → w.heap.size ≤ x)

def newFE (size : Int) (n : Nat) : Int := if size < 0 ∨ size > 1048576 then 4 else if (n : Int) > size then 5 else 0

theorem mnewF_ok {w : World} (size : Int) {a : Option Addr} {l c : Nat} {bs : List Int} (h : RdB w a l c bs) :
    CallR Try.prog 42 [.int .i64 size, .slice a l c] w fun v w' => MNew w (newFE size bs.length) bs size.toNat v w' := by
  refine C42 ?_
  unfold L42
  have hlen := h.len
  refine condP (fun g => .inl ⟨?_, ?_, Kept.refl _ _⟩) fun g => condP (fun g2 => .inl ⟨?_, ?_, Kept.refl _ _⟩) fun g2 => condP (fun g3 => .inl ⟨?_, ?_, Kept.refl _ _⟩) fun g3 => ?_
  · unfold newFE; rw [if_pos (by omega)]; decide
  · unfold newFE; rw [if_pos (by omega)]
  · unfold newFE; rw [if_pos (by omega)]; decide
  · unfold newFE; rw [if_pos (by omega)]
  · unfold newFE; rw [if_neg (by omega), if_pos (by omega)]; decide
  · unfold newFE; rw [if_neg (by omega), if_pos (by omega)]
  · refine (mkept_ok h (by omega) size).mono fun v w1 ⟨a', c', hv, ho, hk, hf⟩ => ⟨_, _, _, _, _, _, hv, ?_⟩
    have he : newFE size bs.length = 0 := by unfold newFE; rw [if_neg (by omega), if_neg (by omega)]
    have hsz : size = ((size.toNat : Nat) : Int) := by omega
    intro w2
    refine .inr ⟨he, ?_⟩
    have := mnew_of (w := w) (room := size.toNat) ho hk hf (by omega) (by omega)
    rw [← hsz] at this
    obtain ⟨F', h1, h2, h3⟩ := this _
    exact ⟨_, F', rfl, h1, h2, h3⟩

theorem mnewG_ok {w : World} {a : Option Addr} {l c : Nat} {bs : List Int} (h : RdB w a l c bs) :
    CallR Try.prog 46 [.slice a l c] w fun v w' => MNew w (if bs.length > 1048576 then 5 else 0) bs 1048576 v w' := by
  refine C46 ?_
  unfold L46
  have hlen := h.len
  refine condP (fun g => .inl ⟨?_, ?_, Kept.refl _ _⟩) fun g => ?_
  · rw [if_pos (by omega)]; decide
  · rw [if_pos (by omega)]
  · refine (mkept_ok h (by omega) 1048576).mono fun v w1 ⟨a', c', hv, ho, hk, hf⟩ => ⟨_, _, _, _, _, _, hv, ?_⟩
    intro w2
    refine .inr ⟨if_neg (by omega), ?_⟩
    obtain ⟨F', h1, h2, h3⟩ := mnew_of (w := w) (room := 1048576) ho hk hf (by omega) (by omega) _
    exact ⟨_, F', rfl, h1, h2, h3⟩

theorem mnewR_ok {w : World} {a : Option Addr} {l c : Nat} {bs : List Int} (h : RdB w a l c bs) :
    CallR Try.prog 48 [.slice a l c] w fun v w' => MNew w (if bs.length > 1048576 then 5 else 0) bs bs.length v w' := by
  refine C48 ?_
  unfold L48
  have hlen := h.len
  refine condP (fun g => .inl ⟨?_, ?_, Kept.refl _ _⟩) fun g => ?_
  · rw [if_pos (by omega)]; decide
  · rw [if_pos (by omega)]
  · refine (mkept_ok h (by omega) _).mono fun v w1 ⟨a', c', hv, ho, hk, hf⟩ => ⟨_, _, _, _, _, _, hv, ?_⟩
    intro w2
    refine .inr ⟨if_neg (by omega), ?_⟩
    rw [hlen]
    obtain ⟨F', h1, h2, h3⟩ := mnew_of (w := w) (room := l) ho hk hf (by omega) (by omega) _
    exact ⟨_, F', rfl, h1, h2, h3⟩

theorem mread_ok {F : Nat → Prop} {w : World} {b : Nat} {bs : List Int} {room pl : Nat} (h : StO F w b bs room pl) (n : Int) :
    CallR Try.prog 89 [pt b, .int .i64 n] w fun v w' => ∃ a l c, v = .tuple #[.slice a l c, .int .i64 (readM n bs pl).2.1] ∧ OB w' a l c (readM n bs pl).1 ∧ Fresh w a ∧ StO F w' b bs room (readM n bs pl).2.2 ∧ Kept F w w' := by
  have h' := h
  obtain ⟨a, l, c, hb, ho, hna, h1, h2, h3, hF⟩ := h'
  have hlen := ho.len
  refine C89 ?_
  unfold L89
  have hbad : readM n bs pl = ([], 4, pl) → ∃ a l c, Value.tuple #[.slice none 0 0, .int .i64 4] = .tuple #[.slice a l c, .int .i64 (readM n bs pl).2.1] ∧ OB w a l c (readM n bs pl).1 ∧ Fresh w a ∧ StO F w b bs room (readM n bs pl).2.2 ∧ Kept F w w := by
    intro e; rw [e]; exact ⟨none, 0, 0, rfl, OB.nil w, Fresh.none w, h, Kept.refl _ _⟩
  refine nnI ⟨true, hb.at0 rfl, condF rfl (condP (fun g => hbad ?_) fun g => condP (fun g2 => hbad ?_) fun g2 => ?_)⟩
  · unfold readM; rw [if_pos (by omega)]
  · unfold readM; rw [if_pos (by omega)]
  refine nnI ⟨_, hb.at (i := 3) rfl, nnI ⟨a, l, c, hb.at (i := 1) rfl, ?_⟩⟩
  intro nd w1 w2
  have hk2 : Kept No w w2 := (Kept.drewN No w nd).no (Kept.drew _ _)
  have hb2 : Blk w2 b _ := hb
  have ho2 : OB w2 a l c bs := ho
  have hs2 : w2.heap.size = w.heap.size := rfl
  clear_value w2
  have e : readM n bs pl = ((bs.drop pl).take n.toNat, 0, pl + ((bs.drop pl).take n.toNat).length) := by unfold readM; rw [if_neg (by omega)]
  rw [e]
  have hfrom : mn (pl : Int) (l : Int) = ((min pl l : Nat) : Int) := by rw [mn_eq]; omega
  have hto : mn (((min pl l : Nat) : Int) + n) (l : Int) = ((min (min pl l + n.toNat) l : Nat) : Int) := by rw [mn_eq]; omega
  rw [hfrom]
  refine nnI ⟨a, l, c, hb2.at (i := 1) rfl, by unfold inI; omega, nnI ⟨a, l, c, hb2.at (i := 1) rfl, ?_⟩⟩
  rw [hto, Int.toNat_natCast, Int.toNat_natCast]
  have hlc : l ≤ c := ho.rd.2.1
  have hpc : RdB w2 (adv a (min pl l) c 1) (min (min pl l + n.toNat) l - min pl l) (c - min pl l) ((bs.drop pl).take n.toNat) := by
    have h5 := RdB.to (RdB.from ho2.rd (min pl l) (by omega)) (min (min pl l + n.toNat) l - min pl l) (by omega)
    have e5 : ((bs.drop (min pl l)).take (min (min pl l + n.toNat) l - min pl l)) = (bs.drop pl).take n.toNat := by
      by_cases hpl : pl ≤ l
      · rw [Nat.min_eq_left hpl, List.take_eq_take_iff, List.length_drop]; omega
      · rw [Nat.min_eq_right (by omega), List.drop_of_length_le (by omega), List.drop_of_length_le (by omega)]; simp
    rw [e5] at h5; exact h5
  have hpl := hpc.len
  refine ⟨⟨by omega, by omega⟩, ⟨by omega, by omega⟩, (clone_ok hpc (by omega)).mono fun v w3 ⟨a4, c4, hv, ho4, hk4, hf4, hn4⟩ => ⟨a4, _, c4, hv, ?_⟩⟩
  have hb3 := hb2.keep hk4 (fun e => e)
  have hFb : F b := (hF b).2 (.inl rfl)
  have hlt := hb2.lt
  have hdl : ((bs.drop pl).take n.toNat).length ≤ l - pl := by rw [List.length_take, List.length_drop]; omega
  have hpr : pl + ((bs.drop pl).take n.toNat).length ≤ room := by
    rcases Nat.le_total pl l with hx | hx <;> omega
  refine nnI ⟨_, hb3.at (i := 3) rfl, by unfold inI; omega, nnI (stC_at hb3 (by simp) fun w4 hb4 hk5 _ => ⟨a4, _, c4, rfl, ?_, ?_, ?_, ?_⟩)⟩
  · rw [← hpl]; exact ho4.keep hk5 (fun x hx e => by have := hf4 x hx; omega)
  · intro x hx; have := hf4 x hx; omega
  · rw [← hpl] at hb4
    refine ⟨a, l, c, by simpa using hb4, ((ho2.keep hk4 (fun _ _ e => e)).keep hk5 (fun x hx e => hna (e ▸ hx))), hna, h1, hpr, h3, hF⟩
  · exact ((hk2.trans hk4 fun _ _ e => e).mono fun _ _ e => e.elim).trans hk5 (fun x _ e => e ▸ hFb)

end Go.Proofs.Ytmpmobhofdefeaa
