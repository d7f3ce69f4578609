/-
  Memory of a size, that grows, that is read: writing, seeking, and the methods by name. Conditions: as each says.
-/
import Derived.Test.YtmpmobhofdefeaaMem
set_option linter.unusedVariables false
namespace Go.Proofs.Ytmpmobhofdefeaa
open Go.Lw

theorem mwrite_ok {F : Nat → Prop} {w : World} {b : Nat} {bs : List Int} {room pl : Nat} (h : StO F w b bs room pl) {a2 : Option Addr} {l2 c2 : Nat} {ds : List Int} (hd : RdB w a2 l2 c2 ds) (hap : ds ≠ [] → ∀ k, inA a2 k → ¬ F k) :
    CallR Try.prog 81 [pt b, .slice a2 l2 c2] w fun v w' => v = .tuple #[.int .i64 (writeM ds bs room pl).1, .int .i64 (writeM ds bs room pl).2.1] ∧ ∃ F', StO F' w' b (writeM ds bs room pl).2.2.1 room (writeM ds bs room pl).2.2.2 ∧ Grew F w F' ∧ Kept F w w' := by
  have h' := h
  obtain ⟨a, l, c, hb, ho, hna, h1, h2, h3, hF⟩ := h'
  have hlen := ho.len
  have hlen2 := hd.len
  have hlc2 : l2 ≤ c2 := hd.2.1
  refine C81 ?_
  unfold L81
  have hbad : ∀ {k : Int} {w' : World}, writeM ds bs room pl = (0, k, bs, pl) → Kept No w w' → Value.tuple #[.int .i64 0, .int .i64 k] = .tuple #[.int .i64 (writeM ds bs room pl).1, .int .i64 (writeM ds bs room pl).2.1] ∧ ∃ F', StO F' w' b (writeM ds bs room pl).2.2.1 room (writeM ds bs room pl).2.2.2 ∧ Grew F w F' ∧ Kept F w w' := by
    intro k w' e hk; rw [e]; exact ⟨rfl, F, h.keep hk (fun _ _ e => e), .same, hk.mono fun _ _ e => e.elim⟩
  refine nnI ⟨true, hb.at0 rfl, condF rfl (condP (fun g => hbad ?_ (Kept.refl _ _)) fun g => condI (fun g2 => hbad ?_ (Kept.refl _ _)) fun g2 => ?_)⟩
  · unfold writeM; rw [if_pos (by omega)]
  · simp only [beq_iff_eq] at g2
    have : ds = [] := List.eq_nil_of_length_eq_zero (by omega)
    unfold writeM; rw [if_neg (by omega), if_pos this]
  simp only [beq_eq_false_iff_ne] at g2
  have hne : ds ≠ [] := by rintro rfl; simp at hlen2; omega
  refine nnI ⟨_, hb.at (i := 3) rfl, nnI ⟨_, hb.at (i := 2) rfl, ?_⟩⟩
  intro nd w1
  have hk1 : Kept No w w1 := Kept.drewN No w nd
  have hb1 : Blk w1 b #[.bool true, .slice a l c, .int .i64 (room : Int), .int .i64 (pl : Int)] := hb
  have ho1 : OB w1 a l c bs := ho
  have hd1 : RdB w1 a2 l2 c2 ds := hd
  have hs1 : w1.heap.size = w.heap.size := rfl
  clear_value w1
  refine condP (fun g3 => hbad ?_ hk1) fun g3 => ?_
  · unfold writeM; rw [if_neg (by omega), if_neg hne, if_pos (by omega)]
  refine nnI ⟨_, hb1.at (i := 2) rfl, nnI ⟨_, hb1.at (i := 3) rfl, by unfold inI; omega, ?_⟩⟩
  intro nd w2
  have hk2 : Kept No w w2 := hk1.no (Kept.drewN No w1 nd)
  have hb2 : Blk w2 b #[.bool true, .slice a l c, .int .i64 (room : Int), .int .i64 (pl : Int)] := hb1
  have ho2 : OB w2 a l c bs := ho1
  have hd2 : RdB w2 a2 l2 c2 ds := hd1
  have hs2 : w2.heap.size = w.heap.size := hs1
  clear_value w2
  have hmn : mn (l2 : Int) ((room : Int) - (pl : Int)) = ((min l2 (room - pl) : Nat) : Int) := by rw [mn_eq]; omega
  rw [hmn]
  obtain ⟨m, hm⟩ : ∃ m, min l2 (room - pl) = m := ⟨_, rfl⟩
  rw [hm]
  have hm1 : m ≤ l2 ∧ pl + m ≤ room ∧ 1 ≤ m := by omega
  have hFb : F b := (hF b).2 (.inl rfl)
  have e : writeM ds bs room pl = ((m : Int), 0, lay bs pl (ds.take m), pl + m) := by
    unfold writeM; rw [if_neg (by omega), if_neg hne, if_neg (by omega), hlen2, hm]
  rw [e]
  have hdm : (ds.take m).length = m := by rw [List.length_take]; omega
  refine ⟨fun vs w' => vs = [] ∧ ∃ a' l' c', Blk w' b #[.bool true, .slice a' l' c', .int .i64 (room : Int), .int .i64 (pl : Int)] ∧ OB w' a' l' c' (grown bs (pl + m)) ∧ ¬ inA a' b ∧ (∀ x, inA a' x → inA a x ∨ w.heap.size ≤ x) ∧ Kept F w w',
    nnI ⟨_, hb2.at (i := 3) rfl, by unfold inI; omega, nnI ⟨a, l, c, hb2.at (i := 1) rfl, condP (fun g4 => ?_) (fun g4 => ⟨rfl, a, l, c, hb2, ?_, hna, fun x hx => .inl hx, hk2.mono fun _ _ e => e.elim⟩)⟩⟩, ?_⟩
  · intro w3
    have hk3 : Kept No w w3 := hk2.no (Kept.drew No w2)
    have hb3 : Blk w3 b #[.bool true, .slice a l c, .int .i64 (room : Int), .int .i64 (pl : Int)] := hb2
    have ho3 : OB w3 a l c bs := ho2
    have hs3 : w3.heap.size = w.heap.size := hs2
    clear_value w3
    have hsub : (pl : Int) + (m : Int) - (l : Int) = ((pl + m - l : Nat) : Int) := by omega
    obtain ⟨a', c', w4, hrun, hs, hk4, hat, hnn⟩ := run_app_zeros (P := Try.prog) (t := 26) (t2 := 3) (ty := 26) tyB (by kernel_rfl) (w := w3) ho3 (k := .i64) (m := pl + m - l) (by intro u hu; simp [Value.cells] at hu; subst hu; rfl) (by omega) (by omega)
    have hb4 := hb3.keep hk4 hna
    refine nnI ⟨a, l, c, hb3.at (i := 1) rfl, nnI ⟨a, l, c, hb3.at (i := 1) rfl, by unfold inI; omega, a', _, c', w4, by rw [hsub]; exact hrun, nnI (stC_at hb4 (by simp) fun w5 hb5 hk5 _ => ⟨rfl, a', l + (pl + m - l), c', by simpa using hb5, ?_, ?_, ?_, ?_⟩)⟩⟩
    · have hs' : OB w4 a' (l + (pl + m - l)) c' (grown bs (pl + m)) := by
        unfold OB grown
        rw [By_append, ← By_zeros, hlen]
        exact hs
      refine hs'.keep hk5 (fun x hx e => ?_)
      rcases hat.in hx with e' | e'
      · exact hna (e ▸ e')
      · have := hb3.lt; omega
    · intro hx
      rcases hat.in hx with e' | e'
      · exact hna e'
      · have := hb3.lt; omega
    · intro x hx
      rcases hat.in hx with e' | e'
      · exact .inl e'
      · right; omega
    · exact ((hk3.mono fun _ _ e => e.elim).trans hk4 fun x _ e => (hF x).2 (.inr e)).trans hk5 fun x _ e => e ▸ hFb
  · have : grown bs (pl + m) = bs := by unfold grown; rw [show pl + m - bs.length = 0 by omega]; simp
    rw [this]; exact ho2
  · rintro _ w6 ⟨_, a', l', c', hb6, ho6, hna6, hin6, hk6⟩
    have hl6 := ho6.len
    rw [grown_len, hlen] at hl6
    refine ⟨fun w' => Blk w' b #[.bool true, .slice a' l' c', .int .i64 (room : Int), .int .i64 (pl : Int)], hb6, ?_⟩
    intro w7
    have hk7 : Kept F w w7 := hk6.trans (Kept.drew No w6) (fun _ _ e => e.elim)
    have hb7 : Blk w7 b #[.bool true, .slice a' l' c', .int .i64 (room : Int), .int .i64 (pl : Int)] := hb6
    have ho7 : OB w7 a' l' c' (grown bs (pl + m)) := ho6
    clear_value w7
    have hd7 : RdB w7 a2 l2 c2 ds := hd.keep hk7 (fun x _ hx hf => hap hne x hx hf)
    have hdt : RdB w7 a2 m c2 (ds.take m) := hd7.to m hm1.1
    obtain ⟨w8, hrun8, ho8, hk8, hs8⟩ := copy_at ho7 (off := pl) hdt (by omega)
    have hb8 := hb7.keep hk8 hna6
    refine nnI ⟨_, fun wS h => h.at (i := 3) rfl, nnI ⟨a', l', c', fun wS h => h.at (i := 1) rfl, nnI ⟨_, fun wS h => h.at (i := 3) rfl, ⟨by omega, by omega⟩, ⟨by omega, by omega⟩, (m : Int), w8, ?_, hb8, by unfold inI; omega, nnI (stC_at hb8 (by simp) fun w9 hb9 hk9 _ => ⟨rfl, fun x => x = b ∨ inA a' x, ⟨a', l', c', by simpa using hb9, ?_, hna6, ?_, hm1.2.1, h3, fun k => Iff.rfl⟩, ?_, ?_⟩)⟩⟩⟩
    · rw [Int.toNat_natCast, Int.toNat_natCast]; exact hrun8
    · have : lay bs pl (ds.take m) = over (grown bs (pl + m)) (ds.take m) pl := by unfold lay; rw [hdm]
      rw [this]
      exact ho8.keep hk9 (fun x hx e => hna6 (e ▸ hx))
    · rw [lay_len, hdm]; omega
    · rintro x (rfl | hx)
      · exact .inl hFb
      · rcases hin6 x hx with h5 | h5
        · exact .inl ((hF x).2 (.inr h5))
        · exact .inr h5
    · refine (hk7.trans hk8 fun x hx e => ?_).trans hk9 fun x _ e => e ▸ hFb
      rcases hin6 x e with h5 | h5
      · exact (hF x).2 (.inr h5)
      · omega

theorem mseek_ok {F : Nat → Prop} {w : World} {b : Nat} {bs : List Int} {room pl : Nat} (h : StO F w b bs room pl) (off whence : Int) :
    CallR Try.prog 90 [pt b, .int .i64 off, .int .i64 whence] w fun v w' => v = .tuple #[.int .i64 (seekM off whence bs room pl).1, .int .i64 (seekM off whence bs room pl).2.1] ∧ StO F w' b bs room (seekM off whence bs room pl).2.2 ∧ Kept F w w' := by
  have h' := h
  obtain ⟨a, l, c, hb, ho, hna, h1, h2, h3, hF⟩ := h'
  have hlen := ho.len
  refine C90 ?_
  unfold L90
  have hbad : ∀ {k : Int} {w' : World}, seekM off whence bs room pl = (0, k, pl) → Kept No w w' → Value.tuple #[.int .i64 0, .int .i64 k] = .tuple #[.int .i64 (seekM off whence bs room pl).1, .int .i64 (seekM off whence bs room pl).2.1] ∧ StO F w' b bs room (seekM off whence bs room pl).2.2 ∧ Kept F w w' := by
    intro k w' e hk; rw [e]; exact ⟨rfl, h.keep hk (fun _ _ e => e), hk.mono fun _ _ e => e.elim⟩
  refine nnI ⟨true, hb.at0 rfl, condF rfl (condP (fun g => hbad ?_ (Kept.refl _ _)) fun g => condP (fun g2 => hbad ?_ (Kept.refl _ _)) fun g2 => ?_)⟩
  · unfold seekM; rw [if_pos (by omega)]
  · unfold seekM; rw [if_pos (by omega)]
  refine nnI ⟨_, hb.at (i := 3) rfl, nnI ⟨a, l, c, hb.at (i := 1) rfl, ⟨by omega, by omega⟩, baseM whence bs pl, ?_, ?_⟩⟩
  · have : whence = 0 ∨ whence = 1 ∨ whence = 2 := by omega
    rcases this with rfl | rfl | rfl <;> simp [baseM, hlen]
  have hbase : 0 ≤ baseM whence bs pl ∧ baseM whence bs pl ≤ room := by unfold baseM; split <;> (try split) <;> omega
  intro nd w1
  have hk1 : Kept No w w1 := Kept.drewN No w nd
  have hb1 : Blk w1 b #[.bool true, .slice a l c, .int .i64 (room : Int), .int .i64 (pl : Int)] := hb
  clear_value w1
  refine ⟨by unfold inI; omega, condP (fun g3 => hbad ?_ hk1) (fun g3 => nnI ⟨_, hb1.at (i := 2) rfl, by unfold inI; omega, condP (fun g4 => hbad ?_ hk1) (fun g4 => ⟨by unfold inI; omega, nnI (stC_at hb1 (by simp) fun w2 hb2 hk2 _ => nnI ⟨_, hb2.at (by simp; rfl), ?_⟩)⟩)⟩)⟩
  · unfold seekM; rw [if_neg (by omega), if_pos (by omega)]
  · unfold seekM; rw [if_neg (by omega), if_pos (by omega)]
  · have e : seekM off whence bs room pl = (baseM whence bs pl + off, 0, (baseM whence bs pl + off).toNat) := by unfold seekM; rw [if_neg (by omega), if_neg (by omega)]
    rw [e]
    have hnat : baseM whence bs pl + off = (((baseM whence bs pl + off).toNat : Nat) : Int) := by omega
    refine ⟨rfl, ⟨a, l, c, ?_, (ho.keep hk1 (fun _ _ e => e)).keep hk2 (fun x hx e => hna (e ▸ hx)), hna, h1, by dsimp only; omega, h3, hF⟩, (hk1.mono fun _ _ e => e.elim).trans hk2 fun x _ e => e ▸ (hF b).2 (.inl rfl)⟩
    rw [← hnat]; simpa using hb2

/-! ## By name -/

theorem fread_ok {F : Nat → Prop} {w : World} {b : Nat} {bs : List Int} {room pl : Nat} (h : StO F w b bs room pl) (n : Int) :
    CallR Try.prog 62 [pt b, .int .i64 n] w fun v w' => ∃ a l c, v = .tuple #[.slice a l c, .int .i64 (readM n bs pl).2.1] ∧ OB w' a l c (readM n bs pl).1 ∧ Fresh w a ∧ StO F w' b bs room (readM n bs pl).2.2 ∧ Kept F w w' := by
  refine C62 ?_
  unfold L62
  exact condF rfl (nnI ((mread_ok h n).mono fun v w' ⟨a, l, c, hv, r⟩ => ⟨a, l, c, _, hv, a, l, c, rfl, r⟩))
theorem gread_ok {F : Nat → Prop} {w : World} {b : Nat} {bs : List Int} {room pl : Nat} (h : StO F w b bs room pl) (n : Int) :
    CallR Try.prog 63 [pt b, .int .i64 n] w fun v w' => ∃ a l c, v = .tuple #[.slice a l c, .int .i64 (readM n bs pl).2.1] ∧ OB w' a l c (readM n bs pl).1 ∧ Fresh w a ∧ StO F w' b bs room (readM n bs pl).2.2 ∧ Kept F w w' := by
  refine C63 ?_
  unfold L63
  exact condF rfl (nnI ((mread_ok h n).mono fun v w' ⟨a, l, c, hv, r⟩ => ⟨a, l, c, _, hv, a, l, c, rfl, r⟩))
theorem rdread_ok {F : Nat → Prop} {w : World} {b : Nat} {bs : List Int} {room pl : Nat} (h : StO F w b bs room pl) (n : Int) :
    CallR Try.prog 69 [pt b, .int .i64 n] w fun v w' => ∃ a l c, v = .tuple #[.slice a l c, .int .i64 (readM n bs pl).2.1] ∧ OB w' a l c (readM n bs pl).1 ∧ Fresh w a ∧ StO F w' b bs room (readM n bs pl).2.2 ∧ Kept F w w' := by
  refine C69 ?_
  unfold L69
  exact condF rfl (nnI ((mread_ok h n).mono fun v w' ⟨a, l, c, hv, r⟩ => ⟨a, l, c, _, hv, a, l, c, rfl, r⟩))
theorem fwrite_ok {F : Nat → Prop} {w : World} {b : Nat} {bs : List Int} {room pl : Nat} (h : StO F w b bs room pl) {a2 : Option Addr} {l2 c2 : Nat} {ds : List Int} (hd : RdB w a2 l2 c2 ds) (hap : ds ≠ [] → ∀ k, inA a2 k → ¬ F k) :
    CallR Try.prog 43 [pt b, .slice a2 l2 c2] w fun v w' => v = .tuple #[.int .i64 (writeM ds bs room pl).1, .int .i64 (writeM ds bs room pl).2.1] ∧ ∃ F', StO F' w' b (writeM ds bs room pl).2.2.1 room (writeM ds bs room pl).2.2.2 ∧ Grew F w F' ∧ Kept F w w' := by
  refine C43 ?_
  unfold L43
  exact condF rfl (nnI ((mwrite_ok h hd hap).mono fun v w' ⟨hv, r⟩ => ⟨_, _, hv, rfl, r⟩))
theorem gwrite_ok {F : Nat → Prop} {w : World} {b : Nat} {bs : List Int} {room pl : Nat} (h : StO F w b bs room pl) {a2 : Option Addr} {l2 c2 : Nat} {ds : List Int} (hd : RdB w a2 l2 c2 ds) (hap : ds ≠ [] → ∀ k, inA a2 k → ¬ F k) :
    CallR Try.prog 64 [pt b, .slice a2 l2 c2] w fun v w' => v = .tuple #[.int .i64 (writeM ds bs room pl).1, .int .i64 (writeM ds bs room pl).2.1] ∧ ∃ F', StO F' w' b (writeM ds bs room pl).2.2.1 room (writeM ds bs room pl).2.2.2 ∧ Grew F w F' ∧ Kept F w w' := by
  refine C64 ?_
  unfold L64
  exact condF rfl (nnI ((mwrite_ok h hd hap).mono fun v w' ⟨hv, r⟩ => ⟨_, _, hv, rfl, r⟩))
theorem fseek_ok {F : Nat → Prop} {w : World} {b : Nat} {bs : List Int} {room pl : Nat} (h : StO F w b bs room pl) (off whence : Int) :
    CallR Try.prog 65 [pt b, .int .i64 off, .int .i64 whence] w fun v w' => v = .tuple #[.int .i64 (seekM off whence bs room pl).1, .int .i64 (seekM off whence bs room pl).2.1] ∧ StO F w' b bs room (seekM off whence bs room pl).2.2 ∧ Kept F w w' := by
  refine C65 ?_
  unfold L65
  exact condF rfl (nnI ((mseek_ok h off whence).mono fun v w' ⟨hv, r⟩ => ⟨_, _, hv, rfl, r⟩))
theorem gseek_ok {F : Nat → Prop} {w : World} {b : Nat} {bs : List Int} {room pl : Nat} (h : StO F w b bs room pl) (off whence : Int) :
    CallR Try.prog 66 [pt b, .int .i64 off, .int .i64 whence] w fun v w' => v = .tuple #[.int .i64 (seekM off whence bs room pl).1, .int .i64 (seekM off whence bs room pl).2.1] ∧ StO F w' b bs room (seekM off whence bs room pl).2.2 ∧ Kept F w w' := by
  refine C66 ?_
  unfold L66
  exact condF rfl (nnI ((mseek_ok h off whence).mono fun v w' ⟨hv, r⟩ => ⟨_, _, hv, rfl, r⟩))
theorem rdseek_ok {F : Nat → Prop} {w : World} {b : Nat} {bs : List Int} {room pl : Nat} (h : StO F w b bs room pl) (off whence : Int) :
    CallR Try.prog 91 [pt b, .int .i64 off, .int .i64 whence] w fun v w' => v = .tuple #[.int .i64 (seekM off whence bs room pl).1, .int .i64 (seekM off whence bs room pl).2.1] ∧ StO F w' b bs room (seekM off whence bs room pl).2.2 ∧ Kept F w w' := by
  refine C91 ?_
  unfold L91
  exact condF rfl (nnI ((mseek_ok h off whence).mono fun v w' ⟨hv, r⟩ => ⟨_, _, hv, rfl, r⟩))
theorem rdwrite_to {F : Nat → Prop} {w : World} {b : Nat} {bs : List Int} {room pl : Nat} (h : StO F w b bs room pl) {a2 : Option Addr} {l2 c2 : Nat} {Q : Value → World → Prop} (hq : Q (.tuple #[.int .i64 0, .int .i64 65]) w) :
    CallR Try.prog 70 [pt b, .slice a2 l2 c2] w Q := by
  obtain ⟨a, l, c, hb, ho, hna, h1, h2, h3, hF⟩ := h
  refine C70 ?_
  unfold L70
  exact condF rfl (nnI ⟨true, hb.at0 rfl, condF rfl hq⟩)
theorem fbytes_ok {F : Nat → Prop} {w : World} {b : Nat} {bs : List Int} {room pl : Nat} (h : StO F w b bs room pl) :
    CallR Try.prog 44 [pt b] w fun v w' => ∃ a c, v = .slice a bs.length c ∧ OB w' a bs.length c bs ∧ Fresh w a ∧ Kept No w w' := by
  obtain ⟨a, l, c, hb, ho, hna, h1, h2, h3, hF⟩ := h
  have hlen := ho.len
  refine C44 ?_
  unfold L44
  refine condF rfl (nnI ⟨a, l, c, hb.at (i := 1) rfl, (clone_ok ho.rd (by omega)).mono fun v w' ⟨a', c', hv, ho', hk, hf, _⟩ => ⟨a', l, c', hv, a', c', by rw [hlen], ho', hf, hk⟩⟩)
theorem gbytes_ok {F : Nat → Prop} {w : World} {b : Nat} {bs : List Int} {room pl : Nat} (h : StO F w b bs room pl) :
    CallR Try.prog 67 [pt b] w fun v w' => ∃ a c, v = .slice a bs.length c ∧ OB w' a bs.length c bs ∧ Fresh w a ∧ Kept No w w' := by
  obtain ⟨a, l, c, hb, ho, hna, h1, h2, h3, hF⟩ := h
  have hlen := ho.len
  refine C67 ?_
  unfold L67
  refine condF rfl (nnI ⟨a, l, c, hb.at (i := 1) rfl, (clone_ok ho.rd (by omega)).mono fun v w' ⟨a', c', hv, ho', hk, hf, _⟩ => ⟨a', l, c', hv, a', c', by rw [hlen], ho', hf, hk⟩⟩)

end Go.Proofs.Ytmpmobhofdefeaa
