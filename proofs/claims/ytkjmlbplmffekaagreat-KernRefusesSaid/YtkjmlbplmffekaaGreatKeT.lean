/-
  Files through descriptions, as values: an opening of what is there, reads and writes by other descriptions, a seek. Conditions: as each says.
-/
import Derived.Test.YtkjmlbplmffekaaGreatKeP
import Derived.Test.YtkjmlbplmffekaaGreatKeK
set_option linter.unusedVariables false
namespace Go.Proofs.YtkjmlbplmffekaaGreat
open Go.Lw

theorem ext_getD' {xs ys : List Int} (hl : xs.length = ys.length) (h : ∀ k, k < xs.length → xs.getD k 0 = ys.getD k 0) : xs = ys := by
  apply List.ext_getElem hl
  intro i h1 h2
  have := h i h1
  rw [List.getD_eq_getElem?_getD, List.getD_eq_getElem?_getD, List.getElem?_eq_getElem h1, List.getElem?_eq_getElem h2] at this
  simpa using this

/-- What was laid is read back. -/
theorem lay_piece (bs : List Int) (o : Nat) (ds : List Int) : ((lay bs o ds).drop o).take ds.length = ds := by
  refine ext_getD' (by rw [List.length_take, List.length_drop, lay_len]; omega) fun k hk => ?_
  have hk : k < ds.length := by rw [List.length_take] at hk; omega
  rw [List.getD_eq_getElem?_getD, List.getElem?_take, if_pos hk, List.getElem?_drop, ← List.getD_eq_getElem?_getD, lay_getD, if_pos (by omega), show o + k - o = k by omega]

theorem lay_nil0 (ds : List Int) : lay [] 0 ds = ds := by
  have := lay_piece [] 0 ds
  rw [List.drop_zero, List.take_of_length_le (by rw [lay_len]; simp)] at this
  exact this

namespace AK

theorem open_there {s : AK} {nm : ByteArray} {i : Nat} {fl : Int} (hn : namedS nm = true) (hf : flagged fl = true) (hl : s.descs.length < 256) (hfo : s.fileOf nm = some (nm, i)) (hto : s.termOf nm = none) (h32 : bitI fl 32 = 0) (h16 : bitI fl 16 = 0) :
    s.open_ nm fl = (s.next, 0, s.newD i fl) := by
  have hE : s.openE nm fl = 0 := by
    unfold openE
    rw [if_neg (by rw [hn]; simp), if_neg (by rw [hf]; simp), if_neg (by omega), hfo, if_pos (.inl rfl), if_neg (by rw [h32]; simp)]
  unfold open_
  rw [if_neg (by rw [hE]; simp)]
  have hS : s.openS nm fl = s.newD i fl := by
    unfold openS
    rw [hto, hfo]
    dsimp only
    rw [if_neg (by rw [h16]; simp)]
  rw [hS]

theorem FD.read_other {s : AK} {d n : Int} {i : Nat} {bs : List Int} {fl at_ : Int} (h : FD s d i bs fl at_) (hb : bitI fl 1 = 1) (h1 : 1 ≤ n) (h2 : n ≤ 1048576) {d' : Int} {i' : Nat} {bs' : List Int} {fl' at' : Int} (h' : FD s d' i' bs' fl' at') (hd : d' ≠ d) : FD (s.read d n).2.2 d' i' bs' fl' at' := by
  obtain ⟨hd1, hx⟩ := h.ex
  obtain ⟨hd2, hy⟩ := h'.ex
  rw [read_file hx h.ob hb h1 h2]
  by_cases e : (metF s.ps n).2 ≠ 0
  · rw [if_pos e]; exact ⟨⟨hd2, hy⟩, h'.ob, h'.a0⟩
  · rw [if_neg e]
    exact ⟨⟨hd2, (desc_setD_ne (s := s.met0) hd).trans hy⟩, h'.ob, h'.a0⟩

/-- A write to a file, at its place. -/
theorem write_fd {s : AK} {d : Int} {i : Nat} {bs : List Int} {fl : Int} {at_ : Nat} (h : FD s d i bs fl (at_ : Int)) (hb : bitI fl 2 = 2) (h4 : bitI fl 4 = 0) {ds : List Int} (h1 : ds ≠ []) (h2 : ds.length ≤ 1048576) (ha : at_ < 1048576) (hps : ∀ p ∈ s.ps, mayP p) :
    ((metF s.ps ds.length).2 ≠ 0 → s.write d ds = (0, (metF s.ps ds.length).2, s.met1)) ∧
    ((metF s.ps ds.length).2 = 0 → ∃ m : Nat, (m : Int) = min (metF s.ps ds.length).1 (1048576 - (at_ : Int)) ∧ 1 ≤ m ∧ m ≤ ds.length ∧ ∃ hd, s.desc d = some ⟨d, i, fl, (at_ : Int), hd⟩ ∧
      s.write d ds = ((m : Int), 0, (s.met1.setO i (.file (lay bs at_ (ds.take m)))).setD d ((at_ : Int) + (m : Int)) hd)) := by
  obtain ⟨hd, hx⟩ := h.ex
  have hl : 1 ≤ ds.length := by
    cases ds with
    | nil => exact absurd rfl h1
    | cons a r => simp
  have hpl : placeF fl (at_ : Int) bs = (at_ : Int) := by unfold placeF; rw [if_neg (by rw [h4]; simp)]
  have hro : s.roomO ⟨d, i, fl, (at_ : Int), hd⟩ ds.length = (min (ds.length : Int) (1048576 - (at_ : Int)), 0) := by
    unfold roomO
    rw [show s.objs i = .file bs from h.ob]
    show roomD (placeF fl (at_ : Int) bs) ds.length = _
    rw [hpl]
    unfold roomD
    rw [if_pos (by omega)]
    congr 1
    unfold mn
    omega
  have hw : s.write d ds = if (metF s.ps ds.length).2 ≠ 0 then (0, (metF s.ps ds.length).2, s.met1) else
      ((s.met1.wrO ⟨d, i, fl, (at_ : Int), hd⟩ ds (min (metF s.ps ds.length).1 (min (ds.length : Int) (1048576 - (at_ : Int))))).1, 0, (s.met1.wrO ⟨d, i, fl, (at_ : Int), hd⟩ ds (min (metF s.ps ds.length).1 (min (ds.length : Int) (1048576 - (at_ : Int))))).2) := by
    unfold write
    rw [if_neg (fun e => e (find_of hx hb)), if_neg (by omega), if_neg (by omega), hx]
    dsimp only
    rw [hro, if_neg (by simp)]
  constructor
  · intro e; rw [hw, if_pos e]
  · intro e
    rw [if_neg (fun e' => e' e)] at hw
    have hmet : 1 ≤ (metF s.ps ds.length).1 ∧ (metF s.ps ds.length).1 ≤ ds.length := by
      rcases metF_ok hps (n := (ds.length : Int)) (by omega) with ⟨_, g1, g2⟩ | ⟨_, g, _⟩
      · exact ⟨g1, g2⟩
      · omega
    obtain ⟨m, hm⟩ : ∃ m : Nat, (m : Int) = min (metF s.ps ds.length).1 (1048576 - (at_ : Int)) := ⟨(min (metF s.ps ds.length).1 (1048576 - (at_ : Int))).toNat, by omega⟩
    refine ⟨m, hm, by omega, by omega, hd, hx, ?_⟩
    rw [hw]
    have hmo : min (metF s.ps ds.length).1 (min (ds.length : Int) (1048576 - (at_ : Int))) = (m : Int) := by omega
    rw [hmo]
    unfold wrO
    rw [show s.met1.objs i = .file bs from h.ob]
    dsimp only
    have hmin : min ds.length (Int.toNat (m : Int)) = m := by omega
    rw [hpl, hmin]
    have hwf : (writeF bs (at_ : Int) (ds.take m)).2 = lay bs at_ (ds.take m) := by
      unfold writeF
      have hlt : (ds.take m).length = m := by rw [List.length_take]; omega
      rw [if_neg (by unfold okN; rw [decide_eq_true (by omega)]; simp), if_neg (by rw [hlt]; omega), if_neg (by rw [hlt]; omega), Int.toNat_natCast]
    rw [hwf]

theorem FD.of_write {s : AK} {d : Int} {i : Nat} {bs bs2 : List Int} {fl : Int} {at_ m : Nat} {hd : Int} (hx : s.desc d = some ⟨d, i, fl, (at_ : Int), hd⟩) : FD ((s.met1.setO i (.file bs2)).setD d ((at_ : Int) + (m : Int)) hd) d i bs2 fl ((at_ + m : Nat) : Int) :=
  ⟨⟨hd, by rw [desc_setD_same (s := s.met1.setO i (.file bs2)) hx, Int.natCast_add]⟩, objs_setO_same _ _ _, by omega⟩

theorem FD.write_other {s : AK} {d : Int} {i : Nat} {bs bs2 : List Int} {at2 hd : Int} {d' fl' at' : Int} (h' : FD s d' i bs fl' at') (hd' : d' ≠ d) : FD ((s.met1.setO i (.file bs2)).setD d at2 hd) d' i bs2 fl' at' := by
  obtain ⟨hd2, hy⟩ := h'.ex
  exact ⟨⟨hd2, (desc_setD_ne (s := s.met1.setO i (.file bs2)) hd').trans hy⟩, objs_setO_same _ _ _, h'.a0⟩
theorem FD.write_apart {s : AK} {d : Int} {i j : Nat} {bs bs2 : List Int} {at2 hd : Int} {d' fl' at' : Int} (h' : FD s d' j bs fl' at') (hd' : d' ≠ d) (hij : j ≠ i) : FD ((s.met1.setO i (.file bs2)).setD d at2 hd) d' j bs fl' at' := by
  obtain ⟨hd2, hy⟩ := h'.ex
  exact ⟨⟨hd2, (desc_setD_ne (s := s.met1.setO i (.file bs2)) hd').trans hy⟩, (objs_setO_ne _ _ hij).trans h'.ob, h'.a0⟩

theorem write_zero {s : AK} {d : Int} {ds : List Int} (h : ds.length = 0 ∨ 1048576 < ds.length) : (s.write d ds).1 = 0 := by
  unfold write
  by_cases h1 : s.find d 2 ≠ 0
  · rw [if_pos h1]
  rw [if_neg h1]
  by_cases h2 : 1048576 < ds.length
  · rw [if_pos h2]
  rw [if_neg h2]
  by_cases h3 : ds.length = 0
  · rw [if_pos h3]
  · omega

/-- A seek from the beginning. -/
theorem seek_fd {s : AK} {d : Int} {i : Nat} {bs : List Int} {fl at_ : Int} (h : FD s d i bs fl at_) {off : Int} (h0 : 0 ≤ off) (h1 : off ≤ 1048576) : ∃ hd, s.seek d off 0 = (off, 0, s.setD d off hd) ∧ FD (s.setD d off hd) d i bs fl off := by
  obtain ⟨hd, hx⟩ := h.ex
  refine ⟨hd, ?_, ⟨hd, desc_setD_same hx⟩, h.ob, h0⟩
  unfold seek
  rw [if_neg (fun e => e (find_of hx (bit0 _))), hx]
  dsimp only
  rw [show s.objs i = .file bs from h.ob]
  dsimp only
  rw [if_neg (by omega), if_pos rfl, if_neg (by omega), Int.zero_add]

theorem one_file (nm : ByteArray) (bs : List Int) (ps : List (Int × Int)) : (new [(nm, bs)] [] ps).fileOf nm = some (nm, 0) ∧ (new [(nm, bs)] [] ps).termOf nm = none :=
  ⟨by show List.find? _ [(nm, 0)] = _; rw [List.find?_cons_of_pos (by simp)], rfl⟩

theorem ck_one {nm : ByteArray} (hn : namedS nm = true) {bs : List Int} (h : bs.length ≤ 1048576) (ps : List (Int × Int)) : checkK [(nm, bs)] [] ps = ckF ps := by
  have h1 : freshK [] nm = 0 := freshK_zero.2 ⟨hn, by simp⟩
  have h2 : ckFs [(nm, bs)] [] = (0, [nm]) := by
    rw [ckFs_cons, if_neg (fun e => e h1), if_neg (by dsimp only; omega)]
    rfl
  unfold checkK
  rw [if_neg (by simp), h2, if_neg (by simp), if_neg (by simp [ckTs])]

end AK

theorem KStep.apart {w w' : World} {L L' : KL} (st : KStep w w' L L') {a : Option Addr} (ha : ∀ z, inA a z → L.own z = none ∧ z < w.heap.size) : ∀ z, inA a z → L'.own z = none := by
  intro z hz
  obtain ⟨h1, h2⟩ := ha z hz
  cases ho : L'.own z with
  | none => rfl
  | some t =>
    exfalso
    rcases st.grew z (by rw [ho]; simp) with e | e
    · exact e h1
    · omega

/-- The caller's own memory, new behind the beginning. -/
theorem KStep.priv {w w1 w2 : World} {L L1 : KL} (h : KStep w w1 L L1) {S : Nat → Prop} (k : Kept S w1 w2) (hS : ∀ x, S x → w.heap.size ≤ x) : KStep w w2 L L1 :=
  ⟨h.kept.trans k fun x hx e => by have := hS x e; omega, h.grew⟩

/-- What was there before the kernel was is not the kernel's. -/
theorem KStep.not_old {W w0 w : World} {L0 L : KL} (st : KStep w0 w L0 L) (hL : ∀ z, L0.own z ≠ none → W.heap.size ≤ z) (hz : W.heap.size ≤ w0.heap.size) : ∀ z, z < W.heap.size → L.own z = none := by
  intro z h
  cases ho : L.own z with
  | none => rfl
  | some t =>
    exfalso
    rcases st.grew z (by rw [ho]; simp) with e | e
    · have := hL z e; omega
    · omega

end Go.Proofs.YtkjmlbplmffekaaGreat
