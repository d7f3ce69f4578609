
/-
  Two files, one that is read and one that is made and written: as values; all of it read, all of it written, whatever the faults are. Conditions: as each says.
-/
import Derived.Test.YtkjmlbplmffekaaKf
import Derived.Test.YtkjmlbplmffekaaKeX
import Derived.Test.YtkjmlbplmffekaaPt
set_option linter.unusedVariables false
namespace Go.Proofs.Ytkjmlbplmffekaa
open Go.Lw

theorem lay_end0 (bs ds : List Int) : lay bs bs.length ds = bs ++ ds := by
  refine ext_getD' (by rw [lay_len, List.length_append]; omega) fun k hk => ?_
  rw [lay_getD, List.getD_eq_getElem?_getD, List.getD_eq_getElem?_getD, List.getD_eq_getElem?_getD, List.getElem?_append]
  by_cases h : k < bs.length
  · rw [if_neg (by omega), if_pos h]
  · rw [lay_len] at hk
    rw [if_pos (by omega), if_neg h]

theorem take_app_drop (xs : List Int) (i m : Nat) : xs.take i ++ (xs.drop i).take m = xs.take (i + m) := (List.take_add).symm

abbrev nF : ByteArray := ByteArray.mk #[102]
abbrev nG : ByteArray := ByteArray.mk #[103]

namespace AK

/-- Opened: one file to be read, one that is new. -/
def twoF (bs : List Int) (ps : List (Int × Int)) : AK := ⟨[(nF, 0), (nG, 1)], [], fun j => if j = 1 then .file [] else if j = 0 then .file bs else .file [], 2, [⟨1, 0, 1, 0, 1⟩, ⟨2, 1, 10, 0, 1⟩], 3, ps, 0, 0⟩

theorem open_two (bs : List Int) (ps : List (Int × Int)) : ((new [(nF, bs)] [] ps).newD 0 1).open_ nG 10 = (2, 0, twoF bs ps) := by
  have hfo : ((new [(nF, bs)] [] ps).newD 0 1).fileOf nG = none := by
    show List.find? _ [(nF, 0)] = _
    rw [List.find?_cons_of_neg (by simp)]
    rfl
  have hto : ((new [(nF, bs)] [] ps).newD 0 1).termOf nG = none := rfl
  have hE : ((new [(nF, bs)] [] ps).newD 0 1).openE nG 10 = 0 := by
    unfold openE
    rw [if_neg (by rw [show namedS nG = true by kernel_rfl]; simp), if_neg (by rw [show flagged 10 = true by kernel_rfl]; simp), if_neg (by show ¬ 256 ≤ 1; omega), hfo, hto, if_neg (by simp), if_neg (by rw [show bitI 10 8 = 8 by kernel_rfl]; decide), if_neg (by show ¬ 256 ≤ 1 + 0; omega)]
  unfold open_
  rw [if_neg (by rw [hE]; simp)]
  have hS : ((new [(nF, bs)] [] ps).newD 0 1).openS nG 10 = twoF bs ps := by
    unfold openS
    rw [hto, hfo]
    rfl
  rw [hS]
  rfl

theorem two_r (bs : List Int) (ps : List (Int × Int)) : FD (twoF bs ps) 1 0 bs 1 0 := ⟨⟨1, rfl⟩, rfl, Int.le_refl _⟩
theorem two_w (bs : List Int) (ps : List (Int × Int)) : FD (twoF bs ps) 2 1 [] 10 0 := ⟨⟨1, rfl⟩, rfl, Int.le_refl _⟩

theorem sort_two : sortN [nF, nG] = [nF, nG] := by
  unfold sortN
  rw [List.mergeSort_of_pairwise (l := dataL [nF, nG]) (by
    show List.Pairwise _ [[102], [103]]
    refine List.pairwise_cons.2 ⟨fun a ha => ?_, List.pairwise_singleton _ _⟩
    simp only [List.mem_singleton] at ha
    subst ha
    decide), strL_dataL]

theorem filesV_two {s : AK} (hf : s.files = [(nF, 0), (nG, 1)]) {bs x : List Int} (h0 : s.objs 0 = .file bs) (h1 : s.objs 1 = .file x) : s.filesV = [(nF, bs), (nG, x)] := by
  have e0 : s.bytesOf nF = bs := by
    unfold bytesOf fileOf
    rw [hf, List.find?_cons_of_pos (by simp)]
    dsimp only
    rw [h0]; rfl
  have e1 : s.bytesOf nG = x := by
    unfold bytesOf fileOf
    rw [hf, List.find?_cons_of_neg (by simp), List.find?_cons_of_pos (by simp)]
    dsimp only
    rw [h1]; rfl
  unfold filesV
  rw [hf]
  show (sortN [nF, nG]).map _ = _
  rw [sort_two]
  show [(nF, s.bytesOf nF), (nG, s.bytesOf nG)] = _
  rw [e0, e1]

/-- What a read of a file leaves as it was. -/
structure RFr (d : Int) (s s' : AK) : Prop where
  files : s'.files = s.files
  terms : s'.terms = s.terms
  objs : s'.objs = s.objs
  desc : ∀ d', d' ≠ d → s'.desc d' = s.desc d'
  next : s'.next = s.next
  c1 : s'.c1 = s.c1

theorem RFr.refl (d : Int) (s : AK) : RFr d s s := ⟨rfl, rfl, rfl, fun _ _ => rfl, rfl, rfl⟩
theorem RFr.trans {d : Int} {s s1 s2 : AK} (h : RFr d s s1) (k : RFr d s1 s2) : RFr d s s2 :=
  ⟨k.files.trans h.files, k.terms.trans h.terms, k.objs.trans h.objs, fun d' hd => (k.desc d' hd).trans (h.desc d' hd), k.next.trans h.next, k.c1.trans h.c1⟩

theorem read_fr {s : AK} {d n : Int} {i : Nat} {bs : List Int} {fl at_ : Int} (h : FD s d i bs fl at_) (hb : bitI fl 1 = 1) (h1 : 1 ≤ n) (h2 : n ≤ 1048576) : RFr d s (s.read d n).2.2 := by
  obtain ⟨hd, hx⟩ := h.ex
  rw [read_file hx h.ob hb h1 h2]
  split
  · exact ⟨rfl, rfl, rfl, fun _ _ => rfl, rfl, rfl⟩
  · exact ⟨rfl, rfl, rfl, fun d' hd' => desc_setD_ne (s := s.met0) hd', rfl, rfl⟩

theorem someN_fr : ∀ (k : Nat) {s : AK} {d n : Int} {i : Nat} {bs : List Int} {fl at_ : Int}, FD s d i bs fl at_ → bitI fl 1 = 1 → 1 ≤ n → n ≤ 1048576 → RFr d s (someN k s d n).2.2
  | 0, s, d, n, i, bs, fl, at_, h, hb, h1, h2 => .refl _ _
  | k + 1, s, d, n, i, bs, fl, at_, h, hb, h1, h2 => by
    have hr := read_fr h hb h1 h2
    unfold someN
    split
    · rename_i he
      obtain ⟨r1, r2⟩ := read_fd h hb h1 h2
      by_cases hz : (metF s.ps n).2 ≠ 0
      · rw [r1 hz] at hr ⊢
        obtain ⟨hd, hx⟩ := h.ex
        have h' : FD s.met0 d i bs fl at_ := ⟨⟨hd, hx⟩, h.ob, h.a0⟩
        exact hr.trans (someN_fr k h' hb h1 h2)
      · obtain ⟨_, q2, _⟩ := r2 (Decidable.not_not.1 hz)
        rw [q2] at he; omega
    · exact hr

theorem rsome_fr {s : AK} {d n : Int} {i : Nat} {bs : List Int} {fl at_ : Int} (h : FD s d i bs fl at_) (hb : bitI fl 1 = 1) (h1 : 1 ≤ n) (h2 : n ≤ 1048576) : RFr d s (s.rsome d n).2.2 := by
  unfold rsome
  rw [if_neg (by omega)]
  exact someN_fr 8192 h hb h1 h2

theorem FD.fr {s s' : AK} {d' : Int} {i : Nat} {bs : List Int} {fl at_ d : Int} (h : FD s d' i bs fl at_) (f : RFr d s s') (hd : d' ≠ d) : FD s' d' i bs fl at_ := by
  obtain ⟨hd2, hx⟩ := h.ex
  exact ⟨⟨hd2, (f.desc d' hd).trans hx⟩, by rw [f.objs]; exact h.ob, h.a0⟩

theorem allN_fd : ∀ (k : Nat) {s : AK} {d n : Int} {i : Nat} {bs : List Int} {fl : Int} {at0 : Nat} {acc : List Int}, FD s d i bs fl (((at0 + acc.length : Nat)) : Int) → bitI fl 1 = 1 → acc = (bs.drop at0).take acc.length → (acc.length : Int) < n → n ≤ 1048576 →
    (n - acc.length ≤ (k : Int)) → (∀ p ∈ s.ps, mayP p) → s.ps.length ≤ 4096 →
    (allN k s d n acc).1 = (bs.drop at0).take n.toNat ∧ (allN k s d n acc).2.1 = 0 ∧ RFr d s (allN k s d n acc).2.2 ∧ (∀ p ∈ (allN k s d n acc).2.2.ps, mayP p) ∧ (allN k s d n acc).2.2.ps.length ≤ s.ps.length
  | 0, s, d, n, i, bs, fl, at0, acc, h, hb, ha, hlt, h2, hk, hp, hl => by omega
  | k + 1, s, d, n, i, bs, fl, at0, acc, h, hb, ha, hlt, h2, hk, hp, hl => by
    obtain ⟨m, m1, m2, q1, q2, q3, q4, q5, q6, q7, q8⟩ := rsome_fd h hb (n := n - acc.length) (by omega) (by omega) hp hl
    have fr := rsome_fr h hb (n := n - acc.length) (by omega) (by omega)
    rw [allN_succ]
    generalize hgot : (s.rsome d (n - (acc.length : Int))).1 = got at q1 ⊢
    generalize hs2 : (s.rsome d (n - (acc.length : Int))).2.2 = s2 at q3 q4 q5 q6 q7 q8 fr ⊢
    rw [q2]
    have hg : got = ((bs.drop at0).drop acc.length).take m.toNat := by
      rw [q1]; unfold piece
      rw [List.drop_drop, Int.toNat_natCast]
    have hcat : acc ++ got = (bs.drop at0).take (acc.length + m.toNat) := by
      rw [hg, List.take_add, ← ha]
    have hgl : got.length = min m.toNat ((bs.drop at0).length - acc.length) := by rw [hg, List.length_take, List.length_drop]
    have hal : acc.length ≤ (bs.drop at0).length := by
      have := congrArg List.length ha
      rw [List.length_take] at this; omega
    have hat2 : (((at0 + acc.length : Nat)) : Int) + ((piece bs (((at0 + acc.length : Nat)) : Int) m).length : Int) = (((at0 + (acc ++ got).length : Nat)) : Int) := by
      rw [← q1, List.length_append]; omega
    rw [hat2] at q3
    by_cases hc : (0 : Int) = 0 ∧ got.length ≠ 0 ∧ ((acc.length + got.length : Nat) : Int) < n
    · rw [if_pos hc]
      have hacc : acc ++ got = (bs.drop at0).take (acc ++ got).length := by
        rw [hcat, List.length_take]
        by_cases e : acc.length + m.toNat ≤ (bs.drop at0).length
        · rw [Nat.min_eq_left e]
        · rw [List.take_of_length_le (by omega), List.take_of_length_le (by omega)]
      have hlen : (acc ++ got).length = acc.length + got.length := List.length_append
      obtain ⟨r1, r2, r3, r4, r5⟩ := allN_fd k q3 hb hacc (by rw [hlen]; exact hc.2.2) h2 (by rw [hlen]; omega) q4 (by omega)
      exact ⟨r1, r2, fr.trans r3, r4, by omega⟩
    · rw [if_neg hc]
      refine ⟨?_, rfl, fr, q4, q5⟩
      show acc ++ got = _
      rw [hcat]
      by_cases e : got.length = 0
      · have : (bs.drop at0).length ≤ acc.length := by omega
        rw [List.take_of_length_le (by omega), List.take_of_length_le (by omega)]
      · have : acc.length + got.length = n.toNat := by omega
        congr 1
        omega

theorem rall_fd {s : AK} {d n : Int} {i : Nat} {bs : List Int} {fl : Int} (h : FD s d i bs fl 0) (hb : bitI fl 1 = 1) (h1 : 1 ≤ n) (h2 : n ≤ 1048576) (hp : ∀ p ∈ s.ps, mayP p) (hl : s.ps.length ≤ 4096) :
    (s.rall d n).1 = bs.take n.toNat ∧ (s.rall d n).2.1 = 0 ∧ RFr d s (s.rall d n).2.2 ∧ (∀ p ∈ (s.rall d n).2.2.ps, mayP p) ∧ (s.rall d n).2.2.ps.length ≤ s.ps.length := by
  have := allN_fd (n.toNat + 1) (s := s) (d := d) (n := n) (i := i) (bs := bs) (fl := fl) (at0 := 0) (acc := []) h hb (by simp) (by simp; omega) h2 (by simp; omega) hp hl
  rw [List.drop_zero] at this
  exact this

theorem putAr1 {X done p m k : Nat} (hk : 8192 * (X - done) + (8192 - p) ≤ k + 1) (h1 : 1 ≤ m) (hd : ¬ X ≤ done) (hp : p < 8192) : 8192 * (X - (done + m)) + (8192 - 0) ≤ k := by omega
theorem putAr2 {X done m l : Nat} (h : l = X - done) (h2 : m ≤ l) (hd : done ≤ X) : done + m ≤ X := by omega
theorem putAr3 {p a : Nat} (h : p + a < 8192) : 0 + (a - 1) < 8192 := by omega

theorem putN_fd : ∀ (k : Nat) {s : AK} {d : Int} {i : Nat} {x : List Int} {fl : Int} {done p : Nat}, FD s d i (x.take done) fl (done : Int) → bitI fl 2 = 2 → bitI fl 4 = 0 → done ≤ x.length → x.length ≤ 1048576 → (∀ p ∈ s.ps, mayP p) → p + s.ps.length < 8192 → 8192 * (x.length - done) + (8192 - p) ≤ k →
    ∃ s', putN k s d x done p = ((x.length : Int), 0, s') ∧ s'.objs i = .file x ∧ (∀ j, j ≠ i → s'.objs j = s.objs j) ∧ s'.files = s.files ∧ s'.c0 = s.c0
  | 0, s, d, i, x, fl, done, p, h, hb, h4, hd, hx, hp, hpp, hk => by omega
  | k + 1, s, d, i, x, fl, done, p, h, hb, h4, hd, hx, hp, hpp, hk => by
    rw [putN_succ]
    by_cases hdone : x.length ≤ done
    · rw [if_pos hdone]
      refine ⟨s, rfl, ?_, fun _ _ => rfl, rfl, rfl⟩
      rw [h.ob, List.take_of_length_le hdone]
    · rw [if_neg hdone]
      have hrl : (x.drop done).length = x.length - done := List.length_drop
      obtain ⟨w1, w2⟩ := write_fd h hb h4 (ds := x.drop done) (fun e => by rw [e] at hrl; simp at hrl; omega) (by omega) (by omega) hp
      have hdp : ∀ p ∈ s.ps.drop 1, mayP p := fun p hq => hp p (List.mem_of_mem_drop hq)
      rcases metF_ok hp (n := ((x.drop done).length : Int)) (by omega) with ⟨e, _, _⟩ | ⟨_, e, hne⟩
      · obtain ⟨m, hm, m1, m2, hd2, hdx, hw⟩ := w2 e
        rw [hw]
        dsimp only
        rw [if_neg (by omega), if_neg (by omega), if_neg (by omega)]
        have hfd := FD.of_write (s := s) (d := d) (i := i) (bs := x) (bs2 := lay (x.take done) done ((x.drop done).take m)) (m := m) hdx
        have hl2 : lay (x.take done) done ((x.drop done).take m) = x.take (done + m) := by
          have e1 : (x.take done).length = done := by rw [List.length_take]; omega
          have := lay_end0 (x.take done) ((x.drop done).take m)
          rw [e1] at this
          rw [this, take_app_drop]
        rw [hl2] at hfd ⊢
        have hpl : ((s.met1.setO i (.file (x.take (done + m)))).setD d ((done : Int) + (m : Int)) hd2).ps.length = s.ps.length - 1 := by show (s.ps.drop 1).length = _; rw [List.length_drop]
        have htn : done + Int.toNat (m : Int) = done + m := by omega
        rw [htn]
        have hA : done + m ≤ x.length := putAr2 hrl m2 hd
        have hB : 0 + ((s.met1.setO i (.file (x.take (done + m)))).setD d ((done : Int) + (m : Int)) hd2).ps.length < 8192 := by rw [hpl]; exact putAr3 hpp
        have hC : 8192 * (x.length - (done + m)) + (8192 - 0) ≤ k := putAr1 hk m1 hdone (Nat.lt_of_le_of_lt (Nat.le_add_right _ _) hpp)
        have hfd : FD _ d i (x.take (done + m)) fl (((done + m : Nat)) : Int) := hfd
        obtain ⟨s', r1, r2, r3, r4, r5⟩ := putN_fd k (p := 0) hfd hb h4 hA hx hdp hB hC
        exact ⟨s', r1, r2, fun j hj => (r3 j hj).trans (objs_setO_ne _ _ hj), r4, r5⟩
      · have hz : (metF s.ps ((x.drop done).length : Int)).2 ≠ 0 := by omega
        rw [w1 hz]
        dsimp only
        have hl : 1 ≤ s.ps.length := by
          rcases List.eq_nil_or_concat s.ps with h | ⟨l, a, h⟩
          · exact absurd h hne
          · rw [h]; simp
        rw [if_pos (by omega), if_neg (by omega)]
        obtain ⟨hd2, hdx⟩ := h.ex
        have h' : FD s.met1 d i (x.take done) fl (done : Int) := ⟨⟨hd2, hdx⟩, h.ob, h.a0⟩
        have hpl : s.met1.ps.length = s.ps.length - 1 := by show (s.ps.drop 1).length = _; rw [List.length_drop]
        clear w1 w2
        obtain ⟨s', r1, r2, r3, r4, r5⟩ := putN_fd k (p := p + 1) h' hb h4 hd hx hdp (by rw [hpl]; omega) (by omega)
        exact ⟨s', r1, r2, r3, r4, r5⟩

theorem rput_fd {s : AK} {d : Int} {i : Nat} {x : List Int} {fl : Int} (h : FD s d i [] fl 0) (hb : bitI fl 2 = 2) (h4 : bitI fl 4 = 0) (hx : x.length ≤ 1048576) (hp : ∀ p ∈ s.ps, mayP p) (hl : s.ps.length ≤ 4096) :
    ∃ s', s.rput d x = ((x.length : Int), 0, s') ∧ s'.objs i = .file x ∧ (∀ j, j ≠ i → s'.objs j = s.objs j) ∧ s'.files = s.files ∧ s'.c0 = s.c0 := by
  unfold rput
  rw [if_neg (by omega)]
  exact putN_fd (8192 * x.length + 8193) (done := 0) (p := 0) h hb h4 (by omega) hx hp (by omega) (by omega)

end AK
end Go.Proofs.Ytkjmlbplmffekaa
