/-
  What a stream that reads tells, byte by byte: the text; a new stream of any size. Conditions: as each says.
-/
import Derived.Test.YthddogeenimjcaaPnB
import Derived.Test.YthddogeenimjcaaPbG
set_option linter.unusedVariables false
namespace Go.Proofs.Ythddogeenimjcaa
open Go.Lw

structure Inv (p : Pu) (bs : List Int) (z : Int) (k got : Nat) : Prop where
  r : p.r = true
  m : p.m = 3
  z1 : p.z = z
  z2 : 1 ≤ z
  z3 : z ≤ 65536
  o : p.o = []
  k0 : p.k = []
  c : p.c = false
  d : p.d = 0 ∨ p.d = 1
  d0 : p.d = 0 → p.i = []
  i : p.i = (bs.drop got).take (k - got)
  g1 : got ≤ k
  g2 : k ≤ bs.length
  il : p.i.length ≤ 65536
  e : p.e = true → k = bs.length ∧ got = k

theorem Inv.ilen {p : Pu} {bs : List Int} {z : Int} {k got : Nat} (h : Inv p bs z k got) : p.i.length = k - got := by
  rw [h.i, List.length_take, List.length_drop]
  have := h.g2
  omega

theorem Inv.ck {p : Pu} {bs : List Int} {z : Int} {k got : Nat} (h : Inv p bs z k got) {ks : List Int} (hk : ks.length ≤ 8) (hd : ks.length ≠ 0 → p.d = 1) : ckP { p with k := ks } := by
  unfold ckP ckV
  have h1 := h.m
  have h2 := h.z1
  have h3 := h.z2
  have h4 := h.z3
  have h5 : p.o.length = 0 := by rw [h.o]; rfl
  have h6 := h.d
  have h7 := h.il
  have h8 : p.d = 0 → p.i.length = 0 := fun e => by rw [h.d0 e]; rfl
  dsimp only
  refine ⟨by omega, by omega, by omega, by omega, by omega, by omega, fun _ => h5, h7, hk, fun _ => h.r, fun e => by omega, fun _ => h5, fun e => ?_, fun e => ?_⟩
  · have : p.d = 0 := by omega
    have := h8 this
    by_cases hz : ks.length = 0
    · omega
    · exact absurd (hd hz) e
  · rw [h.c] at e; cases e

theorem Inv.same {p : Pu} {bs : List Int} {z : Int} {k got : Nat} (h : Inv p bs z k got) : { p with k := [] } = p := by
  have := h.k0
  cases p
  simp only at this
  subst this
  rfl

theorem Inv.ck0 {p : Pu} {bs : List Int} {z : Int} {k got : Nat} (h : Inv p bs z k got) : ckP p := by
  have := h.ck (ks := []) (by simp) (fun e => absurd rfl e)
  rw [h.same] at this
  exact this

theorem Inv.err {p : Pu} {bs : List Int} {z : Int} {k got : Nat} (h : Inv p bs z k got) : errP p = 0 := by
  have hb : begP p = 0 := begP_0.2 ⟨h.ck0, h.c⟩
  have := h.d
  unfold errP
  rw [if_neg (by omega), if_neg (by rw [h.r]; simp), if_neg (by omega)]

theorem get_inv {p : Pu} {bs : List Int} {z : Int} {k got : Nat} (h : Inv p bs z k got) :
    (got < bs.length → (getP p bs k).2.2.1 = 0 ∧ (getP p bs k).2.1 = bs.getD got 0 ∧ Inv (getP p bs k).1 bs z (getP p bs k).2.2.2.1 (got + 1)) ∧
      (¬ got < bs.length → (getP p bs k).2.2.1 = 111 ∧ Inv (getP p bs k).1 bs z (getP p bs k).2.2.2.1 got) := by
  have hk0 : p.k.length = 0 := by rw [h.k0]; rfl
  have hil := h.ilen
  have h1 := h.g1
  have h2 := h.g2
  have hz := h.z1
  have hz2 := h.z2
  have hz3 := h.z3
  by_cases hi : p.i.length ≠ 0
  · have hg : getP p bs k = ({ p with i := p.i.drop 1, d := 1 }, p.i.getD 0 0, 0, k, 0) := by unfold getP; rw [if_neg (by omega), if_pos hi]
    rw [hg]
    refine ⟨fun hlt => ⟨rfl, ?_, ?_⟩, fun hge => by omega⟩
    · show p.i.getD 0 0 = _
      rw [h.i, List.getD_eq_getElem?_getD, List.getD_eq_getElem?_getD, List.getElem?_take_of_lt (by omega), List.getElem?_drop]
      rfl
    · refine ⟨h.r, h.m, h.z1, h.z2, h.z3, h.o, h.k0, h.c, .inr rfl, (fun e => by simp at e), ?_, by dsimp only; omega, h2, ?_, fun e => ?_⟩
      · show p.i.drop 1 = _
        rw [h.i, List.drop_take, List.drop_drop]
        congr 1
      · show (p.i.drop 1).length ≤ _
        have := h.il
        rw [List.length_drop]; omega
      · have := h.e e
        omega
  · have hgk : got = k := by omega
    by_cases he : p.e = true
    · have hg : getP p bs k = ({ p with d := 1 }, 0, 111, k, 0) := by unfold getP; rw [if_neg (by omega), if_neg hi, if_pos he]
      have := h.e he
      rw [hg]
      refine ⟨fun hlt => by omega, fun hge => ⟨rfl, h.r, h.m, h.z1, h.z2, h.z3, h.o, h.k0, h.c, .inr rfl, (fun e => by simp at e), h.i, h1, h2, h.il, h.e⟩⟩
    · by_cases hm : min p.z.toNat (bs.length - k) = 0
      · have hg : getP p bs k = ({ p with d := 1, e := true }, 0, 111, k, 1) := by unfold getP; rw [if_neg (by omega), if_neg hi, if_neg he, if_pos hm]
        rw [hg]
        refine ⟨fun hlt => by omega, fun hge => ⟨rfl, h.r, h.m, h.z1, h.z2, h.z3, h.o, h.k0, h.c, .inr rfl, (fun e => by simp at e), h.i, h1, h2, h.il, fun _ => ⟨by dsimp only; omega, hgk⟩⟩⟩
      · have hg : getP p bs k = ({ p with d := 1, i := ((bs.drop k).take (min p.z.toNat (bs.length - k))).drop 1 }, bs.getD k 0, 0, k + min p.z.toNat (bs.length - k), 1) := by
          unfold getP; rw [if_neg (by omega), if_neg hi, if_neg he, if_neg hm]
        rw [hg]
        refine ⟨fun hlt => ⟨rfl, by rw [hgk], h.r, h.m, h.z1, h.z2, h.z3, h.o, h.k0, h.c, .inr rfl, (fun e => by simp at e), ?_, by dsimp only; omega, by dsimp only; omega, ?_, fun e => absurd e he⟩, fun hge => by omega⟩
        · show ((bs.drop k).take (min p.z.toNat (bs.length - k))).drop 1 = (bs.drop (got + 1)).take (k + min p.z.toNat (bs.length - k) - (got + 1))
          rw [List.drop_take, List.drop_drop, hgk]
          congr 1
          omega
        · show (((bs.drop k).take (min p.z.toNat (bs.length - k))).drop 1).length ≤ 65536
          rw [List.length_drop, List.length_take]
          omega

/-- With bytes put back. -/
theorem get_back {p : Pu} {bs ks : List Int} {k n : Nat} (hn : n < ks.length) (hd : p.d = 1) :
    getP { p with k := ks.take (n + 1) } bs k = ({ p with k := ks.take n }, ks.getD n 0, 0, k, 0) := by
  have hl : (ks.take (n + 1)).length = n + 1 := by rw [List.length_take]; omega
  unfold getP
  rw [if_pos (by dsimp only; omega)]
  dsimp only
  rw [hl]
  have e1 : (ks.take (n + 1)).take (n + 1 - 1) = ks.take n := by rw [List.take_take]; congr 1; omega
  have e2 : (ks.take (n + 1)).getD (n + 1 - 1) 0 = ks.getD n 0 := by
    rw [List.getD_eq_getElem?_getD, List.getD_eq_getElem?_getD, List.getElem?_take_of_lt (by omega)]
    rfl
  rw [e1, e2, ← hd]

def rdZ (z : Int) : Pu := { rdP with z := z }

theorem rdZ_inv {bs : List Int} {z : Int} (h1 : 1 ≤ z) (h2 : z ≤ 65536) : Inv (rdZ z) bs z 0 0 :=
  ⟨rfl, rfl, rfl, h1, h2, rfl, rfl, rfl, .inl rfl, fun _ => rfl, by simp [rdZ, rdP], Nat.le_refl _, Nat.zero_le _, by simp [rdZ, rdP], fun e => by cases e⟩

theorem newN_ok {w : World} (z : Int) : CallR Try.prog 20 [.agg #[.bool true, .bool false, .bool false, .bool false, .bool false, .bool false, .bool false, .bool false], .int .i64 3, .int .i64 z] w
    fun v w' => ((z < 1 ∨ 65536 < z) ∧ v = .tuple #[.agg (cs zeroP Sl3.no), .int .i64 4] ∨ (1 ≤ z ∧ z ≤ 65536) ∧ v = .tuple #[.agg (cs (rdZ z) Sl3.no), .int .i64 0]) ∧ Kept No w w' := by
  refine C20 ?_
  unfold L20
  intro w1 w2
  have hb1 : Blk w1 w.heap.size ({ Md.no with r := true } : Md).cs := Blk.alloc _ _ _
  have hk1 : Kept No w w1 := Kept.alloc _ _ _
  clear_value w1
  have hb2 : Blk w2 w1.heap.size (cs zeroP Sl3.no) := Blk.alloc _ _ _
  have hk2 : Kept No w1 w2 := Kept.alloc _ _ _
  clear_value w2
  have hb12 := hb1.keep hk2 (fun e => e)
  have hk02 := hk1.no hk2
  have hlt1 := hb1.lt
  refine ld8 hb12 (CallR.mono (ocheck_ok { Md.no with r := true }) ?_)
  rintro v w3 ⟨rfl, hk3⟩
  have e0 : (printM { Md.no with r := true }).2 = 0 := by decide +kernel
  rw [e0]
  refine ⟨_, rfl, condF rfl (CallR.mono (buf_ok 3 z) ?_)⟩
  rintro v w4 ⟨rfl, rfl⟩
  have hb13 := hb12.keep hk3 (fun e => e)
  have hb23 := hb2.keep hk3 (fun e => e)
  rw [if_neg (by omega)]
  by_cases hz : z < 1 ∨ 65536 < z
  · rw [if_pos hz]
    refine ⟨_, rfl, condT rfl (st11 (p := zeroP) (s := Sl3.no) hb23 rfl fun w5 hb5 hk5 => ld11 hb5 ⟨.inl ⟨hz, rfl⟩, ?_⟩)⟩
    exact (hk02.no hk3).fresh hk5 (fun x e => by omega)
  · rw [if_neg hz]
    refine ⟨_, rfl, condF rfl ⟨_, (hb13.cell 0).trans rfl, _, (hb13.cell 1).trans rfl, ?_⟩⟩
    refine st11 (p := rdZ z) (s := Sl3.no) hb23 rfl fun w5 hb5 hk5 => ld11 hb5 ⟨.inr ⟨by omega, rfl⟩, ?_⟩
    exact (hk02.no hk3).fresh hk5 (fun x e => by omega)

end Go.Proofs.Ythddogeenimjcaa
