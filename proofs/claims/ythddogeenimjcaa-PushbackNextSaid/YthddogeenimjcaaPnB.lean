/-
  A byte is got from a stream over a Raw that counts. Conditions: as each says.
-/
import Derived.Test.YthddogeenimjcaaPn
set_option linter.unusedVariables false
namespace Go.Proofs.Ythddogeenimjcaa
open Go.Lw

theorem nnE {p : Option Addr} {q : Addr} {K : Addr → Prop} (h : p = some q) (hk : K q) : nn p K := by subst h; exact hk

theorem clone3_ok {w : World} {a : Option Addr} {l c : Nat} {bs : List Int} (h : RdB w a l c bs) (hl : l ≤ 140737488355328) :
    CallR Try.prog 38 [.slice a l c] w fun v w' => ∃ a' c', v = .slice a' l c' ∧ OB w' a' l c' bs ∧ Kept No w w' ∧ Fresh w a' := by
  refine CallR.mono (clone_ok h hl) ?_
  rintro v w' ⟨a', c', rfl, h1, h2, h3, _⟩
  rw [h.len] at h1
  exact ⟨a', c', rfl, h1, h2, h3⟩

def cs12 (p : Pu) (s : Sl3) (v : Value) : Array Value := #[.bool p.r, .bool p.w, .int .i64 p.m, .int .i64 p.z, .slice s.oa s.ol s.oc, .slice s.ia s.il s.ic, .slice s.ka s.kl s.kc, .int .i64 p.d, .bool p.e, .bool p.b, .bool p.c, v]

theorem cs12_put {p : Pu} {s : Sl3} {v : Value} {a1 a2 a3 : Option Addr} {l1 l2 l3 c1 c2 c3 : Nat} :
    (((cs12 p s v).setIfInBounds 4 (.slice a1 l1 c1)).setIfInBounds 5 (.slice a2 l2 c2)).setIfInBounds 6 (.slice a3 l3 c3) = cs12 p ⟨a1, l1, c1, a2, l2, c2, a3, l3, c3⟩ v := rfl
theorem cs12_d {p : Pu} {s : Sl3} {v : Value} {d : Int} : (cs12 p s v).setIfInBounds 7 (.int .i64 d) = cs12 { p with d := d } s v := rfl
theorem cs12_e {p : Pu} {s : Sl3} {v : Value} {e : Bool} : (cs12 p s v).setIfInBounds 8 (.bool e) = cs12 { p with e := e } s v := rfl
theorem cs12_b {p : Pu} {s : Sl3} {v : Value} {b : Bool} : (cs12 p s v).setIfInBounds 9 (.bool b) = cs12 { p with b := b } s v := rfl
theorem cs12_k {p : Pu} {s : Sl3} {v : Value} {a : Option Addr} {l c : Nat} {ks : List Int} : (cs12 p s v).setIfInBounds 6 (.slice a l c) = cs12 { p with k := ks } { s with ka := a, kl := l, kc := c } v := rfl
theorem cs12_i {p : Pu} {s : Sl3} {v : Value} {a : Option Addr} {l c : Nat} {xs : List Int} : (cs12 p s v).setIfInBounds 5 (.slice a l c) = cs12 { p with i := xs } { s with ia := a, il := l, ic := c } v := rfl

theorem begin_ok {w : World} {p : Pu} {s : Sl3} {t : TypeId} {u : Value} (h : Rd3 w s p) (hbd : Bd p) (hck : ckP p) (hc : p.c = false)
    (hnil : ∀ w x y, Sem.run Try.prog (Sem.bind (eqGuard .eql 65 x y (.iface t u) .nilIface) (fun _ => binOp .eql 65 (.iface t u) .nilIface)) w = .ok (.bool false) w) :
    CallR Try.prog 30 [.agg (cs p s), .iface t u] w fun v w' => ∃ gw s', v = .tuple #[.pointer (some ⟨gw, 0, none⟩), .int .i64 0] ∧ Blk w' gw (cs12 p s' (.iface t u)) ∧ Ow3 w w' s' p ∧ w.heap.size ≤ gw ∧ (∀ b, inA s'.oa b ∨ inA s'.ia b ∨ inA s'.ka b → b ≠ gw) ∧ Kept No w w' := by
  refine C30 ?_
  unfold L30
  intro w1
  have hb1 : Blk w1 w.heap.size (cs p s) := Blk.alloc _ _ _
  have hk1 : Kept No w w1 := Kept.alloc _ _ _
  clear_value w1
  refine ld11 hb1 ?_
  intro w2
  have hb2 : Blk w2 w1.heap.size (cs12 p s (.iface t u)) := Blk.alloc _ _ _
  have hk2 : Kept No w1 w2 := Kept.alloc _ _ _
  clear_value w2
  have hb12 := hb1.no' hk2
  have k2 := hk1.no hk2
  have hlt1 := hb1.lt
  have hlt2 := hb2.lt
  obtain ⟨B1, B2, B3⟩ := hbd
  refine ⟨fun wS => Blk wS w.heap.size (cs p s), hb12.drew, _, _, _, fun wS hS => (hS.cell 4).trans rfl, _, _, _, fun wS hS => (hS.cell 5).trans rfl, _, _, _, fun wS hS => (hS.cell 6).trans rfl, ?_⟩
  have hkd : Kept No w2 w2.drew := Kept.drew _ _
  have h1 := h.no (k2.no hkd)
  refine CallR.mono (clone3_ok h1.1 (by rw [← h1.1.len]; omega)) ?_
  rintro v w6 ⟨a1, c1, rfl, ho1, hk6, hf1⟩
  have hb6 := (hb12.drew).no' hk6
  have h6 := h1.no hk6
  refine ⟨_, _, _, rfl, hb6, CallR.mono (clone3_ok h6.2.1 (by rw [← h1.2.1.len]; omega)) ?_⟩
  rintro v w7 ⟨a2, c2, rfl, ho2, hk7, hf2⟩
  have hb7 := hb6.no' hk7
  have h7 := h6.no hk7
  refine ⟨_, _, _, rfl, hb7, CallR.mono (clone3_ok h7.2.2 (by rw [← h1.2.2.len]; omega)) ?_⟩
  rintro v w8 ⟨a3, c3, rfl, ho3, hk8, hf3⟩
  have kd8 : Kept No w2 w8 := ((hkd.no hk6).no hk7).no hk8
  have hb8 := hb12.no' kd8
  have hb28 := hb2.no' kd8
  have l1 := ho1.lt
  have l2 := ho2.lt
  have y0 : w2.drew.heap.size = w2.heap.size := rfl
  have y1 : w2.heap.size ≤ w6.heap.size := by have := hk6.size; omega
  have y2 : w6.heap.size ≤ w7.heap.size := hk7.size
  refine ⟨_, _, _, rfl, ?_⟩
  refine stC_blk hb28 (by simp [cs12]) fun w9 h9 k9 s9 => ?_
  refine stC_blk h9 (by simp [cs12]) fun w10 h10 k10 s10 => ?_
  refine stC_blk h10 (by simp [cs12]) fun w11 h11 k11 s11 => ?_
  rw [cs12_put] at h11
  have kx : Kept (· = w1.heap.size) w8 w11 := (k9.trans k10 fun _ _ e => e).trans k11 fun _ _ e => e
  have n1 : ∀ b, inA a1 b → b ≠ w1.heap.size := fun b hb e => by have := hf1 b hb; omega
  have n2 : ∀ b, inA a2 b → b ≠ w1.heap.size := fun b hb e => by have := hf2 b hb; omega
  have n3 : ∀ b, inA a3 b → b ≠ w1.heap.size := fun b hb e => by have := hf3 b hb; omega
  have hO : Ow3 w w11 ⟨a1, s.ol, c1, a2, s.il, c2, a3, s.kl, c3⟩ p := ⟨⟨((ho1.keep hk7 fun _ _ e => e).keep hk8 fun _ _ e => e).keep kx n1, (ho2.keep hk8 fun _ _ e => e).keep kx n2, ho3.keep kx n3⟩,
    ⟨fun b hb => by have := hf1 b hb; omega, fun b hb => by have := hf2 b hb; omega, fun b hb => by have := hf3 b hb; omega⟩,
    fun b hb => ⟨fun hb2 => by have := hf3 b hb; have := l2 b hb2; omega, fun hb2 => by have := hf3 b hb; have := l1 b hb2; omega⟩, fun b hb hb2 => by have := hf2 b hb; have := l1 b hb2; omega⟩
  have k11 : Kept No w w11 := (k2.no kd8).fresh kx (fun x e => by omega)
  have hb11 := hb8.keep kx (by omega)
  refine ld11 hb11 (CallR.mono (check_ok p s (h.no k11) ⟨B1, B2, B3⟩) ?_)
  rintro v w12 ⟨rfl, hk12⟩
  refine ⟨_, rfl, condF (by rw [if_pos hck]; rfl) ⟨_, _, hnil _ _ _, condF rfl ⟨_, ((hb11.no' hk12).cell 10).trans rfl, condF hc ?_⟩⟩⟩
  refine ⟨w1.heap.size, _, rfl, h11.no' hk12, hO.no hk12, by omega, fun b hb => ?_, k11.no hk12⟩
  rcases hb with hb | hb | hb
  · exact n1 b hb
  · exact n2 b hb
  · exact n3 b hb

/-- What a byte got makes of a state, of the place in the text and of the reads; the byte and the error. -/
def getP (p : Pu) (bs : List Int) (k : Nat) : Pu × Int × Int × Nat × Nat :=
  if p.k.length ≠ 0 then ({ p with k := p.k.take (p.k.length - 1), d := 1 }, p.k.getD (p.k.length - 1) 0, 0, k, 0)
  else if p.i.length ≠ 0 then ({ p with i := p.i.drop 1, d := 1 }, p.i.getD 0 0, 0, k, 0)
  else if p.e = true then ({ p with d := 1 }, 0, 111, k, 0)
  else if min p.z.toNat (bs.length - k) = 0 then ({ p with d := 1, e := true }, 0, 111, k, 1)
  else ({ p with d := 1, i := ((bs.drop k).take (min p.z.toNat (bs.length - k))).drop 1 }, bs.getD k 0, 0, k + min p.z.toNat (bs.length - k), 1)

theorem OB.iadv {w : World} {a : Option Addr} {l c : Nat} {bs : List Int} (h : OB w a l c bs) (hl : 1 ≤ l) : OB w (adv a 1 c 1) (l - 1) (c - 1) (bs.drop 1) := by
  exact OB.from h 1 hl

theorem noted0 {w : World} {gw : Nat} {p : Pu} {s : Sl3} {v : Value} (hb : Blk w gw (cs12 p s v)) : CallR Try.prog 43 [.pointer (some ⟨gw, 0, none⟩), .int .i64 0] w fun r w' => r = .int .i64 0 ∧ Blk w' gw (cs12 p s v) ∧ Kept (· = gw) w w' := by
  refine C43 ?_
  unfold L43
  refine nnI ⟨_, hb.at (i := 9) rfl, condI (fun h => nnI (stC_at hb (i := 9) (by simp [cs12]) fun w1 h1 k1 s1 => ?_)) (fun h => condF rfl (nnI (stC_at hb (i := 9) (by simp [cs12]) fun w1 h1 k1 s1 => ?_)))⟩
  · rw [cs12_b] at h1
    refine ⟨rfl, ?_, k1⟩
    have : ({ p with b := true } : Pu) = p := by cases p; simp only at h; subst h; rfl
    rw [this] at h1; exact h1
  · rw [cs12_b] at h1
    refine ⟨rfl, ?_, k1⟩
    have : ({ p with b := false } : Pu) = p := by cases p; simp only at h; subst h; rfl
    rw [this] at h1; exact h1

structure GetR (w0 w : World) (gw g : Nat) (s : Sl3) (p : Pu) (a : Option Addr) (l c : Nat) (bs : List Int) (k rd : Nat) (w' : World) (s' : Sl3) : Prop where
  blk : Blk w' gw (cs12 (getP p bs k).1 s' (cv g))
  own : Ow3 w0 w' s' (getP p bs k).1
  co : CoO w' g a l c bs (getP p bs k).2.2.2.1 (rd + (getP p bs k).2.2.2.2)
  kept : Kept (fun z => z = gw ∨ z = g ∨ inA s.ia z) w w'

theorem fill_ok {w0 w : World} {gw g : Nat} {p : Pu} {s : Sl3} {a : Option Addr} {l c : Nat} {bs : List Int} {k rd : Nat} (hb : Blk w gw (cs12 p s (cv g))) (ho : Ow3 w0 w s p) (hco : CoO w g a l c bs k rd)
    (hns : ∀ b, inA s.oa b ∨ inA s.ia b ∨ inA s.ka b → b ≠ gw ∧ b ≠ g) (hgg : gw ≠ g) (hsep : ∀ b, inA a b → b ≠ g ∧ b ≠ gw ∧ ¬ inA s.ia b) (h0 : w0.heap.size ≤ w.heap.size)
    (hm : p.m = 3) (hz1 : 1 ≤ p.z) (hz2 : p.z ≤ 65536) (hi : p.i.length = 0) (hl : l ≤ 140737488355328) (hrd : rd ≤ 1099511627776) :
    CallR Try.prog 39 [.pointer (some ⟨gw, 0, none⟩)] w fun v w' =>
      (p.e = true ∧ v = .int .i64 111 ∧ w' = w) ∨
      (p.e = false ∧ min p.z.toNat (bs.length - k) = 0 ∧ v = .int .i64 111 ∧ Blk w' gw (cs12 { p with e := true } s (cv g)) ∧ CoO w' g a l c bs k (rd + 1) ∧ Kept (fun z => z = gw ∨ z = g) w w') ∨
      (p.e = false ∧ min p.z.toNat (bs.length - k) ≠ 0 ∧ v = .int .i64 0 ∧ ∃ s', Blk w' gw (cs12 { p with i := (bs.drop k).take (min p.z.toNat (bs.length - k)) } s' (cv g)) ∧ Ow3 w0 w' s' { p with i := (bs.drop k).take (min p.z.toNat (bs.length - k)) } ∧
        CoO w' g a l c bs (k + min p.z.toNat (bs.length - k)) (rd + 1) ∧ Kept (fun z => z = gw ∨ z = g ∨ inA s.ia z) w w' ∧ (∀ b, inA s'.oa b ∨ inA s'.ia b ∨ inA s'.ka b → b ≠ gw)) := by
  refine C39 ?_
  unfold L39
  have hneA : ∀ b, inA a b → b ≠ g := fun b hb => (hsep b hb).1
  have hlen := hco.rd'.len
  obtain ⟨zn, hzn⟩ : ∃ zn : Nat, p.z = zn := ⟨p.z.toNat, by omega⟩
  have hzt : p.z.toNat = zn := by omega
  rw [hzt]
  refine nnI ⟨_, hb.at (i := 8) rfl, condI (fun he => .inl ⟨he, rfl, rfl⟩) (fun he => nnI ⟨_, hb.at (i := 3) rfl, ?_⟩)⟩
  refine ⟨fun vs w' => vs = [.int .i64 p.z] ∧ w' = w, nnI ⟨_, hb.at (i := 2) rfl, condF (by rw [hm]; rfl) ⟨rfl, rfl⟩⟩, ?_⟩
  rintro _ n9 w1 ⟨hn, rfl⟩
  simp only [List.cons.injEq, Value.int.injEq, true_and, and_true] at hn
  subst hn
  have hsome := some_ok (n := zn) hco hneA (by omega) (by omega) hl hrd
  rw [← hzn] at hsome
  refine nnI ⟨_, hb.at (i := 11) rfl, CallR.mono hsome ?_⟩
  rintro v w2 ⟨rfl, hco2, hk2⟩
  have hb2 := hb.keep hk2 hgg
  have ho2 := ho.keep hk2 (fun b hb e => (hns b hb).2 e)
  have hle := hco.le
  have hz12 : w1.heap.size ≤ w2.heap.size := hk2.size
  refine ⟨_, _, _, _, rfl, condT rfl (condE (fun h0 => ?_) (fun h0 => ?_))⟩
  · have hm0 : min zn (bs.length - k) = 0 := by omega
    refine nnI (stC_at hb2 (i := 8) (by simp [cs12]) fun w3 hb3 hk3 hs3 => ?_)
    rw [cs12_e] at hb3
    have hml : min zn (l - k) = 0 := by omega
    rw [hml] at hco2
    refine .inr (.inl ⟨he, hm0, rfl, hb3, hco2.keep hk3 (fun e => hgg e.symm) (fun b _ hb e => (hsep b hb).2.1 e) hneA, (hk2.mono fun z _ e => Or.inr e).trans hk3 fun z _ e => Or.inl e⟩)
  · have hm0 : min zn (bs.length - k) ≠ 0 := by omega
    have hpiece : RdB w2 (adv a k c 1) (min zn (l - k)) (c - k) ((bs.drop k).take (min zn (l - k))) := (hco2.rd'.from k hle).to _ (by omega)
    have hil := ho.1.2.1.len
    have hpi : p.i = [] := List.eq_nil_of_length_eq_zero hi
    have hsl : s.il = 0 := by omega
    obtain ⟨a', c', w4, hrun, hs, hk4, hat, hnn⟩ := run_app_sl (P := Try.prog) (t := 22) (t2 := 22) (ty := 22) (by kernel_rfl : slTyB Try.prog 22 1 1 = true) (by kernel_rfl) ho2.1.2.1 hpiece (By_one _) (by omega) (by omega)
    rw [← By_append, hpi, List.nil_append] at hs
    refine nnI ⟨_, _, _, hb2.at (i := 5) rfl, a', _, c', w4, hrun, nnI ?_⟩
    have hb4 := hb2.keep hk4 (fun e => (hns gw (.inr (.inl e))).1 rfl)
    refine stC_at hb4 (i := 5) (by simp [cs12]) fun w5 hb5 hk5 hs5 => ?_
    rw [cs12_i (xs := (bs.drop k).take (min zn (l - k)))] at hb5
    refine CallR.mono (noted0 hb5) ?_
    rintro v w6 ⟨rfl, hb6, hk6⟩
    have hll : min zn (l - k) = min zn (bs.length - k) := by rw [hlen]
    have hk456 : Kept (fun z => z = gw ∨ inA s.ia z) w2 w6 := ((hk4.mono fun z _ e => Or.inr e).trans hk5 fun z _ e => Or.inl e).trans hk6 fun z _ e => Or.inl e
    have hgw := hb2.lt
    have hin : ∀ b, inA a' b → inA s.ia b ∨ b = w2.heap.size := fun b hb => hat.in hb
    have hia : ∀ b, inA a' b → b ≠ gw := fun b hb e => by
      rcases hin b hb with h | h
      · exact (hns b (.inr (.inl h))).1 e
      · omega
    have hs6 : OB w6 a' (s.il + min zn (l - k)) c' ((bs.drop k).take (min zn (l - k))) := (OB.keep hs hk5 hia).keep hk6 hia
    obtain ⟨⟨o1, o2, o3⟩, ⟨f1, f2, f3⟩, d1, d2⟩ := ho2
    have l1 := o1.lt
    have l3 := o3.lt
    rw [hll] at hb6 hs6 hco2
    refine ⟨_, rfl, .inr (.inr ⟨he, hm0, rfl, { s with ia := a', il := s.il + min zn (bs.length - k), ic := c' }, hb6, ⟨⟨o1.keep hk456 fun b hb e => ?_, hs6, o3.keep hk456 fun b hb e => ?_⟩, ⟨f1, fun b hb => ?_, f3⟩, fun b hb => ⟨fun hi => ?_, (d1 b hb).2⟩, fun b hb hi => ?_⟩,
      hco2.keep hk456 (fun e => ?_) (fun b _ hb e => ?_) hneA, (hk2.mono fun z _ e => Or.inr (Or.inl e)).trans hk456 fun z _ e => ?_, fun b hb => ?_⟩)⟩
    · rcases e with e | e
      · exact (hns b (.inl hb)).1 e
      · exact d2 b e hb
    · rcases e with e | e
      · exact (hns b (.inr (.inr hb))).1 e
      · exact (d1 b hb).1 e
    · rcases hin b hb with h | h
      · exact f2 b h
      · omega
    · rcases hin b hi with h | h
      · exact (d1 b hb).1 h
      · have := l3 b hb; omega
    · rcases hin b hb with h | h
      · exact d2 b h hi
      · have := l1 b hi; omega
    · rcases e with e | e
      · exact hgg e.symm
      · exact (hns g (.inr (.inl e))).2 rfl
    · rcases e with e | e
      · exact (hsep b hb).2.1 e
      · exact (hsep b hb).2.2 e
    · rcases e with e | e
      · exact .inl e
      · exact .inr (.inr e)
    · rcases hb with hb | hb | hb
      · exact (hns b (.inl hb)).1
      · exact hia b hb
      · exact (hns b (.inr (.inr hb))).1

theorem get_ok {w0 w : World} {gw g : Nat} {p : Pu} {s : Sl3} {a : Option Addr} {l c : Nat} {bs : List Int} {k rd : Nat} (hb : Blk w gw (cs12 p s (cv g))) (ho : Ow3 w0 w s p) (hco : CoO w g a l c bs k rd)
    (hns : ∀ b, inA s.oa b ∨ inA s.ia b ∨ inA s.ka b → b ≠ gw ∧ b ≠ g) (hgg : gw ≠ g) (hsep : ∀ b, inA a b → b ≠ g ∧ b ≠ gw ∧ ¬ inA s.ia b) (h0 : w0.heap.size ≤ w.heap.size)
    (hck : ckP p) (hm : p.m = 3) (hr : p.r = true) (hd : p.d ≠ 2) (hl : l ≤ 140737488355328) (hrd : rd ≤ 1099511627776) :
    CallR Try.prog 31 [.pointer (some ⟨gw, 0, none⟩)] w fun v w' => ∃ s', v = .tuple #[.int .u8 (getP p bs k).2.1, .int .i64 (getP p bs k).2.2.1] ∧ GetR w0 w gw g s p a l c bs k rd w' s' := by
  refine C31 ?_
  unfold L31
  have hneA : ∀ b, inA a b → b ≠ g := fun b hb => (hsep b hb).1
  refine nnI ⟨_, hb.at0 rfl, condF (by rw [hr]; rfl) (nnI ⟨_, hb.at (i := 7) rfl, condF (by simpa using hd) (nnI (stC_at hb (i := 7) (by simp [cs12]) fun w1 hb1 hk1 hs1 => ?_))⟩)⟩
  rw [cs12_d] at hb1
  have ho1 : Ow3 w0 w1 s p := ho.keep hk1 fun b hb e => (hns b hb).1 e
  have hco1 := hco.keep hk1 (fun e => hgg e.symm) (fun b _ hb e => (hsep b hb).2.1 e) hneA
  have hk01 : Kept (fun z => z = gw ∨ z = g ∨ inA s.ia z) w w1 := hk1.mono fun z _ e => .inl e
  have hkl := ho.1.2.2.len
  have hil := ho.1.2.1.len
  obtain ⟨hk8, hi8⟩ := ck8 hck
  refine nnI ⟨_, _, _, hb1.at (i := 6) rfl, condP (fun hk => ?_) (fun hk => ?_)⟩
  · -- of what was put back
    have hk' : p.k.length - 1 < p.k.length := by omega
    obtain ⟨q, haq, hgq⟩ := ho1.1.2.2.rd.get hk'
    have etn : Int.toNat (((s.kl : Nat) : Int) - 1) = p.k.length - 1 := by omega
    have hcl : s.kl ≤ s.kc := ho1.1.2.2.rd.2.1
    refine nnI ⟨_, _, _, hb1.at (i := 6) rfl, ⟨by omega, by omega⟩, ⟨by omega, by omega⟩, nnE haq ⟨p.k[p.k.length - 1], by rw [etn]; exact hgq, nnI ⟨_, _, _, hb1.at (i := 6) rfl, ⟨by omega, by omega⟩, ⟨by omega, by omega⟩, nnI ?_⟩⟩⟩
    rw [etn]
    refine stC_at hb1 (i := 6) (by simp [cs12]) fun w2 hb2 hk2 hs2 => ?_
    rw [cs12_k (ks := p.k.take (p.k.length - 1))] at hb2
    have hg : getP p bs k = ({ p with k := p.k.take (p.k.length - 1), d := 1 }, p.k.getD (p.k.length - 1) 0, 0, k, 0) := by unfold getP; rw [if_pos (by omega)]
    have hlast : p.k[p.k.length - 1] = p.k.getD (p.k.length - 1) 0 := by rw [List.getD_eq_getElem?_getD, List.getElem?_eq_getElem hk']; rfl
    have ho2 : Ow3 w0 w2 s p := ho1.keep hk2 fun b hb e => (hns b hb).1 e
    refine ⟨{ s with ka := s.ka, kl := p.k.length - 1, kc := s.kc }, by rw [hg, hlast], ?_, ?_, ?_, hk01.trans hk2 fun z _ e => .inl e⟩
    · rw [hg]; exact hb2
    · rw [hg]
      exact ⟨⟨ho2.1.1, ho2.1.2.1, OB.to ho2.1.2.2 (p.k.length - 1) (by omega)⟩, ho2.2⟩
    · rw [hg]
      exact hco1.keep hk2 (fun e => hgg e.symm) (fun b _ hb e => (hsep b hb).2.1 e) hneA
  have hk0 : p.k.length = 0 := by omega
  refine nnI ⟨_, _, _, hb1.at (i := 5) rfl, condE (fun hi => ?_) (fun hi => ?_)⟩
  · -- the buffer is filled
    have hi0 : p.i.length = 0 := by omega
    have hzz : 1 ≤ p.z ∧ p.z ≤ 65536 := by unfold ckP ckV at hck; exact ⟨hck.2.2.1, hck.2.2.2.1⟩
    have hgw := hb1.lt
    refine CallR.mono (fill_ok (p := { p with d := 1 }) hb1 ho1 hco1 hns hgg hsep (Nat.le_trans h0 hk1.size) hm hzz.1 hzz.2 hi0 hl hrd) ?_
    rintro v w3 (⟨he, rfl, rfl⟩ | ⟨he, hmn, rfl, hb3, hco3, hk3⟩ | ⟨he, hmn, rfl, s3, hb3, ho3, hco3, hk3, hin3⟩)
    · have hg : getP p bs k = ({ p with d := 1 }, 0, 111, k, 0) := by unfold getP; rw [if_neg (by omega), if_neg (by omega), if_pos he]
      refine ⟨_, rfl, condT rfl ⟨s, by rw [hg], ?_, ?_, ?_, hk01⟩⟩
      · rw [hg]; exact hb1
      · rw [hg]; exact ho1
      · rw [hg]; exact hco1
    · have hg : getP p bs k = ({ p with d := 1, e := true }, 0, 111, k, 1) := by
        dsimp only at he hmn
        unfold getP; rw [if_neg (by omega), if_neg (by omega), if_neg (by rw [he]; simp), if_pos hmn]
      refine ⟨_, rfl, condT rfl ⟨s, by rw [hg], ?_, ?_, ?_, ?_⟩⟩
      · rw [hg]; exact hb3
      · rw [hg]; exact ho1.keep hk3 fun b hb e => by
          rcases e with e | e
          · exact (hns b hb).1 e
          · exact (hns b hb).2 e
      · rw [hg]; exact hco3
      · exact hk01.trans hk3 fun z _ e => by
          rcases e with e | e
          · exact .inl e
          · exact .inr (.inl e)
    · dsimp only at he hmn hb3 ho3 hco3
      have hg : getP p bs k = ({ p with d := 1, i := ((bs.drop k).take (min p.z.toNat (bs.length - k))).drop 1 }, bs.getD k 0, 0, k + min p.z.toNat (bs.length - k), 1) := by
        unfold getP; rw [if_neg (by omega), if_neg (by omega), if_neg (by rw [he]; simp), if_neg hmn]
      have hpl : ((bs.drop k).take (min p.z.toNat (bs.length - k))).length = min p.z.toNat (bs.length - k) := by rw [List.length_take, List.length_drop]; omega
      have hi' : 0 < ((bs.drop k).take (min p.z.toNat (bs.length - k))).length := by omega
      have hl3 := ho3.1.2.1.len
      dsimp only at hl3
      obtain ⟨q, haq, hgq⟩ := ho3.1.2.1.rd.get hi'
      have hhead : ((bs.drop k).take (min p.z.toNat (bs.length - k)))[0] = bs.getD k 0 := by
        rw [List.getElem_take, List.getElem_drop, List.getD_eq_getElem?_getD, List.getElem?_eq_getElem (by omega)]
        simp
      refine ⟨_, rfl, condF rfl (nnI ⟨_, _, _, hb3.at (i := 5) rfl, ⟨by omega, by omega⟩, nnE haq ⟨bs.getD k 0, by rw [hhead] at hgq; exact hgq, nnI ⟨_, _, _, hb3.at (i := 5) rfl, ⟨by omega, by omega⟩, nnI ?_⟩⟩⟩)⟩
      refine stC_at hb3 (i := 5) (by simp [cs12]) fun w4 hb4 hk4 hs4 => ?_
      rw [cs12_i (xs := ((bs.drop k).take (min p.z.toNat (bs.length - k))).drop 1)] at hb4
      have ho4 := ho3.keep hk4 fun b hb e => hin3 b hb e
      refine ⟨{ s3 with ia := adv s3.ia 1 s3.ic 1, il := s3.il - 1, ic := s3.ic - 1 }, by rw [hg], ?_, ?_, ?_, (hk01.trans hk3 fun z _ e => e).trans hk4 fun z _ e => .inl e⟩
      · rw [hg]; exact hb4
      · rw [hg]
        refine ⟨⟨ho4.1.1, OB.iadv ho4.1.2.1 (by omega), ho4.1.2.2⟩, ⟨ho4.2.1.1, fun b hb => ho4.2.1.2.1 b (inA_adv.1 hb), ho4.2.1.2.2⟩, fun b hb => ⟨fun hi => (ho4.2.2.1 b hb).1 (inA_adv.1 hi), (ho4.2.2.1 b hb).2⟩, fun b hb => ho4.2.2.2 b (inA_adv.1 hb)⟩
      · rw [hg]
        exact hco3.keep hk4 (fun e => hgg e.symm) (fun b _ hb e => (hsep b hb).2.1 e) hneA
  · -- of the buffer
    have hi' : 0 < p.i.length := by omega
    obtain ⟨q, haq, hgq⟩ := ho1.1.2.1.rd.get hi'
    have hg : getP p bs k = ({ p with i := p.i.drop 1, d := 1 }, p.i.getD 0 0, 0, k, 0) := by unfold getP; rw [if_neg (by omega), if_pos (by omega)]
    have hhead : p.i[0] = p.i.getD 0 0 := by rw [List.getD_eq_getElem?_getD, List.getElem?_eq_getElem hi']; rfl
    refine nnI ⟨_, _, _, hb1.at (i := 5) rfl, ⟨by omega, by omega⟩, nnE haq ⟨p.i[0], by simpa using hgq, nnI ⟨_, _, _, hb1.at (i := 5) rfl, ⟨by omega, by omega⟩, nnI ?_⟩⟩⟩
    refine stC_at hb1 (i := 5) (by simp [cs12]) fun w2 hb2 hk2 hs2 => ?_
    rw [cs12_i (xs := p.i.drop 1)] at hb2
    have ho2 : Ow3 w0 w2 s p := ho1.keep hk2 fun b hb e => (hns b hb).1 e
    refine ⟨{ s with ia := adv s.ia 1 s.ic 1, il := s.il - 1, ic := s.ic - 1 }, by rw [hg, hhead], ?_, ?_, ?_, hk01.trans hk2 fun z _ e => .inl e⟩
    · rw [hg]; exact hb2
    · rw [hg]
      refine ⟨⟨ho2.1.1, OB.iadv ho2.1.2.1 (by omega), ho2.1.2.2⟩, ⟨ho2.2.1.1, fun b hb => ho2.2.1.2.1 b (inA_adv.1 hb), ho2.2.1.2.2⟩, fun b hb => ⟨fun hi => (ho2.2.2.1 b hb).1 (inA_adv.1 hi), (ho2.2.2.1 b hb).2⟩, fun b hb => ho2.2.2.2 b (inA_adv.1 hb)⟩
    · rw [hg]
      exact hco1.keep hk2 (fun e => hgg e.symm) (fun b _ hb e => (hsep b hb).2.1 e) hneA

theorem ld12 {w : World} {g : Nat} {p : Pu} {s : Sl3} {v : Value} (h : Blk w g (cs12 p s v)) {K : Bool → Bool → Int → Int → Option Addr → Nat → Nat → Option Addr → Nat → Nat → Option Addr → Nat → Nat → Int → Bool → Bool → Bool → Prop} (hk : K p.r p.w p.m p.z s.oa s.ol s.oc s.ia s.il s.ic s.ka s.kl s.kc p.d p.e p.b p.c) :
    nn (some ⟨g, 0, none⟩) fun q => ∃ (b0 : Bool) (b1 : Bool) (n2 : Int) (n3 : Int) (a4 : Option Addr) (l4 : Nat) (c4 : Nat) (a5 : Option Addr) (l5 : Nat) (c5 : Nat) (a6 : Option Addr) (l6 : Nat) (c6 : Nat) (n7 : Int) (b8 : Bool) (b9 : Bool) (b10 : Bool), w.cell? q = some (.bool b0) ∧ w.cell? (Addr.add q 1) = some (.bool b1) ∧ w.cell? (Addr.add q 2) = some (.int .i64 n2) ∧ w.cell? (Addr.add q 3) = some (.int .i64 n3) ∧ w.cell? (Addr.add q 4) = some (.slice a4 l4 c4) ∧ w.cell? (Addr.add q 5) = some (.slice a5 l5 c5) ∧ w.cell? (Addr.add q 6) = some (.slice a6 l6 c6) ∧ w.cell? (Addr.add q 7) = some (.int .i64 n7) ∧ w.cell? (Addr.add q 8) = some (.bool b8) ∧ w.cell? (Addr.add q 9) = some (.bool b9) ∧ w.cell? (Addr.add q 10) = some (.bool b10) ∧ K b0 b1 n2 n3 a4 l4 c4 a5 l5 c5 a6 l6 c6 n7 b8 b9 b10 :=
  nnI ⟨_, _, _, _, _, _, _, _, _, _, _, _, _, _, _, _, _, h.at0 rfl, h.at (i := 1) rfl, h.at (i := 2) rfl, h.at (i := 3) rfl, h.at (i := 4) rfl, h.at (i := 5) rfl, h.at (i := 6) rfl, h.at (i := 7) rfl, h.at (i := 8) rfl, h.at (i := 9) rfl, h.at (i := 10) rfl, hk⟩

theorem get3_ok {w : World} {g : Nat} {p : Pu} {s : Sl3} {a : Option Addr} {l c : Nat} {bs : List Int} {k rd : Nat} (h : Rd3 w s p) (hbd : Bd p) (hco : CoO w g a l c bs k rd) (ha : ∀ b, inA a b → b < w.heap.size ∧ b ≠ g)
    (hck : ckP p) (hc : p.c = false) (hm : p.m = 3) (hr : p.r = true) (hd : p.d ≠ 2) (hl : l ≤ 140737488355328) (hrd : rd ≤ 1099511627776) :
    CallR Try.prog 21 [.agg (cs p s), cv g] w fun v w' => ∃ s', v = .tuple #[.agg (cs (getP p bs k).1 s'), .int .u8 (getP p bs k).2.1, .int .i64 (getP p bs k).2.2.1] ∧ Ow3 w w' s' (getP p bs k).1 ∧
      CoO w' g a l c bs (getP p bs k).2.2.2.1 (rd + (getP p bs k).2.2.2.2) ∧ Kept (· = g) w w' := by
  refine C21 ?_
  unfold L21
  have hglt := hco.blk.lt
  intro w1 w2
  have hb1 : Blk w1 w.heap.size (cs p s) := Blk.alloc _ _ _
  have hk1 : Kept No w w1 := Kept.alloc _ _ _
  clear_value w1
  have hb2 : Blk w2 w1.heap.size (cs zeroP Sl3.no) := Blk.alloc _ _ _
  have hk2 : Kept No w1 w2 := Kept.alloc _ _ _
  clear_value w2
  have hlt1 := hb1.lt
  have hlt2 := hb2.lt
  have k2 := hk1.no hk2
  refine ld11 (hb1.no' hk2) (CallR.mono (begin_ok (t := 49) (u := .pointer (some ⟨g, 0, none⟩)) (h.no k2) hbd hck hc (fun w x y => cv_nil)) ?_)
  rintro v w3 ⟨gw, s1, rfl, hbw, ho, hgw, hns, hk3⟩
  have hz3 : w2.heap.size ≤ w3.heap.size := hk3.size
  have k3 := k2.no hk3
  have hin := inS ho
  have hneA : ∀ b, inA a b → b ≠ g := fun b hb => (ha b hb).2
  have hco3 := hco.keep k3 (fun e => e) (fun _ _ _ e => e) hneA
  refine ⟨_, _, rfl, condF rfl (CallR.mono (get_ok hbw ho hco3 (fun b hb => ⟨hns b hb, by have := hin b hb; omega⟩) (by omega) (fun b hb => ⟨(ha b hb).2, by have := ha b hb; omega, fun e => by have := ha b hb; have := hin b (.inr (.inl e)); omega⟩) hz3 hck hm hr hd hl hrd) ?_)⟩
  rintro v w15 ⟨s', rfl, hG⟩
  have hb215 := (hb2.no' hk3).keep hG.kept (fun e => by
    rcases e with e | e | e
    · omega
    · omega
    · have := hin _ (.inr (.inl e)); omega)
  have k15 : Kept (· = g) w w15 := (k3.mono fun _ _ e => e.elim).trans hG.kept fun z hz e => by
    rcases e with e | e | e
    · omega
    · exact e
    · have := hin _ (.inr (.inl e)); omega
  refine ⟨_, _, rfl, ld12 hG.blk (st11 (p := (getP p bs k).1) (s := s') hb215 rfl fun w26 hb26 hk26 => ld11 hb26 ⟨s', rfl, ?_, ?_, ?_⟩)⟩
  · exact Ow3.base (w1 := w2) (hG.own.keep hk26 fun b hb e => by have := inS hG.own b hb; omega) (by omega)
  · exact hG.co.keep hk26 (by omega) (fun b _ hb e => by have := ha b hb; omega) hneA
  · exact k15.trans hk26 fun z hz e => by omega

end Go.Proofs.Ythddogeenimjcaa
