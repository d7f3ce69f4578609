/-
  What was handed in is not kept, what is answered is its holder's; kernels that no call made: the walk. Conditions: none.
-/
import Derived.Test.YtkjmlbplmffekaaGreatKfO
import Derived.Test.YtkjmlbplmffekaaGreatSk
import Derived.Test.YtkjmlbplmffekaaGreatKeW
import Derived.Test.YtkjmlbplmffekaaGreatCf
import Derived.Test.YtkjmlbplmffekaaGreatOKernOwn
set_option linter.unusedVariables false
namespace Go.Proofs.YtkjmlbplmffekaaGreat
open Go.Lw

theorem CpO.keepB {lo hi : Nat} {w w' : World} {a : Option Addr} {l c : Nat} {fs : List (ByteArray × List Int)} {es : List (ByteArray × Slc)} (h : CpO RBr lo hi w a l c fs es) {T : Nat → Prop} (k : Kept T w w') (hn : ∀ z, lo ≤ z → z < hi → ¬ T z) : CpO RBr lo hi w' a l c fs es :=
  ⟨h.sl.keep k fun b hb => hn b (h.rg b hb).1 (h.rg b hb).2, h.len, h.rg, fun i a b => ⟨(h.each i a b).1, (h.each i a b).2.keep k hn⟩⟩
theorem CpO.keepL {lo hi : Nat} {w w' : World} {a : Option Addr} {l c : Nat} {fs : List (ByteArray × List (List Int))} {es : List (ByteArray × Slc)} (h : CpO RLr lo hi w a l c fs es) {T : Nat → Prop} (k : Kept T w w') (hn : ∀ z, lo ≤ z → z < hi → ¬ T z) : CpO RLr lo hi w' a l c fs es :=
  ⟨h.sl.keep k fun b hb => hn b (h.rg b hb).1 (h.rg b hb).2, h.len, h.rg, fun i a b => ⟨(h.each i a b).1, (h.each i a b).2.keep k hn⟩⟩

/-- Three cells, filled. -/
theorem lay3 {w : World} {e : TypeId} {v0 v1 v2 u0 u1 u2 : Value} {K : World → Prop} (hk : ∀ w', Blk w' w.heap.size #[v0, v1, v2] → Kept No w w' → K w') :
    let w2 := World.alloc w (.cells #[u0, u1, u2] e)
    stC (Addr.mk w.heap.size 0 none) v0 w2 fun w1 => stC (Addr.mk w.heap.size 1 none) v1 w1 fun w3 => stC (Addr.mk w.heap.size 2 none) v2 w3 K := by
  intro w2
  have hb : Blk w2 w.heap.size #[u0, u1, u2] := Blk.alloc _ _ _
  have hk1 : Kept No w w2 := Kept.alloc _ _ _
  clear_value w2
  refine stC_blk hb (by simp) fun w1 h1 k1 _ => stC_blk h1 (by simp) fun w2 h2 k2 _ => stC_blk h2 (by simp) fun w3 h3 k3 _ => ?_
  have h3' : Blk w3 w.heap.size #[v0, v1, v2] := by simpa using h3
  exact hk w3 h3' (((hk1.fresh k1 fun x e => by omega).fresh k2 fun x e => by omega).fresh k3 fun x e => by omega)

/-- A loop that overwrites a list of faults. -/
theorem some_q {sz : Nat} {w : World} {a : Option Addr} {l c : Nat} {xs : List Value} (h : SlO sz w a l c xs) (hl : 0 < l) : ∃ q, a = some q := by
  cases ha : a with
  | none => subst ha; have := RdS.isNone h.rd rfl; omega
  | some q => exact ⟨q, rfl⟩

theorem fv_ints {ps : List (Int × Int)} {xs : List Value} (h : ∀ (i : Nat) (v : Value), (Fv ps)[i]? = some v → ∃ v', xs[i]? = some v' ∧ Alk v v') {i : Nat} (hi : i < ps.length) : (∃ n, xs[i * 2]? = some (.int .i64 n)) ∧ ∃ n, xs[i * 2 + 1]? = some (.int .i64 n) := by
  obtain ⟨f1, f2⟩ := Fv_at hi
  obtain ⟨v1, e1, k1⟩ := h _ _ f1
  obtain ⟨v2, e2, k2⟩ := h _ _ f2
  obtain ⟨m1, rfl⟩ := k1.int
  obtain ⟨m2, rfl⟩ := k2.int
  exact ⟨⟨_, e1⟩, ⟨_, e2⟩⟩

/-- Two stores of numbers into a fault. -/
theorem st_fault {S : Nat → Prop} {w0 w : World} {a : Option Addr} {l c : Nat} {ps : List (Int × Int)} (h : SlO 2 w0 a l c (Fv ps)) (k : Sk S w0 w) {q : Addr} (hq : a = some q) {i : Nat} (hi : i < l) (hS : ∀ b, inA a b → S b) {n0 n1 : Int} {K : World → Prop}
    (hk : ∀ w', Sk S w0 w' → K w') : stC (q.add (i * 2)) (.int .i64 n0) w fun w1 => stC ((q.add (i * 2)).add 1) (.int .i64 n1) w1 K := by
  have hl : ps.length = l := by have := h.1; rw [Fv_len] at this; omega
  obtain ⟨xs, hx, ha⟩ := Sk.slo h k
  obtain ⟨⟨m0, e0⟩, _⟩ := fv_ints ha (i := i) (by omega)
  refine Sk.st hx hq e0 (.inr (.inr ⟨_, _, _, rfl, rfl⟩)) hS fun w1 k1 _ => ?_
  obtain ⟨ys, hy, hb⟩ := Sk.slo h (k.trans k1)
  obtain ⟨_, m1, e1⟩ := fv_ints hb (i := i) (by omega)
  rw [Lw.add_add]
  exact Sk.st hy hq e1 (.inr (.inr ⟨_, _, _, rfl, rfl⟩)) hS fun w2 k2 _ => hk w2 ((k.trans k1).trans k2)

set_option maxHeartbeats 8000000 in
theorem walk_kernOwn {W : World} {args : List Value} (h : V6 W args) : CallR Tryz.prog 6 args W fun v w' => v = .bool true ∧ Kept No W w' := by
  obtain ⟨a1, l1, c1, h1, h2, h3, h4, a2, l2, c2, g1, g2, g3, g4, a3, l3, c3, k1, k2, k3, k4, rfl⟩ := h
  obtain ⟨fs, ts, ps, hset⟩ := setup_of_view h1 h2 h3 h4 g1 g2 g3 g4 k1 k2 k3 k4
  clear h1 h2 h3 h4 g1 g2 g3 g4 k1 k2 k3 k4
  refine C6 ?_
  unfold L6
  intro w1
  have hb1 : Blk w1 W.heap.size #[.slice a1 l1 c1, .slice a2 l2 c2, .slice a3 l3 c3] := Blk.alloc _ _ _
  have hk1 : Kept No W w1 := Kept.alloc _ _ _
  clear_value w1
  refine CallR.mono alive6_ok ?_
  rintro v w2 ⟨rfl, hk2⟩
  refine ⟨_, rfl, condFa2 (CallR.mono (nothing6_ok (.inl rfl)) ?_)⟩
  rintro v w3 ⟨rfl, hk3⟩
  refine ⟨_, rfl, condFa2 ?_⟩
  intro w4
  have hn4 : NoK w4 (some ⟨w3.heap.size, 0, none⟩) := .inr ⟨_, _, rfl, Blk.alloc _ _ _, rfl⟩
  have hk4 : Kept No w3 w4 := Kept.alloc _ _ _
  clear_value w4
  refine CallR.mono (nothing6_ok hn4) ?_
  rintro v w5 ⟨rfl, hk5⟩
  clear hn4
  have kb5 := ((hk2.no hk3).no hk4).no hk5
  have k5 := hk1.no kb5
  have hb5 := hb1.keep kb5 fun e => e
  refine ⟨_, rfl, condFa2 ⟨_, _, _, _, _, _, _, _, _, (hb5.cell 0).trans rfl, (hb5.cell 1).trans rfl, (hb5.cell 2).trans rfl, CallR.mono (config_own (hset.no k5)) ?_⟩⟩
  rintro v w6 ⟨af, cf, at_, ct, ap, cp, rfl, hk6, hset6, hcfg6⟩
  refine ⟨_, _, _, _, _, _, _, _, _, rfl, lay3 fun w10 hc10 hk10 => ?_⟩
  refine ⟨_, _, _, _, _, _, _, _, _, (hc10.cell 0).trans rfl, (hc10.cell 1).trans rfl, (hc10.cell 2).trans rfl, ?_⟩
  have hset10 := hset6.no hk10
  obtain ⟨ef, hef⟩ := hset10.ef
  obtain ⟨et, het⟩ := hset10.et
  have q1 := hset10.lf
  have q2 := hset10.lt
  have k10 := (k5.no hk6).no hk10
  refine CallR.mono (kernNew_ok hef het hset10.pp (by omega) (by omega)) ?_
  rintro v w11 ⟨hk11, ⟨hne, rfl⟩ | ⟨hck, gk, L, rfl, h11, hL⟩⟩
  · exact ⟨_, _, rfl, lnum_to ⟨_, rfl, condT (by simpa using hne) ⟨rfl, k10.no hk11⟩⟩⟩
  have hok := AK.check_zero hck
  clear hef het ef et hset10 hset6
  refine ⟨_, _, rfl, lnum_to ⟨_, rfl, condFa2 (condFa2 (CallR.mono (kernFiles_ok h11) ?_))⟩⟩
  rintro v w13 ⟨a25, l25, c25, es25, rfl, hf25, hk13⟩
  have h13 := h11.no hk13
  have hl25 : l25 ≤ 256 := by have := hf25.len_eq; rw [AK.filesV_len] at this; have := h11.ok.fl; omega
  refine ⟨_, _, _, rfl, CallR.mono (copyNamed_ok hf25.rd (by omega) (fun f hf => by have := AK.filesV_bound h11 f hf; omega)) ?_⟩
  rintro v w14 ⟨a27, c27, es27, rfl, hk14, hcp⟩
  have hwas := hcp w14 No (Kept.refl _ _) fun z e => e.elim
  clear hcp hf25
  have h14 := h13.no hk14
  have kA : Kept No w10 w14 := (hk11.no hk13).no hk14
  have k14 := k10.no kA
  have z56 := hk6.size
  have z610 := hk10.size
  have z10A := hk11.size
  have z13 := hk13.size
  have z14 := hk14.size
  have zW := k5.size
  have hc14 := hc10.keep kA fun e => e
  have hcl := hc10.lt
  have hb14 := ((hb5.keep hk6 fun e => e).keep hk10 fun e => e).keep kA fun e => e
  have hbl := hb5.lt
  obtain ⟨lo, hlo⟩ : ∃ lo, lo = w5.heap.size := ⟨_, rfl⟩
  obtain ⟨hi, hhi⟩ : ∃ hi, hi = w6.heap.size := ⟨_, rfl⟩
  rw [← hlo, ← hhi] at hcfg6
  rw [← hhi] at hc14 hcl ⊢
  obtain ⟨S, hS⟩ : ∃ S : Nat → Prop, S = fun b => lo ≤ b ∧ b < hi := ⟨_, rfl⟩
  have kall : Kept No w6 w14 := hk10.no kA
  obtain ⟨⟨ef, hef⟩, ⟨et, het⟩, hpp, hpr⟩ := hcfg6
  have hef := hef.keepB kall fun _ _ _ e => e
  have het := het.keepL kall fun _ _ _ e => e
  have hpp := hpp.keep kall fun _ _ e => e
  have hSin : ∀ {a : Option Addr}, (∀ b, inA a b → lo ≤ b ∧ b < hi) → ∀ b, inA a b → S b := fun h b hb => by rw [hS]; exact h b hb
  have hcC : ∀ {w' : World}, Sk S w14 w' → Blk w' hi #[.slice af l1 cf, .slice at_ l2 ct, .slice ap l3 cp] := fun k => hc14.keep k.kept fun e => by rw [hS] at e; omega
  have hefl : ef.length = l1 := by have := hef.sl.1; rw [Nv_len] at this; omega
  have hetl : et.length = l2 := by have := het.sl.1; rw [Nv_len] at this; omega
  have hfsl : fs.length = l1 := by have := hef.len; omega
  have htsl : ts.length = l2 := by have := het.len; omega
  have hpsl : ps.length = l3 := by have := hpp.1; rw [Fv_len] at this; omega
  refine ⟨_, _, _, rfl, fun vs w' => ∃ i : Nat, vs = [.int .i64 (i : Int)] ∧ i ≤ l1 ∧ Sk S w14 w', fun vs _ => l1 - ix vs, ⟨0, rfl, Nat.zero_le _, .refl _⟩, ?_⟩
  rintro _ n31 w15 ⟨i, hv, hi1, k15⟩
  simp only [List.cons.injEq, Value.int.injEq, true_and, and_true] at hv
  subst hv
  refine ⟨_, _, _, ((hcC k15).cell 0).trans rfl, condP (fun hlt => ?_) (fun _ => ?_)⟩
  · have hil : i < ef.length := by omega
    obtain ⟨q, haq⟩ := some_q hef.sl (by omega)
    obtain ⟨n0, n1⟩ := Nv_at hil
    obtain ⟨xs, hx, ha⟩ := Sk.slo hef.sl k15
    obtain ⟨v1, e1, kk1⟩ := ha _ _ n1
    obtain rfl := kk1.sl
    have hcell := Sk.cellAt hx haq e1
    rw [← Lw.add_add] at hcell
    have hel := hef.each i hil (by omega)
    obtain ⟨bs', hob'⟩ := Sk.ob hel.2.1 k15
    have hlen := hel.2.1.len
    have hbd := hset.bf fs[i] (List.getElem_mem (by omega))
    have e0 : Int.toNat (i : Int) = i := Int.toNat_natCast i
    rw [e0]
    refine ⟨_, _, _, ((hcC k15).cell 0).trans rfl, ⟨by omega, by omega⟩, nnE2 haq ⟨_, _, _, hcell, CallR.mono (spoilSk_ok hob' (hSin hel.2.2) (by omega)) ?_⟩⟩
    rintro v w16 ⟨rfl, k16⟩
    have k16 := k15.trans k16
    obtain ⟨ys, hy, hb⟩ := Sk.slo hef.sl k16
    obtain ⟨v0, e0', kk0⟩ := hb _ _ n0
    obtain ⟨sx, rfl⟩ := kk0.str
    refine ⟨rfl, _, _, _, ((hcC k16).cell 0).trans rfl, ⟨by omega, by omega⟩, nnE2 haq (Sk.st hy haq e0' (.inr (.inl ⟨_, _, rfl, rfl⟩)) (hSin hef.rg) fun w17 k17 _ => ⟨⟨by omega, by omega⟩, ⟨i + 1, rfl, by omega, k16.trans k17⟩, by simp only [ix]; omega⟩)⟩
  clear hi1
  have k15' := k15
  clear k15
  refine ⟨fun vs w' => ∃ i : Nat, vs = [.int .i64 (i : Int)] ∧ i ≤ l2 ∧ Sk S w14 w', fun vs _ => l2 - ix vs, ⟨0, rfl, Nat.zero_le _, k15'⟩, ?_⟩
  clear k15' w15
  rintro _ n41 w18 ⟨i, hv, hi1, k18⟩
  simp only [List.cons.injEq, Value.int.injEq, true_and, and_true] at hv
  subst hv
  refine ⟨_, _, _, ((hcC k18).cell 1).trans rfl, condP (fun hlt => ?_) (fun _ => ?_)⟩
  · have hil : i < et.length := by omega
    obtain ⟨q, haq⟩ := some_q het.sl (by omega)
    obtain ⟨_, n1⟩ := Nv_at hil
    have hel := het.each i hil (by omega)
    obtain ⟨⟨es, hes, hesl, hese⟩, hesr, hesb⟩ := hel.2
    have hcell : ∀ {w' : World}, Sk S w14 w' → w'.cell? ((q.add (i * 2)).add 1) = some (.slice et[i].2.1 et[i].2.2.1 et[i].2.2.2) := fun k => by
      obtain ⟨xs, hx, ha⟩ := Sk.slo het.sl k
      obtain ⟨v1, e1, kk1⟩ := ha _ _ n1
      obtain rfl := kk1.sl
      have := Sk.cellAt hx haq e1
      rwa [← Lw.add_add] at this
    have hlL : es.length = et[i].2.2.1 := by have := hes.1; simpa using this
    have hbt := hset.bt ts[i] (List.getElem_mem (by omega))
    have e0 : Int.toNat (i : Int) = i := Int.toNat_natCast i
    rw [e0]
    refine ⟨fun vs w' => ∃ j : Nat, vs = [.int .i64 (j : Int)] ∧ j ≤ et[i].2.2.1 ∧ Sk S w14 w', fun vs _ => et[i].2.2.1 - ix vs, ⟨0, rfl, Nat.zero_le _, k18⟩, ?_⟩
    rintro _ n45 w19 ⟨j, hv, hj, k19⟩
    simp only [List.cons.injEq, Value.int.injEq, true_and, and_true] at hv
    subst hv
    refine ⟨_, _, _, ((hcC k19).cell 1).trans rfl, ⟨by omega, by omega⟩, nnE2 haq ⟨_, _, _, hcell k19, condP (fun hlt2 => ?_) (fun _ => ⟨⟨by omega, by omega⟩, ⟨i + 1, rfl, by omega, k19⟩, by simp only [ix]; omega⟩)⟩⟩
    have hjl : j < es.length := by omega
    obtain ⟨q', haq'⟩ := some_q hes (by omega)
    obtain ⟨xs, hx, ha⟩ := Sk.slo hes k19
    obtain ⟨v1, e1, kk1⟩ := ha j (slv es[j]) (by rw [List.getElem?_map, List.getElem?_eq_getElem hjl]; rfl)
    have := kk1.sl
    subst this
    have hcl2 := Sk.cellAt hx haq' e1
    have hline := hese j es[j] (ts[i].2[j]'(by omega)) (List.getElem?_eq_getElem hjl) (List.getElem?_eq_getElem (by omega))
    obtain ⟨bs', hob'⟩ := Sk.ob hline.1 k19
    have hlen := hline.1.len
    have hb2 := hesb (ts[i].2[j]'(by omega)) (List.getElem_mem _)
    have e0j : Int.toNat (j : Int) = j := Int.toNat_natCast j
    rw [e0j]
    refine ⟨_, _, _, ((hcC k19).cell 1).trans rfl, ⟨by omega, by omega⟩, nnE2 haq ⟨_, _, _, hcell k19, ⟨by omega, by omega⟩, nnE2 haq' ⟨_, _, _, hcl2, CallR.mono (spoilSk_ok hob' (hSin hline.2) (by omega)) ?_⟩⟩⟩
    rintro v w20 ⟨rfl, k20⟩
    exact ⟨rfl, ⟨by omega, by omega⟩, ⟨j + 1, rfl, by omega, k19.trans k20⟩, by simp only [ix]; omega⟩
  clear hi1
  have k18' := k18
  clear k18
  refine ⟨fun vs w' => ∃ i : Nat, vs = [.int .i64 (i : Int)] ∧ i ≤ l3 ∧ Sk S w14 w', fun vs _ => l3 - ix vs, ⟨0, rfl, Nat.zero_le _, k18'⟩, ?_⟩
  clear k18' w18
  have hlp := hset.lp
  rintro _ n57 w21 ⟨i, hv, hi1, k21⟩
  simp only [List.cons.injEq, Value.int.injEq, true_and, and_true] at hv
  subst hv
  refine ⟨_, _, _, ((hcC k21).cell 2).trans rfl, condP (fun hlt => ?_) (fun _ => ?_)⟩
  · obtain ⟨q, haq⟩ := some_q hpp (by omega)
    have e0 : Int.toNat (i : Int) = i := Int.toNat_natCast i
    rw [e0]
    exact ⟨_, _, _, ((hcC k21).cell 2).trans rfl, ⟨by omega, by omega⟩, nnE2 haq (st_fault hpp k21 haq (by omega) (hSin hpr) fun w23 k23 => ⟨⟨by omega, by omega⟩, ⟨i + 1, rfl, by omega, k23⟩, by simp only [ix]; omega⟩)⟩
  clear hi1
  -- the kernel is as it was
  have h21 := h14.keep k21.kept fun z hz => by
    rw [hS] at hz
    cases ho : L.own z with
    | none => rfl
    | some t => have := hL z (by rw [ho]; simp); omega
  have hwas21 := hwas.keepB k21.kept fun z h1 h2 e => by rw [hS] at e; omega
  have hb21 := hb14.keep k21.kept fun e => by rw [hS] at e; omega
  have k21W : Kept No W w21 := k14.fresh k21.kept fun z e => by rw [hS] at e; omega
  have z21 := k21.kept.size
  clear hcC hSin hef het hpp hpr hefl hetl k14 hc14 h14
  clear kall k21 hb14 hb5
  refine CallR.mono (kernFiles_ok h21) ?_
  rintro v w24 ⟨a61, l61, c61, es61, rfl, hf61, hk24⟩
  obtain ⟨S2, hS2⟩ : ∃ S : Nat → Prop, S = fun b => w21.heap.size ≤ b := ⟨_, rfl⟩
  have hl61 := hf61.len_eq
  rw [AK.filesV_len] at hl61
  have hfl := h21.ok.fl
  refine ⟨_, _, _, rfl, fun vs w' => ∃ i : Nat, vs = [.int .i64 (i : Int)] ∧ i ≤ l61 ∧ Sk S2 w24 w', fun vs _ => l61 - ix vs, ⟨0, rfl, Nat.zero_le _, .refl _⟩, ?_⟩
  rintro _ n65 w25 ⟨i, hv, hi1, k25⟩
  simp only [List.cons.injEq, Value.int.injEq, true_and, and_true] at hv
  subst hv
  refine condP (fun hlt => ?_) (fun _ => ?_)
  · have hil : i < es61.length := by have := hf61.sl.1; rw [Nv_len] at this; omega
    have hil2 : i < (AK.new fs ts ps).filesV.length := by have := hf61.len; omega
    obtain ⟨q, haq⟩ := some_q hf61.sl (by omega)
    obtain ⟨_, n1⟩ := Nv_at hil
    obtain ⟨xs, hx, ha⟩ := Sk.slo hf61.sl k25
    obtain ⟨v1, e1, kk1⟩ := ha _ _ n1
    obtain rfl := kk1.sl
    have hcell := Sk.cellAt hx haq e1
    rw [← Lw.add_add] at hcell
    have hel := hf61.each i hil hil2
    obtain ⟨bs', hob'⟩ := Sk.ob hel.2 k25
    have hlen := hel.2.len
    have hbd := AK.filesV_bound h21 _ (List.getElem_mem hil2)
    have e0 : Int.toNat (i : Int) = i := Int.toNat_natCast i
    rw [e0]
    refine ⟨⟨by omega, by omega⟩, nnE2 haq ⟨_, _, _, hcell, CallR.mono (spoilSk_ok (S := S2) hob' (fun b hb => by rw [hS2]; exact (hf61.fe i hil b hb).1) (by omega)) ?_⟩⟩
    rintro v w26 ⟨rfl, k26⟩
    exact ⟨rfl, ⟨by omega, by omega⟩, ⟨i + 1, rfl, by omega, k25.trans k26⟩, by simp only [ix]; omega⟩
  clear hi1
  have h25 := (h21.no hk24).keep k25.kept fun z hz => by
    rw [hS2] at hz
    cases ho : L.own z with
    | none => rfl
    | some t => have := h21.lt z (by rw [ho]; simp); omega
  refine CallR.mono (rest_ok h25) ?_
  rintro v w27 ⟨a69, c69, rfl, hr69, hk27, hfr69⟩
  have hps0 : (AK.new fs ts ps).ps = ps := (AK.new_is _ _ _).2.2.2.2.1
  rw [hps0] at hr69 ⊢
  have z24 := hk24.size
  have z25 := k25.kept.size
  have z27 := hk27.size
  refine ⟨_, _, _, rfl, fun vs w' => ∃ i : Nat, vs = [.int .i64 (i : Int)] ∧ i ≤ ps.length ∧ Sk S2 w27 w', fun vs _ => ps.length - ix vs, ⟨0, rfl, Nat.zero_le _, .refl _⟩, ?_⟩
  rintro _ n73 w28 ⟨i, hv, hi1, k28⟩
  simp only [List.cons.injEq, Value.int.injEq, true_and, and_true] at hv
  subst hv
  refine condP (fun hlt => ?_) (fun _ => ?_)
  · obtain ⟨q, haq⟩ := some_q hr69 (by omega)
    have e0 : Int.toNat (i : Int) = i := Int.toNat_natCast i
    rw [e0]
    exact ⟨⟨by omega, by omega⟩, nnE2 haq (st_fault hr69 k28 haq (by omega) (fun b hb => by rw [hS2]; have := hfr69 b hb; omega) fun w30 k30 => ⟨⟨by omega, by omega⟩, ⟨i + 1, rfl, by omega, k30⟩, by simp only [ix]; omega⟩)⟩
  clear hi1
  have kS2 : Kept S2 w21 w28 := (((hk24.mono fun _ _ e => e.elim : Kept S2 w21 w24).trans k25.kept fun _ _ e => e).trans (hk27.mono fun _ _ e => e.elim : Kept S2 w25 w27) fun _ _ e => e).trans k28.kept fun _ _ e => e
  have hb28 := hb21.keep kS2 fun e => by rw [hS2] at e; omega
  have hwas28 := hwas21.keepB kS2 fun z h1 h2 e => by rw [hS2] at e; omega
  have h28 := h21.keep kS2 fun z hz => by
    rw [hS2] at hz
    cases ho : L.own z with
    | none => rfl
    | some t => have := h21.lt z (by rw [ho]; simp); omega
  have k28W : Kept No W w28 := k21W.fresh kS2 fun z e => by rw [hS2] at e; have := k21W.size; omega
  clear h25 hf61 hr69 k28 k25 hk27 hk24 hwas21 hb21 k21W
  refine ⟨fun wS => Blk wS W.heap.size #[.slice a1 l1 c1, .slice a2 l2 c2, .slice a3 l3 c3], hb28.drew, ?_⟩
  intro w31
  have hk31 : Kept No w28 w31 := Kept.drew _ _
  clear_value w31
  have h31 := h28.no hk31
  refine CallR.mono (kernFiles_ok h31) ?_
  rintro v w32 ⟨a76, l76, c76, es76, rfl, hf76, hk32⟩
  have k32 := (hk31.no hk32)
  have h32 := h31.no hk32
  have hl76 := hf76.len_eq
  rw [AK.filesV_len] at hl76
  refine ⟨_, _, _, rfl, hb28.keep k32 fun e => e, CallR.mono (sameNamed_ok hf76.rd (hwas28.keepB k32 fun _ _ _ e => e).rdB (by omega) fun f hf => by have := AK.filesV_bound h32 f hf; omega) ?_⟩
  rintro v w33 ⟨rfl, hk33⟩
  have k33 := k32.no hk33
  have h33 := h32.no hk33
  refine ⟨_, rfl, hb28.keep k33 fun e => e, condF (by rw [decide_eq_true rfl]; rfl) ⟨_, _, _, fun wS hS => (hS.cell 2).trans rfl, CallR.mono (rest_ok h33) ?_⟩⟩
  rintro v w34 ⟨a81, c81, rfl, hr81, hk34, hfr81⟩
  rw [hps0] at hr81 ⊢
  have k34 := k33.no hk34
  refine ⟨_, _, _, rfl, hb28.keep k34 fun e => e, CallR.mono (sameFaults_ok hr81.rd (hset.no (k28W.no k34)).pp (by omega)) ?_⟩
  rintro v w35 ⟨rfl, hk35⟩
  have k35 := k34.no hk35
  refine ⟨_, rfl, condF (by rw [decide_eq_true rfl]; rfl) ?_⟩
  have h35 := h28.no k35
  have k35W := k28W.no k35
  have hb35 := hb28.keep k35 fun e => e
  have hLW : ∀ z, L.own z ≠ none → W.heap.size < z := fun z hz => by have := hL z hz; omega
  obtain ⟨n0, hn0⟩ := AK.new_term fs ts ps
  have hT0 : AK.TermsAt n0 ts (AK.new fs ts ps) 0 := ⟨(AK.new_is _ _ _).2.2.1, h28.ok.tn, fun j hj => (hn0 j hj).1, fun j hj _ => (hn0 j hj).2⟩
  have htl : l2 ≤ 256 := by have := hok.len; omega
  clear h28 h31 h32 h33 hwas28 hf76 hr81 h21 hwas h13 h11
  obtain ⟨I, hI⟩ : ∃ I : List Value → World → Prop, I = fun vs w' => ∃ (i : Nat) (s : AK) (L : KL), vs = [.int .i64 (i : Int)] ∧ i ≤ l2 ∧ s.next ≤ 1 + (i : Int) ∧ s.c0 ≤ (i : Int) ∧ s.ps = ps ∧ AK.TermsAt n0 ts s i ∧ KernO w' gk s L ∧ (∀ z, L.own z ≠ none → W.heap.size < z) ∧ Kept No W w' ∧ Blk w' W.heap.size #[.slice a1 l1 c1, .slice a2 l2 c2, .slice a3 l3 c3] := ⟨_, rfl⟩
  obtain ⟨mu, hmu⟩ : ∃ mu : List Value → World → Nat, mu = fun vs _ => l2 - ix vs := ⟨_, rfl⟩
  refine ⟨I, mu, by rw [hI]; exact ⟨0, _, L, rfl, by omega, by rw [(AK.new_is _ _ _).2.2.2.1]; omega, by rw [(AK.new_is _ _ _).2.2.2.2.2.1]; omega, hps0, hT0, h35, hLW, k35W, hb35⟩, ?_⟩
  clear hT0 h35 hLW k35W hb35 hL k35 k34 k33 k32 hk31 hk32 hk33 hk34 hk35 kS2 k28W hb28
  clear L
  intro _ n87 w36 hInv
  rw [hI] at hInv
  obtain ⟨i, s, L, hv, hi2, hnx, hc0, hsp, hT, h36, hL, k36, hb36⟩ := hInv
  simp only [List.cons.injEq, Value.int.injEq, true_and, and_true] at hv
  subst hv
  refine ⟨_, _, _, (hb36.cell 1).trans rfl, condP (fun hlt => ?_) (fun _ => ⟨rfl, k36⟩)⟩
  have hil : i < ts.length := by omega
  have step : ∀ {w w' : World} {s' s'' : AK} {L' L'' : KL}, KernO w gk s' L' → (∀ z, L'.own z ≠ none → W.heap.size < z) → Kept No W w → Blk w W.heap.size #[.slice a1 l1 c1, .slice a2 l2 c2, .slice a3 l3 c3] → KernO w' gk s'' L'' → KStep w w' L' L'' → (∀ z, L''.own z ≠ none → W.heap.size < z) ∧ Kept No W w' ∧ Blk w' W.heap.size #[.slice a1 l1 c1, .slice a2 l2 c2, .slice a3 l3 c3] := by
    intro w w' s' s'' L' L'' hK hl hk hb hK' st
    have hzz := hb.lt
    refine ⟨fun z hz => ?_, hk.trans st.kept fun y hy e => by have := hl y e; omega, hb.keep st.kept fun e => by have := hl _ e; omega⟩
    rcases st.grew z hz with e | e
    · exact hl z e
    · omega
  have hset36 := hset.no k36
  obtain ⟨et', het'⟩ := hset36.et
  obtain ⟨q, sl, haq, hnm, hsl, hRL, _⟩ := het'.at hil
  have e0 : Int.toNat (i : Int) = i := Int.toNat_natCast i
  rw [e0]
  refine ⟨_, _, _, (hb36.cell 1).trans rfl, ⟨by omega, by omega⟩, nnE2 haq ⟨_, hnm, CallR.mono (kernOpen_ok h36 _ _ (by omega)) ?_⟩⟩
  rintro v w37 ⟨rfl, L1, h37, st37⟩
  have hopen := AK.open_term hT hil (hok.ts _ (List.getElem_mem hil)).1
  rw [hopen] at h37 ⊢
  have h37 : KernO w37 gk (s.newD (n0 + i) 1) L1 := h37
  obtain ⟨hL1, k37, hb37⟩ := step h36 hL k36 hb36 h37 st37
  have kst37 : Kept No W w37 := k37
  refine ⟨_, _, rfl, lnum_to ⟨_, rfl, condFa2 (CallR.mono (kind_ok h37 s.next) ?_)⟩⟩
  rintro v w39 ⟨rfl, hk39⟩
  have h39 := h37.no hk39
  have k39 := k37.no hk39
  have hb39 := hb37.keep hk39 fun e => e
  have hnew : (s.newD (n0 + i) 1).next = s.next + 1 := rfl
  have hnc0 : (s.newD (n0 + i) 1).c0 = s.c0 := rfl
  refine ⟨_, rfl, condF (by rw [AK.term_kind hT hil]; rfl) ⟨_, _, _, (hb39.cell 2).trans rfl, ?_⟩⟩
  have hset39 := hset.no k39
  obtain ⟨et2, het2⟩ := hset39.et
  obtain ⟨q2, sl2, haq2, _, hsl2, hRL2, _⟩ := het2.at hil
  have hq : q2 = q := by rw [haq] at haq2; cases haq2; rfl
  subst hq
  have fin : ∀ {w' : World} {s' : AK} {L' : KL}, AK.TermsAt n0 ts s' (i + 1) → s'.next = s.next + 1 → s'.ps = ps → s'.c0 ≤ s.c0 + 1 → KernO w' gk s' L' → (∀ z, L'.own z ≠ none → W.heap.size < z) → Kept No W w' → Blk w' W.heap.size #[.slice a1 l1 c1, .slice a2 l2 c2, .slice a3 l3 c3] → inI ((i : Int) + 1) ∧ I [.int .i64 ((i : Int) + 1)] w' ∧ mu [.int .i64 ((i : Int) + 1)] w' < mu [.int .i64 (i : Int)] w36 := by
    intro w' s' L' b1 b2 b3 b4 b5 b6 b7 b8
    refine ⟨⟨by omega, by omega⟩, ?_, ?_⟩
    · rw [hI]; exact ⟨i + 1, s', L', rfl, by omega, by omega, by omega, b3, b1, b5, b6, b7, b8⟩
    · rw [hmu]; simp only [ix]; omega
  have hdrop : CallR Tryz.prog 38 [pd gk, .int .i64 s.next] w39 fun r w' => ∃ n : Int, r = .int .i64 n ∧ (inI ((i : Int) + 1) ∧ I [.int .i64 ((i : Int) + 1)] w' ∧ mu [.int .i64 ((i : Int) + 1)] w' < mu [.int .i64 (i : Int)] w36) := by
    refine CallR.mono (kernDrop_ok h39 s.next) ?_
    rintro v w44 ⟨rfl, L2, h44, st44⟩
    obtain ⟨d1, d2, d3, d4, d5⟩ := AK.term_drop hT hil
    obtain ⟨x1, x2, x3⟩ := step h39 hL1 k39 hb39 h44 st44
    exact ⟨_, rfl, fin d2 d3 (d4.trans hsp) (by omega) h44 x1 x2 x3⟩
  refine condI (fun hz => ?_) (fun _ => hdrop)
  have hz : l3 = 0 := by simpa using hz
  have hpe : ps = [] := List.length_eq_zero_iff.1 (by omega)
  have hlT := RdL.len hRL2.1
  refine ⟨_, _, _, (hb39.cell 1).trans rfl, ⟨by omega, by omega⟩, nnE2 haq2 ⟨_, _, _, hsl2, condP (fun hpos => ?_) (fun _ => hdrop)⟩⟩
  have hne : ts[i].2 ≠ [] := fun e => by rw [e] at hlT; simp at hlT; omega
  obtain ⟨x, hx0, hx1, hx2, hx3, hx4, hx5⟩ := AK.term_read hT hil (hsp.trans hpe) hne (hok.ts _ (List.getElem_mem hil)).2
  refine CallR.mono (kernRead_ok h39 _ _ (by omega)) ?_
  rintro v w40 ⟨a103, l103, c103, L2, rfl, hob, hfr, h40, st40, _⟩
  obtain ⟨y1, y2, y3⟩ := step h39 hL1 k39 hb39 h40 st40
  have hrcs := AK.read_cs (s.newD (n0 + i) 1) s.next 1048576
  rw [hx1] at hob
  have hset40 := hset.no y2
  obtain ⟨et3, het3⟩ := hset40.et
  obtain ⟨q3, sl3, haq3, _, hsl3, hRL3, _⟩ := het3.at hil
  have hq : q3 = q2 := by rw [haq] at haq3; cases haq3; rfl
  subst hq
  have hlT3 := RdL.len hRL3.1
  have h0T : 0 < ts[i].2.length := by omega
  obtain ⟨q4, ⟨ea, el, ec⟩, haq4, hc4, hrd4, _⟩ := hRL3.1.get h0T
  simp only at hc4 hrd4
  rw [hx2]
  refine ⟨_, _, _, _, rfl, lnum_to ⟨_, rfl, condFa2 ⟨_, _, _, (y3.cell 1).trans rfl, ⟨by omega, by omega⟩, nnE2 haq3 ⟨_, _, _, hsl3, ⟨by omega, by omega⟩, nnE2 haq4 ⟨_, _, _, hc4, CallR.mono (same_ok hob.rd hrd4 ?_) ?_⟩⟩⟩⟩⟩
  · have := hob.rd.len
    have h2 := AK.read_bound (s.newD (n0 + i) 1) s.next 1048576
    rw [hx1] at h2
    omega
  rintro v w42 ⟨rfl, hk42, _⟩
  have hxe : x = ts[i].2[0] := by
    rw [List.getElem?_eq_getElem h0T] at hx0
    cases hx0; rfl
  have h42 := h40.no hk42
  have k42 := y2.no hk42
  have hb42 := y3.keep hk42 fun e => e
  refine ⟨_, rfl, condF (by rw [decide_eq_true hxe]; rfl) (CallR.mono (kernDrop_ok h42 s.next) ?_)⟩
  rintro v w43 ⟨rfl, L3, h43, st43⟩
  have hdc := AK.drop_cs (((s.newD (n0 + i) 1).read s.next 1048576).2.2) s.next
  obtain ⟨x1, x2, x3⟩ := step h42 y1 k42 hb42 h43 st43
  exact ⟨_, rfl, fin hx3 hx4 (hx5.trans hpe.symm) (by omega) h43 x1 x2 x3⟩

end Go.Proofs.YtkjmlbplmffekaaGreat
