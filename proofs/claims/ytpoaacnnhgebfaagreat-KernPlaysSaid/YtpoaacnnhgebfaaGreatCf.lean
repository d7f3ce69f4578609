/-
  Copies of lists, of named files and of named terminals in new memory; a kernel's beginning out of a law's setup. Conditions: as each says.
-/
import Derived.Test.YtpoaacnnhgebfaaGreatKeC
import Derived.Test.YtpoaacnnhgebfaaGreatBas
import Derived.Test.YtpoaacnnhgebfaaGreatLRt
set_option linter.unusedVariables false
namespace Go.Proofs.YtpoaacnnhgebfaaGreat
open Go.Lw

/-- CopyLists: lists in new memory, each of its own. -/
theorem copyl_ok {R0 : Nat → Prop} {w : World} {a : Option Addr} {l c : Nat} {LL : List (List Int)} (h : RdL R0 w a l c LL) (hl : ∀ x ∈ LL, x.length ≤ 140737488355328) (hl2 : l * 24 ≤ 140737488355328) :
    CallR Tryz.prog 155 [.slice a l c] w fun v w' => ∃ (a' : Option Addr) (c' : Nat) (es : List Slc), v = .slice a' l c' ∧ Kept No w w' ∧ SlO 1 w' a' l c' (es.map slv) ∧ es.length = l ∧ Fresh w a' ∧
      (∀ (j : Nat) (e : Slc), es[j]? = some e → ∃ xs, LL[j]? = some xs ∧ OB w' e.1 e.2.1 e.2.2 xs ∧ (∀ k, inA e.1 k → w.heap.size ≤ k ∧ ¬ inA a' k)) ∧
      (∀ (i j : Nat) (e f : Slc), i < j → es[i]? = some e → es[j]? = some f → ∀ k, inA e.1 k → ¬ inA f.1 k) := by
  have hlen := h.len
  refine C155 ?_
  unfold L155
  refine ⟨fun vs w' => ∃ (i : Nat) (a' : Option Addr) (c' : Nat) (es : List Slc), vs = [.slice a' i c', .int .i64 (i : Int)] ∧ i ≤ l ∧ Kept No w w' ∧ SlO 1 w' a' i c' (es.map slv) ∧ es.length = i ∧ Fresh w a' ∧
      (∀ (j : Nat) (e : Slc), es[j]? = some e → ∃ xs, LL[j]? = some xs ∧ OB w' e.1 e.2.1 e.2.2 xs ∧ (∀ k, inA e.1 k → w.heap.size ≤ k ∧ ¬ inA a' k)) ∧
      (∀ (i j : Nat) (e f : Slc), i < j → es[i]? = some e → es[j]? = some f → ∀ k, inA e.1 k → ¬ inA f.1 k),
    fun vs _ => match vs with | [_, .int _ i] => (l - i).toNat | _ => 0, ⟨0, none, 0, [], rfl, Nat.zero_le _, Kept.refl _ _, SlO.nil 1 w, rfl, Fresh.none w, fun j e he => by simp at he, fun i j e f _ he => by simp at he⟩, ?_⟩
  intro _ a4 l4 c4 n5 w1 hI
  obtain ⟨i, a', c', es, hv, hi, hk1, hs1, hesl, hf1, hes, hpw⟩ := hI
  simp only [List.cons.injEq, Value.slice.injEq, Value.int.injEq, true_and, and_true] at hv
  obtain ⟨⟨rfl, rfl, rfl⟩, rfl⟩ := hv
  refine condP (fun hlt => ?_) (fun hge => ?_)
  · have hil : l4 < LL.length := by omega
    obtain ⟨q, ⟨ea, el, ec⟩, hq, hc, hrd, _⟩ := (h.keep hk1 (fun _ _ e => e)).get hil
    subst hq
    simp only at hc hrd
    obtain rfl : LL[l4].length = el := hrd.len
    have hLi := hl LL[l4] (List.getElem_mem hil)
    refine ⟨⟨by omega, by omega⟩, nnI ⟨_, _, _, hc, (copyb_ok hrd (by omega)).mono fun v w2 ⟨a2, c2, hv2, ho2, hk2, hf2⟩ => ⟨_, _, _, hv2, ?_⟩⟩⟩
    intro w3
    have hk3 : Kept No w2 w3 := Kept.alloc _ _ _
    have hz3 : w3.heap.size = w2.heap.size + 1 := by show (w2.heap.push _).size = _; simp
    have hnew3 : SlO 1 w3 (some ⟨w2.heap.size, 0, none⟩) 1 1 ([(a2, LL[l4].length, c2)].map slv) :=
      SlO.of_blk (sz := 1) (n := 1) (Blk.alloc w2 #[slv (a2, LL[l4].length, c2)] 40) rfl
    clear_value w3
    have hs3 := (hs1.keep hk2 (fun _ _ e => e)).keep hk3 (fun _ _ e => e)
    obtain ⟨a6, c6, w6, hrun, hs6, hk6, hat, _⟩ := run_app_sl (P := Tryz.prog) (t := 84) (t2 := 84) (ty := 84) (by kernel_rfl : slTyB Tryz.prog 84 1 24 = true) (by kernel_rfl) hs3 hnew3.rd (slv_one _) (by omega) (by omega)
    have hk13 := hk2.no hk3
    have hlt2 := SlO.lt ho2
    have hlt1 := SlO.lt hs1
    have hin6 : ∀ k, inA a6 k → w.heap.size ≤ k := fun k hk => by
      rcases hat.in hk with h | rfl
      · exact hf1 k h
      · have := (hk1.no hk13).size; omega
    refine ⟨a6, _, c6, w6, hrun, by unfold inI; omega, ⟨l4 + 1, a6, c6, es ++ [(a2, LL[l4].length, c2)], rfl, by omega, (hk1.no hk13).fresh hk6 hf1, by rw [List.map_append]; exact hs6, by simp [hesl], hin6, ?_, ?_⟩, ?_⟩
    · intro j e he
      by_cases hj : j < l4
      · rw [List.getElem?_append_left (by omega)] at he
        obtain ⟨xs, hx, hr, hin⟩ := hes j e he
        refine ⟨xs, hx, (hr.keep hk13 (fun _ _ e => e)).keep hk6 (fun k hk h => (hin k hk).2 h), fun k hk => ⟨(hin k hk).1, fun hx => ?_⟩⟩
        rcases hat.in hx with h | rfl
        · exact (hin k hk).2 h
        · have := SlO.lt hr _ hk; have := hk13.size; omega
      · have hje : j = l4 := by
          have := (List.getElem?_eq_some_iff.1 he).1
          simp at this; omega
        subst hje
        rw [List.getElem?_append_right (by omega), hesl, Nat.sub_self] at he
        simp at he
        subst he
        refine ⟨LL[j], by simp [hil], (ho2.keep hk3 (fun _ _ e => e)).keep hk6 (fun k hk h => ?_), fun k hk => ⟨?_, fun hx => ?_⟩⟩
        · have := hf2 k hk; have := hlt1 k h; omega
        · have := hf2 k hk; have := hk1.size; omega
        · rcases hat.in hx with h | rfl
          · have := hf2 k hk; have := hlt1 k h; omega
          · have := hlt2 _ hk; omega
    · intro i j e f hij he hf k hke hkf
      by_cases hj : j < l4
      · rw [List.getElem?_append_left (by omega)] at he hf
        exact hpw i j e f hij he hf k hke hkf
      · have hje : j = l4 := by
          have := (List.getElem?_eq_some_iff.1 hf).1
          simp at this; omega
        subst hje
        rw [List.getElem?_append_right (by omega), hesl, Nat.sub_self] at hf
        simp at hf
        subst hf
        rw [List.getElem?_append_left (by omega)] at he
        obtain ⟨xs, hx, hr, hin⟩ := hes i e he
        have := SlO.lt hr k hke
        have := hf2 k hkf
        omega
    · show ((l : Int) - ((l4 : Int) + 1)).toNat < ((l : Int) - (l4 : Int)).toNat
      omega
  · have hil : l4 = l := by omega
    subst hil
    exact ⟨a4, c4, es, rfl, hk1, hs1, hesl, hf1, hes, hpw⟩


theorem copyl_rl {R0 : Nat → Prop} {w : World} {a : Option Addr} {l c : Nat} {LL : List (List Int)} (h : RdL R0 w a l c LL) (hl : ∀ x ∈ LL, x.length ≤ 140737488355328) (hl2 : l * 24 ≤ 140737488355328) :
    CallR Tryz.prog 155 [.slice a l c] w fun v w' => ∃ (a' : Option Addr) (c' : Nat), v = .slice a' l c' ∧ Kept No w w' ∧ RdL (fun k => w.heap.size ≤ k ∧ k < w'.heap.size) w' a' l c' LL := by
  have hlen := h.len
  refine CallR.mono (copyl_ok h hl hl2) ?_
  rintro v w' ⟨a', c', es, rfl, hk, hs, hel, hf, hes, _⟩
  refine ⟨a', c', rfl, hk, es, hs.rd, by omega, fun _ k hk' => ⟨hf k hk', SlO.lt hs k hk'⟩, fun i e xs he hx => ?_⟩
  obtain ⟨ys, hy, ho, hin⟩ := hes i e he
  rw [hx] at hy
  cases hy
  exact ⟨ho.rd, fun _ k hk' => ⟨(hin k hk').1, SlO.lt ho k hk'⟩⟩

/-- What a named thing has, in memory of a range, owned. -/
def RBr (w : World) (s : Slc) (bs : List Int) (lo hi : Nat) : Prop := OB w s.1 s.2.1 s.2.2 bs ∧ ∀ k, inA s.1 k → lo ≤ k ∧ k < hi
def RLr (w : World) (s : Slc) (LL : List (List Int)) (lo hi : Nat) : Prop := (∃ es : List Slc, SlO 1 w s.1 s.2.1 s.2.2 (es.map slv) ∧ es.length = LL.length ∧ ∀ (i : Nat) (e : Slc) (x : List Int), es[i]? = some e → LL[i]? = some x → RBr w e x lo hi) ∧ (∀ k, inA s.1 k → lo ≤ k ∧ k < hi) ∧ ∀ x ∈ LL, x.length ≤ 140737488355328

theorem RBr.keep {w w' : World} {s : Slc} {bs : List Int} {lo hi : Nat} (h : RBr w s bs lo hi) {S : Nat → Prop} (k : Kept S w w') (hn : ∀ z, lo ≤ z → z < hi → ¬ S z) : RBr w' s bs lo hi :=
  ⟨h.1.keep k fun z hz => hn z (h.2 z hz).1 (h.2 z hz).2, h.2⟩
theorem RLr.keep {w w' : World} {s : Slc} {LL : List (List Int)} {lo hi : Nat} (h : RLr w s LL lo hi) {S : Nat → Prop} (k : Kept S w w') (hn : ∀ z, lo ≤ z → z < hi → ¬ S z) : RLr w' s LL lo hi := by
  obtain ⟨⟨es, h1, h2, h3⟩, h4, h5⟩ := h
  exact ⟨⟨es, h1.keep k fun z hz => hn z (h4 z hz).1 (h4 z hz).2, h2, fun i e x he hx => (h3 i e x he hx).keep k hn⟩, h4, h5⟩
theorem RBr.wide {w : World} {s : Slc} {bs : List Int} {lo hi lo' hi' : Nat} (h : RBr w s bs lo hi) (h1 : lo' ≤ lo) (h2 : hi ≤ hi') : RBr w s bs lo' hi' := ⟨h.1, fun k hk => by have := h.2 k hk; omega⟩
theorem RLr.wide {w : World} {s : Slc} {LL : List (List Int)} {lo hi lo' hi' : Nat} (h : RLr w s LL lo hi) (h1 : lo' ≤ lo) (h2 : hi ≤ hi') : RLr w s LL lo' hi' := by
  obtain ⟨⟨es, e1, e2, e3⟩, h4, h5⟩ := h
  exact ⟨⟨es, e1, e2, fun i e x he hx => (e3 i e x he hx).wide h1 h2⟩, fun k hk => by have := h4 k hk; omega, h5⟩
theorem RLr.rd {w : World} {s : Slc} {LL : List (List Int)} {lo hi : Nat} (h : RLr w s LL lo hi) : RL w s LL := by
  obtain ⟨⟨es, e1, e2, e3⟩, h4, h5⟩ := h
  exact ⟨⟨es, e1.rd, e2, fun _ _ _ => trivial, fun i e x he hx => ⟨(e3 i e x he hx).1.rd, fun _ _ _ => trivial⟩⟩, h5⟩

/-- Named things, copied: owned, in memory of a range. -/
structure CpO {α : Type} (R : World → Slc → α → Nat → Nat → Prop) (lo hi : Nat) (w : World) (a : Option Addr) (l c : Nat) (fs : List (ByteArray × α)) (es : List (ByteArray × Slc)) : Prop where
  sl : SlO 2 w a l c (Nv es)
  len : es.length = fs.length
  rg : ∀ b, inA a b → lo ≤ b ∧ b < hi
  each : ∀ i, (h1 : i < es.length) → (h2 : i < fs.length) → es[i].1 = fs[i].1 ∧ R w es[i].2 fs[i].2 lo hi

theorem CpO.rdB {lo hi : Nat} {w : World} {a : Option Addr} {l c : Nat} {fs : List (ByteArray × List Int)} {es : List (ByteArray × Slc)} (h : CpO RBr lo hi w a l c fs es) : RdN RB w a l c fs es :=
  ⟨h.sl.rd, h.len, fun i h1 h2 => ⟨(h.each i h1 h2).1, (h.each i h1 h2).2.1.rd⟩⟩
theorem CpO.rdL {lo hi : Nat} {w : World} {a : Option Addr} {l c : Nat} {fs : List (ByteArray × List (List Int))} {es : List (ByteArray × Slc)} (h : CpO RLr lo hi w a l c fs es) : RdN RL w a l c fs es :=
  ⟨h.sl.rd, h.len, fun i h1 h2 => ⟨(h.each i h1 h2).1, (h.each i h1 h2).2.rd⟩⟩

theorem Nv_one (es : List (ByteArray × Slc)) : ∀ u ∈ Nv es, u.oneCell' = true := by
  intro u hu
  simp only [Nv, List.mem_flatMap, List.mem_cons, List.not_mem_nil, or_false] at hu
  obtain ⟨f, _, h | h⟩ := hu
  · subst h; rfl
  · subst h; rfl
theorem Nv_app (a b : List (ByteArray × Slc)) : Nv (a ++ b) = Nv a ++ Nv b := by simp [Nv]
theorem Nv_drop : ∀ (es : List (ByteArray × Slc)) (n : Nat), Nv (es.drop n) = (Nv es).drop (n * 2)
  | [], n => by simp [Nv]
  | f :: r, 0 => rfl
  | f :: r, n + 1 => by
    have := Nv_drop r n
    show Nv (r.drop n) = _
    rw [this, show (n + 1) * 2 = n * 2 + 2 by omega]
    rfl

theorem copyb_rb {w : World} {s : Slc} {bs : List Int} (h : RB w s bs) (hl : s.2.1 ≤ 140737488355328) :
    CallR Tryz.prog 46 [.slice s.1 s.2.1 s.2.2] w fun v w' => ∃ (a' : Option Addr) (c' : Nat), v = .slice a' s.2.1 c' ∧ Kept No w w' ∧ RBr w' (a', s.2.1, c') bs w.heap.size w'.heap.size := by
  refine CallR.mono (copyb_ok h hl) ?_
  rintro v w' ⟨a', c', rfl, ho, hk, hf⟩
  exact ⟨a', c', rfl, hk, ho, fun k hk' => ⟨hf k hk', SlO.lt ho k hk'⟩⟩

theorem copyl_rr {w : World} {s : Slc} {LL : List (List Int)} (h : RL w s LL) (hl : s.2.1 * 24 ≤ 140737488355328) :
    CallR Tryz.prog 155 [.slice s.1 s.2.1 s.2.2] w fun v w' => ∃ (a' : Option Addr) (c' : Nat), v = .slice a' s.2.1 c' ∧ Kept No w w' ∧ RLr w' (a', s.2.1, c') LL w.heap.size w'.heap.size := by
  have hlen := h.1.len
  refine CallR.mono (copyl_ok h.1 h.2 hl) ?_
  rintro v w' ⟨a', c', es, rfl, hk, hs, hel, hf, hes, _⟩
  refine ⟨a', c', rfl, hk, ⟨es, hs, by omega, fun i e xs he hx => ?_⟩, fun k hk' => ⟨hf k hk', SlO.lt hs k hk'⟩, h.2⟩
  obtain ⟨ys, hy, ho, hin⟩ := hes i e he
  rw [hx] at hy
  cases hy
  exact ⟨ho, fun k hk' => ⟨(hin k hk').1, SlO.lt ho k hk'⟩⟩

set_option maxHeartbeats 1000000 in
theorem copyNamed_ok {w : World} {a : Option Addr} {l c : Nat} {fs : List (ByteArray × List Int)} {es : List (ByteArray × Slc)} (h : RdN RB w a l c fs es) (hl : l * 40 ≤ 140737488355328) (hb : ∀ f ∈ fs, f.2.length ≤ 140737488355328) :
    CallR Tryz.prog 50 [.slice a l c] w fun v w' => ∃ (a' : Option Addr) (c' : Nat) (es' : List (ByteArray × Slc)), v = .slice a' l c' ∧ Kept No w w' ∧ ∀ (w'' : World) (S : Nat → Prop), Kept S w' w'' → (∀ z, S z → z < w.heap.size) → CpO RBr w.heap.size w'.heap.size w'' a' l c' fs es' := by
  have hfl : fs.length = l := by have := h.rd.1; rw [Nv_len, h.len] at this; omega
  refine C50 ?_
  unfold L50
  refine ⟨fun vs w' => ∃ (i : Nat) (a' : Option Addr) (c' : Nat) (es' : List (ByteArray × Slc)), vs = [.slice a' i c', .int .i64 (i : Int)] ∧ i ≤ l ∧ Kept No w w' ∧ SlO 2 w' a' i c' (Nv es') ∧ es'.length = i ∧ Fresh w a' ∧
      (∀ (j : Nat) (e : ByteArray × Slc), es'[j]? = some e → ∃ f, fs[j]? = some f ∧ e.1 = f.1 ∧ ∃ lo hi, RBr w' e.2 f.2 lo hi ∧ w.heap.size ≤ lo ∧ hi ≤ w'.heap.size ∧ ∀ z, inA a' z → z < lo ∨ hi ≤ z),
    fun vs _ => match vs with | [_, .int _ i] => (l - i).toNat | _ => 0, ⟨0, none, 0, [], rfl, Nat.zero_le _, Kept.refl _ _, SlO.nil 2 w, rfl, Fresh.none w, fun j e he => by simp at he⟩, ?_⟩
  rintro _ a4 l4 c4 n5 w1 ⟨i, a', c', es', hv, hi, hk1, hs1, hesl, hf1, hes⟩
  simp only [List.cons.injEq, Value.slice.injEq, Value.int.injEq, true_and, and_true] at hv
  obtain ⟨⟨rfl, rfl, rfl⟩, rfl⟩ := hv
  refine condP (fun hlt => ?_) (fun hge => ?_)
  · have hil : l4 < fs.length := by omega
    refine ⟨fun wS => Kept No w1 wS, Kept.drew _ _, ?_⟩
    intro w2
    have hk2 : Kept No w1 w2 := Kept.drew _ _
    clear_value w2
    have hN1 := h.no (fun _ _ _ _ h k => h.no k) hk1
    obtain ⟨q, sl, haq, e1, e2, hR, _⟩ := hN1.at hil
    have hr : 0 ≤ (l4 : Int) ∧ (l4 : Int) < ((l : Nat) : Int) := by omega
    have e1' : ∀ wS, Kept No w1 wS → wS.cell? (q.add (Int.toNat (l4 : Int) * 2)) = some (.string fs[l4].1) := fun wS hS => by rw [Int.toNat_natCast]; exact hS.cell e1 fun e => e
    have e2' : ∀ wS, Kept No w1 wS → wS.cell? ((q.add (Int.toNat (l4 : Int) * 2)).add 1) = some (.slice sl.1 sl.2.1 sl.2.2) := fun wS hS => by rw [Int.toNat_natCast]; exact hS.cell e2 fun e => e
    have hR2 : RB w2 sl fs[l4].2 := hR.no hk2
    refine ⟨hr, nnE2 haq ⟨_, e1', hr, nnE2 haq ⟨_, _, _, e2', CallR.mono (copyb_rb hR2 (by have := RdB.len hR2; have := hb fs[l4] (List.getElem_mem hil); omega)) ?_⟩⟩⟩
    rintro v w3 ⟨a2, c2, rfl, hk3, hin⟩
    refine ⟨_, _, _, rfl, hk2.no hk3, ?_⟩
    intro w4
    have hk4 : Kept No w3 w4 := Kept.alloc _ _ _
    have hz4 : w4.heap.size = w3.heap.size + 1 := by simp [w4]
    have hnew4 : SlO 2 w4 (some ⟨w3.heap.size, 0, none⟩) 1 1 (Nv [(fs[l4].1, (a2, sl.2.1, c2))]) := SlO.of_blk (sz := 2) (n := 1) (Blk.alloc w3 #[.string fs[l4].1, .slice a2 sl.2.1 c2] _) rfl
    clear_value w4
    have k13 := (hk2.no hk3).no hk4
    have hs4 := hs1.keep k13 fun _ _ e => e
    obtain ⟨a6, c6, w6, hrun, hs6, hk6, hat, _⟩ := run_app_sl (P := Tryz.prog) (t := 22) (t2 := 22) (ty := 22) (by kernel_rfl : slTyB Tryz.prog 22 2 40 = true) (by kernel_rfl) hs4 hnew4.rd (Nv_one _) (by omega) (by omega)
    rw [← Nv_app] at hs6
    have hlt1 := SlO.lt hs1
    have hz1 := hk1.size
    have hz13 := k13.size
    have hz2 := hk2.size
    have hz3 := hk3.size
    have hz6 := hk6.size
    have hin6 : ∀ k, inA a6 k → inA a4 k ∨ k = w4.heap.size := fun k hk => hat.in hk
    refine ⟨a6, _, c6, w6, hrun, ⟨by omega, by omega⟩, ⟨l4 + 1, a6, c6, es' ++ [(fs[l4].1, (a2, sl.2.1, c2))], rfl, by omega, (hk1.no k13).fresh hk6 hf1, hs6, by simp [hesl], fun k hk => ?_, fun j e he => ?_⟩, ?_⟩
    · rcases hin6 k hk with e | e
      · exact hf1 k e
      · omega
    · by_cases hj : j < l4
      · rw [List.getElem?_append_left (by omega)] at he
        obtain ⟨f, hf, he1, lo, hi', hr, hlo, hh, hd⟩ := hes j e he
        refine ⟨f, hf, he1, lo, hi', (hr.keep k13 fun _ _ _ e => e).keep hk6 fun z h1 h2 e => ?_, ?_, by omega, fun z hz => ?_⟩
        · have := hd z e; omega
        · exact hlo
        · rcases hin6 z hz with e | e
          · exact hd z e
          · omega
      · have hje : j = l4 := by
          have := (List.getElem?_eq_some_iff.1 he).1
          simp at this; omega
        subst hje
        rw [List.getElem?_append_right (by omega), hesl, Nat.sub_self] at he
        simp at he
        subst he
        refine ⟨fs[j], by simp [hil], rfl, w2.heap.size, w3.heap.size, (hin.keep hk4 fun _ _ _ e => e).keep hk6 fun z h1 h2 e => ?_, by omega, by omega, fun z hz => ?_⟩
        · have := hlt1 z e; omega
        · rcases hin6 z hz with e | e
          · have := hlt1 z e; omega
          · omega
    · show ((l : Int) - ((l4 : Int) + 1)).toNat < ((l : Int) - (l4 : Int)).toNat
      omega
  · have hil : l4 = l := by omega
    subst hil
    refine ⟨a4, c4, es', rfl, hk1, fun w'' S hS hn => ⟨hs1.keep hS fun b hb e => by have := hf1 b hb; have := hn b e; omega, by omega, fun b hb => ⟨hf1 b hb, SlO.lt hs1 b hb⟩, fun i h1 h2 => ?_⟩⟩
    obtain ⟨f, hf, he1, lo, hi', hr, hlo, hhi, _⟩ := hes i es'[i] (List.getElem?_eq_getElem h1)
    rw [List.getElem?_eq_getElem h2] at hf
    cases hf
    have hr := hr.keep hS fun z h1 h2 e => by have := hn z e; omega
    exact ⟨he1, hr.wide hlo hhi⟩

set_option maxHeartbeats 1000000 in
theorem copyTyped_ok {w : World} {a : Option Addr} {l c : Nat} {fs : List (ByteArray × List (List Int))} {es : List (ByteArray × Slc)} (h : RdN RL w a l c fs es) (hl : l * 40 ≤ 140737488355328) (hb : ∀ f ∈ fs, f.2.length * 24 ≤ 140737488355328) :
    CallR Tryz.prog 51 [.slice a l c] w fun v w' => ∃ (a' : Option Addr) (c' : Nat) (es' : List (ByteArray × Slc)), v = .slice a' l c' ∧ Kept No w w' ∧ ∀ (w'' : World) (S : Nat → Prop), Kept S w' w'' → (∀ z, S z → z < w.heap.size) → CpO RLr w.heap.size w'.heap.size w'' a' l c' fs es' := by
  have hfl : fs.length = l := by have := h.rd.1; rw [Nv_len, h.len] at this; omega
  refine C51 ?_
  unfold L51
  refine ⟨fun vs w' => ∃ (i : Nat) (a' : Option Addr) (c' : Nat) (es' : List (ByteArray × Slc)), vs = [.slice a' i c', .int .i64 (i : Int)] ∧ i ≤ l ∧ Kept No w w' ∧ SlO 2 w' a' i c' (Nv es') ∧ es'.length = i ∧ Fresh w a' ∧
      (∀ (j : Nat) (e : ByteArray × Slc), es'[j]? = some e → ∃ f, fs[j]? = some f ∧ e.1 = f.1 ∧ ∃ lo hi, RLr w' e.2 f.2 lo hi ∧ w.heap.size ≤ lo ∧ hi ≤ w'.heap.size ∧ ∀ z, inA a' z → z < lo ∨ hi ≤ z),
    fun vs _ => match vs with | [_, .int _ i] => (l - i).toNat | _ => 0, ⟨0, none, 0, [], rfl, Nat.zero_le _, Kept.refl _ _, SlO.nil 2 w, rfl, Fresh.none w, fun j e he => by simp at he⟩, ?_⟩
  rintro _ a4 l4 c4 n5 w1 ⟨i, a', c', es', hv, hi, hk1, hs1, hesl, hf1, hes⟩
  simp only [List.cons.injEq, Value.slice.injEq, Value.int.injEq, true_and, and_true] at hv
  obtain ⟨⟨rfl, rfl, rfl⟩, rfl⟩ := hv
  refine condP (fun hlt => ?_) (fun hge => ?_)
  · have hil : l4 < fs.length := by omega
    refine ⟨fun wS => Kept No w1 wS, Kept.drew _ _, ?_⟩
    intro w2
    have hk2 : Kept No w1 w2 := Kept.drew _ _
    clear_value w2
    have hN1 := h.no (fun _ _ _ _ h k => h.no k) hk1
    obtain ⟨q, sl, haq, e1, e2, hR, _⟩ := hN1.at hil
    have hr : 0 ≤ (l4 : Int) ∧ (l4 : Int) < ((l : Nat) : Int) := by omega
    have e1' : ∀ wS, Kept No w1 wS → wS.cell? (q.add (Int.toNat (l4 : Int) * 2)) = some (.string fs[l4].1) := fun wS hS => by rw [Int.toNat_natCast]; exact hS.cell e1 fun e => e
    have e2' : ∀ wS, Kept No w1 wS → wS.cell? ((q.add (Int.toNat (l4 : Int) * 2)).add 1) = some (.slice sl.1 sl.2.1 sl.2.2) := fun wS hS => by rw [Int.toNat_natCast]; exact hS.cell e2 fun e => e
    have hR2 : RL w2 sl fs[l4].2 := hR.no hk2
    refine ⟨hr, nnE2 haq ⟨_, e1', hr, nnE2 haq ⟨_, _, _, e2', CallR.mono (copyl_rr hR2 (by have := RdL.len hR2.1; have := hb fs[l4] (List.getElem_mem hil); omega)) ?_⟩⟩⟩
    rintro v w3 ⟨a2, c2, rfl, hk3, hin⟩
    refine ⟨_, _, _, rfl, hk2.no hk3, ?_⟩
    intro w4
    have hk4 : Kept No w3 w4 := Kept.alloc _ _ _
    have hz4 : w4.heap.size = w3.heap.size + 1 := by simp [w4]
    have hnew4 : SlO 2 w4 (some ⟨w3.heap.size, 0, none⟩) 1 1 (Nv [(fs[l4].1, (a2, sl.2.1, c2))]) := SlO.of_blk (sz := 2) (n := 1) (Blk.alloc w3 #[.string fs[l4].1, .slice a2 sl.2.1 c2] _) rfl
    clear_value w4
    have k13 := (hk2.no hk3).no hk4
    have hs4 := hs1.keep k13 fun _ _ e => e
    obtain ⟨a6, c6, w6, hrun, hs6, hk6, hat, _⟩ := run_app_sl (P := Tryz.prog) (t := 23) (t2 := 23) (ty := 23) (by kernel_rfl : slTyB Tryz.prog 23 2 40 = true) (by kernel_rfl) hs4 hnew4.rd (Nv_one _) (by omega) (by omega)
    rw [← Nv_app] at hs6
    have hlt1 := SlO.lt hs1
    have hz1 := hk1.size
    have hz13 := k13.size
    have hz2 := hk2.size
    have hz3 := hk3.size
    have hz6 := hk6.size
    have hin6 : ∀ k, inA a6 k → inA a4 k ∨ k = w4.heap.size := fun k hk => hat.in hk
    refine ⟨a6, _, c6, w6, hrun, ⟨by omega, by omega⟩, ⟨l4 + 1, a6, c6, es' ++ [(fs[l4].1, (a2, sl.2.1, c2))], rfl, by omega, (hk1.no k13).fresh hk6 hf1, hs6, by simp [hesl], fun k hk => ?_, fun j e he => ?_⟩, ?_⟩
    · rcases hin6 k hk with e | e
      · exact hf1 k e
      · omega
    · by_cases hj : j < l4
      · rw [List.getElem?_append_left (by omega)] at he
        obtain ⟨f, hf, he1, lo, hi', hr, hlo, hh, hd⟩ := hes j e he
        refine ⟨f, hf, he1, lo, hi', (hr.keep k13 fun _ _ _ e => e).keep hk6 fun z h1 h2 e => ?_, ?_, by omega, fun z hz => ?_⟩
        · have := hd z e; omega
        · exact hlo
        · rcases hin6 z hz with e | e
          · exact hd z e
          · omega
      · have hje : j = l4 := by
          have := (List.getElem?_eq_some_iff.1 he).1
          simp at this; omega
        subst hje
        rw [List.getElem?_append_right (by omega), hesl, Nat.sub_self] at he
        simp at he
        subst he
        refine ⟨fs[j], by simp [hil], rfl, w2.heap.size, w3.heap.size, (hin.keep hk4 fun _ _ _ e => e).keep hk6 fun z h1 h2 e => ?_, by omega, by omega, fun z hz => ?_⟩
        · have := hlt1 z e; omega
        · rcases hin6 z hz with e | e
          · have := hlt1 z e; omega
          · omega
    · show ((l : Int) - ((l4 : Int) + 1)).toNat < ((l : Int) - (l4 : Int)).toNat
      omega
  · have hil : l4 = l := by omega
    subst hil
    refine ⟨a4, c4, es', rfl, hk1, fun w'' S hS hn => ⟨hs1.keep hS fun b hb e => by have := hf1 b hb; have := hn b e; omega, by omega, fun b hb => ⟨hf1 b hb, SlO.lt hs1 b hb⟩, fun i h1 h2 => ?_⟩⟩
    obtain ⟨f, hf, he1, lo, hi', hr, hlo, hhi, _⟩ := hes i es'[i] (List.getElem?_eq_getElem h1)
    rw [List.getElem?_eq_getElem h2] at hf
    cases hf
    have hr := hr.keep hS fun z h1 h2 e => by have := hn z e; omega
    exact ⟨he1, hr.wide hlo hhi⟩

theorem copyFaults_ok {w : World} {a : Option Addr} {l c : Nat} {ps : List (Int × Int)} (h : RdS 2 w a l c (Fv ps)) (hl : l * 16 ≤ 140737488355328) :
    CallR Tryz.prog 52 [.slice a l c] w fun v w' => ∃ (a' : Option Addr) (c' : Nat), v = .slice a' l c' ∧ Kept No w w' ∧ SlO 2 w' a' l c' (Fv ps) ∧ Fresh w a' := by
  refine C52 ?_
  unfold L52
  obtain ⟨a', c', w2, hrun, hs, hk, hat, hnn⟩ := run_app_sl (P := Tryz.prog) (t := 24) (t2 := 24) (ty := 24) (by kernel_rfl : slTyB Tryz.prog 24 2 16 = true) (by kernel_rfl) (SlO.nil 2 w) h (Fv_one ps) (by omega) (by omega)
  simp only [Nat.zero_add, List.nil_append] at hrun hs
  exact ⟨a', l, c', w2, hrun, a', c', rfl, hk.mono (fun b _ hb => inA_none b hb), hs, hat.fresh (Fresh.none w) (Nat.le_refl _)⟩


/-- A law's setup, as a row gives it. -/
structure SetupO (w : World) (fs : List (ByteArray × List Int)) (ts : List (ByteArray × List (List Int))) (ps : List (Int × Int)) (af : Option Addr) (lf cf : Nat) (at_ : Option Addr) (lt ct : Nat) (ap : Option Addr) (lp cp : Nat) : Prop where
  ef : ∃ ef, RdN RB w af lf cf fs ef
  et : ∃ et, RdN RL w at_ lt ct ts et
  pp : RdS 2 w ap lp cp (Fv ps)
  lf : lf * 40 ≤ 140737488355328
  lt : lt * 40 ≤ 140737488355328
  lp : lp * 16 ≤ 140737488355328
  bf : ∀ f ∈ fs, f.2.length ≤ 140737488355328
  bt : ∀ f ∈ ts, f.2.length * 24 ≤ 140737488355328

theorem SetupO.no {w w' : World} {fs : List (ByteArray × List Int)} {ts : List (ByteArray × List (List Int))} {ps : List (Int × Int)} {af : Option Addr} {lf cf : Nat} {at_ : Option Addr} {lt ct : Nat} {ap : Option Addr} {lp cp : Nat}
    (h : SetupO w fs ts ps af lf cf at_ lt ct ap lp cp) (k : Kept No w w') : SetupO w' fs ts ps af lf cf at_ lt ct ap lp cp :=
  ⟨h.ef.elim fun e he => ⟨e, he.no (fun _ _ _ _ h k => h.no k) k⟩, h.et.elim fun e he => ⟨e, he.no (fun _ _ _ _ h k => h.no k) k⟩, h.pp.keep k fun _ _ _ e => e, h.lf, h.lt, h.lp, h.bf, h.bt⟩

/-- A setup's copy, owned. -/
structure CfgO (lo hi : Nat) (w : World) (fs : List (ByteArray × List Int)) (ts : List (ByteArray × List (List Int))) (ps : List (Int × Int)) (af : Option Addr) (lf cf : Nat) (at_ : Option Addr) (lt ct : Nat) (ap : Option Addr) (lp cp : Nat) : Prop where
  ef : ∃ ef, CpO RBr lo hi w af lf cf fs ef
  et : ∃ et, CpO RLr lo hi w at_ lt ct ts et
  pp : SlO 2 w ap lp cp (Fv ps)
  pr : ∀ b, inA ap b → lo ≤ b ∧ b < hi

theorem CpO.wideB {lo hi lo' hi' : Nat} {w : World} {a : Option Addr} {l c : Nat} {fs : List (ByteArray × List Int)} {es : List (ByteArray × Slc)} (h : CpO RBr lo hi w a l c fs es) (h1 : lo' ≤ lo) (h2 : hi ≤ hi') : CpO RBr lo' hi' w a l c fs es :=
  ⟨h.sl, h.len, fun b hb => by have := h.rg b hb; omega, fun i a b => ⟨(h.each i a b).1, (h.each i a b).2.wide h1 h2⟩⟩
theorem CpO.wideL {lo hi lo' hi' : Nat} {w : World} {a : Option Addr} {l c : Nat} {fs : List (ByteArray × List (List Int))} {es : List (ByteArray × Slc)} (h : CpO RLr lo hi w a l c fs es) (h1 : lo' ≤ lo) (h2 : hi ≤ hi') : CpO RLr lo' hi' w a l c fs es :=
  ⟨h.sl, h.len, fun b hb => by have := h.rg b hb; omega, fun i a b => ⟨(h.each i a b).1, (h.each i a b).2.wide h1 h2⟩⟩

theorem config_own {w : World} {fs : List (ByteArray × List Int)} {ts : List (ByteArray × List (List Int))} {ps : List (Int × Int)} {af : Option Addr} {lf cf : Nat} {at_ : Option Addr} {lt ct : Nat} {ap : Option Addr} {lp cp : Nat}
    (h : SetupO w fs ts ps af lf cf at_ lt ct ap lp cp) :
    CallR Tryz.prog 7 [.agg #[.slice af lf cf, .slice at_ lt ct, .slice ap lp cp]] w fun v w' => ∃ af' cf' at' ct' ap' cp', v = .agg #[.slice af' lf cf', .slice at' lt ct', .slice ap' lp cp'] ∧ Kept No w w' ∧ SetupO w' fs ts ps af' lf cf' at' lt ct' ap' lp cp' ∧ CfgO w.heap.size w'.heap.size w' fs ts ps af' lf cf' at' lt ct' ap' lp cp' := by
  refine C7 ?_
  unfold L7
  intro w1
  have hb1 : Blk w1 w.heap.size #[.slice af lf cf, .slice at_ lt ct, .slice ap lp cp] := Blk.alloc _ _ _
  have hk1 : Kept No w w1 := Kept.alloc _ _ _
  clear_value w1
  intro w2
  have hb2 : Blk w2 w1.heap.size #[.slice none 0 0, .slice none 0 0, .slice none 0 0] := Blk.alloc _ _ _
  have hk2 : Kept No w1 w2 := Kept.alloc _ _ _
  clear_value w2
  have hb12 := hb1.keep hk2 fun e => e
  refine ⟨fun wS => Kept No w2 wS, Kept.drew _ _, ?_⟩
  intro w3
  have hk3 : Kept No w2 w3 := Kept.drew _ _
  clear_value w3
  have k3 := (hk1.no hk2).no hk3
  have h3 := h.no k3
  obtain ⟨ef, hef⟩ := h3.ef
  refine ⟨_, _, _, fun wS hS => ((hb12.keep hS fun e => e).cell 0).trans rfl, _, _, _, fun wS hS => ((hb12.keep hS fun e => e).cell 1).trans rfl, _, _, _, fun wS hS => ((hb12.keep hS fun e => e).cell 2).trans rfl, CallR.mono (copyNamed_ok hef h.lf h.bf) ?_⟩
  rintro v w4 ⟨a8, c8, es8, rfl, hk4, hN4⟩
  have h4 := h3.no hk4
  obtain ⟨et, het⟩ := h4.et
  refine ⟨_, _, _, rfl, hk3.no hk4, CallR.mono (copyTyped_ok het h.lt h.bt) ?_⟩
  rintro v w5 ⟨a10, c10, es10, rfl, hk5, hT5⟩
  have h5 := h4.no hk5
  refine ⟨_, _, _, rfl, (hk3.no hk4).no hk5, CallR.mono (copyFaults_ok h5.pp h.lp) ?_⟩
  rintro v w6 ⟨a12, c12, rfl, hk6, hs6, hf6⟩
  have hb6 := (((hb2.keep hk3 fun e => e).keep hk4 fun e => e).keep hk5 fun e => e).keep hk6 fun e => e
  have hz1 := hk1.size
  refine ⟨_, _, _, rfl, stC_blk hb6 (by simp) fun w7 hb7 hk7 _ => stC_blk hb7 (by simp) fun w8 hb8 hk8 _ => stC_blk hb8 (by simp) fun w9 hb9 hk9 _ => ?_⟩
  have hb9 : Blk w9 w1.heap.size #[.slice a8 lf c8, .slice a10 lt c10, .slice a12 lp c12] := by simpa using hb9
  have k79 : Kept (· = w1.heap.size) w6 w9 := (‹Kept (· = w1.heap.size) w6 w7›.trans ‹Kept (· = w1.heap.size) w7 w8› fun _ _ e => e).trans ‹Kept (· = w1.heap.size) w8 w9› fun _ _ e => e
  have hb2lt := hb2.lt
  have hz3 := hk3.size
  have hz4 := hk4.size
  have hz5 := hk5.size
  refine ⟨_, _, _, _, _, _, _, _, _, (hb9.cell 0).trans rfl, (hb9.cell 1).trans rfl, (hb9.cell 2).trans rfl, _, _, _, _, _, _, rfl, (((k3.no hk4).no hk5).no hk6).fresh k79 fun x e => by omega, ?_⟩
  have hN9 := hN4 w9 (· = w1.heap.size) (((hk5.no hk6).mono fun _ _ e => e.elim).trans k79 fun _ _ e => e) fun z e => by omega
  have hT9 := hT5 w9 (· = w1.heap.size) ((hk6.mono fun _ _ e => e.elim).trans k79 fun _ _ e => e) fun z e => by omega
  have hs9 := hs6.keep k79 fun b hb e => by have := hf6 b hb; omega
  have hz6 := hk6.size
  have hz9 := k79.size
  have hz2 := hk2.size
  exact ⟨⟨⟨es8, hN9.rdB⟩, ⟨es10, hT9.rdL⟩, hs9.rd, h.lf, h.lt, h.lp, h.bf, h.bt⟩, ⟨es8, hN9.wideB (by omega) (by omega)⟩, ⟨es10, hT9.wideL (by omega) (by omega)⟩, hs9, fun b hb => ⟨by have := hf6 b hb; omega, SlO.lt hs9 b hb⟩⟩

theorem config_ok {w : World} {fs : List (ByteArray × List Int)} {ts : List (ByteArray × List (List Int))} {ps : List (Int × Int)} {af : Option Addr} {lf cf : Nat} {at_ : Option Addr} {lt ct : Nat} {ap : Option Addr} {lp cp : Nat}
    (h : SetupO w fs ts ps af lf cf at_ lt ct ap lp cp) :
    CallR Tryz.prog 7 [.agg #[.slice af lf cf, .slice at_ lt ct, .slice ap lp cp]] w fun v w' => ∃ af' cf' at' ct' ap' cp', v = .agg #[.slice af' lf cf', .slice at' lt ct', .slice ap' lp cp'] ∧ Kept No w w' ∧ SetupO w' fs ts ps af' lf cf' at' lt ct' ap' lp cp' := by
  refine CallR.mono (config_own h) ?_
  rintro v w' ⟨a1, a2, a3, a4, a5, a6, rfl, a7, a8, _⟩
  exact ⟨a1, a2, a3, a4, a5, a6, rfl, a7, a8⟩

end Go.Proofs.YtpoaacnnhgebfaaGreat
