/-
  What a custom stream's reads tell is what its answers have, in order: the walk. Conditions: none.
-/
import Derived.Test.YtmpmobhofdefeaaMemF
import Derived.Test.YtmpmobhofdefeaaOMemoryTold
set_option linter.unusedVariables false
namespace Go.Proofs.Ytmpmobhofdefeaa
open Go.Lw

/-- A row's lists, of bounded length. -/
theorem rdL_of_viewB {B : Nat} {W : World} {a : Option Addr} {l c : Nat} (hlc : l ≤ c) (hz : a = none → c = 0)
    (h : ∀ q : Addr, a = some q → ∀ i : Nat, i < l → ∃ (a' : Option Addr) (l' c' : Nat) (ns : List Int), RdB W a' l' c' ns ∧ l' ≤ B ∧ W.cell? (q.add i) = some (.slice a' l' c')) :
    ∃ xss, RdL (· < W.heap.size) W a l c xss ∧ ∀ xs ∈ xss, xs.length ≤ B := by
  cases a with
  | none =>
    have := hz rfl
    obtain rfl : l = 0 := by omega
    subst this
    exact ⟨[], RdL.nil _ _, by simp⟩
  | some q =>
    obtain ⟨f, hf⟩ := Deep.choose_lt (α := Slc × List Int) (n := l) (p := fun i x => RdB W x.1.1 x.1.2.1 x.1.2.2 x.2 ∧ x.1.2.1 ≤ B ∧ W.cell? (q.add i) = some (slv x.1)) (fun i hi => by
      obtain ⟨a', l', c', ns, h1, h2, h3⟩ := h q rfl i hi
      exact ⟨((a', l', c'), ns), h1, h2, h3⟩)
    refine ⟨(List.range l).map fun i => (f i).2, ⟨(List.range l).map fun i => (f i).1, ⟨by simp, hlc, (fun h => by cases h), fun ad had i v hi => ?_⟩, by simp, fun hl k hk => ?_, fun i e xs he hx => ?_⟩, fun xs hx => ?_⟩
    · cases had
      by_cases hil : i < l
      · simp [hil] at hi; subst hi; exact (hf i hil).2.2
      · simp [hil] at hi
    · obtain ⟨ad, had, rfl⟩ := hk
      cases had
      have := World.block_lt_of_cell? W _ (hf 0 (by omega)).2.2
      have hbe : (q.add 0).block = q.block := by unfold Addr.add; split <;> rfl
      omega
    · by_cases hil : i < l
      · simp [hil] at he hx; subst he hx; exact ⟨(hf i hil).1, fun hne k hk => (hf i hil).1.old hne k hk⟩
      · simp [hil] at he
    · obtain ⟨i, hi, rfl⟩ := List.mem_map.1 hx
      have hi := List.mem_range.1 hi
      have := (hf i hi).1.len
      have := (hf i hi).2.1
      omega

def ixA (vs : List Value) : Nat := match vs with
  | [_, _, .int _ n] => n.toNat
  | _ => 0
def ixB (vs : List Value) : Nat := match vs with
  | [_, .int _ n] => n.toNat
  | _ => 0

/-- What is left to be told, and how many reads it takes at most. -/
def leftB (rs : List (List Int × Int)) : List Int := (rs.map (·.1)).flatten
def leftN (rs : List (List Int × Int)) : Nat := (rs.map fun r => r.1.length + 1).sum

theorem leftN_nil {rs : List (List Int × Int)} (h : leftN rs = 0) : rs = [] := by
  cases rs with
  | nil => rfl
  | cons r t => simp [leftN] at h

theorem readC_left {n : Int} (h1 : 1 ≤ n) (h2 : n ≤ 1048576) (rs : List (List Int × Int)) (hz : ∀ r ∈ rs, r.2 = 0) :
    (readC n rs).2.1 = 0 ∧ ((readC n rs).1.length : Int) ≤ n ∧ (readC n rs).1 ++ leftB (readC n rs).2.2 = leftB rs ∧ (∀ r ∈ (readC n rs).2.2, r.2 = 0) ∧ leftN (readC n rs).2.2 ≤ leftN rs - 1 := by
  unfold readC
  rw [if_neg (by omega), if_neg (by omega)]
  cases rs with
  | nil => simp [leftB, leftN]; omega
  | cons r t =>
    have hr := hz r (by simp)
    simp only [hr]
    rw [if_neg (by simp)]
    refine ⟨rfl, by simp only [List.length_take]; omega, ?_, ?_, ?_⟩
    · split
      · rw [List.take_of_length_le (by omega)]; simp [leftB]
      · simp only [leftB, List.map_cons, List.flatten_cons]
        rw [← List.append_assoc, List.take_append_drop]
    · intro x hx
      split at hx
      · exact hz x (by simp [hx])
      · rcases List.mem_cons.1 hx with rfl | hx
        · rfl
        · exact hz x (by simp [hx])
    · split
      · simp only [leftN, List.map_cons, List.sum_cons]; omega
      · simp only [leftN, List.map_cons, List.sum_cons, List.length_drop]; omega

theorem leftN_all (xss : List (List Int)) : leftN (xss.map fun x => (x, 0)) = xss.flatten.length + xss.length := by
  induction xss with
  | nil => rfl
  | cons x t ih =>
    simp only [leftN, List.map_cons, List.sum_cons, List.flatten_cons, List.length_append, List.length_cons] at ih ⊢
    rw [ih]; omega
theorem leftB_all (xss : List (List Int)) : leftB (xss.map fun x => (x, 0)) = xss.flatten := by
  induction xss with
  | nil => rfl
  | cons x t ih => simp only [leftB, List.map_cons, List.flatten_cons] at ih ⊢; rw [ih]
theorem flat_len {B : Nat} (xss : List (List Int)) (h : ∀ xs ∈ xss, xs.length ≤ B) : xss.flatten.length ≤ xss.length * B := by
  induction xss with
  | nil => simp
  | cons x t ih =>
    have := h x (by simp)
    have := ih (fun y hy => h y (by simp [hy]))
    simp only [List.flatten_cons, List.length_append, List.length_cons, Nat.succ_mul]; omega

theorem walk_memoryTold {W : World} {args : List Value} (h : V8 W args) : CallR Try.prog 8 args W fun v w' => v = .bool true ∧ Kept No W w' := by
  obtain ⟨a, l, c, hlc, hz, hl, hst, n2, _, rfl⟩ := h
  obtain ⟨xss, hx, hB⟩ := rdL_of_viewB (B := 1048576) hlc hz (fun q hq i hi => by
    obtain ⟨a', l', c', ns, k1, _, k2, k3, _⟩ := hst q hq i hi
    exact ⟨a', l', c', ns, k1, k2, by rw [Nat.mul_one] at k3; exact k3⟩)
  have hxl := hx.len
  have ht := Int.tmod_lt_of_pos n2 (show (0 : Int) < 50 by decide)
  have ht2 := Int.lt_tmod_of_pos n2 (show (0 : Int) < 50 by decide)
  obtain ⟨f, hf, hf0, hf1⟩ : ∃ f : Int, (1 : Int) + Int.tmod (Int.tmod n2 50 + 50) 50 = f ∧ 1 ≤ f ∧ f ≤ 50 := by
    refine ⟨_, rfl, ?_, ?_⟩ <;> rw [Int.tmod_eq_emod_of_nonneg (by omega)] <;> omega
  refine C8 ?_
  unfold L8
  rw [hf]
  refine nalive_ok.mono fun v w1 ⟨hv1, hk1⟩ => ⟨_, hv1, condF rfl ?_⟩
  refine ⟨fun vs w => ∃ (i : Nat) (a7 : Option Addr) (c7 : Nat) (a8 : Option Addr) (l8 c8 : Nat) (es : List (Slc × Int)), vs = [.slice a7 i c7, .slice a8 l8 c8, .int .i64 (i : Int)] ∧ i ≤ l ∧ Kept No W w ∧ SlO 2 w a7 i c7 (ansC es) ∧
      AnsR (· < W.heap.size) w es ((xss.map fun x => (x, 0)).take i) ∧ OB w a8 l8 c8 (xss.take i).flatten ∧ (∀ x, inA a7 x → W.heap.size ≤ x ∧ ¬ inA a8 x) ∧ (∀ x, inA a8 x → W.heap.size ≤ x),
    fun vs _ => l - ixA vs, ⟨0, none, 0, none, 0, 0, [], rfl, Nat.zero_le _, hk1, SlO.nil 2 _, AnsR.nil _ _, OB.nil _, fun x hx => absurd hx (inA_none x), fun x hx => absurd hx (inA_none x)⟩, ?_⟩
  intro _ a7 l7 c7 a8 l8 c8 n9 w2 hI
  obtain ⟨i, _, _, _, _, _, es, hvs, hi, h02, hs2, ha2, ho2, hd7, hd8⟩ := hI
  simp only [List.cons.injEq, Value.int.injEq, Value.slice.injEq, true_and, and_true] at hvs
  obtain ⟨⟨rfl, hli, rfl⟩, ⟨rfl, rfl, rfl⟩, rfl⟩ := hvs
  obtain rfl : i = l7 := hli.symm
  have h02s := h02.size
  have hol := ho2.len
  have hBt : ∀ {j}, (xss.take j).flatten.length ≤ (xss.take j).length * 1048576 := fun {j} => flat_len _ (fun x hx => hB x (List.mem_of_mem_take hx))
  have hl8 : l8 ≤ 1099511627776 := by
    have := hBt (j := i)
    rw [hol, List.length_take] at this
    have h3 : min i xss.length * 1048576 ≤ 1048576 * 1048576 := Nat.mul_le_mul_right _ (by omega)
    omega
  refine condP (fun hlt => ?_) (fun hge => ?_)
  · have hil : i < xss.length := by omega
    have hr : (0 ≤ (i : Int) ∧ (i : Int) < ((l : Nat) : Int)) := by omega
    obtain ⟨q, e, rfl, hc, hrd, hrin⟩ := (hx.keep h02 (fun _ _ e => e)).get hil
    have hbl := hB xss[i] (by simp)
    refine ⟨hr, nnI ⟨e.1, e.2.1, e.2.2, by rw [Int.toNat_natCast]; exact hc, ?_⟩⟩
    intro w3
    have hk3 : Kept No w2 w3 := Kept.alloc _ w2 _
    have hb3 : Blk w3 w2.heap.size #[.slice e.1 e.2.1 e.2.2, .int .i64 0] := Blk.alloc w2 _ _
    have hs3 : w3.heap.size = w2.heap.size + 1 := by simp [w3]
    clear_value w3
    have hy : RdS 2 w3 (some ⟨w2.heap.size, 0, none⟩) 1 1 (ansC [(e, 0)]) := (SlO.of_blk (sz := 2) (n := 1) hb3 (by simp)).rd
    obtain ⟨a12, c12, w4, hrun4, hs4, hk4, hat4, hnn4⟩ := run_app_sl (P := Try.prog) (t := 62) (t2 := 62) (ty := 62) (by kernel_rfl : slTyB Try.prog 62 2 32 = true) (by kernel_rfl) (hs2.keep hk3 (fun _ _ e => e)) hy (ansC_one _) (by omega) (by omega)
    rw [← ansC_app] at hs4
    have h03 := h02.no hk3
    have h04 := h03.fresh hk4 (fun x hx => (hd7 x hx).1)
    have hrd4 : RdB w4 e.1 e.2.1 e.2.2 xss[i] := RdB.keep0 (hrd.keep hk3 (fun _ _ _ e => e)) hk4 (fun hne x hx e' => by have := hrin hne x hx; have := (hd7 x e').1; omega)
    have hrl := hrd.len
    refine ⟨a12, i + 1, c12, w4, hrun4, hr, nnI ⟨e.1, e.2.1, e.2.2, ?_, ?_⟩⟩
    · rw [Int.toNat_natCast]
      obtain ⟨q', e', hq', hc', _⟩ := (hx.keep h04 (fun _ _ e => e)).get hil
      cases hq'
      obtain ⟨es0, _, _, hx3, _⟩ := hx
      have h5 := hk4.cell (hk3.cell hc (fun e => e)) (a := q.add i)
      refine h5 (fun hin => ?_)
      have hqb : (q.add i).block = q.block := by unfold Addr.add; split <;> rfl
      have := hx3 (by omega) q.block ⟨q, rfl, rfl⟩
      have := (hd7 _ hin).1
      omega
    obtain ⟨a15, c15, w5, hrun5, hs5, hk5, hat5, hnn5⟩ := run_app_sl (P := Try.prog) (t := 26) (t2 := 26) (ty := 26) (by kernel_rfl : slTyB Try.prog 26 1 1 = true) (by kernel_rfl) ((ho2.keep hk3 (fun _ _ e => e)).keep hk4 (fun x hx e => (hd7 x e).2 hx)) hrd4 (By_one _) (by omega) (by omega)
    rw [← By_append] at hs5
    have hlt8 : ∀ x, inA a8 x → x < w2.heap.size := fun x hx => SlO.lt ho2 x hx
    have hk4s := hk4.size
    have h12 : ∀ x, inA a12 x → W.heap.size ≤ x ∧ ¬ inA a8 x := fun x hx => by
      rcases hat4.in hx with e' | e'
      · exact hd7 x e'
      · exact ⟨by omega, fun e'' => by have := hlt8 x e''; omega⟩
    have hlt12 : ∀ x, inA a12 x → x < w4.heap.size := fun x hx => SlO.lt hs4 x hx
    refine ⟨a15, l8 + e.2.1, c15, w5, hrun5, by unfold inI; omega, ⟨i + 1, a12, c12, a15, l8 + e.2.1, c15, es ++ [(e, 0)], by simp, by omega, h04.fresh hk5 hd8, hs4.keep hk5 (fun x hx e' => (h12 x hx).2 e'), ?_, ?_, fun x hx => ⟨(h12 x hx).1, fun e' => ?_⟩, fun x hx => ?_⟩, by simp only [ixA]; omega⟩
    · have hT : (xss.map fun x => (x, (0 : Int))).take (i + 1) = (xss.map fun x => (x, (0 : Int))).take i ++ [(xss[i], 0)] := by
        rw [List.take_add_one, List.getElem?_eq_getElem (by simpa using hil)]; simp
      rw [hT]
      refine AnsR.snoc (((ha2.keep hk3 (fun _ _ e => e)).keep hk4 (fun x hx e' => by have := (hd7 x e').1; omega)).keep hk5 (fun x hx e' => by have := hd8 x e'; omega)) ?_ rfl hrin
      exact RdB.keep0 hrd4 hk5 (fun hne x hx e' => by have := hrin hne x hx; have := hd8 x e'; omega)
    · have hT : (xss.take (i + 1)).flatten = (xss.take i).flatten ++ xss[i] := by
        rw [List.take_add_one, List.getElem?_eq_getElem hil, Option.toList_some, List.flatten_append]; simp only [List.flatten_cons, List.flatten_nil, List.append_nil]
      rw [hT]; exact hs5
    · rcases hat5.in e' with e'' | e''
      · exact (h12 x hx).2 e''
      · have := hlt12 x hx; omega
    · rcases hat5.in hx with e'' | e''
      · exact hd8 x e''
      · omega
  · have hil : i = l := by omega
    subst hil
    rw [List.take_of_length_le (by simp; omega)] at ha2
    rw [List.take_of_length_le (by omega)] at ho2 hol
    have hA : RdA (fun x => True) w2 a7 i c7 (xss.map fun x => (x, 0)) := ⟨es, hs2.rd, ha2.mono (fun _ _ => trivial), fun _ _ _ => trivial⟩
    have h0 : RdS 1 w2 none 0 0 (In []) := RdS.nil 1 w2
    refine (cnew_ok hA h0).mono fun v w6 hm => ?_
    rcases hm with ⟨he, hv6, hk6⟩ | ⟨he, b, F, hv6, hc6, hk6, hf6⟩
    · exact ⟨_, _, hv6, nnum_to ⟨_, rfl, condT (by simpa using he) ⟨rfl, h02.no hk6⟩⟩⟩
    refine ⟨_, _, hv6, nnum_to ⟨_, rfl, condF rfl (condF rfl ⟨by decide, by unfold inI; omega, by decide, by unfold inI; omega, ?_⟩)⟩⟩
    have h06 := h02.no hk6
    have ho6 := ho2.keep hk6 (fun _ _ e => e)
    have hlt8 : ∀ x, inA a8 x → x < w2.heap.size := fun x hx => SlO.lt ho2 x hx
    refine ⟨fun vs w => ∃ (j : Nat) (a23 : Option Addr) (l23 c23 : Nat) (got : List Int) (rs : List (List Int × Int)), vs = [.slice a23 l23 c23, .int .i64 (j : Int)] ∧ j ≤ l8 + i + 1 ∧ Kept No W w ∧ CuO F w b rs [] [] ∧ OB w a23 l23 c23 got ∧ OB w a8 l8 c8 xss.flatten ∧
        (∀ r ∈ rs, r.2 = 0) ∧ got ++ leftB rs = xss.flatten ∧ leftN rs ≤ l8 + i - j ∧ (∀ x, inA a23 x → w6.heap.size ≤ x) ∧ w6.heap.size ≤ w.heap.size,
      fun vs _ => l8 + i + 1 - ixB vs, ⟨0, none, 0, 0, [], _, rfl, by omega, h06, hc6, OB.nil _, ho6, ?_, by rw [leftB_all]; rfl, by rw [leftN_all]; omega, fun x hx => absurd hx (inA_none x), Nat.le_refl _⟩, ?_⟩
    · intro r hr
      obtain ⟨x, _, rfl⟩ := List.mem_map.1 hr
      rfl
    intro _ a23 l23 c23 n24 w8 hI
    obtain ⟨j, _, _, _, got, rs, hvs, hj, h08, hc8, hg8, ho8, hz8, hall, hN, hd23, h68⟩ := hI
    simp only [List.cons.injEq, Value.int.injEq, Value.slice.injEq, true_and, and_true] at hvs
    obtain ⟨⟨rfl, rfl, rfl⟩, rfl⟩ := hvs
    have hgl := hg8.len
    have hgle : l23 ≤ l8 := by
      have := congrArg List.length hall
      rw [List.length_append] at this; omega
    refine ⟨by unfold inI; omega, condP (fun hlt => ?_) (fun hge => ?_)⟩
    · obtain ⟨e0, e1, e2, e3, e4⟩ := readC_left hf0 (by omega) rs hz8
      have hs2s := hk6.size
      have hwF : ∀ x, F x → W.heap.size ≤ x := fun x hx => by have := hf6 x hx; omega
      have hF6 : ∀ x, F x → x < w6.heap.size := by
        obtain ⟨_, _, _, _, _, _, _, _, _, _, _, _, _, _, _, _, q, _⟩ := hc6; exact q
      refine (cread_ok hc8 (fun r t he => hz8 r (by rw [he]; simp)) f).mono fun v w9 ⟨a25, l25, c25, hv9, ho9, hf9, hc9, hk9⟩ => ⟨_, _, _, _, hv9, nnum_to ⟨_, rfl, ?_⟩⟩
      have hl25 := ho9.len
      refine condF (by rw [e0]; rfl) (condF (by simp; omega) ?_)
      have hg9 := hg8.keep hk9 (fun x hx e => by have := hd23 x hx; have := hF6 x e; omega)
      obtain ⟨a30, c30, w11, hrun, hs11, hk11, hat, hnn⟩ := run_app_sl (P := Try.prog) (t := 26) (t2 := 26) (ty := 26) (by kernel_rfl : slTyB Try.prog 26 1 1 = true) (by kernel_rfl) hg9 ho9.rd (By_one _) (by omega) (by omega)
      rw [← By_append] at hs11
      refine ⟨a30, l23 + l25, c30, w11, hrun, by unfold inI; omega, ⟨j + 1, a30, l23 + l25, c30, got ++ (readC f rs).1, (readC f rs).2.2, by simp, by omega, ?_, hc9.keep hk11 (fun x hx e => by have := hd23 x e; have := hF6 x hx; omega), hs11, ?_, e3, by rw [List.append_assoc, e2, hall], by omega, fun x hx => ?_, by have := hk9.size; have := hk11.size; omega⟩, by simp only [ixB]; omega⟩
      · exact (h08.fresh hk9 hwF).fresh hk11 (fun x hx => by have := hd23 x hx; omega)
      · exact (ho8.keep hk9 (fun x hx e => by have := hlt8 x hx; have := hf6 x e; omega)).keep hk11 (fun x hx e => by have := hlt8 x hx; have := hd23 x e; omega)
      · rcases hat.in hx with e' | e'
        · exact hd23 x e'
        · have := hk9.size
          omega
    · have hj' : leftN rs = 0 := by omega
      have hrs := leftN_nil hj'
      subst hrs
      have hgot : got = xss.flatten := by simpa [leftB] using hall
      refine (same_ok hg8.rd ho8.rd (by omega)).mono fun v w12 ⟨hv12, hk12, _⟩ => ⟨_, hv12, by simp [hgot], h08.no hk12⟩

end Go.Proofs.Ytmpmobhofdefeaa
