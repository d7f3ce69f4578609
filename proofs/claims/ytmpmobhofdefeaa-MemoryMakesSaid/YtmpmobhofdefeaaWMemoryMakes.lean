/-
  Which memories may be is as the page says: the walk. Conditions: none.
-/
import Derived.Test.YtmpmobhofdefeaaMemG
import Derived.Test.YtmpmobhofdefeaaOMemoryMakes
set_option linter.unusedVariables false
namespace Go.Proofs.Ytmpmobhofdefeaa
open Go.Lw

def ix2 (vs : List Value) : Nat := match vs with
  | [_, .int _ n] => n.toNat
  | _ => 0

theorem answers_ok {R : Nat → Prop} {w : World} {a : Option Addr} {l c : Nat} {rs : List (List Int × Int)} (h : RdA R w a l c rs) (hl : l * 32 ≤ 140737488351232) (hR : ∀ x, R x → x < w.heap.size) :
    CallR Try.prog 50 [.slice a l c] w fun v w' => ∃ a' c', v = .slice a' l c' ∧ RdA (fun x => R x ∨ w.heap.size ≤ x) w' a' l c' rs ∧ Kept No w w' := by
  refine C50 ?_
  unfold L50
  have hlen := h.len
  refine ⟨fun vs w' => ∃ (i : Nat) (a' : Option Addr) (c' : Nat) (es : List (Slc × Int)), vs = [.slice a' i c', .int .i64 (i : Int)] ∧ i ≤ l ∧ Kept No w w' ∧ SlO 2 w' a' i c' (ansC es) ∧ AnsR R w' es (rs.take i) ∧ (∀ x, inA a' x → w.heap.size ≤ x),
    fun vs _ => l - ix2 vs, ⟨0, none, 0, [], rfl, Nat.zero_le _, Kept.refl _ _, SlO.nil 2 w, AnsR.nil _ _, fun x hx => absurd hx (inA_none x)⟩, ?_⟩
  intro _ a4 l4 c4 n5 w1 hI
  obtain ⟨i, _, _, es, hvs, hi, h01, hs1, ha1, hf1⟩ := hI
  simp only [List.cons.injEq, Value.int.injEq, Value.slice.injEq, true_and, and_true] at hvs
  obtain ⟨⟨rfl, hli, rfl⟩, rfl⟩ := hvs
  obtain rfl : i = l4 := hli.symm
  refine condP (fun hlt => ?_) (fun hge => ?_)
  · have hil : i < rs.length := by omega
    have hr : (0 ≤ (i : Int) ∧ (i : Int) < ((l : Nat) : Int)) := by omega
    intro w2
    have hk2 : Kept No w1 w2 := Kept.drew No w1
    have hs2 : w2.heap.size = w1.heap.size := rfl
    clear_value w2
    have h02 := h01.no hk2
    obtain ⟨q, e, rfl, he1, he2, hrd, hrin⟩ := (h.keep h02 (fun _ _ e => e)).get hil
    refine ⟨hr, nnI ⟨e.1, e.2.1, e.2.2, by rw [Int.toNat_natCast]; exact he1, hr, nnI ⟨rs[i].2, by rw [Int.toNat_natCast]; exact he2, ?_⟩⟩⟩
    intro w3
    have hk3 : Kept No w2 w3 := Kept.alloc _ w2 _
    have hb3 : Blk w3 w2.heap.size #[.slice e.1 e.2.1 e.2.2, .int .i64 rs[i].2] := Blk.alloc w2 _ _
    have hs3 : w3.heap.size = w2.heap.size + 1 := by simp [w3]
    clear_value w3
    have hy : RdS 2 w3 (some ⟨w2.heap.size, 0, none⟩) 1 1 (ansC [(e, rs[i].2)]) := (SlO.of_blk (sz := 2) (n := 1) hb3 (by simp)).rd
    have h13 := hk2.no hk3
    obtain ⟨a17, c17, w4, hrun, hs4, hk4, hat, hnn⟩ := run_app_sl (P := Try.prog) (t := 62) (t2 := 62) (ty := 62) (by kernel_rfl : slTyB Try.prog 62 2 32 = true) (by kernel_rfl) (hs1.keep h13 (fun _ _ e => e)) hy (ansC_one _) (by omega) (by omega)
    rw [← ansC_app] at hs4
    have h04 : Kept No w w4 := (h02.no hk3).fresh hk4 hf1
    obtain ⟨_, _, _, _, _, hrd4, _⟩ := (h.keep h04 (fun _ _ e => e)).get hil
    refine ⟨a17, i + 1, c17, w4, hrun, by unfold inI; omega, ⟨i + 1, a17, c17, es ++ [(e, rs[i].2)], by simp, by omega, h04, hs4, ?_, ?_⟩, by simp only [ix2]; omega⟩
    · have hT : rs.take (i + 1) = rs.take i ++ [rs[i]] := by rw [List.take_add_one, List.getElem?_eq_getElem hil]; rfl
      rw [hT]
      refine AnsR.snoc ((ha1.keep h13 (fun _ _ e => e)).keep hk4 (fun x hx e' => by have := hR x hx; have := hf1 x e'; omega)) ?_ rfl hrin
      exact RdB.keep0 (hrd.keep hk3 (fun _ _ _ e => e)) hk4 (fun hne x hx e' => by have := hR x (hrin hne x hx); have := hf1 x e'; omega)
    · intro x hx
      rcases hat.in hx with e' | e'
      · exact hf1 x e'
      · have := h02.size; omega
  · have hil : i = l := by omega
    subst hil
    rw [List.take_of_length_le (by omega)] at ha1
    exact ⟨_, _, rfl, ⟨es, hs1.rd, ha1.mono (fun x hx => .inl hx), fun _ k hk => .inr (hf1 k hk)⟩, h01⟩

theorem walk_memoryMakes {W : World} {args : List Value} (h : V10 W args) : CallR Try.prog 10 args W fun v w' => v = .bool true ∧ Kept No W w' := by
  obtain ⟨n1, _, n2, _, a3, l3, c3, bs, hbs, _, hl3, a7, l8, c9, hlc8, hz8, hl8, hst, a17, l18, c19, ws, hws, _, hl18, a21, l22, c23, _, _, _, _, a28, l29, c30, _, _, _, _, n37, _, b38, rfl⟩ := h
  have hbs : RdB W a3 l3 c3 bs := hbs
  have hws : RdS 1 W a17 l18 c19 (In ws) := hws
  obtain ⟨rs, hrs⟩ := rdA_of_view hlc8 hz8 (fun q hq i hi => by
    obtain ⟨a', l', c', ns, k1, _, _, n, _, k2, k3, _⟩ := hst q hq i hi
    exact ⟨a', l', c', ns, n, k1, k2, k3⟩)
  refine C10 ?_
  unfold L10
  intro w1
  have hk1 : Kept No W w1 := Kept.alloc _ W _
  have hb1 : Blk w1 W.heap.size #[.int .i64 n1, .int .i64 n2, .slice a3 l3 c3, .slice a7 l8 c9, .slice a17 l18 c19, .slice a21 l22 c23, .slice a28 l29 c30, .int .i64 n37, .bool b38] := Blk.alloc W _ _
  clear_value w1
  refine ⟨_, hb1.cell 1, _, _, _, hb1.cell 2, (mnewF_ok n2 (hbs.keep hk1 (fun _ _ _ e => e))).mono fun v w2 hm => ?_⟩
  obtain ⟨p2, hv2, hk2⟩ := hm.eq
  have h02 := hk1.no hk2
  have hb2 := hb1.keep hk2 (fun e => e)
  refine ⟨_, _, hv2, _, hb2.cell 1, _, _, _, hb2.cell 2, (rnewF_ok n2 (hbs.keep h02 (fun _ _ _ e => e))).mono fun v w3 hm => ?_⟩
  obtain ⟨p3, hv3, hk3⟩ := hm.eq
  have h03 := h02.no hk3
  have hb3 := hb2.keep hk3 (fun e => e)
  refine ⟨_, _, hv3, _, _, _, hb3.cell 2, (mnewG_ok (hbs.keep h03 (fun _ _ _ e => e))).mono fun v w4 hm => ?_⟩
  obtain ⟨p4, hv4, hk4⟩ := hm.eq
  have h04 := h03.no hk4
  have hb4 := hb3.keep hk4 (fun e => e)
  refine ⟨_, _, hv4, _, _, _, hb4.cell 2, (rnewG_ok (hbs.keep h04 (fun _ _ _ e => e))).mono fun v w5 hm => ?_⟩
  obtain ⟨p5, hv5, hk5⟩ := hm.eq
  have h05 := h04.no hk5
  have hb5 := hb4.keep hk5 (fun e => e)
  refine ⟨_, _, hv5, _, _, _, hb5.cell 2, (mnewR_ok (hbs.keep h05 (fun _ _ _ e => e))).mono fun v w6 hm => ?_⟩
  obtain ⟨p6, hv6, hk6⟩ := hm.eq
  have h06 := h05.no hk6
  have hb6 := hb5.keep hk6 (fun e => e)
  refine ⟨_, _, hv6, _, _, _, hb6.cell 2, (rnewR_ok (hbs.keep h06 (fun _ _ _ e => e))).mono fun v w7 hm => ?_⟩
  obtain ⟨p7, hv7, hk7⟩ := hm.eq
  have h07 := h06.no hk7
  have hb7 := hb6.keep hk7 (fun e => e)
  refine ⟨_, _, hv7, fun wS => Kept No w7 wS, Kept.drew _ _, ?_⟩
  intro w8
  have hk8 : Kept No w7 w8 := Kept.drew No w7
  clear_value w8
  have h08 := h07.no hk8
  have h08s := h08.size
  refine ⟨_, _, _, fun wS hS => (hb7.keep hS (fun e => e)).cell 3, _, _, _, fun wS hS => (hb7.keep hS (fun e => e)).cell 4, (answers_ok (hrs.keep h08 (fun _ _ e => e)) hl8 (fun x hx => by omega)).mono fun v w9 ⟨a39, c39, hv9, ha9, hk9⟩ => ⟨_, _, _, hv9, hk8.no hk9, ?_⟩⟩
  have h09 := h08.no hk9
  refine (cnew_ok ha9 (hws.keep h09 (fun _ _ _ e => e))).mono fun v w10 hm => ?_
  obtain ⟨p10, hv10, hk10⟩ := hm.eq
  have h010 := h09.no hk10
  have hb10 := (hb7.keep (hk8.no hk9) (fun e => e)).keep hk10 (fun e => e)
  refine ⟨_, _, hv10, _, _, _, hb10.cell 3, _, _, _, hb10.cell 4, (rcnew_ok (hrs.keep h010 (fun _ _ e => e)) (hws.keep h010 (fun _ _ _ e => e))).mono fun v w11 hm => ?_⟩
  obtain ⟨p11, hv11, hk11⟩ := hm.eq
  have h011 := h010.no hk11
  refine ⟨_, _, hv11, nnum_to ⟨_, rfl, condT (by simp) (nnum_to ⟨_, rfl, condT (by simp) (nnum_to ⟨_, rfl, condT (by simp) (nnum_to ⟨_, rfl, condT (by simp) ?_⟩)⟩)⟩)⟩⟩
  exact nalive_ok.mono fun v w12 ⟨hv12, hk12⟩ => ⟨_, hv12, rfl, h011.no hk12⟩

end Go.Proofs.Ytmpmobhofdefeaa
