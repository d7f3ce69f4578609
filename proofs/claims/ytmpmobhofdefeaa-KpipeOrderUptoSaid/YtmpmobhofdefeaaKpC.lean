/-
  A pipe: the page's example, and pipes that no call made. Conditions: as each says.
-/
import Derived.Test.YtmpmobhofdefeaaKpB
import Derived.Test.YtmpmobhofdefeaaLY
set_option linter.unusedVariables false
namespace Go.Proofs.Ytmpmobhofdefeaa
open Go.Lw

theorem knum_to {w : World} {n : Int} {Q : Value → World → Prop} (hq : Q (.int .i64 n) w) : CallR Try.prog 22 [.int .i64 n] w Q := by
  refine C22 ?_
  unfold L22
  exact hq

theorem kboth_ok (w : World) : CallR Try.prog 17 [] w fun v w' => ∃ b, v = pt b ∧ PipeO w' b [] 1 1 ∧ Kept No w w' ∧ w.heap.size ≤ b := by
  refine C17 ?_
  unfold L17
  have fr : ∀ {x}, x = w.heap.size → w.heap.size ≤ x := by intro x e; omega
  refine (knew_ok w).mono fun v w1 ⟨hv, hp, hk⟩ => ⟨_, hv, condF rfl ?_⟩
  refine (kjoin_ok hp false).mono fun v w2 ⟨hv2, hp2, hk2⟩ => ⟨_, hv2, knum_to ⟨_, rfl, ?_⟩⟩
  refine (kjoin_ok hp2 true).mono fun v w3 ⟨hv3, hp3, hk3⟩ => ⟨_, hv3, knum_to ⟨_, rfl, ?_⟩⟩
  refine ⟨(by unfold inI; decide : inI (0 + 0)), condF (by decide) ⟨_, rfl, hp3, (hk.fresh hk2 fun x e => fr e).fresh hk3 fun x e => fr e, Nat.le_refl _⟩⟩

/-- Bytes made new, all zero. -/
theorem mk_zeros {w : World} {k : Nat} (hk : k ≤ 140737488355328) {K : Option Addr → Nat → Nat → World → Prop}
    (h : ∀ w' zs, zs = List.replicate k 0 → OB w' (some ⟨w.heap.size, 0, none⟩) k k zs → Kept No w w' → K (some ⟨w.heap.size, 0, none⟩) k k w') :
    ∃ (a : Option Addr) (l c : Nat) (w' : World), Sem.run Try.prog (Instr.makeSlice 26 (.int .i64 (k : Int)) (.int .i64 (k : Int))) w = .ok (.slice a l c) w' ∧ K a l c w' := by
  obtain ⟨w1, hrun, hs1, hk1, hsz1⟩ := run_mk (P := Try.prog) (t := 26) tyB (w := w) (k := .i64) (k' := .i64) (n := k) (m := k) (Nat.le_refl _) (by omega) (by omega)
  have e : (Builtin.zeroCells (Value.int .u8 0).cells k).toList = By (List.replicate k 0) := By_zeros k
  rw [e] at hs1
  exact ⟨_, _, _, w1, hrun, h w1 _ rfl hs1 hk1⟩

theorem writeP_eq {ds : List Int} {most : Int} {bs : List Int} {e0 e1 : Nat} (h1 : ds.length ≤ 1048576) (h2 : 1 ≤ most ∧ most ≤ 1048576) (h3 : e1 ≠ 0) (h4 : e0 ≠ 0) (h5 : 0 < ds.length) :
    writeP ds most bs e0 e1 = if takesP bs.length ds.length = 0 then (0, 52, bs) else (wtk ds.length most bs.length, 0, bs ++ ds.take (wtk ds.length most bs.length).toNat) := by
  unfold writeP; rw [if_neg (by omega), if_neg (by omega), if_neg h3, if_neg h4, if_neg (by rintro rfl; simp at h5)]

theorem alive_a {ds : List Int} (h : ds.length = 4000) : writeP ds 5000 [] 1 1 = (4000, 0, ds) := by
  rw [writeP_eq (by omega) (by omega) (by decide) (by decide) (by omega), h]
  have e1 : takesP 0 (4000 : Nat) = 4000 := by decide
  have e2 : wtk 4000 5000 0 = 4000 := by decide
  rw [List.length_nil, e1, e2, if_neg (by decide), List.nil_append, List.take_of_length_le (by rw [h]; decide)]

theorem alive_b {ds bs : List Int} (h : ds.length = 100) (hb : bs.length = 4000) : writeP ds 100 bs 1 1 = (0, 52, bs) := by
  rw [writeP_eq (by omega) (by omega) (by decide) (by decide) (by omega), h, hb, if_pos (by decide)]

theorem alive_c {ds bs : List Int} (h : ds.length = 600) (hb : bs.length = 4000) : (writeP ds 600 bs 1 1).1 = 96 ∧ (writeP ds 600 bs 1 1).2.1 = 0 := by
  rw [writeP_eq (by omega) (by omega) (by decide) (by decide) (by omega), h, hb, if_neg (by decide)]
  exact ⟨(by decide : wtk 600 600 4000 = 96), rfl⟩

theorem kalive_ok {w : World} : CallR Try.prog 16 [] w fun v w' => v = .bool true ∧ Kept No w w' := by
  refine C16 ?_
  unfold L16
  refine (kboth_ok w).mono fun v w1 ⟨b, hv, hp, hk, hb⟩ => ⟨_, hv, condF rfl ?_⟩
  have fr : ∀ {x}, x = b → w.heap.size ≤ x := by intro x e; omega
  refine (kread_ok hp 1).mono fun v w2 ⟨a2, l2, c2, hv2, ho2, hf2, hp2, hk2⟩ => ⟨_, _, _, _, hv2, ?_⟩
  have r1 : readP 1 [] 1 1 = ([], 52, []) := by decide
  rw [r1] at hp2
  rw [r1]
  have hk02 := hk.fresh hk2 fun x e => fr e
  refine mk_zeros (k := 4000) (by decide) fun w3 za hza ho3 hk3 => ?_
  have hp3 := hp2.keep hk3 (fun e => e)
  refine (kwrite_ok hp3 ho3.rd (fun _ e => by rw [inA_some] at e; have := hp2.lt; omega) (Nat.le_refl _) 5000).mono fun v w4 ⟨hv4, hp4, hk4⟩ => ⟨_, _, hv4, ?_⟩
  have z4 : za.length = 4000 := by rw [hza]; exact List.length_replicate
  have r2 := alive_a z4
  rw [r2] at hp4
  rw [r2]
  have hk04 := (hk02.no hk3).fresh hk4 fun x e => fr e
  refine mk_zeros (k := 100) (by decide) fun w5 zb hzb ho5 hk5 => ?_
  have hp5 := hp4.keep hk5 (fun e => e)
  refine (kwrite_ok hp5 ho5.rd (fun _ e => by rw [inA_some] at e; have := hp4.lt; omega) (Nat.le_refl _) 100).mono fun v w6 ⟨hv6, hp6, hk6⟩ => ⟨_, _, hv6, ?_⟩
  have r3 := alive_b (ds := zb) (by rw [hzb]; exact List.length_replicate) z4
  rw [r3] at hp6
  rw [r3]
  have hk06 := (hk04.no hk5).fresh hk6 fun x e => fr e
  refine mk_zeros (k := 600) (by decide) fun w7 zc hzc ho7 hk7 => ?_
  have hp7 := hp6.keep hk7 (fun e => e)
  refine (kwrite_ok hp7 ho7.rd (fun _ e => by rw [inA_some] at e; have := hp6.lt; omega) (Nat.le_refl _) 600).mono fun v w8 ⟨hv8, hp8, hk8⟩ => ⟨_, _, hv8, ?_⟩
  have r4 := alive_c (ds := zc) (by rw [hzc]; exact List.length_replicate) z4
  rw [r4.1, r4.2]
  have hk08 := (hk06.no hk7).fresh hk8 fun x e => fr e
  exact knum_to ⟨_, rfl, condT rfl (knum_to ⟨_, rfl, knum_to ⟨_, rfl, (inI_of ⟨by decide, by decide⟩ : inI ((0 : Int) + 0)), condT rfl (condT rfl (knum_to ⟨_, rfl, condT rfl ⟨rfl, hk08⟩⟩))⟩⟩)⟩

/-- A pipe that no call made. -/
def NoPipe (w : World) (p : Option Addr) : Prop := p = none ∨ ∃ b cur, p = some ⟨b, 0, none⟩ ∧ Blk w b cur ∧ cur[4098]? = some (.bool false)

theorem NoPipe.keep {w w' : World} {p : Option Addr} (h : NoPipe w p) (k : Kept No w w') : NoPipe w' p := by
  rcases h with h | ⟨b, cur, h, hb, hc⟩
  · exact .inl h
  · exact .inr ⟨b, cur, h, hb.keep k (fun e => e), hc⟩

theorem nnone_to {w : World} {p : Option Addr} (h : NoPipe w p) {Q : Value → World → Prop} (hq : Q (.bool true) w) : CallR Try.prog 71 [.pointer p] w Q := by
  refine C71 ?_
  unfold L71
  rcases h with rfl | ⟨b, cur, rfl, hb, hc⟩
  · exact condT rfl hq
  · exact condF rfl (nnI ⟨false, hb.at hc, hq⟩)

theorem knothing_ok {w : World} {p : Option Addr} (h : NoPipe w p) : CallR Try.prog 37 [.pointer p] w fun v w' => v = .bool true ∧ Kept No w w' := by
  refine C37 ?_
  unfold L37
  refine C18 ?_
  unfold L18
  refine nnone_to h ⟨_, rfl, condT rfl ⟨_, _, _, _, rfl, ?_⟩⟩
  refine C19 ?_
  unfold L19
  refine nnone_to h ⟨_, rfl, condT rfl ⟨_, _, rfl, ?_⟩⟩
  refine C25 ?_
  unfold L25
  refine nnone_to h ⟨_, rfl, condT rfl ⟨_, _, rfl, ?_⟩⟩
  refine knum_to ⟨_, rfl, condT rfl (knum_to ⟨_, rfl, condT rfl ?_⟩)⟩
  refine C23 ?_
  unfold L23
  refine nnone_to h ⟨_, rfl, condT rfl ⟨_, rfl, knum_to ⟨_, rfl, condT rfl ?_⟩⟩⟩
  refine C24 ?_
  unfold L24
  refine nnone_to h ⟨_, rfl, condT rfl ⟨_, rfl, knum_to ⟨_, rfl, condT rfl ?_⟩⟩⟩
  refine C20 ?_
  unfold L20
  refine nnone_to h ⟨_, rfl, condT rfl ⟨_, _, _, rfl, condT rfl ⟨inI_of ⟨by decide, by decide⟩, condT rfl ?_⟩⟩⟩
  refine C26 ?_
  unfold L26
  refine nnone_to h ⟨_, rfl, condF rfl ⟨_, rfl, condT rfl ?_⟩⟩
  refine C27 ?_
  unfold L27
  exact nnone_to h ⟨_, rfl, condF rfl ⟨_, rfl, rfl, Kept.refl _ _⟩⟩

end Go.Proofs.Ytmpmobhofdefeaa
