/-
  Refused calls change nothing, nothing is shared, files that no call made: the walk. Conditions: none.
-/
import Derived.Test.YtapnpbfbebdjjaaFileC
import Derived.Test.YtapnpbfbebdjjaaLC
import Derived.Test.YtapnpbfbebdjjaaOFileOwn
set_option linter.unusedVariables false
namespace Go.Proofs.Ytapnpbfbebdjjaa
open Go.Lw

/-- A file that no call made. -/
def Dead (w : World) (p : Option Addr) : Prop := p = none ∨ ∃ b, p = some ⟨b, 0, none⟩ ∧ Blk w b #[.bool false, .slice none 0 0]

theorem Dead.keep {w w' : World} {p : Option Addr} (h : Dead w p) (k : Kept No w w') : Dead w' p := by
  rcases h with h | ⟨b, h, hb⟩
  · exact .inl h
  · exact .inr ⟨b, h, hb.keep k (fun e => e)⟩

theorem dead_read {w : World} {p : Option Addr} (h : Dead w p) {x y : Int} {Q : Value → World → Prop} (hq : Q (.tuple #[.slice none 0 0, .int .i64 2]) w) : CallR Try.prog 19 [.pointer p, .int .i64 x, .int .i64 y] w Q := by
  refine C19 ?_
  unfold L19
  rcases h with rfl | ⟨b, rfl, hb⟩
  · exact condT rfl hq
  · exact condF rfl (nnI ⟨false, hb.at0 rfl, condT rfl hq⟩)
theorem dead_write {w : World} {p : Option Addr} (h : Dead w p) {x : Int} {a : Option Addr} {l c : Nat} {Q : Value → World → Prop} (hq : Q (.int .i64 2) w) : CallR Try.prog 17 [.pointer p, .int .i64 x, .slice a l c] w Q := by
  refine C17 ?_
  unfold L17
  rcases h with rfl | ⟨b, rfl, hb⟩
  · exact condT rfl hq
  · exact condF rfl (nnI ⟨false, hb.at0 rfl, condT rfl hq⟩)
theorem dead_trunc {w : World} {p : Option Addr} (h : Dead w p) {x : Int} {Q : Value → World → Prop} (hq : Q (.int .i64 2) w) : CallR Try.prog 49 [.pointer p, .int .i64 x] w Q := by
  refine C49 ?_
  unfold L49
  rcases h with rfl | ⟨b, rfl, hb⟩
  · exact condT rfl hq
  · exact condF rfl (nnI ⟨false, hb.at0 rfl, condT rfl hq⟩)
theorem dead_size {w : World} {p : Option Addr} (h : Dead w p) {Q : Value → World → Prop} (hq : Q (.int .i64 0) w) : CallR Try.prog 18 [.pointer p] w Q := by
  refine C18 ?_
  unfold L18
  rcases h with rfl | ⟨b, rfl, hb⟩
  · exact condT rfl hq
  · exact condF rfl (nnI ⟨none, 0, 0, hb.at rfl, hq⟩)
theorem dead_copy {w : World} {p : Option Addr} (h : Dead w p) {Q : Value → World → Prop} (hq : Q (.pointer none) w) : CallR Try.prog 51 [.pointer p] w Q := by
  refine C51 ?_
  unfold L51
  rcases h with rfl | ⟨b, rfl, hb⟩
  · exact condT rfl hq
  · exact condF rfl (nnI ⟨false, hb.at0 rfl, condT rfl hq⟩)
theorem dead_bytes {w : World} {p : Option Addr} (h : Dead w p) : CallR Try.prog 52 [.pointer p] w fun v w' => ∃ a c, v = .slice a 0 c ∧ Kept No w w' := by
  refine C52 ?_
  unfold L52
  rcases h with rfl | ⟨b, rfl, hb⟩
  · exact condT rfl ⟨none, 0, rfl, Kept.refl _ _⟩
  · exact condF rfl (nnI ⟨none, 0, 0, hb.at rfl, (clone_ok (RdB.nil w) (by omega)).mono fun v w4 ⟨a', c', hv, ho4, hk, hf, _⟩ => ⟨_, _, _, hv, _, _, rfl, hk⟩⟩)

theorem nothing_ok {w : World} {p : Option Addr} (h : Dead w p) : CallR Try.prog 53 [.pointer p] w fun v w' => v = .bool true ∧ Kept No w w' := by
  refine C53 ?_
  unfold L53
  refine dead_read h ⟨_, _, _, _, rfl, num_to ⟨_, rfl, condT rfl (dead_write h ⟨_, rfl, num_to ⟨_, rfl, condT rfl (dead_trunc h ⟨_, rfl, num_to ⟨_, rfl, condT rfl (dead_size h ⟨_, rfl, condT rfl ?_⟩)⟩⟩)⟩⟩)⟩⟩
  exact (dead_bytes h).mono fun v w1 ⟨a, c, hv, hk⟩ => ⟨_, _, _, hv, condT rfl (dead_copy (h.keep hk) ⟨_, rfl, rfl, hk⟩)⟩

theorem walk_fileOwn {W : World} {args : List Value} (h : V13 W args) : CallR Try.prog 13 args W fun v w' => v = .bool true ∧ Kept No W w' := by
  obtain ⟨a, l, c, bs, hrd, _, hl, x0, _, x1, hx1, x2, _, a5, l5, c5, ds, hds, _, hl5, rfl⟩ := h
  have hrd : RdB W a l c bs := hrd
  have hds : RdB W a5 l5 c5 ds := hds
  have hlen := hrd.len
  have hdl := hds.len
  subst hdl
  refine C13 ?_
  unfold L13
  intro w1
  have hb1 : Blk w1 W.heap.size #[.int .i64 x0, .int .i64 x1, .int .i64 x2, .slice a5 ds.length c5] := Blk.alloc _ _ _
  have hk1 : Kept No W w1 := Kept.alloc _ _ _
  clear_value w1
  refine alive_ok.mono fun v w2 ⟨hv, hk2⟩ => ⟨_, hv, condF rfl ?_⟩
  refine (nothing_ok (.inl rfl)).mono fun v w3 ⟨hv, hk3⟩ => ⟨_, hv, condF rfl ?_⟩
  intro w4
  have hb4 : Blk w4 w3.heap.size #[.bool false, .slice none 0 0] := Blk.alloc _ _ _
  have hk4 : Kept No w3 w4 := Kept.alloc _ _ _
  clear_value w4
  refine (nothing_ok (.inr ⟨_, rfl, hb4⟩)).mono fun v w5 ⟨hv, hk5⟩ => ⟨_, hv, condF rfl ?_⟩
  have h15 : Kept No w1 w5 := ((hk2.no hk3).no hk4).no hk5
  have h05 : Kept No W w5 := hk1.no h15
  refine (copyb_ok (hrd.keep h05 (fun _ _ _ e => e)) (by omega)).mono fun v w6 ⟨a6, c6, hv6, ho6, hk6, hf6⟩ => ⟨_, _, _, hv6, ?_⟩
  have h16 := h15.no hk6
  refine (new_ok ho6.rd (by omega)).mono fun v w7 h7 => ?_
  rcases h7 with ⟨hbig, rfl, hw7⟩ | ⟨hsm, b, F, rfl, hf7, hk7, hF7⟩
  · rw [hw7]
    exact ⟨_, _, rfl, num_to ⟨_, rfl, condT rfl ⟨rfl, h05.no hk6⟩⟩⟩
  have h17 := h16.no hk7
  have h07 := hk1.no h17
  have hbig1 := hb1.lt
  refine ⟨_, _, rfl, num_to ⟨_, rfl, condF rfl (condF rfl ?_)⟩⟩
  -- own is spoilt
  refine (spoil_ok (ho6.keep hk7 (fun _ _ e => e)) (by omega)).mono fun v w9 ⟨hv9, ho9, hk9⟩ => ⟨hv9, ?_⟩
  have hown : ∀ x, inA a6 x → w5.heap.size ≤ x := hf6
  have hlt6 := SlO.lt ho6
  have hf9 : FileO F w9 b bs := hf7.keep hk9 (fun k h1 h2 => by have := hlt6 k h2; have := hF7 k h1; omega)
  have h19 : Kept No w1 w9 := h17.fresh hk9 (fun x hx => Nat.le_trans h15.size (hown x hx))
  -- what was read is spoilt
  refine (readAt_ok hf9 0 l).mono fun v w10 ⟨a10, c10, cs, e10, hv10, ho10, hf10, hk10, hy10, _⟩ => ⟨_, _, _, _, hv10, ?_⟩
  obtain ⟨_, hcs⟩ := hy10 (by decide) (by simp [okN]; omega)
  have hcl : cs.length ≤ 1048576 := by rw [hcs]; simp [piece]; omega
  refine (spoil_ok ho10 (by omega)).mono fun v w11 ⟨hv11, ho11, hk11⟩ => ⟨hv11, ?_⟩
  have hf11 : FileO F w11 b bs := (hf9.keep hk10 (fun _ _ e => e)).keep hk11 (fun k h1 h2 => by have := hf10 k h2; have := hf9.lt k h1; omega)
  have h111 : Kept No w1 w11 := (h19.no hk10).fresh hk11 (fun x hx => Nat.le_trans h19.size (hf10 x hx))
  -- the bytes are spoilt
  refine (bytes_ok hf11).mono fun v w12 ⟨a12, c12, hv12, ho12, hf12, hk12⟩ => ⟨_, _, _, hv12, ?_⟩
  refine (spoil_ok ho12 (by omega)).mono fun v w13 ⟨hv13, ho13, hk13⟩ => ⟨hv13, ?_⟩
  have hf13 : FileO F w13 b bs := (hf11.keep hk12 (fun _ _ e => e)).keep hk13 (fun k h1 h2 => by have := hf12 k h2; have := hf11.lt k h1; omega)
  have h113 : Kept No w1 w13 := (h111.no hk12).fresh hk13 (fun x hx => Nat.le_trans h111.size (hf12 x hx))
  refine (bytes_ok hf13).mono fun v w14 ⟨a14, c14, hv14, ho14, hf14, hk14⟩ => ⟨_, _, _, hv14, ?_⟩
  have h014 := hk1.no (h113.no hk14)
  refine (same_ok ho14.rd (hrd.keep h014 (fun _ _ _ e => e)) (by omega)).mono fun v w15 ⟨hv15, hk15, _⟩ => ⟨_, hv15, condF (by simp) ?_⟩
  have h115 := (h113.no hk14).no hk15
  have hf15 := (hf13.keep hk14 (fun _ _ e => e)).keep hk15 (fun _ _ e => e)
  have hb15 := hb1.keep h115 (fun e => e)
  -- the write
  refine ⟨_, _, _, (hb15.cell 3).trans rfl, (copyb_ok (hds.keep (hk1.no h115) (fun _ _ _ e => e)) (by omega)).mono fun v w16 ⟨a16, c16, hv16, ho16, hk16, hf16⟩ => ⟨_, _, _, hv16, ?_⟩⟩
  have hb16 := hb15.keep hk16 (fun e => e)
  have hlt16 := SlO.lt ho16
  refine ⟨_, (hb16.cell 1).trans rfl, (writeAt_ok (hf15.keep hk16 (fun _ _ e => e)) x1 ho16.rd (by omega) (fun _ k h1 h2 => by have := hf16 k h1; have := hf15.lt k h2; omega)).mono fun v w17 ⟨hv17, F17, hf17, hg17, hk17⟩ => ⟨_, hv17, ?_⟩⟩
  have hFw1 : ∀ k, F k → w1.heap.size ≤ k := fun k hk => Nat.le_trans h16.size (hF7 k hk)
  have h116 := h115.no hk16
  have h117 : Kept No w1 w17 := h116.fresh hk17 hFw1
  have hF17 : ∀ k, F17 k → w1.heap.size ≤ k := fun k hk => by
    rcases hg17 k hk with h | h
    · exact hFw1 k h
    · exact Nat.le_trans h116.size h
  have hap16 : ∀ k, inA a16 k → ¬ F17 k := fun k h1 h2 => by
    rcases hg17 k h2 with h | h
    · have := hf16 k h1; have := hf15.lt k h; omega
    · have := hlt16 k h1; omega
  have ho17 := ho16.keep hk17 (fun k h1 h2 => by have := hf16 k h1; have := hf15.lt k h2; omega)
  generalize hcur : (writeF bs x1 ds).2 = cur at hf17
  have hcurl := hf17.len
  refine (bytes_ok hf17).mono fun v w18 ⟨a18, c18, hv18, ho18, hf18, hk18⟩ => ⟨_, _, _, hv18, ?_⟩
  refine (spoil_ok (ho17.keep hk18 (fun _ _ e => e)) (by omega)).mono fun v w19 ⟨hv19, ho19, hk19⟩ => ⟨hv19, ?_⟩
  have hlt17 := SlO.lt ho17
  have hf19 : FileO F17 w19 b cur := (hf17.keep hk18 (fun _ _ e => e)).keep hk19 (fun k h1 h2 => hap16 k h2 h1)
  have hwas : OB w19 a18 cur.length c18 cur := ho18.keep hk19 (fun k h1 h2 => by have := hf18 k h1; have := hlt17 k h2; omega)
  have h119 : Kept No w1 w19 := (h117.no hk18).fresh hk19 (fun x hx => Nat.le_trans h115.size (hf16 x hx))
  have hlt18 := SlO.lt ho18
  have hnew18 : ∀ k, inA a18 k → ¬ F17 k := fun k h1 h2 => by have := hf18 k h1; have := hf17.lt k h2; omega
  -- refused calls
  refine (trunc_ok hf19 (-1)).mono fun v w20 ⟨hv20, F20, hf20, hg20, hk20⟩ => ⟨_, hv20, ?_⟩
  have e20 : truncF cur (-1) = (4, cur) := by unfold truncF; rw [if_pos (by decide)]
  rw [e20] at hf20
  have hwas20 := hwas.keep hk20 hnew18
  have h120 : Kept No w1 w20 := h119.fresh hk20 hF17
  have hF20 : ∀ k, F20 k → w1.heap.size ≤ k := fun k hk => by
    rcases hg20 k hk with h | h
    · exact hF17 k h
    · exact Nat.le_trans h119.size h
  have hlt19 := SlO.lt hwas
  have hnew20 : ∀ k, inA a18 k → ¬ F20 k := fun k h1 h2 => by
    rcases hg20 k h2 with h | h
    · exact hnew18 k h1 h
    · have := hlt19 k h1; omega
  intro w21
  have hrd21 : RdB w21 (some ⟨w20.heap.size, 0, none⟩) 1 1 [1] := rd_alloc w20 [1] _
  have hk21 : Kept No w20 w21 := Kept.alloc _ _ _
  clear_value w21
  have hf21 := hf20.keep hk21 (fun _ _ e => e)
  refine (writeAt_ok hf21 (-1) hrd21 (by omega) (fun _ k h1 h2 => by rw [inA_some] at h1; have := hf20.lt k h2; omega)).mono fun v w22 ⟨hv22, F22, hf22, hg22, hk22⟩ => ⟨_, hv22, ?_⟩
  have e22 : writeF cur (-1) [1] = (4, cur) := by unfold writeF; rw [if_pos (by decide)]
  rw [e22] at hf22
  rw [e20, e22]
  have hwas22 := (hwas20.keep hk21 (fun _ _ e => e)).keep hk22 hnew20
  have h122 : Kept No w1 w22 := (h120.no hk21).fresh hk22 hF20
  refine num_to ⟨_, rfl, condT rfl (num_to ⟨_, rfl, condT rfl ?_⟩)⟩
  refine (bytes_ok hf22).mono fun v w25 ⟨a25, c25, hv25, ho25, hf25, hk25⟩ => ⟨_, _, _, hv25, ?_⟩
  have hwas25 := hwas22.keep hk25 (fun _ _ e => e)
  refine (same_ok ho25.rd hwas25.rd (by show cur.length ≤ _; omega)).mono fun v w26 ⟨hv26, hk26, _⟩ => ⟨_, hv26, condT (by simp) (num_to ⟨_, rfl, ?_⟩)⟩
  have h026 := hk1.no ((h122.no hk25).no hk26)
  refine condI (fun h0 => ⟨rfl, h026⟩) (fun hne => ?_)
  have hcb : cur = bs := by
    rw [← hcur]
    unfold writeF at hne ⊢
    by_cases h1 : okN x1 = false
    · rw [if_pos h1]
    · rw [if_neg h1] at hne ⊢
      by_cases h2 : 1048576 - x1 < (ds.length : Int)
      · rw [if_pos h2]
      · rw [if_neg h2] at hne ⊢
        by_cases h3 : ds.length = 0
        · rw [if_pos h3]
        · rw [if_neg h3] at hne; simp at hne
  refine (same_ok (hwas25.keep hk26 (fun _ _ e => e)).rd (hrd.keep h026 (fun _ _ _ e => e)) (by omega)).mono fun v w28 ⟨hv28, hk28, _⟩ => ⟨_, hv28, by simp [hcb], h026.no hk28⟩

end Go.Proofs.Ytapnpbfbebdjjaa
