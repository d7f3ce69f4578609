/-
  A pipe's two ends through a kernel, as values; the example of the top's law. Conditions: as each says.
-/
import Derived.Test.YtbiofmgebbdflaaKeT
import Derived.Test.YtbiofmgebbdflaaKeN
import Derived.Test.YtbiofmgebbdflaaLTp
set_option linter.unusedVariables false
namespace Go.Proofs.Ytbiofmgebbdflaa
open Go.Lw

theorem pnum_toT {w : World} {n : Int} {Q : Value → World → Prop} (h : Q (.int .i64 n) w) : CallR Try.prog 17 [.int .i64 n] w Q := C17 h
theorem str_isT {s : ByteArray} {bs : List Int} (h : strOfNums bs = s) : (ByteArray.toList (strOfNums bs) == ByteArray.toList s) = true := by rw [h]; exact beq_self_eq_true _

namespace AK

/-- A pipe's ends: 1 reads, 2 writes. -/
structure PD (s : AK) (bs : List Int) : Prop where
  d1 : s.desc 1 = some ⟨1, 0, 1, 0, 1⟩
  d2 : s.desc 2 = some ⟨2, 0, 2, 0, 1⟩
  ob : s.objs 0 = .pipe bs 1 1

theorem pd_new (ps : List (Int × Int)) : (new [] [] ps).pipe.1 = 1 ∧ (new [] [] ps).pipe.2.1 = 2 ∧ (new [] [] ps).pipe.2.2.1 = 0 ∧ PD (new [] [] ps).pipe.2.2.2 [] ∧ (new [] [] ps).pipe.2.2.2.c0 = 0 ∧ (new [] [] ps).pipe.2.2.2.c1 = 0 :=
  ⟨by kernel_rfl, by kernel_rfl, by kernel_rfl, ⟨by kernel_rfl, by kernel_rfl, by kernel_rfl⟩, by kernel_rfl, by kernel_rfl⟩

theorem pd_set {s : AK} {bs bs' : List Int} (h : PD s bs) : PD (s.setO 0 (.pipe bs' 1 1)) bs' := ⟨h.d1, h.d2, objs_setO_same _ _ _⟩

theorem pd_read {s : AK} {bs : List Int} (h : PD s bs) (hps : ∀ p ∈ s.ps, mayP p) (n : Int) : ∃ k, (s.read 1 n).1 = bs.take k ∧ PD (s.read 1 n).2.2 (bs.drop k) := by
  rcases read_cases s 1 n with ⟨e, he, hr⟩ | ⟨hr, _⟩ | ⟨x, hx, _, hw, h1, h2, ⟨_, hr⟩ | ⟨hm, hr⟩⟩
  · rw [hr]; exact ⟨0, rfl, by simpa using h⟩
  · rw [hr]; exact ⟨0, rfl, by simpa using h⟩
  · rw [hr]; exact ⟨0, rfl, ⟨h.d1, h.d2, h.ob⟩⟩
  · rw [hr]
    have hxe : x = ⟨1, 0, 1, 0, 1⟩ := by rw [h.d1] at hx; exact (Option.some.inj hx).symm
    subst hxe
    have hm1 : 1 ≤ (metF s.ps n).1 ∧ (metF s.ps n).1 ≤ n := by
      rcases metF_ok hps h1 with ⟨_, a, b⟩ | ⟨_, a, _⟩
      · exact ⟨a, b⟩
      · omega
    have hne : ¬ (bs = [] ∧ 1 > 0) := fun e => by
      unfold waits at hw
      rw [show s.objs 0 = .pipe bs 1 1 from h.ob, e.1] at hw
      simp [canRP] at hw
    have ho : s.met0.objs 0 = .pipe bs 1 1 := h.ob
    have hrd : readP (metF s.ps n).1 bs 1 1 = (bs.take (metF s.ps n).1.toNat, 0, bs.drop (metF s.ps n).1.toNat) := by
      unfold readP
      rw [if_neg (by omega), if_neg (by omega), if_neg hne]
    refine ⟨(metF s.ps n).1.toNat, ?_, ?_⟩
    · unfold rdO
      dsimp only
      rw [ho]
      dsimp only
      rw [hrd]
    · unfold rdO
      dsimp only
      rw [ho]
      dsimp only
      rw [hrd]
      exact pd_set (s := s.met0) ⟨h.d1, h.d2, h.ob⟩

theorem pd_write {s : AK} {bs : List Int} (h : PD s bs) (hps : ∀ p ∈ s.ps, mayP p) {ds : List Int} (hl : ds.length ≤ 512) :
    ((s.write 2 ds).2.1 = 0 ∧ (s.write 2 ds).1 = (ds.length : Int) ∧ PD (s.write 2 ds).2.2 (bs ++ ds) ∨ (s.write 2 ds).2.1 ≠ 0 ∧ (s.write 2 ds).1 = 0 ∧ PD (s.write 2 ds).2.2 bs) ∧ (s.write 2 ds).2.2.c0 = s.c0 ∧ (s.write 2 ds).2.2.c1 ≤ s.c1 + 1 := by
  unfold write
  rw [if_neg (fun e => e (find_of h.d2 (by decide))), if_neg (by omega)]
  by_cases h0 : ds.length = 0
  · rw [if_pos h0]
    have : ds = [] := List.eq_nil_of_length_eq_zero h0
    subst this
    exact ⟨.inl ⟨rfl, rfl, by simpa using h⟩, rfl, by dsimp only; omega⟩
  rw [if_neg h0, h.d2]
  dsimp only
  have hro : s.roomO ⟨2, 0, 2, 0, 1⟩ ds.length = roomC ds.length bs 1 1 := by unfold roomO; rw [show s.objs 0 = .pipe bs 1 1 from h.ob]
  rw [hro]
  by_cases hc : canWP ds.length bs 1 1 = false
  · have : roomC ds.length bs 1 1 = (0, 52) := by unfold roomC; rw [if_neg (by omega), if_pos hc]
    rw [this, if_pos (by decide)]
    exact ⟨.inr ⟨by simp, rfl, h⟩, rfl, by dsimp only; omega⟩
  have hrc : roomC ds.length bs 1 1 = ((ds.length : Int), 0) := by unfold roomC; rw [if_neg (by omega), if_neg hc]
  rw [hrc, if_neg (by simp)]
  by_cases he : (metF s.ps ds.length).2 ≠ 0
  · rw [if_pos he]
    exact ⟨.inr ⟨he, rfl, ⟨h.d1, h.d2, h.ob⟩⟩, rfl, by show s.c1 + 1 ≤ s.c1 + 1; omega⟩
  rw [if_neg he]
  have hm1 : 1 ≤ (metF s.ps ds.length).1 ∧ (metF s.ps ds.length).1 ≤ ds.length := by
    rcases metF_ok hps (n := (ds.length : Int)) (by omega) with ⟨_, a, b⟩ | ⟨_, a, _⟩
    · exact ⟨a, b⟩
    · omega
  have hmin : min (metF s.ps ds.length).1 (ds.length : Int) = (metF s.ps ds.length).1 := by omega
  dsimp only
  rw [hmin]
  have ht : takesP bs.length ds.length = ds.length := by
    have hc : canWP ds.length bs 1 1 = true := by cases hcc : canWP ds.length bs 1 1 with | true => rfl | false => exact absurd hcc hc
    unfold canWP at hc
    simp only [decide_eq_true_eq] at hc
    unfold takesP at hc ⊢
    by_cases h4 : (ds.length : Int) ≤ 512 ∧ 4096 - (bs.length : Int) < ds.length
    · rw [if_pos h4] at hc; omega
    · rw [if_neg h4]; omega
  have hwk : wtk ds.length (metF s.ps ds.length).1 bs.length = ds.length := by
    unfold wtk
    rw [if_neg (by omega), ht]
  have hwp : writeP ds (metF s.ps ds.length).1 bs 1 1 = ((ds.length : Int), 0, bs ++ ds) := by
    unfold writeP
    rw [if_neg (by omega), if_neg (by omega), if_neg (by omega), if_neg (by omega), if_neg (fun e => h0 (by rw [e]; rfl)), if_neg (by rw [ht]; omega), hwk, Int.toNat_natCast, List.take_length]
  have ho : s.met1.objs 0 = .pipe bs 1 1 := h.ob
  unfold wrO
  dsimp only
  rw [ho]
  dsimp only
  rw [hwp]
  exact ⟨.inl ⟨rfl, rfl, pd_set (s := s.met1) ⟨h.d1, h.d2, h.ob⟩⟩, rfl, by show s.c1 + 1 ≤ s.c1 + 1; omega⟩

end AK

def kT : AK := (AK.new [] [] []).pipe.2.2.2
def kT2 : AK := (kT.write 2 [97, 98]).2.2

theorem piped_ok {w : World} : CallR Try.prog 15 [] w fun v w' => v = .bool true ∧ Kept No w w' := by
  refine C15 ?_
  unfold L15
  have hf : RdN RB w none 0 0 ([] : List (ByteArray × List Int)) [] := ⟨RdS.nil 2 w, rfl, fun i h1 h2 => by simp at h1⟩
  have ht : RdN RL w none 0 0 ([] : List (ByteArray × List (List Int))) [] := ⟨RdS.nil 2 w, rfl, fun i h1 h2 => by simp at h1⟩
  refine CallR.mono (kernNew_ok hf ht (ps := []) (RdS.nil 2 w) (by omega) (by omega)) ?_
  rintro v w1 ⟨hk1, ⟨hne, _⟩ | ⟨_, gk, L1, rfl, h1, hL⟩⟩
  · exact absurd (by kernel_rfl : checkK [] [] [] = 0) hne
  refine ⟨_, _, rfl, pnum_toT ⟨_, rfl, condFa2 (condFa2 ?_)⟩⟩
  refine CallR.mono (kernPipe_ok h1 (by rw [(AK.new_is _ _ _).2.2.2.1]; omega)) ?_
  rintro v w3 ⟨rfl, L3, h3, st3⟩
  have h3 : KernO w3 gk kT L3 := h3
  rw [show (AK.new [] [] []).pipe.1 = 1 by kernel_rfl, show (AK.new [] [] []).pipe.2.1 = 2 by kernel_rfl, show (AK.new [] [] []).pipe.2.2.1 = 0 by kernel_rfl]
  refine ⟨_, _, _, rfl, ?_⟩
  intro w4
  obtain ⟨w5, hrun, hrd, hk5, hs5⟩ := run_const (P := Try.prog) w3 (t := 36) (e := 5) (by kernel_rfl) [97, 98]
  refine ⟨_, _, _, w5, hrun, ?_⟩
  have h5 := h3.no hk5
  have c1 : kT.c1 = 0 := by kernel_rfl
  refine CallR.mono (kernWrite_ok h5 2 hrd (fun _ k hk => by rw [inA_some] at hk; subst hk; exact h3.new_none (Nat.le_refl _)) (by rw [c1]; omega)) ?_
  rintro v w6 ⟨rfl, L6, h6, st6⟩
  have h6 : KernO w6 gk kT2 L6 := h6
  rw [show (kT.write 2 [97, 98]).1 = 2 by kernel_rfl, show (kT.write 2 [97, 98]).2.1 = 0 by kernel_rfl]
  have c0 : kT2.c0 = 0 := by kernel_rfl
  refine ⟨_, _, rfl, CallR.mono (kernRead_ok h6 1 9 (by omega)) ?_⟩
  rintro v w7 ⟨a, l, c, L7, rfl, ob, hf7, h7, st7, _⟩
  rw [show (kT2.read 1 9).2.1 = 0 by kernel_rfl]
  rw [show (kT2.read 1 9).1 = [97, 98] by kernel_rfl] at ob
  have st : KStep w1 w7 L1 L7 := ((st3.no hk5).trans st6).trans st7
  refine ⟨_, _, _, _, rfl, pnum_toT ⟨_, rfl, pnum_toT ⟨_, rfl, ⟨by omega, by omega⟩, pnum_toT ⟨_, rfl, ⟨by omega, by omega⟩, condTr2 (condTr2 ⟨_, w7, run_str w7 (t := 36) (ts := 9) (by kernel_rfl) (by kernel_rfl) ob.rd, ?_, ?_⟩)⟩⟩⟩⟩
  · rw [str_isT (by kernel_rfl)]
  · exact hk1.trans st.kept fun x hx e => by have := hL x e; omega

end Go.Proofs.Ytbiofmgebbdflaa
