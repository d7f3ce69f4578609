/-
  Faults: what the program's functions on them do. Conditions: as each says.
-/
import Derived.Test.YtpoaacnnhgebfaaGreatBas
import Derived.Test.YtpoaacnnhgebfaaGreatLFa
set_option linter.unusedVariables false
namespace Go.Proofs.YtpoaacnnhgebfaaGreat
open Go.Lw

def Fv (fs : List (Int × Int)) : List Value := fs.flatMap fun f => [.int .i64 f.1, .int .i64 f.2]

theorem Fv_len : ∀ fs : List (Int × Int), (Fv fs).length = fs.length * 2
  | [] => rfl
  | f :: r => by
    have := Fv_len r
    show (_ :: _ :: Fv r).length = _
    simp only [List.length_cons, this]
    omega

theorem Fv_at : ∀ {fs : List (Int × Int)} {i : Nat} (h : i < fs.length), (Fv fs)[i * 2]? = some (.int .i64 fs[i].1) ∧ (Fv fs)[i * 2 + 1]? = some (.int .i64 fs[i].2)
  | [], i, h => by simp at h
  | f :: r, 0, h => ⟨rfl, rfl⟩
  | f :: r, i + 1, h => by
    have := Fv_at (fs := r) (i := i) (by simpa using h)
    rw [show (i + 1) * 2 = i * 2 + 2 by omega]
    exact this

theorem Fv_one (fs : List (Int × Int)) : ∀ u ∈ Fv fs, u.oneCell' = true := by
  intro u hu
  simp only [Fv, List.mem_flatMap, List.mem_cons, List.not_mem_nil, or_false] at hu
  obtain ⟨f, _, h | h⟩ := hu
  · subst h; rfl
  · subst h; rfl

theorem Fv_drop : ∀ (fs : List (Int × Int)) (n : Nat), Fv (fs.drop n) = (Fv fs).drop (n * 2)
  | [], n => by simp [Fv]
  | f :: r, 0 => rfl
  | f :: r, n + 1 => by
    have := Fv_drop r n
    show Fv (r.drop n) = _
    rw [this, show (n + 1) * 2 = n * 2 + 2 by omega]
    rfl

def mayP (f : Int × Int) : Prop := (f.1 = 1 ∧ 1 ≤ f.2 ∧ f.2 ≤ 1048576) ∨ ((f.1 = 0 ∨ f.1 = 2 ∨ f.1 = 3) ∧ f.2 = 0)

instance (f : Int × Int) : Decidable (mayP f) := by unfold mayP; infer_instance

theorem may_ok {w : World} (f : Int × Int) : CallR Tryz.prog 164 [.agg #[.int .i64 f.1, .int .i64 f.2]] w fun v w' => v = .bool (decide (mayP f)) ∧ Kept No w w' := by
  refine C164 ?_
  unfold L164
  intro w1
  have hb : Blk w1 w.heap.size #[.int .i64 f.1, .int .i64 f.2] := Blk.alloc _ _ _
  have hk : Kept No w w1 := Kept.alloc _ _ _
  clear_value w1
  have c0 : ∀ {b : Bool}, (b = decide (mayP f)) → (Value.bool b = .bool (decide (mayP f)) ∧ Kept No w w1) := fun h => ⟨by rw [h], hk⟩
  refine ⟨_, (hb.cell 0).trans rfl, condI (fun h1 => ⟨_, (hb.cell 1).trans rfl, condP (fun h2 => ⟨_, (hb.cell 1).trans rfl, c0 ?_⟩) (fun h2 => c0 ?_)⟩) (fun h1 => condI (fun h2 => condI (fun h3 => ⟨_, (hb.cell 1).trans rfl, c0 ?_⟩) (fun h3 => c0 ?_)) (fun h2 => condI (fun h3 => condI (fun h4 => ⟨_, (hb.cell 1).trans rfl, c0 ?_⟩) (fun h4 => c0 ?_)) (fun h3 => condI (fun h4 => ⟨_, (hb.cell 1).trans rfl, c0 ?_⟩) (fun h4 => c0 ?_))))⟩
  · have h1 : f.1 = 1 := by simpa using h1
    rw [decide_eq_decide]; unfold mayP; omega
  · have h1 : f.1 = 1 := by simpa using h1
    symm; rw [decide_eq_false_iff_not]; unfold mayP; omega
  · have h1 : f.1 = 0 := by simpa using h2
    rw [show (f.2 == 0) = decide (f.2 = 0) from rfl, decide_eq_decide]; unfold mayP; omega
  · rw [h2] at h3; cases h3
  · have h1 : f.1 = 2 := by simpa using h3
    rw [show (f.2 == 0) = decide (f.2 = 0) from rfl, decide_eq_decide]; unfold mayP; omega
  · rw [h3] at h4; cases h4
  · have h1 : f.1 = 3 := by simpa using h4
    rw [show (f.2 == 0) = decide (f.2 = 0) from rfl, decide_eq_decide]; unfold mayP; omega
  · have h1 : f.1 ≠ 1 := by simpa using h1
    have h2 : f.1 ≠ 0 := by simpa using h2
    have h3 : f.1 ≠ 2 := by simpa using h3
    have h4 : f.1 ≠ 3 := by simpa using h4
    symm; rw [decide_eq_false_iff_not]; unfold mayP; omega

theorem may1_ok {w : World} (f : Int × Int) : CallR Tryz.prog 163 [.agg #[.int .i64 f.1, .int .i64 f.2]] w fun v w' => v = .bool (!decide (mayP f)) ∧ Kept No w w' := by
  refine C163 ?_
  unfold L163
  intro w1
  have hb : Blk w1 w.heap.size #[.int .i64 f.1, .int .i64 f.2] := Blk.alloc _ _ _
  have hk : Kept No w w1 := Kept.alloc _ _ _
  clear_value w1
  refine ⟨_, _, (hb.cell 0).trans rfl, (hb.cell 1).trans rfl, CallR.mono (may_ok f) ?_⟩
  rintro v w2 ⟨rfl, hk2⟩
  exact ⟨_, rfl, rfl, hk.no hk2⟩

/-- The first that may not be. -/
def badF (fs : List (Int × Int)) : Option Nat := fs.findIdx? fun f => !decide (mayP f)

def ixF (fs : List (Int × Int)) : Int := match badF fs with | some i => i | none => -1

theorem ixF_at {fs : List (Int × Int)} {i : Nat} (h : i < fs.length) (hb : ¬ mayP fs[i]) (hall : ∀ j, (hj : j < i) → mayP (fs[j]'(by omega))) : ixF fs = i := by
  have : badF fs = some i := by
    unfold badF
    rw [List.findIdx?_eq_some_iff_getElem]
    exact ⟨h, by simp [hb], fun j hj => by simp [hall j hj]⟩
  unfold ixF
  rw [this]

theorem ixF_none {fs : List (Int × Int)} (hall : ∀ j, (hj : j < fs.length) → mayP fs[j]) : ixF fs = -1 ∧ badF fs = none := by
  have : badF fs = none := by
    unfold badF
    rw [List.findIdx?_eq_none_iff]
    intro f hf
    obtain ⟨j, hj, rfl⟩ := List.mem_iff_getElem.1 hf
    simp [hall j hj]
  unfold ixF
  rw [this]
  exact ⟨rfl, rfl⟩

theorem ix_ok {w : World} {a : Option Addr} {l c : Nat} {fs : List (Int × Int)} (h : RdS 2 w a l c (Fv fs)) (hl : l ≤ 4096) :
    CallR Tryz.prog 162 [.slice a l c, .func (.func 163) #[] #[]] w fun v w' => v = .int .i64 (ixF fs) ∧ Kept No w w' := by
  refine C162 ?_
  unfold L162
  have hlen : fs.length = l := by have := h.1; rw [Fv_len] at this; omega
  refine ⟨fun vs w' => ∃ n : Nat, vs = [.int .i64 (n : Int)] ∧ n ≤ l ∧ Kept No w w' ∧ (∀ j, (hj : j < n) → (hl : j < fs.length) → mayP fs[j]), fun vs _ => l - ix vs, ⟨0, rfl, Nat.zero_le _, Kept.refl _ _, fun j hj => by omega⟩, ?_⟩
  intro _ n5 w1 hI
  obtain ⟨n, hvs, hn, hk, hall⟩ := hI
  simp only [List.cons.injEq, Value.int.injEq, true_and, and_true] at hvs
  subst hvs
  refine condP (fun hlt => ?_) (fun hge => ?_)
  · have hn' : n < fs.length := by omega
    obtain ⟨e1, e2⟩ := Fv_at hn'
    have h1 := h.keep hk (fun _ _ _ e => e)
    cases ha : a with
    | none => have := RdS.isNone h ha; omega
    | some q =>
      refine ⟨⟨by omega, by omega⟩, nnI ⟨fs[n].1, fs[n].2, ?_, ?_, 163, #[], #[], rfl, by kernel_rfl, ?_⟩⟩
      · have := h1.2.2.2 q ha _ _ e1
        simpa using this
      · have := h1.2.2.2 q ha _ _ e2
        rw [← Lw.add_add] at this
        simpa using this
      refine CallR.mono (may1_ok fs[n]) ?_
      rintro v w2 ⟨rfl, hk2⟩
      refine ⟨_, rfl, condI (fun hb => ?_) (fun hb => ?_)⟩
      · have hb : ¬ mayP fs[n] := by simpa using hb
        exact ⟨by rw [ixF_at hn' hb (fun j hj => hall j hj (by omega))], hk.no hk2⟩
      · have hb : mayP fs[n] := by simpa using hb
        refine ⟨⟨by omega, by omega⟩, ⟨n + 1, by simp, by omega, hk.no hk2, fun j hj hl => ?_⟩, by simp only [ix]; omega⟩
        by_cases e : j = n
        · subst e; exact hb
        · exact hall j (by omega) hl
  · have hnl : n = l := by omega
    exact ⟨by rw [(ixF_none (fun j hj => hall j (by omega) hj)).1], hk⟩

def ckF (fs : List (Int × Int)) : Int := if 4096 < fs.length then 3 else if badF fs = none then 0 else 21

theorem fcheck_ok {w : World} {a : Option Addr} {l c : Nat} {fs : List (Int × Int)} (h : RdS 2 w a l c (Fv fs)) :
    CallR Tryz.prog 63 [.slice a l c] w fun v w' => (∃ n, v = .tuple #[.int .i64 (ckF fs), .int .i64 n]) ∧ Kept No w w' := by
  refine C63 ?_
  unfold L63
  have hlen : fs.length = l := by have := h.1; rw [Fv_len] at this; omega
  refine condP (fun hlt => ⟨⟨_, by unfold ckF; rw [if_pos (by omega)]⟩, Kept.refl _ _⟩) (fun hge => ?_)
  refine CallR.mono (ix_ok h (by omega)) ?_
  rintro v w1 ⟨rfl, hk⟩
  unfold ckF
  rw [if_neg (by omega)]
  refine ⟨_, rfl, condP (fun h0 => ⟨⟨ixF fs, ?_⟩, hk⟩) (fun h0 => ⟨⟨(l : Int), ?_⟩, hk⟩)⟩
  · unfold ixF at h0
    cases hb : badF fs with
    | none => rw [hb] at h0; simp at h0
    | some i => rw [if_neg (by simp)]
  · unfold ixF at h0
    cases hb : badF fs with
    | none => rw [if_pos rfl]
    | some i => rw [hb] at h0; dsimp only at h0; omega

structure PlO (w : World) (g : Nat) (a : Option Addr) (l c : Nat) (fs : List (Int × Int)) : Prop where
  blk : Blk w g #[.bool true, .slice a l c]
  rd : RdS 2 w a l c (Fv fs)
  ne : ∀ b, inA a b → b ≠ g

theorem PlO.keep {w w' : World} {g : Nat} {a : Option Addr} {l c : Nat} {fs : List (Int × Int)} (h : PlO w g a l c fs) {S : Nat → Prop} (k : Kept S w w') (hg : ¬ S g) (hn : ∀ b, b < w.heap.size → inA a b → ¬ S b) : PlO w' g a l c fs :=
  ⟨h.blk.keep k hg, h.rd.keep k hn, h.ne⟩

theorem fclone_ok {w : World} {a : Option Addr} {l c : Nat} {fs : List (Int × Int)} (h : RdS 2 w a l c (Fv fs)) (hl : l ≤ 4096) :
    CallR Tryz.prog 156 [.slice a l c] w fun v w' => ∃ a' c', v = .slice a' l c' ∧ SlO 2 w' a' l c' (Fv fs) ∧ Kept No w w' ∧ Fresh w a' := by
  refine C156 ?_
  unfold L156
  refine condI (fun hn => ?_) (fun hn => ?_)
  · have ha : a = none := by simpa using hn
    obtain ⟨h1, _, h3⟩ := RdS.isNone h ha
    subst h1 ha
    refine ⟨none, 0, rfl, ?_, Kept.refl _ _, Fresh.none w⟩
    rw [h3]; exact SlO.nil 2 w
  · intro w1
    have hk1 : Kept No w w1 := Kept.alloc _ w _
    have hs0 : SlO 2 w1 (some ⟨w.heap.size, 0, none⟩) 0 0 [] := SlO.of_blk (Blk.alloc w #[] _) (by simp)
    obtain ⟨a', c', w2, hrun, hs, hk, hat, hnn⟩ := run_app_sl (P := Tryz.prog) (t := 24) (t2 := 24) (ty := 24) (by kernel_rfl : slTyB Tryz.prog 24 2 16 = true) (by kernel_rfl) hs0 (h.keep hk1 (fun _ _ _ e => e)) (Fv_one fs) (by omega) (by omega)
    simp only [Nat.zero_add, List.nil_append] at hrun hs
    refine ⟨a', l, c', w2, hrun, a', c', rfl, hs, ?_, ?_⟩
    · exact hk1.trans hk (fun b hb hin => by rw [inA_some] at hin; subst hin; omega)
    · exact hat.fresh (fun b hb => by rw [inA_some] at hb; omega) (by exact hk1.size)

theorem fnew_ok {w : World} {a : Option Addr} {l c : Nat} {fs : List (Int × Int)} (h : RdS 2 w a l c (Fv fs)) :
    CallR Tryz.prog 53 [.slice a l c] w fun v w' => (ckF fs ≠ 0 ∧ v = .tuple #[.pointer none, .int .i64 (ckF fs)] ∨
      ckF fs = 0 ∧ ∃ g a' c', v = .tuple #[.pointer (some ⟨g, 0, none⟩), .int .i64 0] ∧ PlO w' g a' l c' fs ∧ w.heap.size ≤ g ∧ ∀ b, inA a' b → w.heap.size ≤ b ∧ b < w'.heap.size) ∧ Kept No w w' := by
  refine C53 ?_
  unfold L53
  have hlen : fs.length = l := by have := h.1; rw [Fv_len] at this; omega
  refine CallR.mono (fcheck_ok h) ?_
  rintro v w1 ⟨⟨n, rfl⟩, hk1⟩
  refine ⟨_, _, rfl, condI (fun he => ?_) (fun he => ?_)⟩
  · exact ⟨.inl ⟨by simpa using he, rfl⟩, hk1⟩
  · have he : ckF fs = 0 := by simpa using he
    have hl : l ≤ 4096 := by
      unfold ckF at he
      by_cases hx : 4096 < fs.length
      · rw [if_pos hx] at he; omega
      · omega
    refine CallR.mono (fclone_ok (h.keep hk1 fun _ _ _ e => e) hl) ?_
    rintro v w2 ⟨a', c', rfl, hs, hk2, hf⟩
    refine ⟨_, _, _, rfl, ?_⟩
    intro w3
    have hb3 : Blk w3 w2.heap.size #[.bool true, .slice a' l c'] := Blk.alloc _ _ _
    have hk3 : Kept No w2 w3 := Kept.alloc _ _ _
    clear_value w3
    have hlt := hs.lt
    have z1 := hk1.size
    have z2 := hk2.size
    exact ⟨.inr ⟨he, w2.heap.size, a', c', rfl, ⟨hb3, hs.rd.keep hk3 fun _ _ _ e => e, fun b hb e => by have := hlt b hb; omega⟩, by omega, fun b hb => by have := hf b hb; have := hlt b hb; have := hk3.size; omega⟩, (hk1.no hk2).no hk3⟩

/-- What a raw call of n bytes meets: how many, or an error. -/
def metF (fs : List (Int × Int)) (n : Int) : Int × Int := match fs with
  | [] => (n, 0)
  | f :: _ => if f.1 = 1 then (min n f.2, 0) else if f.1 = 2 then (0, 22) else if f.1 = 3 then (0, 23) else (n, 0)

theorem fnext_ok {w : World} {g : Nat} {a : Option Addr} {l c : Nat} {fs : List (Int × Int)} {n : Int} (h : PlO w g a l c fs) (h1 : 1 ≤ n) (h2 : n ≤ 1048576) (hl : l ≤ 4096) :
    CallR Tryz.prog 167 [.pointer (some ⟨g, 0, none⟩), .int .i64 n] w fun v w' => v = .tuple #[.int .i64 (metF fs n).1, .int .i64 (metF fs n).2] ∧ (∃ a' c', (∀ b, inA a' b → inA a b) ∧ PlO w' g a' (l - 1) c' (fs.drop 1)) ∧ Kept (· = g) w w' := by
  refine C167 ?_
  unfold L167
  obtain ⟨hb, hrd, hne⟩ := h
  have hlen : fs.length = l := by have := hrd.1; rw [Fv_len] at this; omega
  refine condF rfl (nnI ⟨_, hb.at0 rfl, condF rfl (condF (by simp; omega) (condF (by simp; omega) ?_))⟩)
  intro w1
  have hf1 : Blk w1 w.heap.size #[.int .i64 0, .int .i64 0] := Blk.alloc _ _ _
  have hk1 : Kept No w w1 := Kept.alloc _ _ _
  clear_value w1
  have hglt := hb.lt
  have hb1 := hb.keep hk1 (fun e => e)
  have hr1 := hrd.keep hk1 (fun _ _ _ e => e)
  have hf1lt := hf1.lt
  refine ⟨fun vs w' => vs = [] ∧ (∃ a' c', (∀ b, inA a' b → inA a b) ∧ PlO w' g a' (l - 1) c' (fs.drop 1)) ∧ Kept (· = g) w w' ∧ Blk w' w.heap.size #[.int .i64 (fs.headD (0, 0)).1, .int .i64 (fs.headD (0, 0)).2], ?_, ?_⟩
  · refine nnI ⟨_, _, _, hb1.at (i := 1) rfl, condP (fun hlt => ?_) (fun hge => ?_)⟩
    · have h0l : 0 < fs.length := by omega
      obtain ⟨e1, e2⟩ := Fv_at h0l
      have hhd : fs.headD (0, 0) = fs[0] := by
        cases fs with
        | nil => simp at h0l
        | cons f r => rfl
      rw [hhd]
      cases ha : a with
      | none => have := RdS.isNone hrd ha; omega
      | some q =>
        rw [ha] at hb1 hr1 hne
        have hcl : l ≤ c := hrd.2.1
        refine ⟨fun wS => Blk wS g #[.bool true, .slice (some q) l c] ∧ RdS 2 wS (some q) l c (Fv fs), ⟨hb1.drew, hr1.drew⟩, nnI ⟨_, _, _, fun wS hS => hS.1.at (i := 1) rfl, ⟨by omega, by omega⟩, nnI ⟨fs[0].1, fs[0].2, fun wS hS => ⟨?_, ?_, trivial⟩, nnI ⟨_, _, _, fun wS hS => hS.1.at (i := 1) rfl, ⟨by omega, by omega⟩, ?_⟩⟩⟩⟩
        · have := hS.2.2.2.2 q rfl _ _ e1
          simpa using this
        · have := hS.2.2.2.2 q rfl _ _ e2
          rw [← Lw.add_add] at this
          simpa using this
        have hb2 : Blk (World.drew w1) g #[.bool true, .slice (some q) l c] := hb1.drew
        have hf2 : Blk (World.drew w1) w.heap.size #[.int .i64 0, .int .i64 0] := hf1.drew
        have hr2 : RdS 2 (World.drew w1) (some q) l c (Fv fs) := hr1.drew
        have hk2 : Kept No w (World.drew w1) := hk1.no (Kept.drew _ _)
        generalize World.drew w1 = w2 at hb2 hf2 hr2 hk2 ⊢
        refine stC_blk hf2 (by simp) fun w3 hf3 hk3 _ => stC_blk hf3 (by simp) fun w4 hf4 hk4 _ => ?_
        have hk34 : Kept (· = w.heap.size) w2 w4 := hk3.trans hk4 fun _ _ e => e
        have hold : ∀ b, b < w.heap.size → inA (some q) b → b < w.heap.size := fun b hb _ => hb
        have hqw : ∀ b, inA (some q) b → b < w.heap.size := RdS.old (ha ▸ hrd) (fun e => by have := Fv_len fs; rw [e] at this; simp at this; omega)
        have hb4 := hb2.keep hk34 (by omega)
        have hr4 := hr2.keep hk34 (fun b _ hb e => by have := hqw b hb; omega)
        refine ⟨⟨hb4, hr4⟩, nnI (stC_at hb4 (i := 1) (by simp) fun w5 hb5 hk5 _ => ?_)⟩
        have hr5 := hr4.keep hk5 (fun b _ hb e => hne b hb e)
        have hk05 : Kept (· = g) w w5 := ((hk2.fresh hk34 (fun x e => by omega)).mono fun _ _ e => e.elim).trans hk5 fun _ _ e => e
        refine ⟨rfl, ⟨adv (some q) 1 c 2, c - 1, fun b hb => inA_adv.1 hb, hb5, ?_, fun b hb => hne b (inA_adv.1 hb)⟩, hk05, ?_⟩
        · have := hr5.from 1 (by omega)
          rw [Fv_drop]
          exact this
        · have := hf4.keep hk5 (by omega)
          simpa using this
    · have hl0 : fs = [] := List.eq_nil_of_length_eq_zero (by omega)
      refine ⟨rfl, ⟨a, c, fun b hb => hb, ?_⟩, hk1.mono (fun _ _ e => e.elim), ?_⟩
      · rw [show l - 1 = l by omega, hl0, ← hl0]
        have : fs.drop 1 = fs := by rw [hl0]; rfl
        rw [this]
        exact ⟨hb1, hr1, hne⟩
      · rw [hl0]; exact hf1
  · rintro _ w6 ⟨_, hp, hk, hf⟩
    have fin : ∀ {x : Int × Int}, x = metF fs n → Value.tuple #[.int .i64 x.1, .int .i64 x.2] = .tuple #[.int .i64 (metF fs n).1, .int .i64 (metF fs n).2] ∧ (∃ a' c', (∀ b, inA a' b → inA a b) ∧ PlO w6 g a' (l - 1) c' (fs.drop 1)) ∧ Kept (· = g) w w6 := fun h => ⟨by rw [h], hp, hk⟩
    refine ⟨_, (hf.cell 0).trans rfl, condI (fun e1 => ⟨_, (hf.cell 1).trans rfl, ?_⟩) (fun e1 => condI (fun e2 => ?_) (fun e2 => condI (fun e3 => ?_) (fun e3 => ?_)))⟩
    · have e1 : (fs.headD (0, 0)).1 = 1 := by simpa using e1
      refine fin (x := (mn n (fs.headD (0, 0)).2, 0)) ?_
      cases fs with
      | nil => simp at e1
      | cons f r =>
        have e1 : f.1 = 1 := e1
        show (mn n f.2, (0 : Int)) = if f.1 = 1 then _ else _
        rw [if_pos e1]
        congr 1
        unfold mn; omega
    · have e2 : (fs.headD (0, 0)).1 = 2 := by simpa using e2
      refine fin (x := (0, 22)) ?_
      cases fs with
      | nil => simp at e2
      | cons f r =>
        have e2 : f.1 = 2 := e2
        show _ = if f.1 = 1 then _ else if f.1 = 2 then _ else _
        rw [if_neg (by omega), if_pos e2]
    · have e3 : (fs.headD (0, 0)).1 = 3 := by simpa using e3
      refine fin (x := (0, 23)) ?_
      cases fs with
      | nil => simp at e3
      | cons f r =>
        have e3 : f.1 = 3 := e3
        show _ = if f.1 = 1 then _ else if f.1 = 2 then _ else if f.1 = 3 then _ else _
        rw [if_neg (by omega), if_neg (by omega), if_pos e3]
    · have e1 : (fs.headD (0, 0)).1 ≠ 1 := by simpa using e1
      have e2 : (fs.headD (0, 0)).1 ≠ 2 := by simpa using e2
      have e3 : (fs.headD (0, 0)).1 ≠ 3 := by simpa using e3
      refine fin (x := (n, 0)) ?_
      cases fs with
      | nil => rfl
      | cons f r =>
        have e1 : f.1 ≠ 1 := e1
        have e2 : f.1 ≠ 2 := e2
        have e3 : f.1 ≠ 3 := e3
        show _ = if f.1 = 1 then _ else if f.1 = 2 then _ else if f.1 = 3 then _ else _
        rw [if_neg e1, if_neg e2, if_neg e3]

end Go.Proofs.YtpoaacnnhgebfaaGreat
