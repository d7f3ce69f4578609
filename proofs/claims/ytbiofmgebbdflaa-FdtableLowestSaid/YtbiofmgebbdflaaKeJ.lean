/-
  A new description; what a kernel says without a change. Conditions: as each says.
-/
import Derived.Test.YtbiofmgebbdflaaKeI
set_option linter.unusedVariables false
namespace Go.Proofs.Ytbiofmgebbdflaa
open Go.Lw

def KL.addD (L : KL) (d : Int) (nb : Nat) : KL :=
  { L with dloc := fun x => if x = d then nb else L.dloc x, own := fun z => if z = nb then some (.desc d) else L.own z }

theorem KernO.new_none {w : World} {gk : Nat} {s : AK} {L : KL} (h : KernO w gk s L) {z : Nat} (hz : w.heap.size ≤ z) : L.own z = none := by
  cases ho : L.own z with
  | none => rfl
  | some x => have := h.lt _ (by rw [ho]; simp); omega

theorem describe_ok {w : World} {gk : Nat} {s : AK} {L : KL} (h : KernO w gk s L) {i : Nat} (hi : i < s.nob) (fl : Int) (hn2 : s.next ≤ 4611686018427387904) (hl : s.descs.length < 256) :
    CallR Try.prog 67 [pd gk, tv (s.objs i).kd (L.loc i), .int .i64 fl] w fun v w' => v = .int .i64 s.next ∧ ∃ L', KernO w' gk (s.newD i fl) L' ∧ KStep w w' L L' ∧ L'.loc = L.loc := by
  refine C67 ?_
  unfold L67
  have hn1 := h.ok.nx
  have hTT : Try.prog.underlying 103 = some (.map 3 125) := by kernel_rfl
  have hI : Try.prog.underlying 3 = some (.int .i64) := by kernel_rfl
  have hgd : gk ≠ L.rd := fun e => by have h1 := h.oK; rw [e, h.oD] at h1; cases h1
  have hnb : L.own w.heap.size = none := h.new_none (Nat.le_refl _)
  refine nnI ⟨_, h.blk.at (i := 4) rfl, nnI ⟨_, h.blk.at (i := 4) rfl, ⟨by omega, by omega⟩, nnI (stC_at h.blk (i := 4) (by simp [AK.cells]) fun w1 hb1 hk1 hs1 => ?_)⟩⟩
  have hb1 : Blk w1 gk ((s.newD i fl).cells L) := hb1
  refine nnI ⟨_, hb1.at (i := 3) rfl, ?_⟩
  intro w2
  have hd2 : Blk w2 w1.heap.size #[tv (s.objs i).kd (L.loc i), .int .i64 fl, .int .i64 0, .int .i64 1] := Blk.alloc _ _ _
  have hk2 : Kept No w1 w2 := Kept.alloc _ _ _
  clear_value w2
  rw [hs1] at hd2 ⊢
  have k2 : Kept (· = gk) w w2 := hk1.no hk2
  have hmd2 := h.md.keep k2 (fun e => hgd e.symm)
  have hout : ∀ x ∈ s.mD L, x.1 ≠ .int .i64 s.next := by
    intro x hx e
    obtain ⟨y, hy, rfl⟩ := List.mem_map.1 hx
    simp only [Value.int.injEq, true_and] at e
    have := (h.ok.di y hy).2.2.2.2.2.2
    omega
  obtain ⟨w3, hrun, hmd3, hk3, hs3⟩ := update_new hTT hI hmd2 (k := .int .i64 s.next) rfl hout (pd w.heap.size)
  have kA : Kept (fun x => x = gk ∨ x = L.rd) w w3 := (k2.mono fun _ _ e => .inl e).trans hk3 fun _ _ e => .inr e
  have hd2lt := hd2.lt
  have no : ∀ z t, L.own z = some t → t ≠ .kern → t ≠ .md → ¬ (z = gk ∨ z = L.rd) := by
    rintro z t hz h1 h2 (rfl | rfl)
    · rw [h.oK] at hz; simp only [Option.some.injEq] at hz; exact h1 hz.symm
    · rw [h.oD] at hz; simp only [Option.some.injEq] at hz; exact h2 hz.symm
  have old : ∀ z t, L.own z = some t → (L.addD s.next w.heap.size).own z = some t := by
    intro z t hz
    show (if z = w.heap.size then _ else L.own z) = _
    rw [if_neg (fun e => by rw [e, hnb] at hz; cases hz)]
    exact hz
  have back : ∀ z t, t ≠ .desc s.next → (L.addD s.next w.heap.size).own z = some t → L.own z = some t := by
    intro z t ht hz
    have hz : (if z = w.heap.size then some (Tag.desc s.next) else L.own z) = some t := hz
    by_cases e : z = w.heap.size
    · rw [if_pos e] at hz; simp only [Option.some.injEq] at hz; exact absurd hz.symm ht
    · rw [if_neg e] at hz; exact hz
  have dl : ∀ y ∈ s.descs, (L.addD s.next w.heap.size).dloc y.num = L.dloc y.num := fun y hy => by
    show (if y.num = s.next then w.heap.size else L.dloc y.num) = _
    have := (h.ok.di y hy).2.2.2.2.2.2
    rw [if_neg (by omega)]
  refine ⟨w3, hrun, rfl, L.addD s.next w.heap.size,
    { blk := (hb1.keep hk2 fun e => e).keep hk3 hgd
      mf := h.mf.keep kA (no _ _ h.oF (by simp) (by simp))
      mt := h.mt.keep kA (no _ _ h.oT (by simp) (by simp))
      md := ?_
      pl := ?_
      ob := fun j hj => ?_
      ds := fun d hd => ?_
      oK := old _ _ h.oK
      oF := old _ _ h.oF
      oT := old _ _ h.oT
      oD := old _ _ h.oD
      oP := old _ _ h.oP
      od := fun d hd => ?_
      lt := fun x hx => ?_
      ok := h.ok.newD hi fl hl }, ⟨kA.mono fun z _ hz => ?_, fun z hz => ?_⟩, rfl⟩
  · have : (s.newD i fl).mD (L.addD s.next w.heap.size) = s.mD L ++ [(.int .i64 s.next, pd w.heap.size)] := by
      show (s.descs ++ [_]).map _ = _
      rw [List.map_append]
      have e1 : s.descs.map (fun d => (Value.int .i64 d.num, pd ((L.addD s.next w.heap.size).dloc d.num))) = s.mD L := List.map_congr_left fun y hy => by rw [dl y hy]
      rw [e1]
      show _ ++ [(Value.int .i64 s.next, pd (if s.next = s.next then w.heap.size else _))] = _
      rw [if_pos rfl]
    rw [this]
    exact hmd3
  · obtain ⟨a, l, c, h1, h3⟩ := h.pl
    exact ⟨a, l, c, h1.keep kA (no _ _ h.oP (by simp) (by simp)) (fun b _ hb => no _ _ (h3 b hb) (by simp) (by simp)), fun b hb => old _ _ (h3 b hb)⟩
  · exact ((h.ob j hj).keep kA (fun z hz => no _ _ hz (by simp) (by simp)) (fun z hz => no _ _ hz (by simp) (by simp))).congr (fun z => ⟨fun hz => old _ _ hz, fun hz => back _ _ (by simp) hz⟩) (fun z => ⟨fun hz => old _ _ hz, fun hz => back _ _ (by simp) hz⟩)
  · have hd : d ∈ s.descs ++ [⟨s.next, i, fl, 0, 1⟩] := hd
    rcases List.mem_append.1 hd with hd | hd
    · rw [dl d hd]
      exact Blk.keep (h.ds d hd) kA (no _ _ (h.od d hd) (by simp) (by simp))
    · simp only [List.mem_singleton] at hd
      subst hd
      show DsO w3 (if s.next = s.next then w.heap.size else _) _ _ fl 0 1
      rw [if_pos rfl]
      have hrdlt := h.md.lt
      exact Blk.keep hd2 hk3 (fun e => by omega)
  · have hd : d ∈ s.descs ++ [⟨s.next, i, fl, 0, 1⟩] := hd
    rcases List.mem_append.1 hd with hd | hd
    · rw [dl d hd]; exact old _ _ (h.od d hd)
    · simp only [List.mem_singleton] at hd
      subst hd
      show (if (if s.next = s.next then w.heap.size else _) = w.heap.size then some (Tag.desc s.next) else _) = _
      rw [if_pos rfl, if_pos rfl]
  · have hx : (if x = w.heap.size then some (Tag.desc s.next) else L.own x) ≠ none := hx
    by_cases e : x = w.heap.size
    · omega
    · rw [if_neg e] at hx
      have := h.lt x hx
      omega
  · rcases hz with rfl | rfl
    · rw [h.oK]; simp
    · rw [h.oD]; simp
  · have hx : (if z = w.heap.size then some (Tag.desc s.next) else L.own z) ≠ none := hz
    by_cases e : z = w.heap.size
    · exact .inr (by omega)
    · rw [if_neg e] at hx
      exact .inl hx

theorem enone_to {w : World} {gk : Nat} {s : AK} {L : KL} (h : KernO w gk s L) {Q : Value → World → Prop} (hq : Q (.bool false) w) : CallR Try.prog 64 [pd gk] w Q := by
  refine C64 ?_
  unfold L64
  exact condF rfl (nnI ⟨_, h.blk.at0 rfl, hq⟩)

theorem find_ok {w : World} {gk : Nat} {s : AK} {L : KL} (h : KernO w gk s L) (d way : Int) :
    CallR Try.prog 68 [pd gk, .int .i64 d, .int .i64 way] w fun v w' => w' = w ∧ ((s.find d way ≠ 0 ∧ v = .tuple #[.pointer none, .int .i64 (s.find d way)]) ∨ (s.find d way = 0 ∧ ∃ x, s.desc d = some x ∧ v = .tuple #[pd (L.dloc d), .int .i64 0])) := by
  refine C68 ?_
  unfold L68
  have hT : Try.prog.underlying 103 = some (.map 3 125) := by kernel_rfl
  have hI : Try.prog.underlying 3 = some (.int .i64) := by kernel_rfl
  refine enone_to h ⟨false, rfl, condF rfl (nnI ⟨_, h.blk.at (i := 3) rfl, ?_⟩)⟩
  unfold AK.find
  cases hd : s.desc d with
  | none =>
    have hout : ∀ x ∈ s.mD L, x.1 ≠ .int .i64 d := by
      intro x hx e
      obtain ⟨y, hy, rfl⟩ := List.mem_map.1 hx
      simp only [Value.int.injEq, true_and] at e
      exact AK.desc_none hd y hy e
    refine ⟨none, false, w, lookup_out hT hI h.md (k := .int .i64 d) rfl hout (z := .pointer none) (by kernel_rfl) true, condT rfl ⟨rfl, .inl ⟨by simp, rfl⟩⟩⟩
  | some x =>
    obtain ⟨hx, hxn⟩ := AK.desc_some hd
    have hin : (Value.int .i64 d, pd (L.dloc d)) ∈ s.mD L := List.mem_map.2 ⟨x, hx, by rw [hxn]⟩
    refine ⟨some ⟨L.dloc d, 0, none⟩, true, w, lookup_in hT hI h.md (k := .int .i64 d) rfl hin true, condF rfl (nnI ⟨_, Blk.at (h.ofD hd) (i := 1) rfl, ?_⟩)⟩
    refine condI (fun hb => ⟨rfl, .inl ?_⟩) (fun hb => ⟨rfl, .inr ?_⟩)
    · have hb : bitI x.fl way ≠ way := by simpa [bitI] using hb
      dsimp only
      rw [if_pos hb]
      exact ⟨by decide, rfl⟩
    · have hb : ¬ bitI x.fl way ≠ way := by simpa [bitI] using hb
      dsimp only
      rw [if_neg hb]
      exact ⟨rfl, x, rfl, rfl⟩

theorem waitsD_ok {w : World} {gk : Nat} {s : AK} {L : KL} (h : KernO w gk s L) {d : Int} {x : AD} (hx : s.desc d = some x) : CallR Try.prog 69 [pd (L.dloc d)] w fun v w' => v = .bool (s.waits x) ∧ Kept No w w' := by
  have hO := h.ofO hx
  have hD := h.ofD hx
  unfold AK.waits
  cases ho : s.objs x.ob with
  | file bs =>
    rw [ho] at hD
    refine (waits_ok hD (bs := []) (e0 := 0) (e1 := 0) (fun hk => by cases hk)).mono fun v w' hv => ?_
    simpa [AObj.kd] using hv
  | term LL scr =>
    rw [ho] at hD
    refine (waits_ok hD (bs := []) (e0 := 0) (e1 := 0) (fun hk => by cases hk)).mono fun v w' hv => ?_
    simpa [AObj.kd] using hv
  | pipe bs e0 e1 =>
    rw [ho] at hD hO
    refine (waits_ok hD (bs := bs) (e0 := e0) (e1 := e1) (fun hk => hO.1)).mono fun v w' hv => ?_
    simpa [AObj.kd] using hv

theorem canread_ok {w : World} {gk : Nat} {s : AK} {L : KL} (h : KernO w gk s L) (d : Int) : CallR Try.prog 48 [pd gk, .int .i64 d] w fun v w' => v = .bool (s.canRead d) ∧ Kept No w w' := by
  refine C48 ?_
  unfold L48
  refine CallR.mono (find_ok h d 1) ?_
  unfold AK.canRead
  rintro v w1 ⟨rfl, ⟨hne, rfl⟩ | ⟨he, x, hd, rfl⟩⟩
  · refine ⟨_, _, rfl, condI (fun e => absurd (by simpa using e) hne) (fun _ => ⟨?_, Kept.refl _ _⟩)⟩
    rw [if_pos hne]
  · refine ⟨_, _, rfl, condTr2 (CallR.mono (waitsD_ok h hd) ?_)⟩
    rintro v w2 ⟨rfl, hk⟩
    refine ⟨_, rfl, ?_, hk⟩
    rw [if_neg (fun e => e he), hd]

theorem kindF_ok {w : World} (k : TK) (b : Nat) : CallR Try.prog (kindF k) [ag b] w fun v w' => v = .int .i64 (AK.kindN k) ∧ Kept No w w' := by
  cases k
  · exact C210 ⟨rfl, Kept.alloc _ _ _⟩
  · exact C204 ⟨rfl, Kept.alloc _ _ _⟩
  · exact C196 ⟨rfl, Kept.alloc _ _ _⟩

theorem kind_ok {w : World} {gk : Nat} {s : AK} {L : KL} (h : KernO w gk s L) (d : Int) : CallR Try.prog 50 [pd gk, .int .i64 d] w fun v w' => v = .int .i64 (s.kind d) ∧ Kept No w w' := by
  refine C50 ?_
  unfold L50
  refine CallR.mono (find_ok h d 0) ?_
  unfold AK.kind
  rintro v w1 ⟨rfl, ⟨hne, rfl⟩ | ⟨he, x, hd, rfl⟩⟩
  · refine ⟨_, _, rfl, condI (fun _ => ⟨?_, Kept.refl _ _⟩) (fun e => absurd (by simpa using e) hne)⟩
    rw [if_pos hne]
  · refine ⟨_, _, rfl, condFa2 (nnI ⟨_, Blk.at0 (h.ofD hd) rfl, _, _, _, tv_kind (s.objs x.ob).kd (L.loc x.ob) #[] _, CallR.mono (kindF_ok (s.objs x.ob).kd (L.loc x.ob)) ?_⟩)⟩
    rintro v w2 ⟨rfl, hk⟩
    refine ⟨_, rfl, ?_, hk⟩
    rw [if_neg (fun e => e he), hd]

end Go.Proofs.Ytbiofmgebbdflaa
