/-
  The page's kernel: the next fault, a raw read. Conditions: as each says.
  The page's kernel: a raw write. Conditions: as each says.
  The page's kernel: seek, keep, drop. Conditions: as each says.
  The page's kernel: what it says without a change, open, pipe. Conditions: as each says.
-/
import Derived.Test.YtpoaacnnhgebfaaGreatGk
import Derived.LaidEql
set_option linter.unusedVariables false
namespace Go.Proofs.YtpoaacnnhgebfaaGreat
open Go.Lw

theorem bit_way1 (n : Int) : bitI n 1 = 0 ∨ bitI n 1 = 1 := by
  unfold bitI
  rw [show BitVec.ofInt (IntKind.bits .i64) 1 = BitVec.twoPow (IntKind.bits .i64) 0 from rfl, BitVec.and_twoPow]
  split
  · exact .inr rfl
  · exact .inl rfl
theorem bit_way2 (n : Int) : bitI n 2 = 0 ∨ bitI n 2 = 2 := by
  unfold bitI
  rw [show BitVec.ofInt (IntKind.bits .i64) 2 = BitVec.twoPow (IntKind.bits .i64) 1 from rfl, BitVec.and_twoPow]
  split
  · exact .inr rfl
  · exact .inl rfl

/-- Two cells, filled. -/
theorem lay2c {w : World} {e : TypeId} {v0 v1 u0 u1 : Value} {K : World → Prop} (hk : ∀ w', Blk w' w.heap.size #[v0, v1] → Kept No w w' → K w') :
    let w2 := World.alloc w (.cells #[u0, u1] e)
    stC (Addr.mk w.heap.size 0 none) v0 w2 fun w1 => stC (Addr.mk w.heap.size 1 none) v1 w1 K := by
  intro w2
  have hb : Blk w2 w.heap.size #[u0, u1] := Blk.alloc _ _ _
  have hk1 : Kept No w w2 := Kept.alloc _ _ _
  clear_value w2
  refine stC_blk hb (by simp) fun w1 h1 k1 _ => stC_blk h1 (by simp) fun w2 h2 k2 _ => ?_
  have h2' : Blk w2 w.heap.size #[v0, v1] := by simpa using h2
  exact hk w2 h2' ((hk1.fresh k1 fun x e => by omega).fresh k2 fun x e => by omega)

theorem pnext_ok {w : World} {g : Nat} {a : Option Addr} {l c : Nat} {fs : List (Int × Int)} {n : Int} (hb : Blk w g #[.slice a l c]) (hr : RdS 2 w a l c (Fv fs)) (hne : ∀ b, inA a b → b ≠ g) (h1 : 1 ≤ n) (h2 : n ≤ 1048576) (hl : fs.length ≤ 4096) :
    CallR Tryz.prog 170 [pd g, .int .i64 n] w fun v w' => v = .tuple #[.int .i64 (metF fs n).1, .int .i64 (metF fs n).2] ∧ (∃ a' l' c', (∀ b, inA a' b → inA a b) ∧ Blk w' g #[.slice a' l' c'] ∧ RdS 2 w' a' l' c' (Fv (fs.drop 1))) ∧ Kept (· = g) w w' := by
  have hlen : fs.length = l := by have := hr.1; rw [Fv_len] at this; omega
  refine C170 ?_
  unfold L170
  refine condF (by simp; omega) (condF (by simp; omega) (nnI ⟨_, _, _, hb.at0 rfl, condI (fun h0 => ?_) (fun h0 => ?_)⟩))
  · have h0 : l = 0 := by simp at h0; omega
    have : fs = [] := List.length_eq_zero_iff.1 (by omega)
    subst this
    exact ⟨rfl, ⟨a, l, c, fun _ h => h, hb, hr⟩, Kept.refl _ _⟩
  · have h0 : 0 < fs.length := by simp at h0; omega
    obtain ⟨e1, e2⟩ := Fv_at h0
    cases ha : a with
    | none => have := RdS.isNone hr ha; omega
    | some q =>
      rw [ha] at hb hr hne
      have hcl : l ≤ c := hr.2.1
      have hq1 := hr.2.2.2 q rfl _ _ e1
      have hq2 := hr.2.2.2 q rfl _ _ e2
      rw [← Lw.add_add] at hq2
      refine nnI ⟨_, _, _, hb.at0 rfl, ⟨by omega, by omega⟩, nnI ⟨_, _, hq1, hq2, lay2c fun w3 hf3 hk3 => ?_⟩⟩
      have hglt := hb.lt
      have hb3 := hb.keep hk3 fun e => e
      have hr3 := hr.keep hk3 fun _ _ _ e => e
      refine nnI ⟨_, _, _, hb3.at0 rfl, ⟨by omega, by omega⟩, nnI (stC_blk hb3 (by simp) fun w4 hb4 hk4 _ => ?_)⟩
      have hb4 : Blk w4 g #[.slice (adv (some q) 1 c 2) (l - 1) (c - 1)] := hb4
      have hf4 := hf3.keep hk4 fun e => by omega
      have hr4 := hr3.keep hk4 fun b _ hb' e => hne b hb' e
      have k04 : Kept (· = g) w w4 := (hk3.mono fun _ _ e => e.elim : Kept (· = g) w w3).trans hk4 fun _ _ e => e
      have done : ∀ {n1 n2 : Int}, (n1, n2) = metF fs n → ((.tuple #[.int .i64 n1, .int .i64 n2] : Value) = .tuple #[.int .i64 (metF fs n).1, .int .i64 (metF fs n).2] ∧ (∃ a' l' c', (∀ b, inA a' b → inA (some q) b) ∧ Blk w4 g #[.slice a' l' c'] ∧ RdS 2 w4 a' l' c' (Fv (fs.drop 1))) ∧ Kept (· = g) w w4) := fun e => by
        refine ⟨by rw [← e], ⟨_, _, _, fun b hb' => inA_adv.1 hb', hb4, ?_⟩, k04⟩
        have := hr4.from 1 (by omega)
        rw [Fv_drop]
        exact this
      have hm : metF fs n = if fs[0].1 = 1 then (min n fs[0].2, 0) else if fs[0].1 = 2 then (0, 22) else if fs[0].1 = 3 then (0, 23) else (n, 0) := by
        cases fs with
        | nil => simp at h0
        | cons f r => rfl
      refine ⟨_, (hf4.cell 0).trans rfl, condI (fun h1 => ⟨_, (hf4.cell 1).trans rfl, done ?_⟩) (fun h1 => condI (fun h2 => done ?_) (fun h2 => condI (fun h3 => done ?_) (fun h3 => done ?_)))⟩
      · rw [hm, if_pos (by simpa using h1), mn_eq]
      · rw [hm, if_neg (by simpa using h1), if_pos (by simpa using h2)]
      · rw [hm, if_neg (by simpa using h1), if_neg (by simpa using h2), if_pos (by simpa using h3)]
      · rw [hm, if_neg (by simpa using h1), if_neg (by simpa using h2), if_neg (by simpa using h3)]

/-- What lies behind a description. -/
theorem PagO.ofX {w : World} {pk : Nat} {s : AK} {L : KL} {tl : Nat → Nat} {nm : Nat → ByteArray} (h : PagO w pk s L tl nm) {d : Int} {x : AD} (hx : s.desc d = some x) :
    x.num = d ∧ x ∈ s.descs ∧ x.ob < s.nob ∧ Blk w (L.dloc d) (pdC d (tl x.ob) x.fl x.at_ x.hd) ∧ Blk w (tl x.ob) (thC (nm x.ob) (s.objs x.ob).kd (L.loc x.ob)) ∧ PObj L w x.ob (s.objs x.ob) := by
  obtain ⟨hm, hn⟩ := AK.desc_some hx
  have hb := (h.ok.di x hm).1
  have := h.ds x hm
  rw [hn] at this
  exact ⟨hn, hm, hb, this, (h.th x.ob hb).1, h.ob x.ob hb⟩

theorem setD_noop (s : AK) (h : s.Ok) (a b : Int) : s.setD 0 a b = s := by
  have : (s.descs.map fun x => if x.num = 0 then { x with at_ := a, hd := b } else x) = s.descs := by
    conv => rhs; rw [← List.map_id s.descs]
    apply List.map_congr_left
    intro x hx
    have := (h.di x hx).2.2.2.2.2.1
    rw [if_neg (by omega)]
    try rfl
  unfold AK.setD
  rw [this]

/-- A thing turned. -/
theorem PagO.obj {w w' : World} {pk : Nat} {s : AK} {L : KL} {tl : Nat → Nat} {nm : Nat → ByteArray} (h : PagO w pk s L tl nm) {i : Nat} {S : Nat → Prop} (k : Kept S w w')
    (hS : ∀ z, S z → L.own z = some (.obj i)) {o : AObj} (ho : o.kd = (s.objs i).kd) {F : Nat → Prop} (hF : ∀ z, F z → L.own z = some (.obj i) ∨ w.heap.size ≤ z)
    (hO : PObjF F (fun z => L.own z = some (.lines i)) w' (L.loc i) o) : ∃ L', PagO w' pk (s.setO i o) L' tl nm ∧ KStep w w' L L' := by
  obtain ⟨L', h1, h2, _⟩ := h.objD (d := 0) k (fun z hz => .inl (hS z hz)) ho hF hO (at' := 0) (hd' := 1) (fun y hy e => by have := (h.ok.di y hy).2.2.2.2.2.1; omega) ⟨by omega, by omega, by omega, by omega⟩
  rw [setD_noop _ (h.ok.setO ho)] at h1
  exact ⟨L', h1, h2⟩

/-- A description turned. -/
theorem PagO.desc {w w' : World} {pk : Nat} {s : AK} {L : KL} {tl : Nat → Nat} {nm : Nat → ByteArray} (h : PagO w pk s L tl nm) {d : Int} {x : AD} (hx : s.desc d = some x) (k : Kept (· = L.dloc d) w w')
    {at' hd' : Int} (hD : Blk w' (L.dloc d) (pdC d (tl x.ob) x.fl at' hd')) (hr : 0 ≤ at' ∧ at' ≤ 1048576 ∧ 1 ≤ hd' ∧ hd' ≤ 1024) : ∃ L', PagO w' pk (s.setD d at' hd') L' tl nm ∧ KStep w w' L L' := by
  obtain ⟨hn, hm, hb, hdb, htb, hob⟩ := h.ofX hx
  have hod := h.od x hm
  rw [hn] at hod
  have ne : ∀ z t, L.own z = some t → t ≠ .desc d → ¬ z = L.dloc d := fun z t hz ht e => by rw [e, hod] at hz; cases hz; exact ht rfl
  have hD' : ∀ y ∈ s.descs, y.num = d → Blk w' (L.dloc d) (pdC d (tl y.ob) y.fl at' hd') := fun y hy e => by
    have : y = x := by
      obtain ⟨i, hi, rfl⟩ := List.mem_iff_getElem.1 hy
      obtain ⟨j, hj, rfl⟩ := List.mem_iff_getElem.1 hm
      have e1 : (s.descs.map (·.num))[i]'(by simpa using hi) = (s.descs.map (·.num))[j]'(by simpa using hj) := by rw [List.getElem_map, List.getElem_map]; exact e.trans hn.symm
      have := (List.getElem_inj h.ok.dn).1 e1
      subst this; rfl
    subst this
    exact hD
  obtain ⟨L', h1, h2, _⟩ := h.objD (i := x.ob) (d := d) k (fun z hz => .inr (by rw [hz]; exact hod)) rfl (F := fun z => L.own z = some (.obj x.ob)) (fun z hz => .inl hz)
    (PObjF.keep hob k (fun z hz => ne _ _ hz (by simp)) (fun z hz => ne _ _ hz (by simp))) (at' := at') (hd' := hd') hD' hr
  rw [AK.setO_same] at h1
  exact ⟨L', h1, h2⟩

theorem metF_bound {ps : List (Int × Int)} (hm : ∀ p ∈ ps, mayP p) {n : Int} (h1 : 1 ≤ n) (h2 : n ≤ 1048576) (h0 : (metF ps n).2 = 0) : 1 ≤ (metF ps n).1 ∧ (metF ps n).1 ≤ n := by
  unfold metF at h0 ⊢
  cases ps with
  | nil => exact ⟨h1, Int.le_refl _⟩
  | cons f r =>
    dsimp only at h0 ⊢
    by_cases e1 : f.1 = 1
    · rw [if_pos e1]
      rcases hm f (List.mem_cons_self) with ⟨_, a, b⟩ | ⟨a, _⟩
      · dsimp only; omega
      · omega
    · rw [if_neg e1] at h0 ⊢
      by_cases e2 : f.1 = 2
      · rw [if_pos e2] at h0; cases h0
      rw [if_neg e2] at h0 ⊢
      by_cases e3 : f.1 = 3
      · rw [if_pos e3] at h0; cases h0
      rw [if_neg e3]; exact ⟨h1, Int.le_refl _⟩

/-- A count, and the fault that is met. -/
theorem pmet_ok {w : World} {pk : Nat} {s : AK} {L : KL} {tl : Nat → Nat} {nm : Nat → ByteArray} (h : PagO w pk s L tl nm) {wr : Bool} {n : Int} (h1 : 1 ≤ n) (h2 : n ≤ 1048576) {w1 : World} {T : List (ByteArray × Nat)} {ta : Option Addr} {tc : Nat} {da : Option Addr} {dc : Nat} (hB : PKb w pk s L tl T ta tc da dc)
    (hb : Blk w1 pk #[.slice ta T.length tc, .slice da s.descs.length dc, .int .i64 s.next, pd L.pg, .int .i64 (if wr then s.c0 else s.c0 + 1), .int .i64 (if wr then s.c1 + 1 else s.c1)]) (k1 : Kept (· = pk) w w1) :
    CallR Tryz.prog 170 [pd L.pg, .int .i64 n] w1 fun v w' => v = .tuple #[.int .i64 (metF s.ps n).1, .int .i64 (metF s.ps n).2] ∧ PagO w' pk (if wr then s.met1 else s.met0) L tl nm ∧ KStep w w' L L ∧ Kept (fun z => z = pk ∨ z = L.pg) w w' := by
  obtain ⟨a, l, c, p1, p2, p3⟩ := h.pl
  have hne : pk ≠ L.pg := fun e => by have := h.oP; rw [← e, h.oK] at this; cases this
  have hap : ∀ b, inA a b → b ≠ pk ∧ b ≠ L.pg := fun b hb' => ⟨(fun e => by have := p3 b hb'; rw [e, h.oK] at this; cases this), (fun e => by have := p3 b hb'; rw [e, h.oP] at this; cases this)⟩
  refine CallR.mono (pnext_ok (p1.keep k1 (fun e => hne e.symm)) (p2.keep k1 (fun b _ hb' e => (hap b hb').1 e)) (fun b hb' => (hap b hb').2) h1 h2 h.ok.ps) ?_
  rintro v w2 ⟨rfl, ⟨a', l', c', hin, q1, q2⟩, k2⟩
  have k12 : Kept (fun z => z = pk ∨ z = L.pg) w w2 := (k1.mono fun _ _ e => .inl e).trans (k2.mono fun _ _ e => .inr e) fun _ _ e => e
  have hb2 := hb.keep k2 hne
  cases wr with
  | true =>
    obtain ⟨r1, r2⟩ := h.count k12 (fun z e => e) (s' := s.met1) rfl rfl rfl rfl rfl rfl hB hb2 ⟨a', l', c', q1, q2, fun b hb' => p3 b (hin b hb')⟩ h.ok.met1
    exact ⟨rfl, r1, r2, k12⟩
  | false =>
    obtain ⟨r1, r2⟩ := h.count k12 (fun z e => e) (s' := s.met0) rfl rfl rfl rfl rfl rfl hB hb2 ⟨a', l', c', q1, q2, fun b hb' => p3 b (hin b hb')⟩ h.ok.met0
    exact ⟨rfl, r1, r2, k12⟩

set_option maxHeartbeats 2000000 in
theorem pread_ok {w : World} {pk : Nat} {s : AK} {L : KL} {tl : Nat → Nat} {nm : Nat → ByteArray} (h : PagO w pk s L tl nm) (d n : Int) (hc : s.c0 ≤ 4611686018427387904) :
    CallR Tryz.prog 65 [pd pk, .int .i64 d, .int .i64 n] w fun v w' => ∃ a l c L', v = .tuple #[.slice a l c, .int .i64 (s.read d n).2.1] ∧ RdB w' a l c (s.read d n).1 ∧ PagO w' pk (s.read d n).2.2 L' tl nm ∧ KStep w w' L L' := by
  refine C65 ?_
  unfold L65
  have bad : ∀ (e : Int) , s.read d n = ([], e, s) → ∃ a l c L', (.tuple #[.slice none 0 0, .int .i64 e] : Value) = .tuple #[.slice a l c, .int .i64 (s.read d n).2.1] ∧ RdB w a l c (s.read d n).1 ∧ PagO w pk (s.read d n).2.2 L' tl nm ∧ KStep w w L L' := by
    intro e hr
    rw [hr]
    exact ⟨none, 0, 0, L, rfl, RdS.nil 1 w, h, KStep.refl _ _⟩
  refine CallR.mono (pfind_ok h d) ?_
  rintro v w1 ⟨rfl, ⟨hd, rfl⟩ | ⟨x, hx, rfl⟩⟩
  · refine ⟨_, rfl, fun _ _ => False, condTr2 (bad 64 ?_), fun _ _ e => e.elim⟩
    have : s.find d 1 = 64 := by unfold AK.find; rw [hd]
    unfold AK.read
    rw [this, if_pos (by simp)]
  obtain ⟨hn, hm, hob, hdb, htb, hO⟩ := h.ofX hx
  have hc0 := h.ok.c0
  have hdi := h.ok.di x hm
  obtain ⟨T, ta, tc, da, dc, hB⟩ := h.kb
  refine ⟨_, rfl, fun vs w' => vs = [] ∧ w' = w1 ∧ s.waits x = false ∧ 1 ≤ n ∧ n ≤ 1048576 ∧ s.read d n = if (metF s.ps n).2 ≠ 0 then ([], (metF s.ps n).2, s.met0) else ((s.met0.rdO x (metF s.ps n).1).1, 0, (s.met0.rdO x (metF s.ps n).1).2), condFa2 (nnI ⟨_, hdb.at (i := 2) rfl, condI (fun h0 => bad 65 ?_) (fun h0 => ?_)⟩), ?_⟩
  · have h0 : bitI x.fl 1 = 0 := beq_iff_eq.1 h0
    have : s.find d 1 = 65 := by unfold AK.find; rw [hx]; exact if_pos (by rw [h0]; simp)
    unfold AK.read
    rw [this, if_pos (by simp)]
  · have h0 : bitI x.fl 1 = 1 := by
      rcases bit_way1 x.fl with e | e
      · exact absurd e (beq_eq_false_iff_ne.1 h0)
      · exact e
    have hf : ¬ s.find d 1 ≠ 0 := fun e => e (AK.find_of hx h0)
    refine condP (fun h1 => bad 4 (by unfold AK.read; rw [if_neg hf, if_pos (.inl h1)])) (fun h1 => condP (fun h2 => bad 4 (by unfold AK.read; rw [if_neg hf, if_pos (.inr h2)])) (fun h2 => condI (fun h3 => bad 0 ?_) (fun h3 => ?_)))
    · have h3 : n = 0 := by simpa using h3
      unfold AK.read; rw [if_neg hf, if_neg (by omega), if_pos h3]
    have h3 : n ≠ 0 := by simpa using h3
    have hread : s.read d n = if s.waits x = true then ([], 52, s) else if (metF s.ps n).2 ≠ 0 then ([], (metF s.ps n).2, s.met0) else ((s.met0.rdO x (metF s.ps n).1).1, 0, (s.met0.rdO x (metF s.ps n).1).2) := by
      unfold AK.read
      rw [if_neg hf, if_neg (by omega), if_neg h3, hx]
    have go : s.waits x = false → ([] : List Value) = [] ∧ w1 = w1 ∧ s.waits x = false ∧ 1 ≤ n ∧ n ≤ 1048576 ∧ s.read d n = if (metF s.ps n).2 ≠ 0 then ([], (metF s.ps n).2, s.met0) else ((s.met0.rdO x (metF s.ps n).1).1, 0, (s.met0.rdO x (metF s.ps n).1).2) := fun hw =>
      ⟨rfl, rfl, hw, by omega, by omega, by rw [hread, hw, if_neg (by simp)]⟩
    refine nnI ⟨_, hdb.at (i := 1) rfl, nnI ?_⟩
    cases ho : s.objs x.ob with
    | file bs =>
      rw [ho] at htb
      exact ⟨_, htb.at (i := 1) rfl, condFa2 (go (by unfold AK.waits; rw [ho]))⟩
    | term LL scr =>
      rw [ho] at htb
      exact ⟨_, htb.at (i := 1) rfl, condFa2 (go (by unfold AK.waits; rw [ho]))⟩
    | pipe bs e0 e1 =>
      rw [ho] at htb hO
      have hO : RefP w1 (L.loc x.ob) (fun z => L.own z = some (.obj x.ob)) bs e0 e1 := hO
      have hw : s.waits x = !canRP bs e0 e1 := by unfold AK.waits; rw [ho]
      refine ⟨_, htb.at (i := 1) rfl, condTr2 (nnI ⟨_, hdb.at (i := 1) rfl, nnI ⟨_, htb.at (i := 4) rfl, rcanr_to hO ⟨_, rfl, ?_⟩⟩⟩)⟩
      refine condI (fun hc => bad 52 ?_) (fun hc => go (hw.trans hc))
      rw [hread, hw, hc, if_pos rfl]
  rintro _ w2 ⟨-, rfl, hw, h1, h2, hread⟩
  rw [hread]
  clear bad hread
  have hpkd : pk ≠ L.dloc d := fun e => by have := h.od x hm; rw [hn, ← e, h.oK] at this; cases this
  refine nnI ⟨_, hB.b.at (i := 4) rfl, ⟨by omega, by omega⟩, nnI (stC_at hB.b (i := 4) (by simp) fun w3 hb3 hk3 _ => ?_)⟩
  have hb3 : Blk w3 pk #[.slice ta T.length tc, .slice da s.descs.length dc, .int .i64 s.next, pd L.pg, .int .i64 (s.c0 + 1), .int .i64 s.c1] := hb3
  refine nnI ⟨_, hb3.at (i := 3) rfl, CallR.mono (pmet_ok h (wr := false) (by omega) (by omega) hB hb3 hk3) ?_⟩
  rintro v w4 ⟨rfl, h4, st4, _⟩
  have h4 : PagO w4 pk s.met0 L tl nm := h4
  refine ⟨_, _, rfl, ?_⟩
  by_cases he : (metF s.ps n).2 ≠ 0
  · rw [if_pos he]
    exact condT (by simpa using he) ⟨none, 0, 0, L, rfl, RdS.nil 1 w4, h4, st4⟩
  have he : (metF s.ps n).2 = 0 := by simpa using he
  rw [if_neg (by simpa using he)]
  obtain ⟨hm1, hm2⟩ := metF_bound h.ok.pm (n := n) (by omega) (by omega) he
  generalize (metF s.ps n).1 = m at hm1 hm2 ⊢
  have hx4 : s.met0.desc d = some x := hx
  obtain ⟨_, _, _, hdb4, htb4, hO4⟩ := h4.ofX hx4
  have htb4 : Blk w4 (tl x.ob) (thC (nm x.ob) (s.objs x.ob).kd (L.loc x.ob)) := htb4
  have hO4 : PObj L w4 x.ob (s.objs x.ob) := hO4
  refine condF (by rw [he]; rfl) (nnI ⟨_, hdb4.at (i := 1) rfl, nnI ?_⟩)
  have hkeep : ∀ o, s.met0.objs x.ob = o → s.objs x.ob = o := fun o e => e
  cases ho : s.objs x.ob with
  | term LL scr =>
    rw [ho] at htb4 hO4
    have hO4 : RefT (fun z => L.own z = some (.obj x.ob)) (fun z => L.own z = some (.lines x.ob)) w4 (L.loc x.ob) LL scr := hO4
    refine ⟨_, htb4.at (i := 1) rfl, condTr2 (nnI ⟨_, hdb4.at (i := 1) rfl, nnI ⟨_, htb4.at (i := 3) rfl, CallR.mono (rreadT_ok hO4 m) ?_⟩⟩)⟩
    rintro v w5 ⟨a', c', rfl, hrd, F', hF', hk5, hO5⟩
    have hr0 : (readT m LL).1 = 0 := by
      unfold readT
      rw [if_neg (by omega)]
      split <;> rfl
    have hrd0 : s.met0.rdO x m = ((readT m LL).2.1, s.met0.setO x.ob (.term (readT m LL).2.2 scr)) := by
      unfold AK.rdO
      rw [show s.met0.objs x.ob = .term LL scr from ho]
    rw [hrd0, hr0]
    obtain ⟨L', r1, r2⟩ := h4.obj hk5 (fun z hz => hz) (o := .term (readT m LL).2.2 scr) (by show TK.scr = (s.objs x.ob).kd; rw [ho]; rfl) (F := F') (fun z hz => .inl (hF' z hz)) hO5
    exact ⟨_, _, _, _, rfl, _, _, _, L', rfl, hrd, r1, st4.trans r2⟩
  | pipe bs e0 e1 =>
    rw [ho] at htb4 hO4
    have hO4 : RefP w4 (L.loc x.ob) (fun z => L.own z = some (.obj x.ob)) bs e0 e1 := hO4
    have hcan : canRP bs e0 e1 = true := by
      unfold AK.waits at hw
      rw [ho] at hw
      simpa using hw
    refine ⟨_, htb4.at (i := 1) rfl, condFa2 (condTr2 (nnI ⟨_, hdb4.at (i := 1) rfl, nnI ⟨_, htb4.at (i := 4) rfl, CallR.mono (rread_ok hO4 m) ?_⟩⟩))⟩
    rintro v w5 ⟨a, l, c, rfl, hrd, _, hO5, hk5⟩
    have hr0 : (readP m bs e0 e1).2.1 = 0 := by
      unfold canRP at hcan
      simp only [decide_eq_true_eq] at hcan
      unfold readP
      rw [if_neg (by omega), if_neg (by omega), if_neg]
      rintro ⟨rfl, h2⟩
      simp at hcan; omega
    have hrd0 : s.met0.rdO x m = ((readP m bs e0 e1).1, s.met0.setO x.ob (.pipe (readP m bs e0 e1).2.2 e0 e1)) := by
      unfold AK.rdO
      rw [show s.met0.objs x.ob = .pipe bs e0 e1 from ho]
    rw [hrd0, hr0]
    obtain ⟨L', r1, r2⟩ := h4.obj hk5 (fun z hz => by rw [hz]; exact hO4.1) (o := .pipe (readP m bs e0 e1).2.2 e0 e1) (by show TK.con = (s.objs x.ob).kd; rw [ho]; rfl) (F := fun z => L.own z = some (.obj x.ob)) (fun z hz => .inl hz) hO5
    exact ⟨_, _, _, _, rfl, _, _, _, L', rfl, hrd, r1, st4.trans r2⟩
  | file bs =>
    rw [ho] at htb4 hO4
    refine ⟨_, htb4.at (i := 1) rfl, condFa2 (condFa2 ?_)⟩
    intro w7
    have hk7 : Kept No w4 w7 := Kept.drew _ _
    clear_value w7
    have h7 := h4.no hk7
    have hdb7 := hdb4.keep hk7 fun e => e
    have htb7 := htb4.keep hk7 fun e => e
    obtain ⟨fa, fl, fc, hfb, hfo, hfn, hfl, hfF⟩ : RefO (fun z => L.own z = some (.obj x.ob)) w7 (L.loc x.ob) bs := RefO.keep hO4 hk7 fun _ _ e => e
    have hfl' := hfo.len
    refine nnI ⟨_, hdb7.at (i := 1) rfl, nnI ⟨_, htb7.at (i := 2) rfl, nnI ⟨_, _, _, hfb.at0 rfl, nnI ⟨_, hdb7.at (i := 3) rfl, CallR.mono (rpiece_ok hfo.rd (by omega) (off := x.at_) (n := m) hdi.2.1 (by omega)) ?_⟩⟩⟩⟩
    rintro v w8 ⟨a', c', rfl, hpo, hk8, hpf⟩
    have h8 := h7.no hk8
    have hdb8 := hdb7.keep hk8 fun e => e
    have hpl : x.at_ + ((piece bs x.at_ m).length : Int) ≤ 1048576 := by
      unfold piece
      rw [List.length_take, List.length_drop]
      omega
    refine ⟨_, _, _, rfl, nnI ⟨_, hdb8.at (i := 3) rfl, ⟨by omega, by omega⟩, nnI (stC_at hdb8 (i := 3) (by simp [pdC]) fun w9 hdb9 hk9 _ => ?_)⟩⟩
    have hdb9 : Blk w9 (L.dloc d) (pdC d (tl x.ob) x.fl (x.at_ + ((piece bs x.at_ m).length : Int)) x.hd) := hdb9
    have hrd0 : s.met0.rdO x m = (piece bs x.at_ m, s.met0.setD x.num (x.at_ + ((piece bs x.at_ m).length : Int)) x.hd) := by
      unfold AK.rdO
      rw [show s.met0.objs x.ob = .file bs from ho]
    rw [hrd0, hn]
    obtain ⟨L', r1, r2⟩ := h8.desc hx4 hk9 hdb9 ⟨by omega, hpl, hdi.2.2.2.1, hdi.2.2.2.2.1⟩
    refine ⟨_, _, _, L', rfl, ?_, r1, ((st4.no hk7).no hk8).trans r2⟩
    refine (hpo.keep hk9 fun b hb e => ?_).rd
    have := hpf b hb
    have := (hdb7.lt)
    omega

end Go.Proofs.YtpoaacnnhgebfaaGreat

namespace Go.Proofs.YtpoaacnnhgebfaaGreat
open Go.Lw

theorem RdB.take {w : World} {a : Option Addr} {l c : Nat} {ds : List Int} (h : RdB w a l c ds) {k : Nat} (hk : k ≤ l) : RdB w a k c (ds.take k) := by
  have hl := h.len
  obtain ⟨h1, h2, h3, h4⟩ := h
  refine ⟨by unfold By; rw [List.length_map, List.length_take]; omega, by omega, h3, fun ad had j v hj => ?_⟩
  refine h4 ad had j v ?_
  unfold By at hj ⊢
  rw [List.getElem?_map] at hj ⊢
  rw [List.getElem?_take] at hj
  by_cases e : j < k
  · rw [if_pos e] at hj; exact hj
  · rw [if_neg e] at hj; cases hj

/-- How many bytes a thing has room for. -/
def roomN (s : AK) (x : AD) : Int := match s.objs x.ob with
  | .file bs => 1048576 - placeF x.fl x.at_ bs
  | .term LL scr => 1048576 - (scr.length : Int)
  | .pipe _ _ _ => 0

theorem PObj.fileLen {L : KL} {w : World} {i : Nat} {bs : List Int} (h : PObj L w i (.file bs)) : bs.length ≤ 1048576 := by
  obtain ⟨_, _, _, _, _, _, hl, _⟩ : RefO _ w (L.loc i) bs := h
  exact hl
theorem PObj.scrLen {L : KL} {w : World} {i : Nat} {LL : List (List Int)} {scr : List Int} (h : PObj L w i (.term LL scr)) : scr.length ≤ 1048576 := RefT.scr (show RefT _ _ w (L.loc i) LL scr from h)

theorem proom_ok {w : World} {pk : Nat} {s : AK} {L : KL} {tl : Nat → Nat} {nm : Nat → ByteArray} (h : PagO w pk s L tl nm) {d : Int} {x : AD} (hx : s.desc d = some x) (hk : (s.objs x.ob).kd ≠ .con) {Q : Value → World → Prop} (hq : Q (.int .i64 (roomN s x)) w) : CallR Tryz.prog 174 [pd (L.dloc d)] w Q := by
  refine C174 ?_
  unfold L174
  obtain ⟨hn, hm, hob, hdb, htb, hO⟩ := h.ofX hx
  have hdi := h.ok.di x hm
  unfold roomN at hq
  refine nnI ⟨_, hdb.at (i := 1) rfl, nnI ?_⟩
  cases ho : s.objs x.ob with
  | term LL scr =>
    rw [ho] at htb hO hq
    have hl := hO.scrLen
    obtain ⟨la, ll, lc, sa, sl, sc, es, hb, _, _, hs, _⟩ : RefT _ _ w (L.loc x.ob) LL scr := hO
    have hsl := hs.len
    refine ⟨_, htb.at (i := 1) rfl, condTr2 (nnI ⟨_, hdb.at (i := 1) rfl, nnI ⟨_, htb.at (i := 3) rfl, nnI ⟨_, _, _, hb.at (i := 1) rfl, ⟨by omega, by omega⟩, ?_⟩⟩⟩)⟩
    rw [← hsl]; exact hq
  | pipe bs e0 e1 => rw [ho] at hk; exact absurd rfl hk
  | file bs =>
    rw [ho] at htb hO hq
    have hl := hO.fileLen
    obtain ⟨fa, fl, fc, hb, hs, _, _, _⟩ : RefO _ w (L.loc x.ob) bs := hO
    have hsl := hs.len
    refine ⟨_, htb.at (i := 1) rfl, condFa2 (nnI ⟨_, hdb.at (i := 2) rfl, condI (fun h4 => ?_) (fun h4 => ?_)⟩)⟩
    · have h4 : bitI x.fl 4 ≠ 0 := bne_iff_ne.1 h4
      refine nnI ⟨_, hdb.at (i := 1) rfl, nnI ⟨_, htb.at (i := 2) rfl, nnI ⟨_, _, _, hb.at0 rfl, ⟨by omega, by omega⟩, ?_⟩⟩⟩
      have hq : Q (.int .i64 (1048576 - placeF x.fl x.at_ bs)) w := hq
      unfold placeF at hq
      rw [if_pos h4] at hq
      rw [← hsl]; exact hq
    · have h4 : ¬ bitI x.fl 4 ≠ 0 := fun e => by
        have : (bitI x.fl 4 != 0) = false := h4
        rw [bne_iff_ne.2 e] at this; cases this
      have hq : Q (.int .i64 (1048576 - placeF x.fl x.at_ bs)) w := hq
      unfold placeF at hq
      rw [if_neg h4] at hq
      exact nnI ⟨_, hdb.at (i := 3) rfl, ⟨by omega, by omega⟩, hq⟩

theorem roomD_zero {p n : Int} (hp : p ≤ 1048576) : (1048576 - p = 0 → (roomD p n) = (0, 31)) ∧ (1048576 - p ≠ 0 → roomD p n = (mn n (1048576 - p), 0)) := by
  unfold roomD
  constructor
  · intro e; rw [if_neg (by omega)]
  · intro e; rw [if_pos (by omega)]

set_option maxHeartbeats 4000000 in
theorem pwrite_ok {w : World} {pk : Nat} {s : AK} {L : KL} {tl : Nat → Nat} {nm : Nat → ByteArray} (h : PagO w pk s L tl nm) (d : Int) {a : Option Addr} {l c : Nat} {ds : List Int} (hd : RdB w a l c ds) (hap : ds ≠ [] → ∀ k, inA a k → L.own k = none) (hc : s.c1 ≤ 4611686018427387904) :
    CallR Tryz.prog 67 [pd pk, .int .i64 d, .slice a l c] w fun v w' => v = .tuple #[.int .i64 (s.write d ds).1, .int .i64 (s.write d ds).2.1] ∧ ∃ L', PagO w' pk (s.write d ds).2.2 L' tl nm ∧ KStep w w' L L' := by
  refine C67 ?_
  unfold L67
  have hlen := hd.len
  have hlc : l ≤ c := hd.2.1
  have bad : ∀ (e : Int), s.write d ds = (0, e, s) → (.tuple #[.int .i64 0, .int .i64 e] : Value) = .tuple #[.int .i64 (s.write d ds).1, .int .i64 (s.write d ds).2.1] ∧ ∃ L', PagO w pk (s.write d ds).2.2 L' tl nm ∧ KStep w w L L' := by
    intro e hr
    rw [hr]
    exact ⟨rfl, L, h, KStep.refl _ _⟩
  refine CallR.mono (pfind_ok h d) ?_
  rintro v w1 ⟨rfl, ⟨hdn, rfl⟩ | ⟨x, hx, rfl⟩⟩
  · refine ⟨_, rfl, fun _ _ => False, condTr2 (bad 64 ?_), fun _ _ e => e.elim⟩
    have : s.find d 2 = 64 := by unfold AK.find; rw [hdn]
    unfold AK.write
    rw [this, if_pos (by simp)]
  obtain ⟨hn, hm, hob, hdb, htb, hO⟩ := h.ofX hx
  have hc1 := h.ok.c1
  have hdi := h.ok.di x hm
  obtain ⟨T, ta, tc, da, dc, hB⟩ := h.kb
  have hpl : placeF x.fl x.at_ (match s.objs x.ob with | .file bs => bs | _ => []) ≤ 1048576 ∧ 0 ≤ placeF x.fl x.at_ (match s.objs x.ob with | .file bs => bs | _ => []) := by
    unfold placeF
    split
    · cases ho : s.objs x.ob with
      | file bs => rw [ho] at hO; have := hO.fileLen; dsimp only; omega
      | term _ _ => simp
      | pipe _ _ _ => simp
    · omega
  refine ⟨_, rfl, fun vs w' => vs = [] ∧ w' = w1 ∧ 1 ≤ ds.length ∧ ds.length ≤ 1048576 ∧ (s.roomO x ds.length).2 = 0 ∧ s.write d ds = if (metF s.ps ds.length).2 ≠ 0 then (0, (metF s.ps ds.length).2, s.met1) else ((s.met1.wrO x ds (min (metF s.ps ds.length).1 (s.roomO x ds.length).1)).1, 0, (s.met1.wrO x ds (min (metF s.ps ds.length).1 (s.roomO x ds.length).1)).2), condFa2 (nnI ⟨_, hdb.at (i := 2) rfl, condI (fun h0 => bad 65 ?_) (fun h0 => ?_)⟩), ?_⟩
  · have h0 : bitI x.fl 2 = 0 := beq_iff_eq.1 h0
    have : s.find d 2 = 65 := by unfold AK.find; rw [hx]; exact if_pos (by rw [h0]; simp)
    unfold AK.write
    rw [this, if_pos (by simp)]
  · have h0 : bitI x.fl 2 = 2 := by
      rcases bit_way2 x.fl with e | e
      · exact absurd e (beq_eq_false_iff_ne.1 h0)
      · exact e
    have hf : ¬ s.find d 2 ≠ 0 := fun e => e (AK.find_of hx h0)
    refine condP (fun h1 => bad 5 (by unfold AK.write; rw [if_neg hf, if_pos (by omega)])) (fun h1 => condI (fun h3 => bad 0 ?_) (fun h3 => ?_))
    · have h3 : l = 0 := by simp at h3; omega
      unfold AK.write; rw [if_neg hf, if_neg (by omega), if_pos (by omega)]
    have h3 : l ≠ 0 := by simp at h3; omega
    have hwr : s.write d ds = if (s.roomO x ds.length).2 ≠ 0 then (0, (s.roomO x ds.length).2, s) else if (metF s.ps ds.length).2 ≠ 0 then (0, (metF s.ps ds.length).2, s.met1) else ((s.met1.wrO x ds (min (metF s.ps ds.length).1 (s.roomO x ds.length).1)).1, 0, (s.met1.wrO x ds (min (metF s.ps ds.length).1 (s.roomO x ds.length).1)).2) := by
      unfold AK.write
      rw [if_neg hf, if_neg (by omega), if_neg (by omega), hx]
    have no : ∀ e : Int, (s.roomO x ds.length).2 = e → e ≠ 0 → s.write d ds = (0, e, s) := fun e he hne => by rw [hwr, if_pos (by rw [he]; exact hne), he]
    have go : (s.roomO x ds.length).2 = 0 → ([] : List Value) = [] ∧ w1 = w1 ∧ 1 ≤ ds.length ∧ ds.length ≤ 1048576 ∧ (s.roomO x ds.length).2 = 0 ∧ s.write d ds = if (metF s.ps ds.length).2 ≠ 0 then (0, (metF s.ps ds.length).2, s.met1) else ((s.met1.wrO x ds (min (metF s.ps ds.length).1 (s.roomO x ds.length).1)).1, 0, (s.met1.wrO x ds (min (metF s.ps ds.length).1 (s.roomO x ds.length).1)).2) := fun hr =>
      ⟨rfl, rfl, by omega, by omega, hr, by rw [hwr, if_neg (by rw [hr]; simp)]⟩
    refine nnI ⟨_, hdb.at (i := 1) rfl, nnI ?_⟩
    cases ho : s.objs x.ob with
    | file bs =>
      rw [ho] at htb hpl
      have hkd : (s.objs x.ob).kd ≠ .con := by rw [ho]; simp [AObj.kd]
      have hro : s.roomO x ds.length = roomD (placeF x.fl x.at_ bs) ds.length := by unfold AK.roomO; rw [ho]
      have hrn : roomN s x = 1048576 - placeF x.fl x.at_ bs := by unfold roomN; rw [ho]
      obtain ⟨z1, z2⟩ := roomD_zero (p := placeF x.fl x.at_ bs) (n := (ds.length : Int)) hpl.1
      refine ⟨_, htb.at (i := 1) rfl, condFa2 (nnI ⟨_, hdb.at (i := 1) rfl, nnI ⟨_, htb.at (i := 1) rfl, condFa2 (nnI ⟨_, hdb.at (i := 1) rfl, nnI ⟨_, htb.at (i := 1) rfl, condTr2 (proom_ok h hx hkd ⟨_, rfl, condI (fun hz => ?_) (fun hz => ?_)⟩)⟩⟩)⟩⟩)⟩
      · exact bad 31 (no 31 (by rw [hro, z1 (by rw [← hrn]; simpa using hz)]) (by simp))
      · exact go (by rw [hro, z2 (by rw [← hrn]; simpa using hz)])
    | term LL scr =>
      rw [ho] at htb hO
      have hsl := hO.scrLen
      have hkd : (s.objs x.ob).kd ≠ .con := by rw [ho]; simp [AObj.kd]
      have hro : s.roomO x ds.length = roomD (scr.length : Int) ds.length := by unfold AK.roomO; rw [ho]
      have hrn : roomN s x = 1048576 - (scr.length : Int) := by unfold roomN; rw [ho]
      obtain ⟨z1, z2⟩ := roomD_zero (p := (scr.length : Int)) (n := (ds.length : Int)) (by omega)
      refine ⟨_, htb.at (i := 1) rfl, condFa2 (nnI ⟨_, hdb.at (i := 1) rfl, nnI ⟨_, htb.at (i := 1) rfl, condFa2 (nnI ⟨_, hdb.at (i := 1) rfl, nnI ⟨_, htb.at (i := 1) rfl, condTr2 (proom_ok h hx hkd ⟨_, rfl, condI (fun hz => ?_) (fun hz => ?_)⟩)⟩⟩)⟩⟩)⟩
      · exact bad 31 (no 31 (by rw [hro, z1 (by rw [← hrn]; simpa using hz)]) (by simp))
      · exact go (by rw [hro, z2 (by rw [← hrn]; simpa using hz)])
    | pipe bs e0 e1 =>
      rw [ho] at htb hO
      have hO : RefP w1 (L.loc x.ob) (fun z => L.own z = some (.obj x.ob)) bs e0 e1 := hO
      have hro : s.roomO x ds.length = roomC ds.length bs e0 e1 := by unfold AK.roomO; rw [ho]
      obtain ⟨_, _, pa, pl, pc, hpb, _⟩ := id hO
      refine ⟨_, htb.at (i := 1) rfl, condTr2 (nnI ⟨_, hdb.at (i := 1) rfl, nnI ⟨_, htb.at (i := 4) rfl, nnI ⟨_, hpb.at (i := 1) rfl, condI (fun hz => bad 53 (no 53 ?_ (by simp))) (fun hz => ?_)⟩⟩⟩)⟩
      · have hz : e0 = 0 := by simp at hz; omega
        rw [hro]; unfold roomC; rw [if_pos hz]
      have hz : e0 ≠ 0 := by simp at hz; omega
      refine nnI ⟨_, hdb.at (i := 1) rfl, nnI ⟨_, htb.at (i := 1) rfl, condTr2 (nnI ⟨_, hdb.at (i := 1) rfl, nnI ⟨_, htb.at (i := 4) rfl, rcanw_to hO _ ⟨_, rfl, ?_⟩⟩⟩)⟩⟩
      have hll : ((l : Nat) : Int) = (ds.length : Int) := by omega
      rw [hll]
      refine condI (fun hcw => bad 52 (no 52 ?_ (by simp))) (fun hcw => ?_)
      · rw [hro]; unfold roomC; rw [if_neg hz, if_pos (by simpa using hcw)]
      · exact nnI ⟨_, hdb.at (i := 1) rfl, nnI ⟨_, htb.at (i := 1) rfl, condFa2 (go (by rw [hro]; unfold roomC; rw [if_neg hz, if_neg (by simpa using hcw)]))⟩⟩
  rintro _ w2 ⟨-, rfl, h1, h2, hro, hwr⟩
  rw [hwr]
  clear bad hwr
  refine nnI ⟨_, hB.b.at (i := 5) rfl, ⟨by omega, by omega⟩, nnI (stC_at hB.b (i := 5) (by simp) fun w3 hb3 hk3 _ => ?_)⟩
  have hb3 : Blk w3 pk #[.slice ta T.length tc, .slice da s.descs.length dc, .int .i64 s.next, pd L.pg, .int .i64 s.c0, .int .i64 (s.c1 + 1)] := hb3
  have hll : ((l : Nat) : Int) = (ds.length : Int) := by omega
  refine nnI ⟨_, hb3.at (i := 3) rfl, ?_⟩
  rw [hll]
  refine CallR.mono (pmet_ok h (wr := true) (n := (ds.length : Int)) (by omega) (by omega) hB hb3 hk3) ?_
  rintro v w4 ⟨rfl, h4, st4, k4⟩
  have h4 : PagO w4 pk s.met1 L tl nm := h4
  refine ⟨_, _, rfl, ?_⟩
  by_cases he : (metF s.ps ds.length).2 ≠ 0
  · rw [if_pos he]
    exact condT (by simpa using he) ⟨rfl, L, h4, st4⟩
  have he : (metF s.ps ds.length).2 = 0 := by simpa using he
  rw [if_neg (by simpa using he)]
  obtain ⟨hm1, hm2⟩ := metF_bound h.ok.pm (n := (ds.length : Int)) (by omega) (by omega) he
  generalize (metF s.ps ds.length).1 = m at hm1 hm2 ⊢
  have hne : ds ≠ [] := fun e => by rw [e] at h1; simp at h1
  have hap := hap hne
  have hd4 : RdB w4 a l c ds := hd.keep k4 fun b _ hb e => by
    have := hap b hb
    rcases e with rfl | rfl
    · rw [h.oK] at this; cases this
    · rw [h.oP] at this; cases this
  have hx4 : s.met1.desc d = some x := hx
  obtain ⟨_, _, _, hdb4, htb4, hO4⟩ := h4.ofX hx4
  have htb4 : Blk w4 (tl x.ob) (thC (nm x.ob) (s.objs x.ob).kd (L.loc x.ob)) := htb4
  have hO4 : PObj L w4 x.ob (s.objs x.ob) := hO4
  refine condF (by rw [he]; rfl) (nnI ⟨_, hdb4.at (i := 1) rfl, nnI ?_⟩)
  cases ho : s.objs x.ob with
  | pipe bs e0 e1 =>
    rw [ho] at htb4 hO4
    have hO4 : RefP w4 (L.loc x.ob) (fun z => L.own z = some (.obj x.ob)) bs e0 e1 := hO4
    have hroC : s.roomO x ds.length = roomC ds.length bs e0 e1 := by unfold AK.roomO; rw [ho]
    rw [hroC] at hro ⊢
    have hE : e0 ≠ 0 ∧ canWP ds.length bs e0 e1 = true ∧ (roomC ds.length bs e0 e1).1 = ds.length := by
      unfold roomC at hro ⊢
      by_cases z : e0 = 0
      · rw [if_pos z] at hro; cases hro
      rw [if_neg z] at hro ⊢
      by_cases y : canWP ds.length bs e0 e1 = false
      · rw [if_pos y] at hro; cases hro
      · rw [if_neg y]; exact ⟨z, by simpa using y, rfl⟩
    rw [hE.2.2, Int.min_eq_left (by omega)]
    refine ⟨_, htb4.at (i := 1) rfl, condTr2 (nnI ⟨_, hdb4.at (i := 1) rfl, nnI ⟨_, htb4.at (i := 4) rfl, CallR.mono (rwrite_ok hO4 hd4 (fun _ e => by have := hap _ e; rw [hO4.1] at this; cases this) m) ?_⟩⟩)⟩
    rintro v w5 ⟨rfl, hO5, hk5⟩
    have hcw := hE.2.1
    unfold canWP at hcw
    simp only [decide_eq_true_eq] at hcw
    have hr0 : (writeP ds m bs e0 e1).2.1 = 0 := by
      unfold writeP
      rw [if_neg (by omega), if_neg (by omega), if_neg (by omega), if_neg hE.1, if_neg hne, if_neg]
      intro e
      rcases hcw.2.2.2 with e2 | e2
      · exact hE.1 e2
      · rw [e] at e2; omega
    have hwr0 : s.met1.wrO x ds m = ((writeP ds m bs e0 e1).1, s.met1.setO x.ob (.pipe (writeP ds m bs e0 e1).2.2 e0 e1)) := by
      unfold AK.wrO
      rw [show s.met1.objs x.ob = .pipe bs e0 e1 from ho]
    rw [hwr0, hr0]
    obtain ⟨L', r1, r2⟩ := h4.obj hk5 (fun z hz => by rw [hz]; exact hO4.1) (o := .pipe (writeP ds m bs e0 e1).2.2 e0 e1) (by show TK.con = (s.objs x.ob).kd; rw [ho]; rfl) (F := fun z => L.own z = some (.obj x.ob) ∨ (w4.heap.size ≤ z ∧ z < w5.heap.size)) (fun z hz => hz.imp (fun e => e) fun e => e.1) hO5
    exact ⟨_, _, rfl, rfl, L', r1, st4.trans r2⟩
  | term LL scr =>
    rw [ho] at htb4 hO4
    have hsl := hO4.scrLen
    have hO4 : RefT (fun z => L.own z = some (.obj x.ob)) (fun z => L.own z = some (.lines x.ob)) w4 (L.loc x.ob) LL scr := hO4
    have hkd : (s.met1.objs x.ob).kd ≠ .con := by show (s.objs x.ob).kd ≠ .con; rw [ho]; simp [AObj.kd]
    have hrn : roomN s.met1 x = 1048576 - (scr.length : Int) := by unfold roomN; rw [show s.met1.objs x.ob = .term LL scr from ho]
    have hroD : s.roomO x ds.length = roomD (scr.length : Int) ds.length := by unfold AK.roomO; rw [ho]
    obtain ⟨z1, z2⟩ := roomD_zero (p := (scr.length : Int)) (n := (ds.length : Int)) (by omega)
    have hz : 1048576 - (scr.length : Int) ≠ 0 := fun e => by rw [hroD, z1 e] at hro; cases hro
    rw [hroD, z2 hz]
    have hmm : mn m (1048576 - (scr.length : Int)) = ((min ds.length (min m (mn ds.length (1048576 - (scr.length : Int)))).toNat : Nat) : Int) := by rw [mn_eq, mn_eq]; omega
    have hwr0 : s.met1.wrO x ds (min m (mn ds.length (1048576 - (scr.length : Int)))) = (mn m (1048576 - (scr.length : Int)), s.met1.setO x.ob (.term LL (writeT (ds.take (Int.toNat (mn m (1048576 - (scr.length : Int))))) scr).2)) := by
      unfold AK.wrO
      rw [show s.met1.objs x.ob = .term LL scr from ho]
      dsimp only
      rw [← hmm, hmm, Int.toNat_natCast]
    rw [hwr0]
    refine ⟨_, htb4.at (i := 1) rfl, condFa2 (proom_ok h4 hx4 hkd ⟨_, rfl, nnI ⟨_, hdb4.at (i := 1) rfl, nnI ⟨_, htb4.at (i := 1) rfl, condTr2 ?_⟩⟩⟩)⟩
    rw [hrn]
    intro w8
    have hk8 : Kept No w4 w8 := Kept.drew _ _
    clear_value w8
    have hmb : 0 ≤ mn m (1048576 - (scr.length : Int)) ∧ mn m (1048576 - (scr.length : Int)) ≤ ds.length := by rw [mn_eq]; omega
    refine nnI ⟨_, (hdb4.keep hk8 fun e => e).at (i := 1) rfl, nnI ⟨_, (htb4.keep hk8 fun e => e).at (i := 3) rfl, ⟨by omega, by omega⟩, CallR.mono (rwriteT_ok (RefT.keep hO4 hk8 (fun _ _ e => e) fun _ _ e => e) (RdB.take (hd4.keep hk8 fun _ _ _ e => e) (k := Int.toNat (mn m (1048576 - (scr.length : Int)))) (by omega)) (by omega)) ?_⟩⟩
    rintro v w9 ⟨rfl, F', hO9, hF', hk9⟩
    obtain ⟨L', r1, r2⟩ := (h4.no hk8).obj hk9 (fun z hz => hz) (o := .term LL (writeT (ds.take (Int.toNat (mn m (1048576 - (scr.length : Int))))) scr).2) (by show TK.scr = (s.objs x.ob).kd; rw [ho]; rfl) (F := F') hF' hO9
    exact ⟨_, rfl, rfl, L', r1, (st4.no hk8).trans r2⟩
  | file bs =>
    rw [ho] at htb4 hO4 hpl
    have hpl : placeF x.fl x.at_ bs ≤ 1048576 ∧ 0 ≤ placeF x.fl x.at_ bs := hpl
    have hfl := hO4.fileLen
    have hO4 : RefO (fun z => L.own z = some (.obj x.ob)) w4 (L.loc x.ob) bs := hO4
    have hkd : (s.met1.objs x.ob).kd ≠ .con := by show (s.objs x.ob).kd ≠ .con; rw [ho]; simp [AObj.kd]
    have hrn : roomN s.met1 x = 1048576 - placeF x.fl x.at_ bs := by unfold roomN; rw [show s.met1.objs x.ob = .file bs from ho]
    have hroD : s.roomO x ds.length = roomD (placeF x.fl x.at_ bs) ds.length := by unfold AK.roomO; rw [ho]
    obtain ⟨z1, z2⟩ := roomD_zero (p := placeF x.fl x.at_ bs) (n := (ds.length : Int)) hpl.1
    have hz : 1048576 - placeF x.fl x.at_ bs ≠ 0 := fun e => by rw [hroD, z1 e] at hro; cases hro
    rw [hroD, z2 hz]
    obtain ⟨p, hp⟩ : ∃ p, p = placeF x.fl x.at_ bs := ⟨_, rfl⟩
    rw [← hp] at hrn hz hpl ⊢
    obtain ⟨k, hk⟩ : ∃ k : Nat, ((k : Nat) : Int) = mn m (1048576 - p) := ⟨(mn m (1048576 - p)).toNat, by rw [mn_eq]; omega⟩
    have hmm : min ds.length (min m (mn ds.length (1048576 - p))).toNat = k := by rw [mn_eq] at hk ⊢; omega
    have hkl : k ≤ ds.length := by rw [mn_eq] at hk; omega
    have hkp : p + (k : Int) ≤ 1048576 := by rw [mn_eq] at hk; omega
    have hwr0 : s.met1.wrO x ds (min m (mn ds.length (1048576 - p))) = ((k : Int), (s.met1.setO x.ob (.file (writeF bs p (ds.take k)).2)).setD d (p + (k : Int)) x.hd) := by
      unfold AK.wrO
      rw [show s.met1.objs x.ob = .file bs from ho]
      dsimp only
      rw [hmm, ← hp, hn]
    rw [hwr0]
    have hdfn : L.own (L.dloc d) = some (.desc d) := by have := h.od x hm; rw [hn] at this; exact this
    refine ⟨_, htb4.at (i := 1) rfl, condFa2 (proom_ok h4 hx4 hkd ⟨_, rfl, nnI ⟨_, hdb4.at (i := 1) rfl, nnI ⟨_, htb4.at (i := 1) rfl, condFa2 ?_⟩⟩⟩)⟩
    rw [hrn, ← hk]
    refine ⟨fun vs w' => vs = [] ∧ Kept (· = L.dloc d) w4 w' ∧ Blk w' (L.dloc d) (pdC d (tl x.ob) x.fl p x.hd), ?_, ?_⟩
    · refine nnI ⟨_, hdb4.at (i := 2) rfl, condI (fun h4 => ?_) (fun h4 => ?_)⟩
      · have h4 : bitI x.fl 4 ≠ 0 := bne_iff_ne.1 h4
        obtain ⟨fa, fl, fc, hfb, hfo, _, _, _⟩ := id hO4
        have hfol := hfo.len
        refine nnI ⟨_, hdb4.at (i := 1) rfl, nnI ⟨_, htb4.at (i := 2) rfl, nnI ⟨_, _, _, hfb.at0 rfl, nnI (stC_at hdb4 (i := 3) (by simp [pdC]) fun w5 hdb5 hk5 _ => ⟨rfl, hk5, ?_⟩)⟩⟩⟩
        have hpe : p = ((fl : Nat) : Int) := by rw [hp]; unfold placeF; rw [if_pos h4]; omega
        rw [hpe]; exact hdb5
      · have h4 : ¬ bitI x.fl 4 ≠ 0 := fun e => by
          have : (bitI x.fl 4 != 0) = false := h4
          rw [bne_iff_ne.2 e] at this; cases this
        have hpe : p = x.at_ := by rw [hp]; unfold placeF; rw [if_neg h4]
        exact ⟨rfl, Kept.refl _ _, by rw [hpe]; exact hdb4⟩
    rintro _ w5 ⟨-, hk5, hdb5⟩
    intro w6
    have hk6 : Kept No w5 w6 := Kept.drew _ _
    clear_value w6
    have hdb6 := hdb5.keep hk6 fun e => e
    have k46 : Kept (· = L.dloc d) w4 w6 := hk5.no hk6
    have hnd : ∀ z t, L.own z = some t → t ≠ .desc d → ¬ z = L.dloc d := fun z t hz ht e => by rw [e, hdfn] at hz; cases hz; exact ht rfl
    have htb6 := htb4.keep k46 (hnd _ _ (h4.th x.ob hob).2 (by simp))
    have hO6 := RefO.keep hO4 k46 fun z hz => hnd _ _ hz (by simp)
    have hd6 := hd4.keep k46 fun b _ hb e => by have := hap b hb; rw [e, hdfn] at this; cases this
    have hapF : ds.take k ≠ [] → ∀ b, inA a b → ¬ L.own b = some (.obj x.ob) := fun _ b hb e => by rw [hap b hb] at e; cases e
    refine nnI ⟨_, hdb6.at (i := 1) rfl, nnI ⟨_, htb6.at (i := 2) rfl, nnI ⟨_, hdb6.at (i := 3) rfl, ⟨by omega, by omega⟩, ?_⟩⟩⟩
    have ek : Int.toNat (k : Int) = k := Int.toNat_natCast k
    rw [ek]
    refine CallR.mono (rWriteAt_ok hO6 p (RdB.take hd6 (k := k) (by omega)) (by omega) hapF) ?_
    rintro v w7 ⟨rfl, F', hO7, hG, hk7⟩
    have hdb7 := hdb6.keep hk7 fun e => by rw [hdfn] at e; cases e
    refine ⟨_, rfl, nnI ⟨_, hdb7.at (i := 3) rfl, ⟨by omega, by omega⟩, nnI (stC_at hdb7 (i := 3) (by simp [pdC]) fun w8 hdb8 hk8 _ => ?_)⟩⟩
    have hdb8 : Blk w8 (L.dloc d) (pdC d (tl x.ob) x.fl (p + (k : Int)) x.hd) := hdb8
    have hF'd : ¬ F' (L.dloc d) := fun e => by
      rcases hG _ e with e | e
      · rw [hdfn] at e; cases e
      · have := hdb6.lt; omega
    have hO8 := RefO.keep hO7 hk8 fun z hz e => hF'd (by rw [← e]; exact hz)
    have kall : Kept (fun z => L.own z = some (.obj x.ob) ∨ L.own z = some (.desc d)) w4 w8 :=
      ((k46.mono fun _ _ e => by rw [e]; exact .inr hdfn : Kept (fun z => L.own z = some (.obj x.ob) ∨ L.own z = some (.desc d)) w4 w6).trans (hk7.mono fun _ _ e => .inl e) fun _ _ e => e).trans (hk8.mono fun _ _ e => by rw [e]; exact .inr hdfn) fun _ _ e => e
    have z46 := k46.size
    have hD' : ∀ y ∈ s.met1.descs, y.num = d → Blk w8 (L.dloc d) (pdC d (tl y.ob) y.fl (p + (k : Int)) x.hd) := fun y hy e => by
      have hyx : s.met1.desc d = some y := by
        have hy' : y ∈ s.descs := hy
        have : y = x := by
          obtain ⟨i, hi, rfl⟩ := List.mem_iff_getElem.1 hy'
          obtain ⟨j, hj, rfl⟩ := List.mem_iff_getElem.1 hm
          have e1 : (s.descs.map (·.num))[i]'(by simpa using hi) = (s.descs.map (·.num))[j]'(by simpa using hj) := by rw [List.getElem_map, List.getElem_map]; exact e.trans hn.symm
          have := (List.getElem_inj h.ok.dn).1 e1
          subst this; rfl
        rw [this]; exact hx4
      rw [hx4] at hyx
      cases hyx
      exact hdb8
    obtain ⟨L', r1, r2, _⟩ := h4.objD (i := x.ob) (d := d) kall (fun z e => e) (o := .file (writeF bs p (ds.take k)).2) (by show TK.disk = (s.objs x.ob).kd; rw [ho]; rfl) (F := F') (fun z hz => (hG z hz).imp (fun e => e) fun e => by omega) hO8 (at' := p + (k : Int)) (hd' := x.hd) hD' ⟨by omega, hkp, hdi.2.2.2.1, hdi.2.2.2.2.1⟩
    exact ⟨rfl, L', r1, st4.trans r2⟩

end Go.Proofs.YtpoaacnnhgebfaaGreat

namespace Go.Proofs.YtpoaacnnhgebfaaGreat
open Go.Lw

theorem run_eqPtr {P : Program} {w : World} {t te : TypeId} {j : TypeInfo} (d : Nat) {a b : Addr} (hu : P.underlying t = some (.pointer te)) (hj : P.info? te = some j) (hs : j.size ≠ 0) {r : Bool} (h : (sameAddr a b).run P w = .ok r w) : (Op.equalIn (d + 1) t (.pointer (some a)) (.pointer (some b))).run P w = .ok r w := by
  simp [Op.equalIn, run_underlying hu, sizeOf, typeInfo, hj, hs, h]

theorem nePtr {w : World} {a b : Nat} {A B : Array Value} (hA : Blk w a A) (hB : Blk w b B) {x y : Operand} :
    Sem.run Tryz.prog (Sem.bind (eqGuard .neq 265 x y (pd a) (pd b)) (fun _ => binOp .neq 265 (pd a) (pd b))) w = .ok (.bool (!decide (a = b))) w := by
  have hu : Tryz.prog.underlying 265 = some (.pointer 268) := by kernel_rfl
  have hs : ((Tryz.prog.info? 268).map fun j => decide (j.size ≠ 0)) = some true := by kernel_rfl
  obtain ⟨j, hj, hjs⟩ : ∃ j, Tryz.prog.info? 268 = some j ∧ j.size ≠ 0 := by
    generalize Tryz.prog.info? 268 = o at hs
    cases o with
    | none => cases hs
    | some j => exact ⟨j, rfl, by simpa using hs⟩
  have hsame : (sameAddr ⟨a, 0, none⟩ ⟨b, 0, none⟩).run Tryz.prog w = .ok (decide (a = b)) w := by
    by_cases e : a = b
    · subst e
      rw [decide_eq_true rfl]
      exact run_sameAddr_same w _
    · obtain ⟨ta, ha⟩ := hA
      obtain ⟨tb, hb⟩ := hB
      have hne : (⟨a, 0, none⟩ : Addr) ≠ ⟨b, 0, none⟩ := fun h => e (by cases h; rfl)
      rw [decide_eq_false e]
      exact run_sameAddr_other w hne ha hb
  have he : (Op.equal 265 (pd a) (pd b)).run Tryz.prog w = .ok (decide (a = b)) w := run_eqPtr 9999 hu hj hjs hsame
  have h0 : eqGuard .neq 265 x y (pd a) (pd b) = pure () := rfl
  have h1 : binOp .neq 265 (pd a) (pd b) = (do pure (.bool (!(← Op.equal 265 (pd a) (pd b))))) := rfl
  rw [h0, h1, run_Bind', Sem.run_pure, Result.andThen_ok, Sem.run_bind, he]
  rfl

theorem pmove_to {w : World} {b off most : Int} (h1 : 0 ≤ b) (h2 : b ≤ 1048576) (hm : most = 1048576) {Q : Value → World → Prop} (hq : Q (if off < -b ∨ off > most - b then .tuple #[.int .i64 0, .bool false] else .tuple #[.int .i64 (b + off), .bool true]) w) : CallR Tryz.prog 151 [.int .i64 b, .int .i64 off, .int .i64 most] w Q := by
  refine C151 ?_
  unfold L151
  subst hm
  refine ⟨⟨by omega, by omega⟩, condP (fun h => ?_) (fun h => ⟨⟨by omega, by omega⟩, condP (fun g => ?_) (fun g => ⟨⟨by omega, by omega⟩, ?_⟩)⟩)⟩
  · rw [if_pos (.inl (by omega))] at hq; exact hq
  · rw [if_pos (.inr (by omega))] at hq; exact hq
  · rw [if_neg (by omega)] at hq; exact hq

theorem PagO.dlInj {w : World} {pk : Nat} {s : AK} {L : KL} {tl : Nat → Nat} {nm : Nat → ByteArray} (h : PagO w pk s L tl nm) {x y : AD} (hx : x ∈ s.descs) (hy : y ∈ s.descs) (e : L.dloc x.num = L.dloc y.num) : x.num = y.num := by
  have h1 := h.od x hx
  have h2 := h.od y hy
  rw [e, h2] at h1
  simp only [Option.some.injEq, Tag.desc.injEq] at h1
  exact h1.symm

theorem bit_zero (n : Int) : bitI n 0 = 0 := by
  unfold bitI
  rw [show BitVec.ofInt (IntKind.bits .i64) 0 = 0#(IntKind.bits .i64) from rfl, BitVec.and_zero]
  rfl

theorem AK.find0 {s : AK} {d : Int} {x : AD} (h : s.desc d = some x) : ¬ s.find d 0 ≠ 0 := fun e => e (AK.find_of h (bit_zero _))
theorem AK.find0n {s : AK} {d : Int} (h : s.desc d = none) : s.find d 0 = 64 := by unfold AK.find; rw [h]

set_option maxHeartbeats 1000000 in
theorem pseek_ok {w : World} {pk : Nat} {s : AK} {L : KL} {tl : Nat → Nat} {nm : Nat → ByteArray} (h : PagO w pk s L tl nm) (d off wh : Int) :
    CallR Tryz.prog 69 [pd pk, .int .i64 d, .int .i64 off, .int .i64 wh] w fun v w' => v = .tuple #[.int .i64 (s.seek d off wh).1, .int .i64 (s.seek d off wh).2.1] ∧ ∃ L', PagO w' pk (s.seek d off wh).2.2 L' tl nm ∧ KStep w w' L L' := by
  refine C69 ?_
  unfold L69
  have bad : ∀ (e : Int), s.seek d off wh = (0, e, s) → (.tuple #[.int .i64 0, .int .i64 e] : Value) = .tuple #[.int .i64 (s.seek d off wh).1, .int .i64 (s.seek d off wh).2.1] ∧ ∃ L', PagO w pk (s.seek d off wh).2.2 L' tl nm ∧ KStep w w L L' := by
    intro e hr
    rw [hr]
    exact ⟨rfl, L, h, KStep.refl _ _⟩
  refine CallR.mono (pfind_ok h d) ?_
  rintro v w1 ⟨rfl, ⟨hdn, rfl⟩ | ⟨x, hx, rfl⟩⟩
  · refine ⟨_, rfl, condTr2 (bad 64 ?_)⟩
    unfold AK.seek
    rw [AK.find0n hdn, if_pos (by simp)]
  obtain ⟨hn, hm, hob, hdb, htb, hO⟩ := h.ofX hx
  have hdi := h.ok.di x hm
  have hsk : s.seek d off wh = match s.objs x.ob with
      | .file bs =>
        if wh < 0 ∨ wh > 2 then (0, 1, s) else
          let base : Int := if wh = 0 then 0 else if wh = 1 then x.at_ else (bs.length : Int)
          if off < -base ∨ off > 1048576 - base then (0, 4, s) else (base + off, 0, s.setD d (base + off) x.hd)
      | _ => (0, 66, s) := by
    unfold AK.seek
    rw [if_neg (AK.find0 hx), hx]
    rfl
  refine ⟨_, rfl, condFa2 (nnI ⟨_, hdb.at (i := 1) rfl, nnI ?_⟩)⟩
  cases ho : s.objs x.ob with
  | term LL scr =>
    rw [ho] at htb hsk
    exact ⟨_, htb.at (i := 1) rfl, condTr2 (bad 66 hsk)⟩
  | pipe bs e0 e1 =>
    rw [ho] at htb hsk
    exact ⟨_, htb.at (i := 1) rfl, condTr2 (bad 66 hsk)⟩
  | file bs =>
    rw [ho] at htb hO hsk
    dsimp only at hsk
    have hfl := hO.fileLen
    obtain ⟨fa, fl, fc, hfb, hfo, _, _, _⟩ : RefO _ w1 (L.loc x.ob) bs := hO
    have hfol := hfo.len
    refine ⟨_, htb.at (i := 1) rfl, condFa2 (condP (fun g => bad 1 (by rw [hsk, if_pos (.inl g)])) (fun g => condP (fun g2 => bad 1 (by rw [hsk, if_pos (.inr g2)])) (fun g2 => ?_)))⟩
    rw [if_neg (by omega)] at hsk
    refine ⟨fun vs w' => vs = [.int .i64 (if wh = 0 then 0 else if wh = 1 then x.at_ else (bs.length : Int))] ∧ w' = w1, ?_, ?_⟩
    · refine condI (fun e => ?_) (fun e => condI (fun e2 => ?_) (fun e2 => ?_))
      · have e : wh = 1 := by simpa using e
        exact nnI ⟨_, hdb.at (i := 3) rfl, by rw [if_neg (by omega), if_pos e], rfl⟩
      · have e2 : wh = 2 := by simpa using e2
        refine nnI ⟨_, hdb.at (i := 1) rfl, nnI ⟨_, htb.at (i := 2) rfl, nnI ⟨_, _, _, hfb.at0 rfl, ?_, rfl⟩⟩⟩
        rw [if_neg (by omega), if_neg (by omega), hfol]
      · have e : wh ≠ 1 := by simpa using e
        have e2 : wh ≠ 2 := by simpa using e2
        exact ⟨by rw [if_pos (by omega)], rfl⟩
    rintro _ n20 w2 ⟨hv, rfl⟩
    simp only [List.cons.injEq, Value.int.injEq, true_and, and_true] at hv
    have hbb : 0 ≤ n20 ∧ n20 ≤ 1048576 := by
      rw [hv]
      split
      · omega
      · split <;> omega
    rw [← hv] at hsk
    refine pmove_to hbb.1 hbb.2 rfl ?_
    by_cases hc : off < -n20 ∨ off > 1048576 - n20
    · rw [if_pos hc] at hsk ⊢
      exact ⟨_, _, rfl, condTr2 (bad 4 hsk)⟩
    · rw [if_neg hc] at hsk ⊢
      refine ⟨_, _, rfl, condFa2 (nnI (stC_at hdb (i := 3) (by simp [pdC]) fun w4 hdb4 hk4 _ => ?_))⟩
      have hdb4 : Blk w4 (L.dloc d) (pdC d (tl x.ob) x.fl (n20 + off) x.hd) := hdb4
      rw [hsk]
      obtain ⟨L', r1, r2⟩ := h.desc hx hk4 hdb4 ⟨by omega, by omega, hdi.2.2.2.1, hdi.2.2.2.2.1⟩
      exact ⟨rfl, L', r1, r2⟩

theorem pkeep_ok {w : World} {pk : Nat} {s : AK} {L : KL} {tl : Nat → Nat} {nm : Nat → ByteArray} (h : PagO w pk s L tl nm) (d : Int) :
    CallR Tryz.prog 71 [pd pk, .int .i64 d] w fun v w' => v = .int .i64 (s.keep d).1 ∧ ∃ L', PagO w' pk (s.keep d).2 L' tl nm ∧ KStep w w' L L' := by
  refine C71 ?_
  unfold L71
  have bad : ∀ (e : Int), s.keep d = (e, s) → (.int .i64 e : Value) = .int .i64 (s.keep d).1 ∧ ∃ L', PagO w pk (s.keep d).2 L' tl nm ∧ KStep w w L L' := by
    intro e hr
    rw [hr]
    exact ⟨rfl, L, h, KStep.refl _ _⟩
  refine CallR.mono (pfind_ok h d) ?_
  rintro v w1 ⟨rfl, ⟨hdn, rfl⟩ | ⟨x, hx, rfl⟩⟩
  · refine ⟨_, rfl, condTr2 (bad 64 ?_)⟩
    unfold AK.keep
    rw [AK.find0n hdn, if_pos (by simp)]
  obtain ⟨hn, hm, hob, hdb, htb, hO⟩ := h.ofX hx
  have hdi := h.ok.di x hm
  have hkp : s.keep d = if x.hd ≥ 1024 then (3, s) else (0, s.setD d x.at_ (x.hd + 1)) := by
    unfold AK.keep
    rw [if_neg (AK.find0 hx), hx]
  refine ⟨_, rfl, condFa2 (nnI ⟨_, hdb.at (i := 4) rfl, condP (fun g => bad 3 (by rw [hkp, if_pos g])) (fun g => nnI ⟨_, hdb.at (i := 4) rfl, ⟨by omega, by omega⟩, nnI (stC_at hdb (i := 4) (by simp [pdC]) fun w4 hdb4 hk4 _ => ?_)⟩)⟩)⟩
  have hdb4 : Blk w4 (L.dloc d) (pdC d (tl x.ob) x.fl x.at_ (x.hd + 1)) := hdb4
  rw [hkp, if_neg g]
  obtain ⟨L', r1, r2⟩ := h.desc hx hk4 hdb4 ⟨hdi.2.1, hdi.2.2.1, by omega, by omega⟩
  exact ⟨rfl, L', r1, r2⟩

/-- A description gone. -/
theorem PagO.delD {w w' : World} {pk : Nat} {s : AK} {L : KL} {tl : Nat → Nat} {nm : Nat → ByteArray} (h : PagO w pk s L tl nm) {d : Int} {x : AD} (hx : s.desc d = some x) (k : Kept (fun z => z = pk ∨ z = L.dloc d) w w')
    {T : List (ByteArray × Nat)} {ta : Option Addr} {tc : Nat} {da : Option Addr} {dc : Nat} (hB : PKb w pk s L tl T ta tc da dc) {a : Option Addr} {c : Nat}
    (hb : Blk w' pk #[.slice ta T.length tc, .slice a (s.delD d).descs.length c, .int .i64 s.next, pd L.pg, .int .i64 s.c0, .int .i64 s.c1]) (hs : SlO 1 w' a (s.delD d).descs.length c ((s.delD d).descs.map fun y => pd (L.dloc y.num))) (ha : ∀ z, inA a z → w.heap.size ≤ z) :
    ∃ L', PagO w' pk (s.delD d) L' tl nm ∧ KStep w w' L L' := by
  obtain ⟨hn, hm, hob, hdb, htb, hO⟩ := h.ofX hx
  have hdf : L.own (L.dloc d) = some (.desc d) := by have := h.od x hm; rw [hn] at this; exact this
  have hA : ∀ z, inA a z → L.own z = some .md ∨ L.own z = none := fun z hz => .inr (h.new_none (ha z hz))
  let L1 := L.setT .md (inA a)
  let L' := L1.setT (.desc d) (fun _ => False)
  have ow : ∀ z t, t ≠ .md → t ≠ .desc d → (L'.own z = some t ↔ L.own z = some t) := fun z t h1 h2 => (L1.setT_ne (fun z hz => hz.elim) z h2).trans (L.setT_ne hA z h1)
  have no : ∀ z t, L.own z = some t → t ≠ .kern → t ≠ .desc d → ¬ (z = pk ∨ z = L.dloc d) := by
    rintro z t hz h1 h2 (rfl | rfl)
    · rw [h.oK] at hz; cases hz; exact h1 rfl
    · rw [hdf] at hz; cases hz; exact h2 rfl
  have hmem : ∀ y ∈ (s.delD d).descs, y ∈ s.descs ∧ y.num ≠ d := fun y hy => by
    have hy : y ∈ s.descs.filter fun x => decide (x.num ≠ d) := hy
    rw [List.mem_filter] at hy
    exact ⟨hy.1, by simpa using hy.2⟩
  refine ⟨L', ⟨⟨T, ta, tc, a, c, hb, hB.ts.keep k fun b hb' => no _ _ (hB.to b hb') (by simp) (by simp), fun b hb' => (ow _ _ (by simp) (by simp)).2 (hB.to b hb'), hs, fun b hb' => (L1.setT_ne (fun z hz => hz.elim) b (by simp)).2 ((L.setT_eq _ _ b).2 hb'), hB.pm, hB.so⟩, fun j hj => ⟨(h.th j hj).1.keep k (no _ _ (h.th j hj).2 (by simp) (by simp)), (ow _ _ (by simp) (by simp)).2 (h.th j hj).2⟩, h.nn, fun j hj => ?_, fun y hy => ?_, ?_, (ow _ _ (by simp) (by simp)).2 h.oK, (ow _ _ (by simp) (by simp)).2 h.oP, fun y hy => ?_, fun z hz => ?_, h.ok.delD d⟩, ⟨k.mono fun z _ hz => ?_, fun z hz => ?_⟩⟩
  · exact (PObjF.keep (h.ob j hj) k (fun z hz => no _ _ hz (by simp) (by simp)) (fun z hz => no _ _ hz (by simp) (by simp))).congr (fun z => (ow z _ (by simp) (by simp)).symm) (fun z => (ow z _ (by simp) (by simp)).symm)
  · obtain ⟨h1, h2⟩ := hmem y hy
    exact (h.ds y h1).keep k (no _ _ (h.od y h1) (by simp) (by simpa using h2))
  · obtain ⟨pa, pl, pc, p1, p2, p3⟩ := h.pl
    exact ⟨pa, pl, pc, p1.keep k (no _ _ h.oP (by simp) (by simp)), p2.keep k (fun b _ hb' => no _ _ (p3 b hb') (by simp) (by simp)), fun b hb' => (ow _ _ (by simp) (by simp)).2 (p3 b hb')⟩
  · obtain ⟨h1, h2⟩ := hmem y hy
    exact (ow _ _ (by simp) (by simpa using h2)).2 (h.od y h1)
  · rcases L1.setT_some _ _ hz with e | e
    · exact e.elim
    · rcases L.setT_some _ _ e with e | e
      · exact SlO.lt hs z e
      · exact Nat.lt_of_lt_of_le (h.lt z e) k.size
  · rcases hz with rfl | rfl
    · rw [h.oK]; simp
    · rw [hdf]; simp
  · rcases L1.setT_some _ _ hz with e | e
    · exact e.elim
    · rcases L.setT_some _ _ e with e | e
      · exact .inr (ha z e)
      · exact .inl e

set_option maxHeartbeats 2000000 in
theorem pdrop_ok {w : World} {pk : Nat} {s : AK} {L : KL} {tl : Nat → Nat} {nm : Nat → ByteArray} (h : PagO w pk s L tl nm) (d : Int) :
    CallR Tryz.prog 73 [pd pk, .int .i64 d] w fun v w' => v = .int .i64 (s.drop d).1 ∧ ∃ L', PagO w' pk (s.drop d).2 L' tl nm ∧ KStep w w' L L' := by
  refine C73 ?_
  unfold L73
  refine CallR.mono (pfind_ok h d) ?_
  rintro v w1 ⟨rfl, ⟨hdn, rfl⟩ | ⟨x, hx, rfl⟩⟩
  · refine ⟨_, rfl, condTr2 ?_⟩
    have : s.drop d = (64, s) := by
      unfold AK.drop
      rw [AK.find0n hdn, if_pos (by simp)]
    rw [this]
    exact ⟨rfl, L, h, KStep.refl _ _⟩
  obtain ⟨hn, hm, hob, hdb, htb, hO⟩ := h.ofX hx
  have hdi := h.ok.di x hm
  have hdl := h.ok.dl
  have hdr : s.drop d = if x.hd = 1 then (0, (s.delD d).leave x) else (0, s.setD d x.at_ (x.hd - 1)) := by
    unfold AK.drop
    rw [if_neg (AK.find0 hx), hx]
  rw [hdr]
  refine ⟨_, rfl, condFa2 (nnI ⟨_, hdb.at (i := 4) rfl, ⟨by omega, by omega⟩, nnI (stC_at hdb (i := 4) (by simp [pdC]) fun w2 hdb2 hk2 hz2 => nnI ⟨_, hdb2.at (i := 4) rfl, condP (fun g => ?_) (fun g => ?_)⟩)⟩)⟩
  · have hdb2 : Blk w2 (L.dloc d) (pdC d (tl x.ob) x.fl x.at_ (x.hd - 1)) := hdb2
    rw [if_neg (by omega)]
    obtain ⟨L', r1, r2⟩ := h.desc hx hk2 hdb2 ⟨hdi.2.1, hdi.2.2.1, by omega, by omega⟩
    exact ⟨rfl, L', r1, r2⟩
  rw [if_pos (by omega)]
  have hdf : L.own (L.dloc d) = some (.desc d) := by have := h.od x hm; rw [hn] at this; exact this
  obtain ⟨T, ta, tc, da, dc, hB⟩ := h.kb
  have hpkd : pk ≠ L.dloc d := fun e => by rw [← e, h.oK] at hdf; cases hdf
  have hb2 := hB.b.keep hk2 hpkd
  have hD2 := hB.ds.keep hk2 fun b hb e => by have := hB.dw b hb; rw [e, hdf] at this; cases this
  obtain ⟨f, hf⟩ : ∃ f : AD → Bool, f = fun x => decide (x.num ≠ d) := ⟨_, rfl⟩
  refine ⟨fun vs w' => ∃ (a : Option Addr) (c : Nat), vs = [.slice a (s.descs.filter f).length c] ∧ Kept No w2 w' ∧ SlO 1 w' a (s.descs.filter f).length c ((s.descs.filter f).map fun y => pd (L.dloc y.num)) ∧ Fresh w2 a, ?_, ?_⟩
  · refine ⟨fun vs w' => ∃ (n : Nat) (a : Option Addr) (c : Nat), vs = [.slice a ((s.descs.take n).filter f).length c, .int .i64 (n : Int)] ∧ n ≤ s.descs.length ∧ Kept No w2 w' ∧ SlO 1 w' a ((s.descs.take n).filter f).length c (((s.descs.take n).filter f).map fun y => pd (L.dloc y.num)) ∧ Fresh w2 a,
      fun vs _ => match vs with | [_, .int _ i] => ((s.descs.length : Int) - i).toNat | _ => 0, ⟨0, none, 0, rfl, Nat.zero_le _, Kept.refl _ _, SlO.nil 1 w2, Fresh.none w2⟩, ?_⟩
    rintro _ a13 l13 c13 n14 w3 ⟨n, a, c, hv, hnl, hk3, hs3, hf3⟩
    simp only [List.cons.injEq, Value.slice.injEq, Value.int.injEq, true_and, and_true] at hv
    obtain ⟨⟨rfl, rfl, rfl⟩, rfl⟩ := hv
    refine nnI ⟨_, _, _, (hb2.keep hk3 fun e => e).at (i := 1) rfl, condP (fun hlt => ?_) (fun hge => ?_)⟩
    · have hnl : n < s.descs.length := by omega
      have hmem := List.getElem_mem hnl
      have hcell : ∀ {w' : World}, Kept No w2 w' → ∃ q, da = some q ∧ w'.cell? (q.add n) = some (pd (L.dloc s.descs[n].num)) := fun k =>
        slo_cell (hD2.keep k fun _ _ e => e) (by omega) (j := n) (v := pd (L.dloc s.descs[n].num)) (by rw [List.getElem?_map, List.getElem?_eq_getElem hnl]; rfl)
      obtain ⟨q, haq, hc⟩ := hcell hk3
      have e0 : Int.toNat (n : Int) = n := Int.toNat_natCast n
      rw [e0]
      have hr : 0 ≤ (n : Int) ∧ (n : Int) < ((s.descs.length : Nat) : Int) := by omega
      have hbn : ∃ A, Blk w3 (L.dloc s.descs[n].num) A := by
        by_cases e : s.descs[n].num = d
        · rw [e]; exact ⟨_, hdb2.keep hk3 fun e => e⟩
        · exact ⟨_, ((h.ds _ hmem).keep hk2 fun e2 => e (by have := h.dlInj hmem hm (by rw [hn]; exact e2); rw [this, hn])).keep hk3 fun e => e⟩
      obtain ⟨A, hA⟩ := hbn
      refine nnI ⟨_, _, _, (hb2.keep hk3 fun e => e).at (i := 1) rfl, hr, nnE2 haq ⟨_, hc, _, _, nePtr hA (hdb2.keep hk3 fun e => e), ?_⟩⟩
      have heq : (L.dloc s.descs[n].num = L.dloc d) ↔ s.descs[n].num = d := ⟨fun e => by have := h.dlInj hmem hm (by rw [hn]; exact e); rw [this, hn], fun e => by rw [e]⟩
      have htk : s.descs.take (n + 1) = s.descs.take n ++ [s.descs[n]] := by rw [List.take_add_one, List.getElem?_eq_getElem hnl]; rfl
      by_cases e : s.descs[n].num = d
      · rw [decide_eq_true (heq.2 e)]
        have hft : (s.descs.take (n + 1)).filter f = (s.descs.take n).filter f := by
          rw [htk, List.filter_append, hf]
          simp [e]
        refine condFa2 ⟨⟨by omega, by omega⟩, ⟨n + 1, _, _, by rw [hft]; rfl, by omega, hk3, by rw [hft]; exact hs3, hf3⟩, by show ((s.descs.length : Int) - ((n : Int) + 1)).toNat < ((s.descs.length : Int) - (n : Int)).toNat; omega⟩
      · rw [decide_eq_false (fun e2 => e (heq.1 e2))]
        have hft : (s.descs.take (n + 1)).filter f = (s.descs.take n).filter f ++ [s.descs[n]] := by
          rw [htk, List.filter_append, hf]
          simp [e]
        have hfl : ((s.descs.take n).filter f).length ≤ 256 := by
          have := List.length_filter_le f (s.descs.take n)
          rw [List.length_take] at this
          omega
        refine condTr2 (nnI ⟨_, _, _, (hb2.keep hk3 fun e => e).at (i := 1) rfl, hr, nnE2 haq ⟨_, hc, ?_⟩⟩)
        intro w5
        have ht5 : SlO 1 w5 (some ⟨w3.heap.size, 0, none⟩) 1 1 [pd (L.dloc s.descs[n].num)] := SlO.of_blk (sz := 1) (n := 1) (Blk.alloc w3 #[pd (L.dloc s.descs[n].num)] _) rfl
        have hk5 : Kept No w3 w5 := Kept.alloc _ _ _
        have hz5 : w5.heap.size = w3.heap.size + 1 := by simp [w5]
        clear_value w5
        obtain ⟨a6, c6, w6, hrun, hs6, hk6, hat, _⟩ := run_app_sl (P := Tryz.prog) (t := 151) (t2 := 151) (ty := 151) (by kernel_rfl : slTyB Tryz.prog 151 1 8 = true) (by kernel_rfl) (hs3.keep hk5 fun _ _ e => e) ht5.rd (by intro u hu; simp only [List.mem_singleton] at hu; subst hu; rfl) (by omega) (by omega)
        have hz3 := hk3.size
        refine ⟨a6, _, c6, w6, hrun, ⟨by omega, by omega⟩, ⟨n + 1, a6, c6, by rw [hft, List.length_append]; rfl, by omega, (hk3.no hk5).fresh hk6 hf3, ?_, fun z hz => ?_⟩, by show ((s.descs.length : Int) - ((n : Int) + 1)).toNat < ((s.descs.length : Int) - (n : Int)).toNat; omega⟩
        · rw [hft, List.length_append, List.map_append]
          exact hs6
        · rcases hat.in hz with e | e
          · exact hf3 z e
          · omega
    · have : n = s.descs.length := by omega
      subst this
      rw [List.take_length] at hs3 ⊢
      exact ⟨_, _, rfl, hk3, hs3, hf3⟩
  rintro _ a33 l33 c33 w8 ⟨a, c, hv, hk8, hs8, hf8⟩
  simp only [List.cons.injEq, Value.slice.injEq, and_true] at hv
  obtain ⟨rfl, rfl, rfl⟩ := hv
  have hb8 := hb2.keep hk8 fun e => e
  have hdb8 := hdb2.keep hk8 fun e => e
  have hdb8 : Blk w8 (L.dloc d) (pdC d (tl x.ob) x.fl x.at_ (x.hd - 1)) := hdb8
  have hpklt := hB.b.lt
  have hdel : (s.delD d).descs = s.descs.filter f := by rw [hf]; rfl
  have hpka : ¬ inA a33 pk := fun e => by have := hf8 _ e; omega
  refine nnI (stC_at hb8 (i := 1) (by simp) fun w9 hb9 hk9 _ => ?_)
  have hb9 : Blk w9 pk #[.slice ta T.length tc, .slice a33 (s.descs.filter f).length c33, .int .i64 s.next, pd L.pg, .int .i64 s.c0, .int .i64 s.c1] := hb9
  have k9 : Kept (fun z => z = pk ∨ z = L.dloc d) w1 w9 := ((hk2.mono fun _ _ e => .inr e : Kept (fun z => z = pk ∨ z = L.dloc d) w1 w2).trans (hk8.mono fun _ _ e => e.elim : Kept (fun z => z = pk ∨ z = L.dloc d) w2 w8) fun _ _ e => e).trans (hk9.mono fun _ _ e => .inl e) fun _ _ e => e
  have hdb9 := hdb8.keep hk9 fun e => hpkd e.symm
  have hnot : ∀ z t, L.own z = some t → t ≠ .kern → t ≠ .desc d → ¬ (z = pk ∨ z = L.dloc d) := by
    rintro z t hz h1 h2 (rfl | rfl)
    · rw [h.oK] at hz; cases hz; exact h1 rfl
    · rw [hdf] at hz; cases hz; exact h2 rfl
  have htb9 := htb.keep k9 (hnot _ _ (h.th x.ob hob).2 (by simp) (by simp))
  obtain ⟨L1, r1, st1⟩ := h.delD hx k9 hB (a := a33) (c := c33) (by rw [hdel]; exact hb9) (by rw [hdel]; exact hs8.keep hk9 fun b hb e => hpka (e ▸ hb)) (fun z hz => by have := hf8 z hz; omega)
  refine nnI ⟨_, hdb9.at (i := 1) rfl, nnI ?_⟩
  cases ho : s.objs x.ob with
  | file bs =>
    rw [ho] at htb9
    have : (s.delD d).leave x = s.delD d := by unfold AK.leave; rw [show (s.delD d).objs x.ob = .file bs from ho]
    rw [this]
    exact ⟨_, htb9.at (i := 1) rfl, condFa2 ⟨rfl, L1, r1, st1⟩⟩
  | term LL scr =>
    rw [ho] at htb9
    have : (s.delD d).leave x = s.delD d := by unfold AK.leave; rw [show (s.delD d).objs x.ob = .term LL scr from ho]
    rw [this]
    exact ⟨_, htb9.at (i := 1) rfl, condFa2 ⟨rfl, L1, r1, st1⟩⟩
  | pipe bs e0 e1 =>
    rw [ho] at htb9
    have hlv : (s.delD d).leave x = (s.delD d).setO x.ob (.pipe bs (leaveP (bitI x.fl 2 != 0) e0 e1).2.1 (leaveP (bitI x.fl 2 != 0) e0 e1).2.2) := by unfold AK.leave; rw [show (s.delD d).objs x.ob = .pipe bs e0 e1 from ho]
    rw [hlv]
    refine ⟨_, htb9.at (i := 1) rfl, condTr2 ?_⟩
    intro w10
    have hk10 : Kept No w9 w10 := Kept.drew _ _
    clear_value w10
    have r10 := r1.no hk10
    have hO10 : RefP w10 (L1.loc x.ob) (fun z => L1.own z = some (.obj x.ob)) bs e0 e1 := by
      have := r10.ob x.ob hob
      rw [show (s.delD d).objs x.ob = .pipe bs e0 e1 from ho] at this
      exact this
    have htb10 := (r10.th x.ob hob).1
    rw [show (s.delD d).objs x.ob = .pipe bs e0 e1 from ho] at htb10
    refine nnI ⟨_, (hdb9.keep hk10 fun e => e).at (i := 1) rfl, nnI ⟨_, htb10.at (i := 4) rfl, nnI ⟨_, (hdb9.keep hk10 fun e => e).at (i := 2) rfl, CallR.mono (rleave_ok hO10 (bitI x.fl 2 != 0)) ?_⟩⟩⟩
    rintro v w11 ⟨rfl, hO11, hk11⟩
    obtain ⟨L2, q1, q2⟩ := r10.obj hk11 (fun z hz => by rw [hz]; exact hO10.1) (o := .pipe bs (leaveP (bitI x.fl 2 != 0) e0 e1).2.1 (leaveP (bitI x.fl 2 != 0) e0 e1).2.2) (by show TK.con = (s.objs x.ob).kd; rw [ho]; rfl) (F := fun z => L1.own z = some (.obj x.ob)) (fun z hz => .inl hz) hO11
    exact ⟨_, rfl, rfl, L2, q1, (st1.no hk10).trans q2⟩

end Go.Proofs.YtpoaacnnhgebfaaGreat

namespace Go.Proofs.YtpoaacnnhgebfaaGreat
open Go.Lw

/-- What always holds of pipes and the descriptions of their ends. -/
structure PInv (s : AK) : Prop where
  en : ∀ x ∈ s.descs, ∀ bs e0 e1, s.objs x.ob = .pipe bs e0 e1 → (x.fl = 1 ∧ 0 < e0) ∨ (x.fl = 2 ∧ 0 < e1)
  un : ∀ x ∈ s.descs, ∀ y ∈ s.descs, x.ob = y.ob → (s.objs x.ob).kd = .con → x.fl = y.fl → x.num = y.num

theorem pkind_ok {w : World} {pk : Nat} {s : AK} {L : KL} {tl : Nat → Nat} {nm : Nat → ByteArray} (h : PagO w pk s L tl nm) (d : Int) {Q : Value → World → Prop} (hq : Q (.int .i64 (s.kind d)) w) : CallR Tryz.prog 83 [pd pk, .int .i64 d] w Q := by
  refine C83 ?_
  unfold L83
  refine CallR.mono (pfind_ok h d) ?_
  rintro v w1 ⟨rfl, ⟨hdn, rfl⟩ | ⟨x, hx, rfl⟩⟩
  · refine ⟨_, rfl, condTr2 ?_⟩
    have : s.kind d = 0 := by unfold AK.kind; rw [AK.find0n hdn, if_pos (by simp)]
    rw [this] at hq; exact hq
  obtain ⟨hn, hm, hob, hdb, htb, hO⟩ := h.ofX hx
  rw [AK.kind_some hx] at hq
  refine ⟨_, rfl, condFa2 (nnI ⟨_, hdb.at (i := 1) rfl, nnI ?_⟩)⟩
  cases hk : (s.objs x.ob).kd <;> rw [hk] at htb hq <;> exact ⟨_, htb.at (i := 1) rfl, hq⟩

theorem pcanread_ok {w : World} {pk : Nat} {s : AK} {L : KL} {tl : Nat → Nat} {nm : Nat → ByteArray} (h : PagO w pk s L tl nm) (d : Int) {Q : Value → World → Prop} (hq : Q (.bool (s.canRead d)) w) : CallR Tryz.prog 85 [pd pk, .int .i64 d] w Q := by
  refine C85 ?_
  unfold L85
  refine CallR.mono (pfind_ok h d) ?_
  rintro v w1 ⟨rfl, ⟨hdn, rfl⟩ | ⟨x, hx, rfl⟩⟩
  · refine ⟨_, rfl, condFa2 ?_⟩
    have : s.canRead d = false := by
      unfold AK.canRead
      rw [if_pos (by unfold AK.find; rw [hdn]; simp)]
    rw [this] at hq; exact hq
  obtain ⟨hn, hm, hob, hdb, htb, hO⟩ := h.ofX hx
  refine ⟨_, rfl, condTr2 (nnI ⟨_, hdb.at (i := 2) rfl, condI (fun h0 => ?_) (fun h0 => ?_)⟩)⟩
  · have h0 : bitI x.fl 1 ≠ 0 := bne_iff_ne.1 h0
    have h0 : bitI x.fl 1 = 1 := by
      rcases bit_way1 x.fl with e | e
      · exact absurd e h0
      · exact e
    have hc : s.canRead d = !s.waits x := by
      unfold AK.canRead
      rw [if_neg (fun e => e (AK.find_of hx h0)), hx]
    rw [hc] at hq
    refine nnI ⟨_, hdb.at (i := 1) rfl, nnI ?_⟩
    unfold AK.waits at hq
    cases ho : s.objs x.ob with
    | file bs => rw [ho] at htb hq; exact ⟨_, htb.at (i := 1) rfl, condTr2 hq⟩
    | term LL scr => rw [ho] at htb hq; exact ⟨_, htb.at (i := 1) rfl, condTr2 hq⟩
    | pipe bs e0 e1 =>
      rw [ho] at htb hO hq
      have hO : RefP w1 (L.loc x.ob) (fun z => L.own z = some (.obj x.ob)) bs e0 e1 := hO
      have hq : Q (.bool (!(!canRP bs e0 e1))) w1 := hq
      rw [Bool.not_not] at hq
      exact ⟨_, htb.at (i := 1) rfl, condFa2 (nnI ⟨_, hdb.at (i := 1) rfl, nnI ⟨_, htb.at (i := 4) rfl, rcanr_to hO ⟨_, rfl, hq⟩⟩⟩)⟩
  · have h0 : bitI x.fl 1 = 0 := by
      have h0 : (bitI x.fl 1 != 0) = false := h0
      by_cases e : bitI x.fl 1 = 0
      · exact e
      · rw [bne_iff_ne.2 e] at h0; cases h0
    have : s.canRead d = false := by
      unfold AK.canRead
      rw [if_pos (by unfold AK.find; rw [hx]; dsimp only; rw [if_pos (by rw [h0]; simp)]; simp)]
    rw [this] at hq; exact hq

theorem pcanwrite_ok {w : World} {pk : Nat} {s : AK} {L : KL} {tl : Nat → Nat} {nm : Nat → ByteArray} (h : PagO w pk s L tl nm) (hI : PInv s) (d n : Int) {Q : Value → World → Prop} (hq : Q (.bool (s.canWrite d n)) w) : CallR Tryz.prog 87 [pd pk, .int .i64 d, .int .i64 n] w Q := by
  refine C87 ?_
  unfold L87
  refine CallR.mono (pfind_ok h d) ?_
  rintro v w1 ⟨rfl, ⟨hdn, rfl⟩ | ⟨x, hx, rfl⟩⟩
  · refine ⟨_, rfl, condFa2 ?_⟩
    have : s.canWrite d n = false := by
      unfold AK.canWrite
      rw [if_pos (.inl (by unfold AK.find; rw [hdn]; simp))]
    rw [this] at hq; exact hq
  obtain ⟨hn, hm, hob, hdb, htb, hO⟩ := h.ofX hx
  refine ⟨_, rfl, condTr2 (nnI ⟨_, hdb.at (i := 2) rfl, condI (fun h0 => ?_) (fun h0 => ?_)⟩)⟩
  · have h0 : bitI x.fl 2 ≠ 0 := bne_iff_ne.1 h0
    have h0 : bitI x.fl 2 = 2 := by
      rcases bit_way2 x.fl with e | e
      · exact absurd e h0
      · exact e
    have hf : ¬ s.find d 2 ≠ 0 := fun e => e (AK.find_of hx h0)
    refine condP (fun h1 => condP (fun h2 => ?_) (fun h2 => ?_)) (fun h1 => ?_)
    · have hc : s.canWrite d n = decide ((s.roomO x n).2 ≠ 52) := by
        unfold AK.canWrite
        rw [if_neg (by omega), hx]
      rw [hc] at hq
      refine nnI ⟨_, hdb.at (i := 1) rfl, nnI ?_⟩
      have hD : ∀ p : Int, (roomD p n).2 ≠ 52 := fun p => by unfold roomD; split <;> simp
      cases ho : s.objs x.ob with
      | file bs =>
        rw [ho] at htb
        have : (s.roomO x n).2 ≠ 52 := by unfold AK.roomO; rw [ho]; exact hD _
        rw [decide_eq_true this] at hq
        exact ⟨_, htb.at (i := 1) rfl, condTr2 hq⟩
      | term LL scr =>
        rw [ho] at htb
        have : (s.roomO x n).2 ≠ 52 := by unfold AK.roomO; rw [ho]; exact hD _
        rw [decide_eq_true this] at hq
        exact ⟨_, htb.at (i := 1) rfl, condTr2 hq⟩
      | pipe bs e0 e1 =>
        have hen := hI.en x hm bs e0 e1 ho
        have he1 : 0 < e1 := by
          rcases hen with ⟨e, _⟩ | ⟨_, e⟩
          · rw [e] at h0; exact absurd h0 (by decide)
          · exact e
        rw [ho] at htb hO
        have hO : RefP w1 (L.loc x.ob) (fun z => L.own z = some (.obj x.ob)) bs e0 e1 := hO
        have hro : (s.roomO x n).2 = if e0 = 0 then 53 else if canWP n bs e0 e1 = false then 52 else 0 := by
          unfold AK.roomO roomC
          rw [ho]
          dsimp only
          split
          · rfl
          · split <;> rfl
        have hv : decide ((s.roomO x n).2 ≠ 52) = canWP n bs e0 e1 := by
          rw [hro]
          by_cases z : e0 = 0
          · rw [if_pos z]
            have : canWP n bs e0 e1 = true := by
              unfold canWP
              rw [decide_eq_true]
              exact ⟨he1, h1, h2, .inl z⟩
            rw [this]; rfl
          · rw [if_neg z]
            cases canWP n bs e0 e1 <;> rfl
        rw [hv] at hq
        exact ⟨_, htb.at (i := 1) rfl, condFa2 (nnI ⟨_, hdb.at (i := 1) rfl, nnI ⟨_, htb.at (i := 4) rfl, rcanw_to hO n ⟨_, rfl, hq⟩⟩⟩)⟩
    · have : s.canWrite d n = false := by
        unfold AK.canWrite
        rw [if_pos (by omega)]
      rw [this] at hq; exact hq
    · have : s.canWrite d n = false := by
        unfold AK.canWrite
        rw [if_pos (by omega)]
      rw [this] at hq; exact hq
  · have h0 : bitI x.fl 2 = 0 := by
      have h0 : (bitI x.fl 2 != 0) = false := h0
      by_cases e : bitI x.fl 2 = 0
      · exact e
      · rw [bne_iff_ne.2 e] at h0; cases h0
    have : s.canWrite d n = false := by
      unfold AK.canWrite
      rw [if_pos (.inl (by unfold AK.find; rw [hx]; dsimp only; rw [if_pos (by rw [h0]; simp)]; simp))]
    rw [this] at hq; exact hq

theorem pheld_ok {w : World} {pk : Nat} {s : AK} {L : KL} {tl : Nat → Nat} {nm : Nat → ByteArray} (h : PagO w pk s L tl nm) (d : Int) :
    CallR Tryz.prog 89 [pd pk, .int .i64 d] w fun v w' => w' = w ∧ ∃ a l c, v = .slice a l c ∧ RdB w a l c (s.held d) := by
  refine C89 ?_
  unfold L89
  refine CallR.mono (pfind_ok h d) ?_
  rintro v w1 ⟨rfl, ⟨hdn, rfl⟩ | ⟨x, hx, rfl⟩⟩
  · refine ⟨_, rfl, condTr2 ⟨rfl, _, _, _, rfl, ?_⟩⟩
    have : s.held d = [] := by unfold AK.held; rw [AK.find0n hdn, if_pos (by simp)]
    rw [this]; exact RdS.nil 1 w1
  obtain ⟨hn, hm, hob, hdb, htb, hO⟩ := h.ofX hx
  have hh : s.held d = match s.objs x.ob with | .pipe bs _ _ => bs | _ => [] := by
    unfold AK.held
    rw [if_neg (AK.find0 hx), hx]
    rfl
  refine ⟨_, rfl, condFa2 (nnI ⟨_, hdb.at (i := 1) rfl, nnI ?_⟩)⟩
  cases ho : s.objs x.ob with
  | file bs => rw [ho] at htb hh; exact ⟨_, htb.at (i := 1) rfl, condTr2 ⟨rfl, _, _, _, rfl, by rw [hh]; exact RdS.nil 1 w1⟩⟩
  | term LL scr => rw [ho] at htb hh; exact ⟨_, htb.at (i := 1) rfl, condTr2 ⟨rfl, _, _, _, rfl, by rw [hh]; exact RdS.nil 1 w1⟩⟩
  | pipe bs e0 e1 =>
    rw [ho] at htb hO hh
    obtain ⟨_, _, pa, pl, pc, hpb, hpr, _⟩ : RefP w1 (L.loc x.ob) (fun z => L.own z = some (.obj x.ob)) bs e0 e1 := hO
    exact ⟨_, htb.at (i := 1) rfl, condFa2 (nnI ⟨_, hdb.at (i := 1) rfl, nnI ⟨_, htb.at (i := 4) rfl, nnI ⟨_, _, _, hpb.at0 rfl, rfl, _, _, _, rfl, by rw [hh]; exact hpr⟩⟩⟩)⟩

theorem AK.thing_none {s : AK} {nm : ByteArray} (h : s.thing nm = none) : s.termOf nm = none ∧ s.fileOf nm = none := by
  unfold AK.thing at h
  split at h
  · cases h
  · rename_i e; exact ⟨e, h⟩

set_option maxHeartbeats 2000000 in
theorem popen_ok {w : World} {pk : Nat} {s : AK} {L : KL} {tl : Nat → Nat} {nm : Nat → ByteArray} (h : PagO w pk s L tl nm) (name : ByteArray) (fl : Int) (hn2 : s.next ≤ 4611686018427387904) :
    CallR Tryz.prog 31 [pd pk, .string name, .int .i64 fl] w fun v w' => v = .tuple #[.int .i64 (s.open_ name fl).1, .int .i64 (s.open_ name fl).2.1] ∧ ∃ L' tl' nm', PagO w' pk (s.open_ name fl).2.2 L' tl' nm' ∧ KStep w w' L L' := by
  refine C31 ?_
  unfold L31
  have bad : ∀ (e : Int), s.openE name fl = e → e ≠ 0 → (.tuple #[.int .i64 0, .int .i64 e] : Value) = .tuple #[.int .i64 (s.open_ name fl).1, .int .i64 (s.open_ name fl).2.1] ∧ ∃ L' tl' nm', PagO w pk (s.open_ name fl).2.2 L' tl' nm' ∧ KStep w w L L' := by
    intro e he hne
    unfold AK.open_
    rw [if_pos (by rw [he]; exact hne), he]
    exact ⟨rfl, L, tl, nm, h, KStep.refl _ _⟩
  have hE : s.openE name fl = if namedS name = false then 61 else if AK.flagged fl = false then 65 else if 256 ≤ s.descs.length then 3 else
      if (s.fileOf name).isSome ∨ (s.termOf name).isSome then (if bitI fl 32 ≠ 0 then 63 else 0)
      else if bitI fl 8 = 0 then 62 else if 256 ≤ s.files.length + s.terms.length then 3 else 0 := rfl
  obtain ⟨T, ta, tc, da, dc, hB⟩ := h.kb
  have hTl : T.length = s.files.length + s.terms.length := by have := hB.pm.length_eq; rw [List.length_append] at this; omega
  refine pnamed_ok name ⟨_, rfl, condI (fun e => bad 61 (by rw [hE, if_pos (by simpa using e)]) (by simp)) (fun e1 => ?_)⟩
  have e1 : ¬ namedS name = false := by simpa using e1
  refine pflagged_ok fl ⟨_, rfl, condI (fun e => bad 65 (by rw [hE, if_neg e1, if_pos (by simpa using e)]) (by simp)) (fun e2 => ?_)⟩
  have e2 : ¬ AK.flagged fl = false := by simpa using e2
  refine nnI ⟨_, _, _, hB.b.at (i := 1) rfl, condP (fun e => bad 3 (by rw [hE, if_neg e1, if_neg e2, if_pos (by omega)]) (by simp)) (fun e3 => ?_)⟩
  rw [if_neg e1, if_neg e2, if_neg (by omega)] at hE
  have b32 : IntKind.wrap .i64 ↑(BitVec.ofInt (IntKind.bits .i64) fl &&& BitVec.ofInt (IntKind.bits .i64) 32).toNat = bitI fl 32 := rfl
  have b8 : IntKind.wrap .i64 ↑(BitVec.ofInt (IntKind.bits .i64) fl &&& BitVec.ofInt (IntKind.bits .i64) 8).toNat = bitI fl 8 := rfl
  have b16 : IntKind.wrap .i64 ↑(BitVec.ofInt (IntKind.bits .i64) fl &&& BitVec.ofInt (IntKind.bits .i64) 16).toNat = bitI fl 16 := rfl
  rw [b32, b8, b16]
  have hop : s.openE name fl = 0 → s.open_ name fl = (s.next, 0, s.openS name fl) := fun e => by unfold AK.open_; rw [if_neg (by rw [e]; simp)]
  refine CallR.mono (pthing_ok h name) ?_
  rintro v w3 ⟨rfl, hcase⟩
  obtain ⟨J, hJ⟩ : ∃ J : List Value → World → Prop, J = fun vs w' => ∃ (s1 : AK) (L1 : KL) (tl1 : Nat → Nat) (nm1 : Nat → ByteArray) (i : Nat), vs = [pd (tl1 i)] ∧ PagO w' pk s1 L1 tl1 nm1 ∧ KStep w3 w' L L1 ∧ i < s1.nob ∧ s1.descs = s.descs ∧ s1.next = s.next ∧ s.open_ name fl = (s.next, 0, s1.newD i fl) := ⟨_, rfl⟩
  have fin : ∀ (p : Option Addr) (w36 : World), J [.pointer p] w36 → CallR Tryz.prog 122 [pd pk, .pointer p, .int .i64 fl] w36 fun r w37 => ∃ n : Int, r = .int .i64 n ∧ ((.tuple #[.int .i64 n, .int .i64 0] : Value) = .tuple #[.int .i64 (s.open_ name fl).1, .int .i64 (s.open_ name fl).2.1] ∧ ∃ L' tl' nm', PagO w37 pk (s.open_ name fl).2.2 L' tl' nm' ∧ KStep w3 w37 L L') := by
    intro p w36 hj
    rw [hJ] at hj
    obtain ⟨s1, L1, tl1, nm1, i, hv, h1, st1, hi, hds, hnx, hope⟩ := hj
    simp only [List.cons.injEq, Value.pointer.injEq, and_true] at hv
    subst hv
    refine CallR.mono (pdesc_ok h1 hi fl (by rw [hnx]; exact hn2) (by rw [hds]; omega)) ?_
    rintro v w37 ⟨rfl, L', h37, st37, _⟩
    rw [hope, hnx]
    exact ⟨_, rfl, rfl, L', tl1, nm1, h37, st1.trans st37⟩
  rcases hcase with ⟨hth, rfl⟩ | ⟨t, hth, rfl⟩
  · obtain ⟨ht0, hf0⟩ := AK.thing_none hth
    rw [ht0, hf0, if_neg (by simp)] at hE
    refine ⟨_, rfl, J, ?_, fun _ p w36 hj => fin p w36 hj⟩
    · refine condFa2 (condTr2 (condI (fun e => bad 62 (by rw [hE, if_pos (by simpa using e)]) (by simp)) (fun e4 => ?_)))
      have e4 : bitI fl 8 ≠ 0 := by simpa using e4
      rw [if_neg e4] at hE
      refine condTr2 (nnI ⟨_, _, _, hB.b.at0 rfl, condP (fun e => bad 3 (by rw [hE, if_pos (by omega)]) (by simp)) (fun e5 => ?_)⟩)
      rw [if_neg (by omega)] at hE
      refine condTr2 (CallR.mono (rnew_ok (bs := []) (RdS.nil 1 w3) (by omega)) ?_)
      rintro v w4 (⟨h1, _⟩ | ⟨_, b, F, rfl, hO, hk4, hF⟩)
      · simp at h1
      refine ⟨_, _, rfl, ?_⟩
      intro w5
      have ht5 : Blk w5 w4.heap.size (thC name .disk b) := Blk.alloc _ _ _
      have hk5 : Kept No w4 w5 := Kept.alloc _ _ _
      clear_value w5
      have hFlt := hO.lt
      have hz4 := hk4.size
      obtain ⟨L1, p1, st1⟩ := h.newO (hk4.no hk5) (o := .file []) (name := name) (R := fun _ => False) (RefO.keep hO hk5 fun _ _ e => e : PObjF F (fun _ => False) w5 b (.file [])) hF (fun z e => e.elim) ht5 (by omega) (fun e => by have := hFlt _ e; omega) (fun e => e)
      have hok1 := h.ok.addF (nm := name) (o := .file []) rfl (AK.fileOf_none hf0) (AK.termOf_none ht0) (by omega)
      have hnmn : (if s.nob = s.nob then name else nm s.nob) = name := if_pos rfl
      have htln : (if s.nob = s.nob then w4.heap.size else tl s.nob) = w4.heap.size := if_pos rfl
      have hadd := padd_ok p1 (i := s.nob) (by show s.nob < s.nob + 1; omega) (by show s.files.length + s.terms.length < 256; omega) (fs' := s.files ++ [(name, s.nob)]) (ts' := s.terms) (by
        show ((s.files ++ s.terms) ++ [(if s.nob = s.nob then name else nm s.nob, s.nob)]).Perm _
        rw [hnmn, List.append_assoc, List.append_assoc]
        exact List.Perm.append_left _ (List.perm_append_comm)) hok1
      rw [htln] at hadd
      refine CallR.mono hadd ?_
      rintro v w6 ⟨rfl, L2, p2, st2⟩
      refine ⟨rfl, ?_⟩
      rw [hJ]
      refine ⟨_, L2, _, _, s.nob, by rw [htln], p2, st1.trans st2, by show s.nob < s.nob + 1; omega, rfl, rfl, ?_⟩
      rw [hop hE]
      unfold AK.openS
      rw [ht0, hf0]
      rfl
  · obtain ⟨htm, hte⟩ := AK.thing_mem hth
    have hob := h.nobT htm
    have htb := (h.th t.2 hob).1
    have hsome : (s.fileOf name).isSome ∨ (s.termOf name).isSome := by
      unfold AK.thing at hth
      split at hth
      · rename_i u hu; exact .inr (by rw [hu]; rfl)
      · exact .inl (by rw [hth]; rfl)
    rw [if_pos hsome] at hE
    refine ⟨_, rfl, J, ?_, fun _ p w36 hj => fin p w36 hj⟩
    refine condTr2 (condI (fun e => bad 63 (by rw [hE, if_pos (by simpa using e)]) (by simp)) (fun e4 => ?_))
    rw [if_neg (by simpa using e4)] at hE
    refine condFa2 (condFa2 (condFa2 (nnI ?_)))
    have hopn := hop hE
    cases htt : s.termOf name with
    | some u =>
      have hu : u = t := by unfold AK.thing at hth; rw [htt] at hth; cases hth; rfl
      subst hu
      have hk : (s.objs u.2).kd = .scr := (h.ok.ti u (AK.termOf_some htt).1).2
      rw [hk] at htb
      refine ⟨_, htb.at (i := 1) rfl, condFa2 ?_⟩
      rw [hJ]
      refine ⟨s, L, tl, nm, u.2, rfl, h, KStep.refl _ _, hob, rfl, rfl, ?_⟩
      rw [hopn]; unfold AK.openS; rw [htt]
    | none =>
      have hff : s.fileOf name = some t := by unfold AK.thing at hth; rw [htt] at hth; exact hth
      have hk : (s.objs t.2).kd = .disk := (h.ok.fi t (AK.fileOf_some hff).1).2
      rw [hk] at htb
      have hO := h.ob t.2 hob
      refine ⟨_, htb.at (i := 1) rfl, condTr2 (condI (fun e5 => ?_) (fun e5 => ?_))⟩
      · have e5 : bitI fl 16 ≠ 0 := by simpa using e5
        cases ho : s.objs t.2 with
        | term LL scr => rw [ho] at hk; cases hk
        | pipe bs e0 e1 => rw [ho] at hk; cases hk
        | file bs =>
          rw [ho] at hO
          have hO : RefO (fun z => L.own z = some (.obj t.2)) w3 (L.loc t.2) bs := hO
          obtain ⟨fa, flen, fc, hfb, hfo, hfn, hfl, hfF⟩ := id hO
          refine nnI ⟨_, htb.at (i := 2) rfl, nnI (stC_blk hfb (by simp) fun w7 hfb7 hk7 _ => ?_)⟩
          have hfb7 : Blk w7 (L.loc t.2) #[.slice none 0 0] := hfb7
          obtain ⟨L1, p1, st1⟩ := h.obj hk7 (fun z hz => by rw [hz]; exact (hfF _).2 (.inl rfl)) (i := t.2) (o := .file []) (by rw [ho]; rfl) (F := fun z => z = L.loc t.2) (fun z hz => .inl (by rw [hz]; exact (hfF _).2 (.inl rfl)))
            (show RefO _ w7 (L.loc t.2) [] from ⟨none, 0, 0, hfb7, OB.nil _, inA_none _, by simp, fun k => ⟨fun e => .inl e, fun e => e.elim (fun e => e) fun e => absurd e (inA_none k)⟩⟩)
          rw [hJ]
          refine ⟨_, L1, tl, nm, t.2, rfl, p1, st1, hob, rfl, rfl, ?_⟩
          rw [hopn]; unfold AK.openS; rw [htt, hff]; dsimp only; rw [if_pos e5]
      · have e5 : ¬ bitI fl 16 ≠ 0 := by simpa using e5
        rw [hJ]
        refine ⟨s, L, tl, nm, t.2, rfl, h, KStep.refl _ _, hob, rfl, rfl, ?_⟩
        rw [hopn]; unfold AK.openS; rw [htt, hff]; dsimp only; rw [if_neg e5]

theorem ppipe_ok {w : World} {pk : Nat} {s : AK} {L : KL} {tl : Nat → Nat} {nm : Nat → ByteArray} (h : PagO w pk s L tl nm) (hn2 : s.next ≤ 4611686018427387903) :
    CallR Tryz.prog 29 [pd pk] w fun v w' => v = .tuple #[.int .i64 s.pipe.1, .int .i64 s.pipe.2.1, .int .i64 s.pipe.2.2.1] ∧ ∃ L' tl' nm', PagO w' pk s.pipe.2.2.2 L' tl' nm' ∧ KStep w w' L L' := by
  refine C29 ?_
  unfold L29
  obtain ⟨T, ta, tc, da, dc, hB⟩ := h.kb
  unfold AK.pipe
  refine nnI ⟨_, _, _, hB.b.at (i := 1) rfl, condP (fun e => ?_) (fun e => ?_)⟩
  · rw [if_pos (by omega)]
    exact ⟨rfl, L, tl, nm, h, KStep.refl _ _⟩
  rw [if_neg (by omega)]
  intro w1 w2
  have hp1 : Blk w1 w.heap.size #[.slice none 0 0, .int .i64 ((1 : Nat) : Int), .int .i64 ((1 : Nat) : Int)] := Blk.alloc _ _ _
  have hk1 : Kept No w w1 := Kept.alloc _ _ _
  have hz1 : w1.heap.size = w.heap.size + 1 := by simp [w1]
  have ht2 : Blk w2 w1.heap.size (thC (ByteArray.mk #[]) .con w.heap.size) := Blk.alloc _ _ _
  have hk2 : Kept No w1 w2 := Kept.alloc _ _ _
  clear_value w2
  clear_value w1
  have hlt := hp1.lt
  have hO : RefP w2 w.heap.size (fun z => z = w.heap.size) [] 1 1 := RefP.keep (S := No) (w := w1) ⟨rfl, fun x e => by omega, none, 0, 0, hp1, RdS.nil 1 w1, fun x e => absurd e (inA_none x), by simp, by omega, by omega⟩ hk2 fun _ _ e => e
  obtain ⟨L1, p1, st1⟩ := h.newO (hk1.no hk2) (o := .pipe [] 1 1) (name := ByteArray.mk #[]) (R := fun _ => False) (F := fun z => z = w.heap.size) hO (fun z e => by omega) (fun z e => e.elim) ht2 (by omega) (fun e => by omega) (fun e => e)
  have htln : (if s.nob = s.nob then w1.heap.size else tl s.nob) = w1.heap.size := if_pos rfl
  have hd := pdesc_ok p1 (i := s.nob) (by show s.nob < s.nob + 1; omega) 1 (by show s.next ≤ _; omega) (by show s.descs.length < 256; omega)
  rw [htln] at hd
  refine CallR.mono hd ?_
  rintro v w3 ⟨rfl, L2, p2, st2, _⟩
  have hd2 := pdesc_ok p2 (i := s.nob) (by show s.nob < s.nob + 1; omega) 2 (by show s.next + 1 ≤ _; omega) (by show (s.descs ++ [_]).length < 256; rw [List.length_append]; simp; omega)
  rw [htln] at hd2
  refine ⟨_, rfl, CallR.mono hd2 ?_⟩
  rintro v w4 ⟨rfl, L3, p3, st3, _⟩
  exact ⟨_, rfl, rfl, L3, _, _, p3, (st1.trans st2).trans st3⟩

end Go.Proofs.YtpoaacnnhgebfaaGreat
