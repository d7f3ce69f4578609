/-
  Part 6 of 7 of the proof of MemoryPlays (the last part has its theorem): the program's functions as they are read, what each does, the law. Conditions: as each says; the theorem's: none.
-/
import Derived.Test.YtpoaacnnhgebfaaGreatRows
import Derived.JoinedOf
import Derived.WalkKit
import Derived.Deep.Quiet
import Derived.OrdersHeld
import Derived.ProofKit
import Derived.SizedLaws
import Derived.Carry
import Derived.OpenShut
import Derived.ChangeSame
import Derived.ChangeArms
import Derived.Deep.Slices
import Derived.Laws.BytesArg
import Derived.Lib.SlBytesConst
import Derived.Deep.CondSized
import Derived.Test.YtpoaacnnhgebfaaGreatProg
import Derived.Defers
import Derived.RangeFuncIn
import Derived.RangeFuncLeaves
import Derived.RangeFuncRecord
import Derived.TacticsIn
import Derived.MapKept
import Derived.Laws.RangeAny
import Derived.Lib.OthersKept
import Derived.FollowTie
import Derived.Test.YtpoaacnnhgebfaaGreatChecked
import Derived.Shelf.Sort.AssemblysIn
import Derived.Sort.EveryDepth
import Derived.Maps.RangeRun
import Derived.Sort.KeysCollected
import Derived.Sort.OwnSorted
import Derived.Laws.StructEq
import Derived.LaidEql
import Derived.Test.YtpoaacnnhgebfaaGreatKMemoryPlays5
set_option linter.unusedVariables false
set_option maxRecDepth 512
namespace Go.Proofs.YtpoaacnnhgebfaaGreat
open Go.Lw
theorem bit_way1 (n : Int) : bitI n 1 = 0 ∨ bitI n 1 = 1 := by
  unfold bitI
  rw [show BitVec.ofInt (IntKind.bits .i64) 1 = BitVec.twoPow (IntKind.bits .i64) 0 from rfl, BitVec.and_twoPow]
  split
  · exact .inr rfl
  · exact .inl rfl
theorem bit_way2 (n : Int) : bitI n 2 = 0 ∨ bitI n 2 = 2 := by
  unfold bitI
  rw [show BitVec.ofInt (IntKind.bits .i64) 2 = BitVec.twoPow (IntKind.bits .i64) 1 from rfl, BitVec.and_twoPow]
  split
  · exact .inr rfl
  · exact .inl rfl
theorem lay2c {w : World} {e : TypeId} {v0 v1 u0 u1 : Value} {K : World → Prop} (hk : ∀ w', Blk w' w.heap.size #[v0, v1] → Kept No w w' → K w') :
    let w2 := World.alloc w (.cells #[u0, u1] e)
    stC (Addr.mk w.heap.size 0 none) v0 w2 fun w1 => stC (Addr.mk w.heap.size 1 none) v1 w1 K := by
  intro w2
  have hb : Blk w2 w.heap.size #[u0, u1] := Blk.alloc _ _ _
  have hk1 : Kept No w w2 := Kept.alloc _ _ _
  clear_value w2
  refine stC_blk hb (by simp) fun w1 h1 k1 _ => stC_blk h1 (by simp) fun w2 h2 k2 _ => ?_
  have h2' : Blk w2 w.heap.size #[v0, v1] := by simpa using h2
  exact hk w2 h2' ((hk1.fresh k1 fun x e => by omega).fresh k2 fun x e => by omega)
theorem pnext_ok {w : World} {g : Nat} {a : Option Addr} {l c : Nat} {fs : List (Int × Int)} {n : Int} (hb : Blk w g #[.slice a l c]) (hr : RdS 2 w a l c (Fv fs)) (hne : ∀ b, inA a b → b ≠ g) (h1 : 1 ≤ n) (h2 : n ≤ 1048576) (hl : fs.length ≤ 4096) :
    CallR Tryz.prog 170 [pd g, .int .i64 n] w fun v w' => v = .tuple #[.int .i64 (metF fs n).1, .int .i64 (metF fs n).2] ∧ (∃ a' l' c', (∀ b, inA a' b → inA a b) ∧ Blk w' g #[.slice a' l' c'] ∧ RdS 2 w' a' l' c' (Fv (fs.drop 1))) ∧ Kept (· = g) w w' := by
  have hlen : fs.length = l := by have := hr.1; rw [Fv_len] at this; omega
  refine C170 ?_
  unfold L170
  refine condF (by simp; omega) (condF (by simp; omega) (nnI ⟨_, _, _, hb.at0 rfl, condI (fun h0 => ?_) (fun h0 => ?_)⟩))
  · have h0 : l = 0 := by simp at h0; omega
    have : fs = [] := List.length_eq_zero_iff.1 (by omega)
    subst this
    exact ⟨rfl, ⟨a, l, c, fun _ h => h, hb, hr⟩, Kept.refl _ _⟩
  · have h0 : 0 < fs.length := by simp at h0; omega
    obtain ⟨e1, e2⟩ := Fv_at h0
    cases ha : a with
    | none => have := RdS.isNone hr ha; omega
    | some q =>
      rw [ha] at hb hr hne
      have hcl : l ≤ c := hr.2.1
      have hq1 := hr.2.2.2 q rfl _ _ e1
      have hq2 := hr.2.2.2 q rfl _ _ e2
      rw [← Lw.add_add] at hq2
      refine nnI ⟨_, _, _, hb.at0 rfl, ⟨by omega, by omega⟩, nnI ⟨_, _, hq1, hq2, lay2c fun w3 hf3 hk3 => ?_⟩⟩
      have hglt := hb.lt
      have hb3 := hb.keep hk3 fun e => e
      have hr3 := hr.keep hk3 fun _ _ _ e => e
      refine nnI ⟨_, _, _, hb3.at0 rfl, ⟨by omega, by omega⟩, nnI (stC_blk hb3 (by simp) fun w4 hb4 hk4 _ => ?_)⟩
      have hb4 : Blk w4 g #[.slice (adv (some q) 1 c 2) (l - 1) (c - 1)] := hb4
      have hf4 := hf3.keep hk4 fun e => by omega
      have hr4 := hr3.keep hk4 fun b _ hb' e => hne b hb' e
      have k04 : Kept (· = g) w w4 := (hk3.mono fun _ _ e => e.elim : Kept (· = g) w w3).trans hk4 fun _ _ e => e
      have done : ∀ {n1 n2 : Int}, (n1, n2) = metF fs n → ((.tuple #[.int .i64 n1, .int .i64 n2] : Value) = .tuple #[.int .i64 (metF fs n).1, .int .i64 (metF fs n).2] ∧ (∃ a' l' c', (∀ b, inA a' b → inA (some q) b) ∧ Blk w4 g #[.slice a' l' c'] ∧ RdS 2 w4 a' l' c' (Fv (fs.drop 1))) ∧ Kept (· = g) w w4) := fun e => by
        refine ⟨by rw [← e], ⟨_, _, _, fun b hb' => inA_adv.1 hb', hb4, ?_⟩, k04⟩
        have := hr4.from 1 (by omega)
        rw [Fv_drop]
        exact this
      have hm : metF fs n = if fs[0].1 = 1 then (min n fs[0].2, 0) else if fs[0].1 = 2 then (0, 22) else if fs[0].1 = 3 then (0, 23) else (n, 0) := by
        cases fs with
        | nil => simp at h0
        | cons f r => rfl
      refine ⟨_, (hf4.cell 0).trans rfl, condI (fun h1 => ⟨_, (hf4.cell 1).trans rfl, done ?_⟩) (fun h1 => condI (fun h2 => done ?_) (fun h2 => condI (fun h3 => done ?_) (fun h3 => done ?_)))⟩
      · rw [hm, if_pos (by simpa using h1), mn_eq]
      · rw [hm, if_neg (by simpa using h1), if_pos (by simpa using h2)]
      · rw [hm, if_neg (by simpa using h1), if_neg (by simpa using h2), if_pos (by simpa using h3)]
      · rw [hm, if_neg (by simpa using h1), if_neg (by simpa using h2), if_neg (by simpa using h3)]
theorem PagO.ofX {w : World} {pk : Nat} {s : AK} {L : KL} {tl : Nat → Nat} {nm : Nat → ByteArray} (h : PagO w pk s L tl nm) {d : Int} {x : AD} (hx : s.desc d = some x) :
    x.num = d ∧ x ∈ s.descs ∧ x.ob < s.nob ∧ Blk w (L.dloc d) (pdC d (tl x.ob) x.fl x.at_ x.hd) ∧ Blk w (tl x.ob) (thC (nm x.ob) (s.objs x.ob).kd (L.loc x.ob)) ∧ PObj L w x.ob (s.objs x.ob) := by
  obtain ⟨hm, hn⟩ := AK.desc_some hx
  have hb := (h.ok.di x hm).1
  have := h.ds x hm
  rw [hn] at this
  exact ⟨hn, hm, hb, this, (h.th x.ob hb).1, h.ob x.ob hb⟩
theorem setD_noop (s : AK) (h : s.Ok) (a b : Int) : s.setD 0 a b = s := by
  have : (s.descs.map fun x => if x.num = 0 then { x with at_ := a, hd := b } else x) = s.descs := by
    conv => rhs; rw [← List.map_id s.descs]
    apply List.map_congr_left
    intro x hx
    have := (h.di x hx).2.2.2.2.2.1
    rw [if_neg (by omega)]
    try rfl
  unfold AK.setD
  rw [this]
theorem PagO.obj {w w' : World} {pk : Nat} {s : AK} {L : KL} {tl : Nat → Nat} {nm : Nat → ByteArray} (h : PagO w pk s L tl nm) {i : Nat} {S : Nat → Prop} (k : Kept S w w')
    (hS : ∀ z, S z → L.own z = some (.obj i)) {o : AObj} (ho : o.kd = (s.objs i).kd) {F : Nat → Prop} (hF : ∀ z, F z → L.own z = some (.obj i) ∨ w.heap.size ≤ z)
    (hO : PObjF F (fun z => L.own z = some (.lines i)) w' (L.loc i) o) : ∃ L', PagO w' pk (s.setO i o) L' tl nm ∧ KStep w w' L L' := by
  obtain ⟨L', h1, h2, _⟩ := h.objD (d := 0) k (fun z hz => .inl (hS z hz)) ho hF hO (at' := 0) (hd' := 1) (fun y hy e => by have := (h.ok.di y hy).2.2.2.2.2.1; omega) ⟨by omega, by omega, by omega, by omega⟩
  rw [setD_noop _ (h.ok.setO ho)] at h1
  exact ⟨L', h1, h2⟩
theorem PagO.desc {w w' : World} {pk : Nat} {s : AK} {L : KL} {tl : Nat → Nat} {nm : Nat → ByteArray} (h : PagO w pk s L tl nm) {d : Int} {x : AD} (hx : s.desc d = some x) (k : Kept (· = L.dloc d) w w')
    {at' hd' : Int} (hD : Blk w' (L.dloc d) (pdC d (tl x.ob) x.fl at' hd')) (hr : 0 ≤ at' ∧ at' ≤ 1048576 ∧ 1 ≤ hd' ∧ hd' ≤ 1024) : ∃ L', PagO w' pk (s.setD d at' hd') L' tl nm ∧ KStep w w' L L' := by
  obtain ⟨hn, hm, hb, hdb, htb, hob⟩ := h.ofX hx
  have hod := h.od x hm
  rw [hn] at hod
  have ne : ∀ z t, L.own z = some t → t ≠ .desc d → ¬ z = L.dloc d := fun z t hz ht e => by rw [e, hod] at hz; cases hz; exact ht rfl
  have hD' : ∀ y ∈ s.descs, y.num = d → Blk w' (L.dloc d) (pdC d (tl y.ob) y.fl at' hd') := fun y hy e => by
    have : y = x := by
      obtain ⟨i, hi, rfl⟩ := List.mem_iff_getElem.1 hy
      obtain ⟨j, hj, rfl⟩ := List.mem_iff_getElem.1 hm
      have e1 : (s.descs.map (·.num))[i]'(by simpa using hi) = (s.descs.map (·.num))[j]'(by simpa using hj) := by rw [List.getElem_map, List.getElem_map]; exact e.trans hn.symm
      have := (List.getElem_inj h.ok.dn).1 e1
      subst this; rfl
    subst this
    exact hD
  obtain ⟨L', h1, h2, _⟩ := h.objD (i := x.ob) (d := d) k (fun z hz => .inr (by rw [hz]; exact hod)) rfl (F := fun z => L.own z = some (.obj x.ob)) (fun z hz => .inl hz)
    (PObjF.keep hob k (fun z hz => ne _ _ hz (by simp)) (fun z hz => ne _ _ hz (by simp))) (at' := at') (hd' := hd') hD' hr
  rw [AK.setO_same] at h1
  exact ⟨L', h1, h2⟩
theorem metF_bound {ps : List (Int × Int)} (hm : ∀ p ∈ ps, mayP p) {n : Int} (h1 : 1 ≤ n) (h2 : n ≤ 1048576) (h0 : (metF ps n).2 = 0) : 1 ≤ (metF ps n).1 ∧ (metF ps n).1 ≤ n := by
  unfold metF at h0 ⊢
  cases ps with
  | nil => exact ⟨h1, Int.le_refl _⟩
  | cons f r =>
    dsimp only at h0 ⊢
    by_cases e1 : f.1 = 1
    · rw [if_pos e1]
      rcases hm f (List.mem_cons_self) with ⟨_, a, b⟩ | ⟨a, _⟩
      · dsimp only; omega
      · omega
    · rw [if_neg e1] at h0 ⊢
      by_cases e2 : f.1 = 2
      · rw [if_pos e2] at h0; cases h0
      rw [if_neg e2] at h0 ⊢
      by_cases e3 : f.1 = 3
      · rw [if_pos e3] at h0; cases h0
      rw [if_neg e3]; exact ⟨h1, Int.le_refl _⟩
theorem pmet_ok {w : World} {pk : Nat} {s : AK} {L : KL} {tl : Nat → Nat} {nm : Nat → ByteArray} (h : PagO w pk s L tl nm) {wr : Bool} {n : Int} (h1 : 1 ≤ n) (h2 : n ≤ 1048576) {w1 : World} {T : List (ByteArray × Nat)} {ta : Option Addr} {tc : Nat} {da : Option Addr} {dc : Nat} (hB : PKb w pk s L tl T ta tc da dc)
    (hb : Blk w1 pk #[.slice ta T.length tc, .slice da s.descs.length dc, .int .i64 s.next, pd L.pg, .int .i64 (if wr then s.c0 else s.c0 + 1), .int .i64 (if wr then s.c1 + 1 else s.c1)]) (k1 : Kept (· = pk) w w1) :
    CallR Tryz.prog 170 [pd L.pg, .int .i64 n] w1 fun v w' => v = .tuple #[.int .i64 (metF s.ps n).1, .int .i64 (metF s.ps n).2] ∧ PagO w' pk (if wr then s.met1 else s.met0) L tl nm ∧ KStep w w' L L ∧ Kept (fun z => z = pk ∨ z = L.pg) w w' := by
  obtain ⟨a, l, c, p1, p2, p3⟩ := h.pl
  have hne : pk ≠ L.pg := fun e => by have := h.oP; rw [← e, h.oK] at this; cases this
  have hap : ∀ b, inA a b → b ≠ pk ∧ b ≠ L.pg := fun b hb' => ⟨(fun e => by have := p3 b hb'; rw [e, h.oK] at this; cases this), (fun e => by have := p3 b hb'; rw [e, h.oP] at this; cases this)⟩
  refine CallR.mono (pnext_ok (p1.keep k1 (fun e => hne e.symm)) (p2.keep k1 (fun b _ hb' e => (hap b hb').1 e)) (fun b hb' => (hap b hb').2) h1 h2 h.ok.ps) ?_
  rintro v w2 ⟨rfl, ⟨a', l', c', hin, q1, q2⟩, k2⟩
  have k12 : Kept (fun z => z = pk ∨ z = L.pg) w w2 := (k1.mono fun _ _ e => .inl e).trans (k2.mono fun _ _ e => .inr e) fun _ _ e => e
  have hb2 := hb.keep k2 hne
  cases wr with
  | true =>
    obtain ⟨r1, r2⟩ := h.count k12 (fun z e => e) (s' := s.met1) rfl rfl rfl rfl rfl rfl hB hb2 ⟨a', l', c', q1, q2, fun b hb' => p3 b (hin b hb')⟩ h.ok.met1
    exact ⟨rfl, r1, r2, k12⟩
  | false =>
    obtain ⟨r1, r2⟩ := h.count k12 (fun z e => e) (s' := s.met0) rfl rfl rfl rfl rfl rfl hB hb2 ⟨a', l', c', q1, q2, fun b hb' => p3 b (hin b hb')⟩ h.ok.met0
    exact ⟨rfl, r1, r2, k12⟩
set_option maxHeartbeats 2000000 in
theorem pread_ok {w : World} {pk : Nat} {s : AK} {L : KL} {tl : Nat → Nat} {nm : Nat → ByteArray} (h : PagO w pk s L tl nm) (d n : Int) (hc : s.c0 ≤ 4611686018427387904) :
    CallR Tryz.prog 65 [pd pk, .int .i64 d, .int .i64 n] w fun v w' => ∃ a l c L', v = .tuple #[.slice a l c, .int .i64 (s.read d n).2.1] ∧ RdB w' a l c (s.read d n).1 ∧ PagO w' pk (s.read d n).2.2 L' tl nm ∧ KStep w w' L L' := by
  refine C65 ?_
  unfold L65
  have bad : ∀ (e : Int) , s.read d n = ([], e, s) → ∃ a l c L', (.tuple #[.slice none 0 0, .int .i64 e] : Value) = .tuple #[.slice a l c, .int .i64 (s.read d n).2.1] ∧ RdB w a l c (s.read d n).1 ∧ PagO w pk (s.read d n).2.2 L' tl nm ∧ KStep w w L L' := by
    intro e hr
    rw [hr]
    exact ⟨none, 0, 0, L, rfl, RdS.nil 1 w, h, KStep.refl _ _⟩
  refine CallR.mono (pfind_ok h d) ?_
  rintro v w1 ⟨rfl, ⟨hd, rfl⟩ | ⟨x, hx, rfl⟩⟩
  · refine ⟨_, rfl, fun _ _ => False, condTr2 (bad 64 ?_), fun _ _ e => e.elim⟩
    have : s.find d 1 = 64 := by unfold AK.find; rw [hd]
    unfold AK.read
    rw [this, if_pos (by simp)]
  obtain ⟨hn, hm, hob, hdb, htb, hO⟩ := h.ofX hx
  have hc0 := h.ok.c0
  have hdi := h.ok.di x hm
  obtain ⟨T, ta, tc, da, dc, hB⟩ := h.kb
  refine ⟨_, rfl, fun vs w' => vs = [] ∧ w' = w1 ∧ s.waits x = false ∧ 1 ≤ n ∧ n ≤ 1048576 ∧ s.read d n = if (metF s.ps n).2 ≠ 0 then ([], (metF s.ps n).2, s.met0) else ((s.met0.rdO x (metF s.ps n).1).1, 0, (s.met0.rdO x (metF s.ps n).1).2), condFa2 (nnI ⟨_, hdb.at (i := 2) rfl, condI (fun h0 => bad 65 ?_) (fun h0 => ?_)⟩), ?_⟩
  · have h0 : bitI x.fl 1 = 0 := beq_iff_eq.1 h0
    have : s.find d 1 = 65 := by unfold AK.find; rw [hx]; exact if_pos (by rw [h0]; simp)
    unfold AK.read
    rw [this, if_pos (by simp)]
  · have h0 : bitI x.fl 1 = 1 := by
      rcases bit_way1 x.fl with e | e
      · exact absurd e (beq_eq_false_iff_ne.1 h0)
      · exact e
    have hf : ¬ s.find d 1 ≠ 0 := fun e => e (AK.find_of hx h0)
    refine condP (fun h1 => bad 4 (by unfold AK.read; rw [if_neg hf, if_pos (.inl h1)])) (fun h1 => condP (fun h2 => bad 4 (by unfold AK.read; rw [if_neg hf, if_pos (.inr h2)])) (fun h2 => condI (fun h3 => bad 0 ?_) (fun h3 => ?_)))
    · have h3 : n = 0 := by simpa using h3
      unfold AK.read; rw [if_neg hf, if_neg (by omega), if_pos h3]
    have h3 : n ≠ 0 := by simpa using h3
    have hread : s.read d n = if s.waits x = true then ([], 52, s) else if (metF s.ps n).2 ≠ 0 then ([], (metF s.ps n).2, s.met0) else ((s.met0.rdO x (metF s.ps n).1).1, 0, (s.met0.rdO x (metF s.ps n).1).2) := by
      unfold AK.read
      rw [if_neg hf, if_neg (by omega), if_neg h3, hx]
    have go : s.waits x = false → ([] : List Value) = [] ∧ w1 = w1 ∧ s.waits x = false ∧ 1 ≤ n ∧ n ≤ 1048576 ∧ s.read d n = if (metF s.ps n).2 ≠ 0 then ([], (metF s.ps n).2, s.met0) else ((s.met0.rdO x (metF s.ps n).1).1, 0, (s.met0.rdO x (metF s.ps n).1).2) := fun hw =>
      ⟨rfl, rfl, hw, by omega, by omega, by rw [hread, hw, if_neg (by simp)]⟩
    refine nnI ⟨_, hdb.at (i := 1) rfl, nnI ?_⟩
    cases ho : s.objs x.ob with
    | file bs =>
      rw [ho] at htb
      exact ⟨_, htb.at (i := 1) rfl, condFa2 (go (by unfold AK.waits; rw [ho]))⟩
    | term LL scr =>
      rw [ho] at htb
      exact ⟨_, htb.at (i := 1) rfl, condFa2 (go (by unfold AK.waits; rw [ho]))⟩
    | pipe bs e0 e1 =>
      rw [ho] at htb hO
      have hO : RefP w1 (L.loc x.ob) (fun z => L.own z = some (.obj x.ob)) bs e0 e1 := hO
      have hw : s.waits x = !canRP bs e0 e1 := by unfold AK.waits; rw [ho]
      refine ⟨_, htb.at (i := 1) rfl, condTr2 (nnI ⟨_, hdb.at (i := 1) rfl, nnI ⟨_, htb.at (i := 4) rfl, rcanr_to hO ⟨_, rfl, ?_⟩⟩⟩)⟩
      refine condI (fun hc => bad 52 ?_) (fun hc => go (hw.trans hc))
      rw [hread, hw, hc, if_pos rfl]
  rintro _ w2 ⟨-, rfl, hw, h1, h2, hread⟩
  rw [hread]
  clear bad hread
  have hpkd : pk ≠ L.dloc d := fun e => by have := h.od x hm; rw [hn, ← e, h.oK] at this; cases this
  refine nnI ⟨_, hB.b.at (i := 4) rfl, ⟨by omega, by omega⟩, nnI (stC_at hB.b (i := 4) (by simp) fun w3 hb3 hk3 _ => ?_)⟩
  have hb3 : Blk w3 pk #[.slice ta T.length tc, .slice da s.descs.length dc, .int .i64 s.next, pd L.pg, .int .i64 (s.c0 + 1), .int .i64 s.c1] := hb3
  refine nnI ⟨_, hb3.at (i := 3) rfl, CallR.mono (pmet_ok h (wr := false) (by omega) (by omega) hB hb3 hk3) ?_⟩
  rintro v w4 ⟨rfl, h4, st4, _⟩
  have h4 : PagO w4 pk s.met0 L tl nm := h4
  refine ⟨_, _, rfl, ?_⟩
  by_cases he : (metF s.ps n).2 ≠ 0
  · rw [if_pos he]
    exact condT (by simpa using he) ⟨none, 0, 0, L, rfl, RdS.nil 1 w4, h4, st4⟩
  have he : (metF s.ps n).2 = 0 := by simpa using he
  rw [if_neg (by simpa using he)]
  obtain ⟨hm1, hm2⟩ := metF_bound h.ok.pm (n := n) (by omega) (by omega) he
  generalize (metF s.ps n).1 = m at hm1 hm2 ⊢
  have hx4 : s.met0.desc d = some x := hx
  obtain ⟨_, _, _, hdb4, htb4, hO4⟩ := h4.ofX hx4
  have htb4 : Blk w4 (tl x.ob) (thC (nm x.ob) (s.objs x.ob).kd (L.loc x.ob)) := htb4
  have hO4 : PObj L w4 x.ob (s.objs x.ob) := hO4
  refine condF (by rw [he]; rfl) (nnI ⟨_, hdb4.at (i := 1) rfl, nnI ?_⟩)
  have hkeep : ∀ o, s.met0.objs x.ob = o → s.objs x.ob = o := fun o e => e
  cases ho : s.objs x.ob with
  | term LL scr =>
    rw [ho] at htb4 hO4
    have hO4 : RefT (fun z => L.own z = some (.obj x.ob)) (fun z => L.own z = some (.lines x.ob)) w4 (L.loc x.ob) LL scr := hO4
    refine ⟨_, htb4.at (i := 1) rfl, condTr2 (nnI ⟨_, hdb4.at (i := 1) rfl, nnI ⟨_, htb4.at (i := 3) rfl, CallR.mono (rreadT_ok hO4 m) ?_⟩⟩)⟩
    rintro v w5 ⟨a', c', rfl, hrd, F', hF', hk5, hO5⟩
    have hr0 : (readT m LL).1 = 0 := by
      unfold readT
      rw [if_neg (by omega)]
      split <;> rfl
    have hrd0 : s.met0.rdO x m = ((readT m LL).2.1, s.met0.setO x.ob (.term (readT m LL).2.2 scr)) := by
      unfold AK.rdO
      rw [show s.met0.objs x.ob = .term LL scr from ho]
    rw [hrd0, hr0]
    obtain ⟨L', r1, r2⟩ := h4.obj hk5 (fun z hz => hz) (o := .term (readT m LL).2.2 scr) (by show TK.scr = (s.objs x.ob).kd; rw [ho]; rfl) (F := F') (fun z hz => .inl (hF' z hz)) hO5
    exact ⟨_, _, _, _, rfl, _, _, _, L', rfl, hrd, r1, st4.trans r2⟩
  | pipe bs e0 e1 =>
    rw [ho] at htb4 hO4
    have hO4 : RefP w4 (L.loc x.ob) (fun z => L.own z = some (.obj x.ob)) bs e0 e1 := hO4
    have hcan : canRP bs e0 e1 = true := by
      unfold AK.waits at hw
      rw [ho] at hw
      simpa using hw
    refine ⟨_, htb4.at (i := 1) rfl, condFa2 (condTr2 (nnI ⟨_, hdb4.at (i := 1) rfl, nnI ⟨_, htb4.at (i := 4) rfl, CallR.mono (rread_ok hO4 m) ?_⟩⟩))⟩
    rintro v w5 ⟨a, l, c, rfl, hrd, _, hO5, hk5⟩
    have hr0 : (readP m bs e0 e1).2.1 = 0 := by
      unfold canRP at hcan
      simp only [decide_eq_true_eq] at hcan
      unfold readP
      rw [if_neg (by omega), if_neg (by omega), if_neg]
      rintro ⟨rfl, h2⟩
      simp at hcan; omega
    have hrd0 : s.met0.rdO x m = ((readP m bs e0 e1).1, s.met0.setO x.ob (.pipe (readP m bs e0 e1).2.2 e0 e1)) := by
      unfold AK.rdO
      rw [show s.met0.objs x.ob = .pipe bs e0 e1 from ho]
    rw [hrd0, hr0]
    obtain ⟨L', r1, r2⟩ := h4.obj hk5 (fun z hz => by rw [hz]; exact hO4.1) (o := .pipe (readP m bs e0 e1).2.2 e0 e1) (by show TK.con = (s.objs x.ob).kd; rw [ho]; rfl) (F := fun z => L.own z = some (.obj x.ob)) (fun z hz => .inl hz) hO5
    exact ⟨_, _, _, _, rfl, _, _, _, L', rfl, hrd, r1, st4.trans r2⟩
  | file bs =>
    rw [ho] at htb4 hO4
    refine ⟨_, htb4.at (i := 1) rfl, condFa2 (condFa2 ?_)⟩
    intro w7
    have hk7 : Kept No w4 w7 := Kept.drew _ _
    clear_value w7
    have h7 := h4.no hk7
    have hdb7 := hdb4.keep hk7 fun e => e
    have htb7 := htb4.keep hk7 fun e => e
    obtain ⟨fa, fl, fc, hfb, hfo, hfn, hfl, hfF⟩ : RefO (fun z => L.own z = some (.obj x.ob)) w7 (L.loc x.ob) bs := RefO.keep hO4 hk7 fun _ _ e => e
    have hfl' := hfo.len
    refine nnI ⟨_, hdb7.at (i := 1) rfl, nnI ⟨_, htb7.at (i := 2) rfl, nnI ⟨_, _, _, hfb.at0 rfl, nnI ⟨_, hdb7.at (i := 3) rfl, CallR.mono (rpiece_ok hfo.rd (by omega) (off := x.at_) (n := m) hdi.2.1 (by omega)) ?_⟩⟩⟩⟩
    rintro v w8 ⟨a', c', rfl, hpo, hk8, hpf⟩
    have h8 := h7.no hk8
    have hdb8 := hdb7.keep hk8 fun e => e
    have hpl : x.at_ + ((piece bs x.at_ m).length : Int) ≤ 1048576 := by
      unfold piece
      rw [List.length_take, List.length_drop]
      omega
    refine ⟨_, _, _, rfl, nnI ⟨_, hdb8.at (i := 3) rfl, ⟨by omega, by omega⟩, nnI (stC_at hdb8 (i := 3) (by simp [pdC]) fun w9 hdb9 hk9 _ => ?_)⟩⟩
    have hdb9 : Blk w9 (L.dloc d) (pdC d (tl x.ob) x.fl (x.at_ + ((piece bs x.at_ m).length : Int)) x.hd) := hdb9
    have hrd0 : s.met0.rdO x m = (piece bs x.at_ m, s.met0.setD x.num (x.at_ + ((piece bs x.at_ m).length : Int)) x.hd) := by
      unfold AK.rdO
      rw [show s.met0.objs x.ob = .file bs from ho]
    rw [hrd0, hn]
    obtain ⟨L', r1, r2⟩ := h8.desc hx4 hk9 hdb9 ⟨by omega, hpl, hdi.2.2.2.1, hdi.2.2.2.2.1⟩
    refine ⟨_, _, _, L', rfl, ?_, r1, ((st4.no hk7).no hk8).trans r2⟩
    refine (hpo.keep hk9 fun b hb e => ?_).rd
    have := hpf b hb
    have := (hdb7.lt)
    omega
end Go.Proofs.YtpoaacnnhgebfaaGreat
namespace Go.Proofs.YtpoaacnnhgebfaaGreat
open Go.Lw
theorem RdB.take {w : World} {a : Option Addr} {l c : Nat} {ds : List Int} (h : RdB w a l c ds) {k : Nat} (hk : k ≤ l) : RdB w a k c (ds.take k) := by
  have hl := h.len
  obtain ⟨h1, h2, h3, h4⟩ := h
  refine ⟨by unfold By; rw [List.length_map, List.length_take]; omega, by omega, h3, fun ad had j v hj => ?_⟩
  refine h4 ad had j v ?_
  unfold By at hj ⊢
  rw [List.getElem?_map] at hj ⊢
  rw [List.getElem?_take] at hj
  by_cases e : j < k
  · rw [if_pos e] at hj; exact hj
  · rw [if_neg e] at hj; cases hj
def roomN (s : AK) (x : AD) : Int := match s.objs x.ob with
  | .file bs => 1048576 - placeF x.fl x.at_ bs
  | .term LL scr => 1048576 - (scr.length : Int)
  | .pipe _ _ _ => 0
theorem PObj.fileLen {L : KL} {w : World} {i : Nat} {bs : List Int} (h : PObj L w i (.file bs)) : bs.length ≤ 1048576 := by
  obtain ⟨_, _, _, _, _, _, hl, _⟩ : RefO _ w (L.loc i) bs := h
  exact hl
theorem PObj.scrLen {L : KL} {w : World} {i : Nat} {LL : List (List Int)} {scr : List Int} (h : PObj L w i (.term LL scr)) : scr.length ≤ 1048576 := RefT.scr (show RefT _ _ w (L.loc i) LL scr from h)
theorem proom_ok {w : World} {pk : Nat} {s : AK} {L : KL} {tl : Nat → Nat} {nm : Nat → ByteArray} (h : PagO w pk s L tl nm) {d : Int} {x : AD} (hx : s.desc d = some x) (hk : (s.objs x.ob).kd ≠ .con) {Q : Value → World → Prop} (hq : Q (.int .i64 (roomN s x)) w) : CallR Tryz.prog 174 [pd (L.dloc d)] w Q := by
  refine C174 ?_
  unfold L174
  obtain ⟨hn, hm, hob, hdb, htb, hO⟩ := h.ofX hx
  have hdi := h.ok.di x hm
  unfold roomN at hq
  refine nnI ⟨_, hdb.at (i := 1) rfl, nnI ?_⟩
  cases ho : s.objs x.ob with
  | term LL scr =>
    rw [ho] at htb hO hq
    have hl := hO.scrLen
    obtain ⟨la, ll, lc, sa, sl, sc, es, hb, _, _, hs, _⟩ : RefT _ _ w (L.loc x.ob) LL scr := hO
    have hsl := hs.len
    refine ⟨_, htb.at (i := 1) rfl, condTr2 (nnI ⟨_, hdb.at (i := 1) rfl, nnI ⟨_, htb.at (i := 3) rfl, nnI ⟨_, _, _, hb.at (i := 1) rfl, ⟨by omega, by omega⟩, ?_⟩⟩⟩)⟩
    rw [← hsl]; exact hq
  | pipe bs e0 e1 => rw [ho] at hk; exact absurd rfl hk
  | file bs =>
    rw [ho] at htb hO hq
    have hl := hO.fileLen
    obtain ⟨fa, fl, fc, hb, hs, _, _, _⟩ : RefO _ w (L.loc x.ob) bs := hO
    have hsl := hs.len
    refine ⟨_, htb.at (i := 1) rfl, condFa2 (nnI ⟨_, hdb.at (i := 2) rfl, condI (fun h4 => ?_) (fun h4 => ?_)⟩)⟩
    · have h4 : bitI x.fl 4 ≠ 0 := bne_iff_ne.1 h4
      refine nnI ⟨_, hdb.at (i := 1) rfl, nnI ⟨_, htb.at (i := 2) rfl, nnI ⟨_, _, _, hb.at0 rfl, ⟨by omega, by omega⟩, ?_⟩⟩⟩
      have hq : Q (.int .i64 (1048576 - placeF x.fl x.at_ bs)) w := hq
      unfold placeF at hq
      rw [if_pos h4] at hq
      rw [← hsl]; exact hq
    · have h4 : ¬ bitI x.fl 4 ≠ 0 := fun e => by
        have : (bitI x.fl 4 != 0) = false := h4
        rw [bne_iff_ne.2 e] at this; cases this
      have hq : Q (.int .i64 (1048576 - placeF x.fl x.at_ bs)) w := hq
      unfold placeF at hq
      rw [if_neg h4] at hq
      exact nnI ⟨_, hdb.at (i := 3) rfl, ⟨by omega, by omega⟩, hq⟩
theorem roomD_zero {p n : Int} (hp : p ≤ 1048576) : (1048576 - p = 0 → (roomD p n) = (0, 31)) ∧ (1048576 - p ≠ 0 → roomD p n = (mn n (1048576 - p), 0)) := by
  unfold roomD
  constructor
  · intro e; rw [if_neg (by omega)]
  · intro e; rw [if_pos (by omega)]
set_option maxHeartbeats 4000000 in
theorem pwrite_ok {w : World} {pk : Nat} {s : AK} {L : KL} {tl : Nat → Nat} {nm : Nat → ByteArray} (h : PagO w pk s L tl nm) (d : Int) {a : Option Addr} {l c : Nat} {ds : List Int} (hd : RdB w a l c ds) (hap : ds ≠ [] → ∀ k, inA a k → L.own k = none) (hc : s.c1 ≤ 4611686018427387904) :
    CallR Tryz.prog 67 [pd pk, .int .i64 d, .slice a l c] w fun v w' => v = .tuple #[.int .i64 (s.write d ds).1, .int .i64 (s.write d ds).2.1] ∧ ∃ L', PagO w' pk (s.write d ds).2.2 L' tl nm ∧ KStep w w' L L' := by
  refine C67 ?_
  unfold L67
  have hlen := hd.len
  have hlc : l ≤ c := hd.2.1
  have bad : ∀ (e : Int), s.write d ds = (0, e, s) → (.tuple #[.int .i64 0, .int .i64 e] : Value) = .tuple #[.int .i64 (s.write d ds).1, .int .i64 (s.write d ds).2.1] ∧ ∃ L', PagO w pk (s.write d ds).2.2 L' tl nm ∧ KStep w w L L' := by
    intro e hr
    rw [hr]
    exact ⟨rfl, L, h, KStep.refl _ _⟩
  refine CallR.mono (pfind_ok h d) ?_
  rintro v w1 ⟨rfl, ⟨hdn, rfl⟩ | ⟨x, hx, rfl⟩⟩
  · refine ⟨_, rfl, fun _ _ => False, condTr2 (bad 64 ?_), fun _ _ e => e.elim⟩
    have : s.find d 2 = 64 := by unfold AK.find; rw [hdn]
    unfold AK.write
    rw [this, if_pos (by simp)]
  obtain ⟨hn, hm, hob, hdb, htb, hO⟩ := h.ofX hx
  have hc1 := h.ok.c1
  have hdi := h.ok.di x hm
  obtain ⟨T, ta, tc, da, dc, hB⟩ := h.kb
  have hpl : placeF x.fl x.at_ (match s.objs x.ob with | .file bs => bs | _ => []) ≤ 1048576 ∧ 0 ≤ placeF x.fl x.at_ (match s.objs x.ob with | .file bs => bs | _ => []) := by
    unfold placeF
    split
    · cases ho : s.objs x.ob with
      | file bs => rw [ho] at hO; have := hO.fileLen; dsimp only; omega
      | term _ _ => simp
      | pipe _ _ _ => simp
    · omega
  refine ⟨_, rfl, fun vs w' => vs = [] ∧ w' = w1 ∧ 1 ≤ ds.length ∧ ds.length ≤ 1048576 ∧ (s.roomO x ds.length).2 = 0 ∧ s.write d ds = if (metF s.ps ds.length).2 ≠ 0 then (0, (metF s.ps ds.length).2, s.met1) else ((s.met1.wrO x ds (min (metF s.ps ds.length).1 (s.roomO x ds.length).1)).1, 0, (s.met1.wrO x ds (min (metF s.ps ds.length).1 (s.roomO x ds.length).1)).2), condFa2 (nnI ⟨_, hdb.at (i := 2) rfl, condI (fun h0 => bad 65 ?_) (fun h0 => ?_)⟩), ?_⟩
  · have h0 : bitI x.fl 2 = 0 := beq_iff_eq.1 h0
    have : s.find d 2 = 65 := by unfold AK.find; rw [hx]; exact if_pos (by rw [h0]; simp)
    unfold AK.write
    rw [this, if_pos (by simp)]
  · have h0 : bitI x.fl 2 = 2 := by
      rcases bit_way2 x.fl with e | e
      · exact absurd e (beq_eq_false_iff_ne.1 h0)
      · exact e
    have hf : ¬ s.find d 2 ≠ 0 := fun e => e (AK.find_of hx h0)
    refine condP (fun h1 => bad 5 (by unfold AK.write; rw [if_neg hf, if_pos (by omega)])) (fun h1 => condI (fun h3 => bad 0 ?_) (fun h3 => ?_))
    · have h3 : l = 0 := by simp at h3; omega
      unfold AK.write; rw [if_neg hf, if_neg (by omega), if_pos (by omega)]
    have h3 : l ≠ 0 := by simp at h3; omega
    have hwr : s.write d ds = if (s.roomO x ds.length).2 ≠ 0 then (0, (s.roomO x ds.length).2, s) else if (metF s.ps ds.length).2 ≠ 0 then (0, (metF s.ps ds.length).2, s.met1) else ((s.met1.wrO x ds (min (metF s.ps ds.length).1 (s.roomO x ds.length).1)).1, 0, (s.met1.wrO x ds (min (metF s.ps ds.length).1 (s.roomO x ds.length).1)).2) := by
      unfold AK.write
      rw [if_neg hf, if_neg (by omega), if_neg (by omega), hx]
    have no : ∀ e : Int, (s.roomO x ds.length).2 = e → e ≠ 0 → s.write d ds = (0, e, s) := fun e he hne => by rw [hwr, if_pos (by rw [he]; exact hne), he]
    have go : (s.roomO x ds.length).2 = 0 → ([] : List Value) = [] ∧ w1 = w1 ∧ 1 ≤ ds.length ∧ ds.length ≤ 1048576 ∧ (s.roomO x ds.length).2 = 0 ∧ s.write d ds = if (metF s.ps ds.length).2 ≠ 0 then (0, (metF s.ps ds.length).2, s.met1) else ((s.met1.wrO x ds (min (metF s.ps ds.length).1 (s.roomO x ds.length).1)).1, 0, (s.met1.wrO x ds (min (metF s.ps ds.length).1 (s.roomO x ds.length).1)).2) := fun hr =>
      ⟨rfl, rfl, by omega, by omega, hr, by rw [hwr, if_neg (by rw [hr]; simp)]⟩
    refine nnI ⟨_, hdb.at (i := 1) rfl, nnI ?_⟩
    cases ho : s.objs x.ob with
    | file bs =>
      rw [ho] at htb hpl
      have hkd : (s.objs x.ob).kd ≠ .con := by rw [ho]; simp [AObj.kd]
      have hro : s.roomO x ds.length = roomD (placeF x.fl x.at_ bs) ds.length := by unfold AK.roomO; rw [ho]
      have hrn : roomN s x = 1048576 - placeF x.fl x.at_ bs := by unfold roomN; rw [ho]
      obtain ⟨z1, z2⟩ := roomD_zero (p := placeF x.fl x.at_ bs) (n := (ds.length : Int)) hpl.1
      refine ⟨_, htb.at (i := 1) rfl, condFa2 (nnI ⟨_, hdb.at (i := 1) rfl, nnI ⟨_, htb.at (i := 1) rfl, condFa2 (nnI ⟨_, hdb.at (i := 1) rfl, nnI ⟨_, htb.at (i := 1) rfl, condTr2 (proom_ok h hx hkd ⟨_, rfl, condI (fun hz => ?_) (fun hz => ?_)⟩)⟩⟩)⟩⟩)⟩
      · exact bad 31 (no 31 (by rw [hro, z1 (by rw [← hrn]; simpa using hz)]) (by simp))
      · exact go (by rw [hro, z2 (by rw [← hrn]; simpa using hz)])
    | term LL scr =>
      rw [ho] at htb hO
      have hsl := hO.scrLen
      have hkd : (s.objs x.ob).kd ≠ .con := by rw [ho]; simp [AObj.kd]
      have hro : s.roomO x ds.length = roomD (scr.length : Int) ds.length := by unfold AK.roomO; rw [ho]
      have hrn : roomN s x = 1048576 - (scr.length : Int) := by unfold roomN; rw [ho]
      obtain ⟨z1, z2⟩ := roomD_zero (p := (scr.length : Int)) (n := (ds.length : Int)) (by omega)
      refine ⟨_, htb.at (i := 1) rfl, condFa2 (nnI ⟨_, hdb.at (i := 1) rfl, nnI ⟨_, htb.at (i := 1) rfl, condFa2 (nnI ⟨_, hdb.at (i := 1) rfl, nnI ⟨_, htb.at (i := 1) rfl, condTr2 (proom_ok h hx hkd ⟨_, rfl, condI (fun hz => ?_) (fun hz => ?_)⟩)⟩⟩)⟩⟩)⟩
      · exact bad 31 (no 31 (by rw [hro, z1 (by rw [← hrn]; simpa using hz)]) (by simp))
      · exact go (by rw [hro, z2 (by rw [← hrn]; simpa using hz)])
    | pipe bs e0 e1 =>
      rw [ho] at htb hO
      have hO : RefP w1 (L.loc x.ob) (fun z => L.own z = some (.obj x.ob)) bs e0 e1 := hO
      have hro : s.roomO x ds.length = roomC ds.length bs e0 e1 := by unfold AK.roomO; rw [ho]
      obtain ⟨_, _, pa, pl, pc, hpb, _⟩ := id hO
      refine ⟨_, htb.at (i := 1) rfl, condTr2 (nnI ⟨_, hdb.at (i := 1) rfl, nnI ⟨_, htb.at (i := 4) rfl, nnI ⟨_, hpb.at (i := 1) rfl, condI (fun hz => bad 53 (no 53 ?_ (by simp))) (fun hz => ?_)⟩⟩⟩)⟩
      · have hz : e0 = 0 := by simp at hz; omega
        rw [hro]; unfold roomC; rw [if_pos hz]
      have hz : e0 ≠ 0 := by simp at hz; omega
      refine nnI ⟨_, hdb.at (i := 1) rfl, nnI ⟨_, htb.at (i := 1) rfl, condTr2 (nnI ⟨_, hdb.at (i := 1) rfl, nnI ⟨_, htb.at (i := 4) rfl, rcanw_to hO _ ⟨_, rfl, ?_⟩⟩⟩)⟩⟩
      have hll : ((l : Nat) : Int) = (ds.length : Int) := by omega
      rw [hll]
      refine condI (fun hcw => bad 52 (no 52 ?_ (by simp))) (fun hcw => ?_)
      · rw [hro]; unfold roomC; rw [if_neg hz, if_pos (by simpa using hcw)]
      · exact nnI ⟨_, hdb.at (i := 1) rfl, nnI ⟨_, htb.at (i := 1) rfl, condFa2 (go (by rw [hro]; unfold roomC; rw [if_neg hz, if_neg (by simpa using hcw)]))⟩⟩
  rintro _ w2 ⟨-, rfl, h1, h2, hro, hwr⟩
  rw [hwr]
  clear bad hwr
  refine nnI ⟨_, hB.b.at (i := 5) rfl, ⟨by omega, by omega⟩, nnI (stC_at hB.b (i := 5) (by simp) fun w3 hb3 hk3 _ => ?_)⟩
  have hb3 : Blk w3 pk #[.slice ta T.length tc, .slice da s.descs.length dc, .int .i64 s.next, pd L.pg, .int .i64 s.c0, .int .i64 (s.c1 + 1)] := hb3
  have hll : ((l : Nat) : Int) = (ds.length : Int) := by omega
  refine nnI ⟨_, hb3.at (i := 3) rfl, ?_⟩
  rw [hll]
  refine CallR.mono (pmet_ok h (wr := true) (n := (ds.length : Int)) (by omega) (by omega) hB hb3 hk3) ?_
  rintro v w4 ⟨rfl, h4, st4, k4⟩
  have h4 : PagO w4 pk s.met1 L tl nm := h4
  refine ⟨_, _, rfl, ?_⟩
  by_cases he : (metF s.ps ds.length).2 ≠ 0
  · rw [if_pos he]
    exact condT (by simpa using he) ⟨rfl, L, h4, st4⟩
  have he : (metF s.ps ds.length).2 = 0 := by simpa using he
  rw [if_neg (by simpa using he)]
  obtain ⟨hm1, hm2⟩ := metF_bound h.ok.pm (n := (ds.length : Int)) (by omega) (by omega) he
  generalize (metF s.ps ds.length).1 = m at hm1 hm2 ⊢
  have hne : ds ≠ [] := fun e => by rw [e] at h1; simp at h1
  have hap := hap hne
  have hd4 : RdB w4 a l c ds := hd.keep k4 fun b _ hb e => by
    have := hap b hb
    rcases e with rfl | rfl
    · rw [h.oK] at this; cases this
    · rw [h.oP] at this; cases this
  have hx4 : s.met1.desc d = some x := hx
  obtain ⟨_, _, _, hdb4, htb4, hO4⟩ := h4.ofX hx4
  have htb4 : Blk w4 (tl x.ob) (thC (nm x.ob) (s.objs x.ob).kd (L.loc x.ob)) := htb4
  have hO4 : PObj L w4 x.ob (s.objs x.ob) := hO4
  refine condF (by rw [he]; rfl) (nnI ⟨_, hdb4.at (i := 1) rfl, nnI ?_⟩)
  cases ho : s.objs x.ob with
  | pipe bs e0 e1 =>
    rw [ho] at htb4 hO4
    have hO4 : RefP w4 (L.loc x.ob) (fun z => L.own z = some (.obj x.ob)) bs e0 e1 := hO4
    have hroC : s.roomO x ds.length = roomC ds.length bs e0 e1 := by unfold AK.roomO; rw [ho]
    rw [hroC] at hro ⊢
    have hE : e0 ≠ 0 ∧ canWP ds.length bs e0 e1 = true ∧ (roomC ds.length bs e0 e1).1 = ds.length := by
      unfold roomC at hro ⊢
      by_cases z : e0 = 0
      · rw [if_pos z] at hro; cases hro
      rw [if_neg z] at hro ⊢
      by_cases y : canWP ds.length bs e0 e1 = false
      · rw [if_pos y] at hro; cases hro
      · rw [if_neg y]; exact ⟨z, by simpa using y, rfl⟩
    rw [hE.2.2, Int.min_eq_left (by omega)]
    refine ⟨_, htb4.at (i := 1) rfl, condTr2 (nnI ⟨_, hdb4.at (i := 1) rfl, nnI ⟨_, htb4.at (i := 4) rfl, CallR.mono (rwrite_ok hO4 hd4 (fun _ e => by have := hap _ e; rw [hO4.1] at this; cases this) m) ?_⟩⟩)⟩
    rintro v w5 ⟨rfl, hO5, hk5⟩
    have hcw := hE.2.1
    unfold canWP at hcw
    simp only [decide_eq_true_eq] at hcw
    have hr0 : (writeP ds m bs e0 e1).2.1 = 0 := by
      unfold writeP
      rw [if_neg (by omega), if_neg (by omega), if_neg (by omega), if_neg hE.1, if_neg hne, if_neg]
      intro e
      rcases hcw.2.2.2 with e2 | e2
      · exact hE.1 e2
      · rw [e] at e2; omega
    have hwr0 : s.met1.wrO x ds m = ((writeP ds m bs e0 e1).1, s.met1.setO x.ob (.pipe (writeP ds m bs e0 e1).2.2 e0 e1)) := by
      unfold AK.wrO
      rw [show s.met1.objs x.ob = .pipe bs e0 e1 from ho]
    rw [hwr0, hr0]
    obtain ⟨L', r1, r2⟩ := h4.obj hk5 (fun z hz => by rw [hz]; exact hO4.1) (o := .pipe (writeP ds m bs e0 e1).2.2 e0 e1) (by show TK.con = (s.objs x.ob).kd; rw [ho]; rfl) (F := fun z => L.own z = some (.obj x.ob) ∨ (w4.heap.size ≤ z ∧ z < w5.heap.size)) (fun z hz => hz.imp (fun e => e) fun e => e.1) hO5
    exact ⟨_, _, rfl, rfl, L', r1, st4.trans r2⟩
  | term LL scr =>
    rw [ho] at htb4 hO4
    have hsl := hO4.scrLen
    have hO4 : RefT (fun z => L.own z = some (.obj x.ob)) (fun z => L.own z = some (.lines x.ob)) w4 (L.loc x.ob) LL scr := hO4
    have hkd : (s.met1.objs x.ob).kd ≠ .con := by show (s.objs x.ob).kd ≠ .con; rw [ho]; simp [AObj.kd]
    have hrn : roomN s.met1 x = 1048576 - (scr.length : Int) := by unfold roomN; rw [show s.met1.objs x.ob = .term LL scr from ho]
    have hroD : s.roomO x ds.length = roomD (scr.length : Int) ds.length := by unfold AK.roomO; rw [ho]
    obtain ⟨z1, z2⟩ := roomD_zero (p := (scr.length : Int)) (n := (ds.length : Int)) (by omega)
    have hz : 1048576 - (scr.length : Int) ≠ 0 := fun e => by rw [hroD, z1 e] at hro; cases hro
    rw [hroD, z2 hz]
    have hmm : mn m (1048576 - (scr.length : Int)) = ((min ds.length (min m (mn ds.length (1048576 - (scr.length : Int)))).toNat : Nat) : Int) := by rw [mn_eq, mn_eq]; omega
    have hwr0 : s.met1.wrO x ds (min m (mn ds.length (1048576 - (scr.length : Int)))) = (mn m (1048576 - (scr.length : Int)), s.met1.setO x.ob (.term LL (writeT (ds.take (Int.toNat (mn m (1048576 - (scr.length : Int))))) scr).2)) := by
      unfold AK.wrO
      rw [show s.met1.objs x.ob = .term LL scr from ho]
      dsimp only
      rw [← hmm, hmm, Int.toNat_natCast]
    rw [hwr0]
    refine ⟨_, htb4.at (i := 1) rfl, condFa2 (proom_ok h4 hx4 hkd ⟨_, rfl, nnI ⟨_, hdb4.at (i := 1) rfl, nnI ⟨_, htb4.at (i := 1) rfl, condTr2 ?_⟩⟩⟩)⟩
    rw [hrn]
    intro w8
    have hk8 : Kept No w4 w8 := Kept.drew _ _
    clear_value w8
    have hmb : 0 ≤ mn m (1048576 - (scr.length : Int)) ∧ mn m (1048576 - (scr.length : Int)) ≤ ds.length := by rw [mn_eq]; omega
    refine nnI ⟨_, (hdb4.keep hk8 fun e => e).at (i := 1) rfl, nnI ⟨_, (htb4.keep hk8 fun e => e).at (i := 3) rfl, ⟨by omega, by omega⟩, CallR.mono (rwriteT_ok (RefT.keep hO4 hk8 (fun _ _ e => e) fun _ _ e => e) (RdB.take (hd4.keep hk8 fun _ _ _ e => e) (k := Int.toNat (mn m (1048576 - (scr.length : Int)))) (by omega)) (by omega)) ?_⟩⟩
    rintro v w9 ⟨rfl, F', hO9, hF', hk9⟩
    obtain ⟨L', r1, r2⟩ := (h4.no hk8).obj hk9 (fun z hz => hz) (o := .term LL (writeT (ds.take (Int.toNat (mn m (1048576 - (scr.length : Int))))) scr).2) (by show TK.scr = (s.objs x.ob).kd; rw [ho]; rfl) (F := F') hF' hO9
    exact ⟨_, rfl, rfl, L', r1, (st4.no hk8).trans r2⟩
  | file bs =>
    rw [ho] at htb4 hO4 hpl
    have hpl : placeF x.fl x.at_ bs ≤ 1048576 ∧ 0 ≤ placeF x.fl x.at_ bs := hpl
    have hfl := hO4.fileLen
    have hO4 : RefO (fun z => L.own z = some (.obj x.ob)) w4 (L.loc x.ob) bs := hO4
    have hkd : (s.met1.objs x.ob).kd ≠ .con := by show (s.objs x.ob).kd ≠ .con; rw [ho]; simp [AObj.kd]
    have hrn : roomN s.met1 x = 1048576 - placeF x.fl x.at_ bs := by unfold roomN; rw [show s.met1.objs x.ob = .file bs from ho]
    have hroD : s.roomO x ds.length = roomD (placeF x.fl x.at_ bs) ds.length := by unfold AK.roomO; rw [ho]
    obtain ⟨z1, z2⟩ := roomD_zero (p := placeF x.fl x.at_ bs) (n := (ds.length : Int)) hpl.1
    have hz : 1048576 - placeF x.fl x.at_ bs ≠ 0 := fun e => by rw [hroD, z1 e] at hro; cases hro
    rw [hroD, z2 hz]
    obtain ⟨p, hp⟩ : ∃ p, p = placeF x.fl x.at_ bs := ⟨_, rfl⟩
    rw [← hp] at hrn hz hpl ⊢
    obtain ⟨k, hk⟩ : ∃ k : Nat, ((k : Nat) : Int) = mn m (1048576 - p) := ⟨(mn m (1048576 - p)).toNat, by rw [mn_eq]; omega⟩
    have hmm : min ds.length (min m (mn ds.length (1048576 - p))).toNat = k := by rw [mn_eq] at hk ⊢; omega
    have hkl : k ≤ ds.length := by rw [mn_eq] at hk; omega
    have hkp : p + (k : Int) ≤ 1048576 := by rw [mn_eq] at hk; omega
    have hwr0 : s.met1.wrO x ds (min m (mn ds.length (1048576 - p))) = ((k : Int), (s.met1.setO x.ob (.file (writeF bs p (ds.take k)).2)).setD d (p + (k : Int)) x.hd) := by
      unfold AK.wrO
      rw [show s.met1.objs x.ob = .file bs from ho]
      dsimp only
      rw [hmm, ← hp, hn]
    rw [hwr0]
    have hdfn : L.own (L.dloc d) = some (.desc d) := by have := h.od x hm; rw [hn] at this; exact this
    refine ⟨_, htb4.at (i := 1) rfl, condFa2 (proom_ok h4 hx4 hkd ⟨_, rfl, nnI ⟨_, hdb4.at (i := 1) rfl, nnI ⟨_, htb4.at (i := 1) rfl, condFa2 ?_⟩⟩⟩)⟩
    rw [hrn, ← hk]
    refine ⟨fun vs w' => vs = [] ∧ Kept (· = L.dloc d) w4 w' ∧ Blk w' (L.dloc d) (pdC d (tl x.ob) x.fl p x.hd), ?_, ?_⟩
    · refine nnI ⟨_, hdb4.at (i := 2) rfl, condI (fun h4 => ?_) (fun h4 => ?_)⟩
      · have h4 : bitI x.fl 4 ≠ 0 := bne_iff_ne.1 h4
        obtain ⟨fa, fl, fc, hfb, hfo, _, _, _⟩ := id hO4
        have hfol := hfo.len
        refine nnI ⟨_, hdb4.at (i := 1) rfl, nnI ⟨_, htb4.at (i := 2) rfl, nnI ⟨_, _, _, hfb.at0 rfl, nnI (stC_at hdb4 (i := 3) (by simp [pdC]) fun w5 hdb5 hk5 _ => ⟨rfl, hk5, ?_⟩)⟩⟩⟩
        have hpe : p = ((fl : Nat) : Int) := by rw [hp]; unfold placeF; rw [if_pos h4]; omega
        rw [hpe]; exact hdb5
      · have h4 : ¬ bitI x.fl 4 ≠ 0 := fun e => by
          have : (bitI x.fl 4 != 0) = false := h4
          rw [bne_iff_ne.2 e] at this; cases this
        have hpe : p = x.at_ := by rw [hp]; unfold placeF; rw [if_neg h4]
        exact ⟨rfl, Kept.refl _ _, by rw [hpe]; exact hdb4⟩
    rintro _ w5 ⟨-, hk5, hdb5⟩
    intro w6
    have hk6 : Kept No w5 w6 := Kept.drew _ _
    clear_value w6
    have hdb6 := hdb5.keep hk6 fun e => e
    have k46 : Kept (· = L.dloc d) w4 w6 := hk5.no hk6
    have hnd : ∀ z t, L.own z = some t → t ≠ .desc d → ¬ z = L.dloc d := fun z t hz ht e => by rw [e, hdfn] at hz; cases hz; exact ht rfl
    have htb6 := htb4.keep k46 (hnd _ _ (h4.th x.ob hob).2 (by simp))
    have hO6 := RefO.keep hO4 k46 fun z hz => hnd _ _ hz (by simp)
    have hd6 := hd4.keep k46 fun b _ hb e => by have := hap b hb; rw [e, hdfn] at this; cases this
    have hapF : ds.take k ≠ [] → ∀ b, inA a b → ¬ L.own b = some (.obj x.ob) := fun _ b hb e => by rw [hap b hb] at e; cases e
    refine nnI ⟨_, hdb6.at (i := 1) rfl, nnI ⟨_, htb6.at (i := 2) rfl, nnI ⟨_, hdb6.at (i := 3) rfl, ⟨by omega, by omega⟩, ?_⟩⟩⟩
    have ek : Int.toNat (k : Int) = k := Int.toNat_natCast k
    rw [ek]
    refine CallR.mono (rWriteAt_ok hO6 p (RdB.take hd6 (k := k) (by omega)) (by omega) hapF) ?_
    rintro v w7 ⟨rfl, F', hO7, hG, hk7⟩
    have hdb7 := hdb6.keep hk7 fun e => by rw [hdfn] at e; cases e
    refine ⟨_, rfl, nnI ⟨_, hdb7.at (i := 3) rfl, ⟨by omega, by omega⟩, nnI (stC_at hdb7 (i := 3) (by simp [pdC]) fun w8 hdb8 hk8 _ => ?_)⟩⟩
    have hdb8 : Blk w8 (L.dloc d) (pdC d (tl x.ob) x.fl (p + (k : Int)) x.hd) := hdb8
    have hF'd : ¬ F' (L.dloc d) := fun e => by
      rcases hG _ e with e | e
      · rw [hdfn] at e; cases e
      · have := hdb6.lt; omega
    have hO8 := RefO.keep hO7 hk8 fun z hz e => hF'd (by rw [← e]; exact hz)
    have kall : Kept (fun z => L.own z = some (.obj x.ob) ∨ L.own z = some (.desc d)) w4 w8 :=
      ((k46.mono fun _ _ e => by rw [e]; exact .inr hdfn : Kept (fun z => L.own z = some (.obj x.ob) ∨ L.own z = some (.desc d)) w4 w6).trans (hk7.mono fun _ _ e => .inl e) fun _ _ e => e).trans (hk8.mono fun _ _ e => by rw [e]; exact .inr hdfn) fun _ _ e => e
    have z46 := k46.size
    have hD' : ∀ y ∈ s.met1.descs, y.num = d → Blk w8 (L.dloc d) (pdC d (tl y.ob) y.fl (p + (k : Int)) x.hd) := fun y hy e => by
      have hyx : s.met1.desc d = some y := by
        have hy' : y ∈ s.descs := hy
        have : y = x := by
          obtain ⟨i, hi, rfl⟩ := List.mem_iff_getElem.1 hy'
          obtain ⟨j, hj, rfl⟩ := List.mem_iff_getElem.1 hm
          have e1 : (s.descs.map (·.num))[i]'(by simpa using hi) = (s.descs.map (·.num))[j]'(by simpa using hj) := by rw [List.getElem_map, List.getElem_map]; exact e.trans hn.symm
          have := (List.getElem_inj h.ok.dn).1 e1
          subst this; rfl
        rw [this]; exact hx4
      rw [hx4] at hyx
      cases hyx
      exact hdb8
    obtain ⟨L', r1, r2, _⟩ := h4.objD (i := x.ob) (d := d) kall (fun z e => e) (o := .file (writeF bs p (ds.take k)).2) (by show TK.disk = (s.objs x.ob).kd; rw [ho]; rfl) (F := F') (fun z hz => (hG z hz).imp (fun e => e) fun e => by omega) hO8 (at' := p + (k : Int)) (hd' := x.hd) hD' ⟨by omega, hkp, hdi.2.2.2.1, hdi.2.2.2.2.1⟩
    exact ⟨rfl, L', r1, st4.trans r2⟩
end Go.Proofs.YtpoaacnnhgebfaaGreat
namespace Go.Proofs.YtpoaacnnhgebfaaGreat
open Go.Lw
theorem pmove_to {w : World} {b off most : Int} (h1 : 0 ≤ b) (h2 : b ≤ 1048576) (hm : most = 1048576) {Q : Value → World → Prop} (hq : Q (if off < -b ∨ off > most - b then .tuple #[.int .i64 0, .bool false] else .tuple #[.int .i64 (b + off), .bool true]) w) : CallR Tryz.prog 151 [.int .i64 b, .int .i64 off, .int .i64 most] w Q := by
  refine C151 ?_
  unfold L151
  subst hm
  refine ⟨⟨by omega, by omega⟩, condP (fun h => ?_) (fun h => ⟨⟨by omega, by omega⟩, condP (fun g => ?_) (fun g => ⟨⟨by omega, by omega⟩, ?_⟩)⟩)⟩
  · rw [if_pos (.inl (by omega))] at hq; exact hq
  · rw [if_pos (.inr (by omega))] at hq; exact hq
  · rw [if_neg (by omega)] at hq; exact hq
theorem bit_zero (n : Int) : bitI n 0 = 0 := by
  unfold bitI
  rw [show BitVec.ofInt (IntKind.bits .i64) 0 = 0#(IntKind.bits .i64) from rfl, BitVec.and_zero]
  rfl
theorem AK.find0 {s : AK} {d : Int} {x : AD} (h : s.desc d = some x) : ¬ s.find d 0 ≠ 0 := fun e => e (AK.find_of h (bit_zero _))
theorem AK.find0n {s : AK} {d : Int} (h : s.desc d = none) : s.find d 0 = 64 := by unfold AK.find; rw [h]
set_option maxHeartbeats 1000000 in
theorem pseek_ok {w : World} {pk : Nat} {s : AK} {L : KL} {tl : Nat → Nat} {nm : Nat → ByteArray} (h : PagO w pk s L tl nm) (d off wh : Int) :
    CallR Tryz.prog 69 [pd pk, .int .i64 d, .int .i64 off, .int .i64 wh] w fun v w' => v = .tuple #[.int .i64 (s.seek d off wh).1, .int .i64 (s.seek d off wh).2.1] ∧ ∃ L', PagO w' pk (s.seek d off wh).2.2 L' tl nm ∧ KStep w w' L L' := by
  refine C69 ?_
  unfold L69
  have bad : ∀ (e : Int), s.seek d off wh = (0, e, s) → (.tuple #[.int .i64 0, .int .i64 e] : Value) = .tuple #[.int .i64 (s.seek d off wh).1, .int .i64 (s.seek d off wh).2.1] ∧ ∃ L', PagO w pk (s.seek d off wh).2.2 L' tl nm ∧ KStep w w L L' := by
    intro e hr
    rw [hr]
    exact ⟨rfl, L, h, KStep.refl _ _⟩
  refine CallR.mono (pfind_ok h d) ?_
  rintro v w1 ⟨rfl, ⟨hdn, rfl⟩ | ⟨x, hx, rfl⟩⟩
  · refine ⟨_, rfl, condTr2 (bad 64 ?_)⟩
    unfold AK.seek
    rw [AK.find0n hdn, if_pos (by simp)]
  obtain ⟨hn, hm, hob, hdb, htb, hO⟩ := h.ofX hx
  have hdi := h.ok.di x hm
  have hsk : s.seek d off wh = match s.objs x.ob with
      | .file bs =>
        if wh < 0 ∨ wh > 2 then (0, 1, s) else
          let base : Int := if wh = 0 then 0 else if wh = 1 then x.at_ else (bs.length : Int)
          if off < -base ∨ off > 1048576 - base then (0, 4, s) else (base + off, 0, s.setD d (base + off) x.hd)
      | _ => (0, 66, s) := by
    unfold AK.seek
    rw [if_neg (AK.find0 hx), hx]
    rfl
  refine ⟨_, rfl, condFa2 (nnI ⟨_, hdb.at (i := 1) rfl, nnI ?_⟩)⟩
  cases ho : s.objs x.ob with
  | term LL scr =>
    rw [ho] at htb hsk
    exact ⟨_, htb.at (i := 1) rfl, condTr2 (bad 66 hsk)⟩
  | pipe bs e0 e1 =>
    rw [ho] at htb hsk
    exact ⟨_, htb.at (i := 1) rfl, condTr2 (bad 66 hsk)⟩
  | file bs =>
    rw [ho] at htb hO hsk
    dsimp only at hsk
    have hfl := hO.fileLen
    obtain ⟨fa, fl, fc, hfb, hfo, _, _, _⟩ : RefO _ w1 (L.loc x.ob) bs := hO
    have hfol := hfo.len
    refine ⟨_, htb.at (i := 1) rfl, condFa2 (condP (fun g => bad 1 (by rw [hsk, if_pos (.inl g)])) (fun g => condP (fun g2 => bad 1 (by rw [hsk, if_pos (.inr g2)])) (fun g2 => ?_)))⟩
    rw [if_neg (by omega)] at hsk
    refine ⟨fun vs w' => vs = [.int .i64 (if wh = 0 then 0 else if wh = 1 then x.at_ else (bs.length : Int))] ∧ w' = w1, ?_, ?_⟩
    · refine condI (fun e => ?_) (fun e => condI (fun e2 => ?_) (fun e2 => ?_))
      · have e : wh = 1 := by simpa using e
        exact nnI ⟨_, hdb.at (i := 3) rfl, by rw [if_neg (by omega), if_pos e], rfl⟩
      · have e2 : wh = 2 := by simpa using e2
        refine nnI ⟨_, hdb.at (i := 1) rfl, nnI ⟨_, htb.at (i := 2) rfl, nnI ⟨_, _, _, hfb.at0 rfl, ?_, rfl⟩⟩⟩
        rw [if_neg (by omega), if_neg (by omega), hfol]
      · have e : wh ≠ 1 := by simpa using e
        have e2 : wh ≠ 2 := by simpa using e2
        exact ⟨by rw [if_pos (by omega)], rfl⟩
    rintro _ n20 w2 ⟨hv, rfl⟩
    simp only [List.cons.injEq, Value.int.injEq, true_and, and_true] at hv
    have hbb : 0 ≤ n20 ∧ n20 ≤ 1048576 := by
      rw [hv]
      split
      · omega
      · split <;> omega
    rw [← hv] at hsk
    refine pmove_to hbb.1 hbb.2 rfl ?_
    by_cases hc : off < -n20 ∨ off > 1048576 - n20
    · rw [if_pos hc] at hsk ⊢
      exact ⟨_, _, rfl, condTr2 (bad 4 hsk)⟩
    · rw [if_neg hc] at hsk ⊢
      refine ⟨_, _, rfl, condFa2 (nnI (stC_at hdb (i := 3) (by simp [pdC]) fun w4 hdb4 hk4 _ => ?_))⟩
      have hdb4 : Blk w4 (L.dloc d) (pdC d (tl x.ob) x.fl (n20 + off) x.hd) := hdb4
      rw [hsk]
      obtain ⟨L', r1, r2⟩ := h.desc hx hk4 hdb4 ⟨by omega, by omega, hdi.2.2.2.1, hdi.2.2.2.2.1⟩
      exact ⟨rfl, L', r1, r2⟩
theorem PagO.delD {w w' : World} {pk : Nat} {s : AK} {L : KL} {tl : Nat → Nat} {nm : Nat → ByteArray} (h : PagO w pk s L tl nm) {d : Int} {x : AD} (hx : s.desc d = some x) (k : Kept (fun z => z = pk ∨ z = L.dloc d) w w')
    {T : List (ByteArray × Nat)} {ta : Option Addr} {tc : Nat} {da : Option Addr} {dc : Nat} (hB : PKb w pk s L tl T ta tc da dc) {a : Option Addr} {c : Nat}
    (hb : Blk w' pk #[.slice ta T.length tc, .slice a (s.delD d).descs.length c, .int .i64 s.next, pd L.pg, .int .i64 s.c0, .int .i64 s.c1]) (hs : SlO 1 w' a (s.delD d).descs.length c ((s.delD d).descs.map fun y => pd (L.dloc y.num))) (ha : ∀ z, inA a z → w.heap.size ≤ z) :
    ∃ L', PagO w' pk (s.delD d) L' tl nm ∧ KStep w w' L L' := by
  obtain ⟨hn, hm, hob, hdb, htb, hO⟩ := h.ofX hx
  have hdf : L.own (L.dloc d) = some (.desc d) := by have := h.od x hm; rw [hn] at this; exact this
  have hA : ∀ z, inA a z → L.own z = some .md ∨ L.own z = none := fun z hz => .inr (h.new_none (ha z hz))
  let L1 := L.setT .md (inA a)
  let L' := L1.setT (.desc d) (fun _ => False)
  have ow : ∀ z t, t ≠ .md → t ≠ .desc d → (L'.own z = some t ↔ L.own z = some t) := fun z t h1 h2 => (L1.setT_ne (fun z hz => hz.elim) z h2).trans (L.setT_ne hA z h1)
  have no : ∀ z t, L.own z = some t → t ≠ .kern → t ≠ .desc d → ¬ (z = pk ∨ z = L.dloc d) := by
    rintro z t hz h1 h2 (rfl | rfl)
    · rw [h.oK] at hz; cases hz; exact h1 rfl
    · rw [hdf] at hz; cases hz; exact h2 rfl
  have hmem : ∀ y ∈ (s.delD d).descs, y ∈ s.descs ∧ y.num ≠ d := fun y hy => by
    have hy : y ∈ s.descs.filter fun x => decide (x.num ≠ d) := hy
    rw [List.mem_filter] at hy
    exact ⟨hy.1, by simpa using hy.2⟩
  refine ⟨L', ⟨⟨T, ta, tc, a, c, hb, hB.ts.keep k fun b hb' => no _ _ (hB.to b hb') (by simp) (by simp), fun b hb' => (ow _ _ (by simp) (by simp)).2 (hB.to b hb'), hs, fun b hb' => (L1.setT_ne (fun z hz => hz.elim) b (by simp)).2 ((L.setT_eq _ _ b).2 hb'), hB.pm, hB.so⟩, fun j hj => ⟨(h.th j hj).1.keep k (no _ _ (h.th j hj).2 (by simp) (by simp)), (ow _ _ (by simp) (by simp)).2 (h.th j hj).2⟩, h.nn, fun j hj => ?_, fun y hy => ?_, ?_, (ow _ _ (by simp) (by simp)).2 h.oK, (ow _ _ (by simp) (by simp)).2 h.oP, fun y hy => ?_, fun z hz => ?_, h.ok.delD d⟩, ⟨k.mono fun z _ hz => ?_, fun z hz => ?_⟩⟩
  · exact (PObjF.keep (h.ob j hj) k (fun z hz => no _ _ hz (by simp) (by simp)) (fun z hz => no _ _ hz (by simp) (by simp))).congr (fun z => (ow z _ (by simp) (by simp)).symm) (fun z => (ow z _ (by simp) (by simp)).symm)
  · obtain ⟨h1, h2⟩ := hmem y hy
    exact (h.ds y h1).keep k (no _ _ (h.od y h1) (by simp) (by simpa using h2))
  · obtain ⟨pa, pl, pc, p1, p2, p3⟩ := h.pl
    exact ⟨pa, pl, pc, p1.keep k (no _ _ h.oP (by simp) (by simp)), p2.keep k (fun b _ hb' => no _ _ (p3 b hb') (by simp) (by simp)), fun b hb' => (ow _ _ (by simp) (by simp)).2 (p3 b hb')⟩
  · obtain ⟨h1, h2⟩ := hmem y hy
    exact (ow _ _ (by simp) (by simpa using h2)).2 (h.od y h1)
  · rcases L1.setT_some _ _ hz with e | e
    · exact e.elim
    · rcases L.setT_some _ _ e with e | e
      · exact SlO.lt hs z e
      · exact Nat.lt_of_lt_of_le (h.lt z e) k.size
  · rcases hz with rfl | rfl
    · rw [h.oK]; simp
    · rw [hdf]; simp
  · rcases L1.setT_some _ _ hz with e | e
    · exact e.elim
    · rcases L.setT_some _ _ e with e | e
      · exact .inr (ha z e)
      · exact .inl e
end Go.Proofs.YtpoaacnnhgebfaaGreat
namespace Go.Proofs.YtpoaacnnhgebfaaGreat
open Go.Lw
structure PInv (s : AK) : Prop where
  en : ∀ x ∈ s.descs, ∀ bs e0 e1, s.objs x.ob = .pipe bs e0 e1 → (x.fl = 1 ∧ 0 < e0) ∨ (x.fl = 2 ∧ 0 < e1)
  un : ∀ x ∈ s.descs, ∀ y ∈ s.descs, x.ob = y.ob → (s.objs x.ob).kd = .con → x.fl = y.fl → x.num = y.num
theorem AK.thing_none {s : AK} {nm : ByteArray} (h : s.thing nm = none) : s.termOf nm = none ∧ s.fileOf nm = none := by
  unfold AK.thing at h
  split at h
  · cases h
  · rename_i e; exact ⟨e, h⟩
set_option maxHeartbeats 2000000 in
theorem popen_ok {w : World} {pk : Nat} {s : AK} {L : KL} {tl : Nat → Nat} {nm : Nat → ByteArray} (h : PagO w pk s L tl nm) (name : ByteArray) (fl : Int) (hn2 : s.next ≤ 4611686018427387904) :
    CallR Tryz.prog 31 [pd pk, .string name, .int .i64 fl] w fun v w' => v = .tuple #[.int .i64 (s.open_ name fl).1, .int .i64 (s.open_ name fl).2.1] ∧ ∃ L' tl' nm', PagO w' pk (s.open_ name fl).2.2 L' tl' nm' ∧ KStep w w' L L' := by
  refine C31 ?_
  unfold L31
  have bad : ∀ (e : Int), s.openE name fl = e → e ≠ 0 → (.tuple #[.int .i64 0, .int .i64 e] : Value) = .tuple #[.int .i64 (s.open_ name fl).1, .int .i64 (s.open_ name fl).2.1] ∧ ∃ L' tl' nm', PagO w pk (s.open_ name fl).2.2 L' tl' nm' ∧ KStep w w L L' := by
    intro e he hne
    unfold AK.open_
    rw [if_pos (by rw [he]; exact hne), he]
    exact ⟨rfl, L, tl, nm, h, KStep.refl _ _⟩
  have hE : s.openE name fl = if namedS name = false then 61 else if AK.flagged fl = false then 65 else if 256 ≤ s.descs.length then 3 else
      if (s.fileOf name).isSome ∨ (s.termOf name).isSome then (if bitI fl 32 ≠ 0 then 63 else 0)
      else if bitI fl 8 = 0 then 62 else if 256 ≤ s.files.length + s.terms.length then 3 else 0 := rfl
  obtain ⟨T, ta, tc, da, dc, hB⟩ := h.kb
  have hTl : T.length = s.files.length + s.terms.length := by have := hB.pm.length_eq; rw [List.length_append] at this; omega
  refine pnamed_ok name ⟨_, rfl, condI (fun e => bad 61 (by rw [hE, if_pos (by simpa using e)]) (by simp)) (fun e1 => ?_)⟩
  have e1 : ¬ namedS name = false := by simpa using e1
  refine pflagged_ok fl ⟨_, rfl, condI (fun e => bad 65 (by rw [hE, if_neg e1, if_pos (by simpa using e)]) (by simp)) (fun e2 => ?_)⟩
  have e2 : ¬ AK.flagged fl = false := by simpa using e2
  refine nnI ⟨_, _, _, hB.b.at (i := 1) rfl, condP (fun e => bad 3 (by rw [hE, if_neg e1, if_neg e2, if_pos (by omega)]) (by simp)) (fun e3 => ?_)⟩
  rw [if_neg e1, if_neg e2, if_neg (by omega)] at hE
  have b32 : IntKind.wrap .i64 ↑(BitVec.ofInt (IntKind.bits .i64) fl &&& BitVec.ofInt (IntKind.bits .i64) 32).toNat = bitI fl 32 := rfl
  have b8 : IntKind.wrap .i64 ↑(BitVec.ofInt (IntKind.bits .i64) fl &&& BitVec.ofInt (IntKind.bits .i64) 8).toNat = bitI fl 8 := rfl
  have b16 : IntKind.wrap .i64 ↑(BitVec.ofInt (IntKind.bits .i64) fl &&& BitVec.ofInt (IntKind.bits .i64) 16).toNat = bitI fl 16 := rfl
  rw [b32, b8, b16]
  have hop : s.openE name fl = 0 → s.open_ name fl = (s.next, 0, s.openS name fl) := fun e => by unfold AK.open_; rw [if_neg (by rw [e]; simp)]
  refine CallR.mono (pthing_ok h name) ?_
  rintro v w3 ⟨rfl, hcase⟩
  obtain ⟨J, hJ⟩ : ∃ J : List Value → World → Prop, J = fun vs w' => ∃ (s1 : AK) (L1 : KL) (tl1 : Nat → Nat) (nm1 : Nat → ByteArray) (i : Nat), vs = [pd (tl1 i)] ∧ PagO w' pk s1 L1 tl1 nm1 ∧ KStep w3 w' L L1 ∧ i < s1.nob ∧ s1.descs = s.descs ∧ s1.next = s.next ∧ s.open_ name fl = (s.next, 0, s1.newD i fl) := ⟨_, rfl⟩
  have fin : ∀ (p : Option Addr) (w36 : World), J [.pointer p] w36 → CallR Tryz.prog 122 [pd pk, .pointer p, .int .i64 fl] w36 fun r w37 => ∃ n : Int, r = .int .i64 n ∧ ((.tuple #[.int .i64 n, .int .i64 0] : Value) = .tuple #[.int .i64 (s.open_ name fl).1, .int .i64 (s.open_ name fl).2.1] ∧ ∃ L' tl' nm', PagO w37 pk (s.open_ name fl).2.2 L' tl' nm' ∧ KStep w3 w37 L L') := by
    intro p w36 hj
    rw [hJ] at hj
    obtain ⟨s1, L1, tl1, nm1, i, hv, h1, st1, hi, hds, hnx, hope⟩ := hj
    simp only [List.cons.injEq, Value.pointer.injEq, and_true] at hv
    subst hv
    refine CallR.mono (pdesc_ok h1 hi fl (by rw [hnx]; exact hn2) (by rw [hds]; omega)) ?_
    rintro v w37 ⟨rfl, L', h37, st37, _⟩
    rw [hope, hnx]
    exact ⟨_, rfl, rfl, L', tl1, nm1, h37, st1.trans st37⟩
  rcases hcase with ⟨hth, rfl⟩ | ⟨t, hth, rfl⟩
  · obtain ⟨ht0, hf0⟩ := AK.thing_none hth
    rw [ht0, hf0, if_neg (by simp)] at hE
    refine ⟨_, rfl, J, ?_, fun _ p w36 hj => fin p w36 hj⟩
    · refine condFa2 (condTr2 (condI (fun e => bad 62 (by rw [hE, if_pos (by simpa using e)]) (by simp)) (fun e4 => ?_)))
      have e4 : bitI fl 8 ≠ 0 := by simpa using e4
      rw [if_neg e4] at hE
      refine condTr2 (nnI ⟨_, _, _, hB.b.at0 rfl, condP (fun e => bad 3 (by rw [hE, if_pos (by omega)]) (by simp)) (fun e5 => ?_)⟩)
      rw [if_neg (by omega)] at hE
      refine condTr2 (CallR.mono (rnew_ok (bs := []) (RdS.nil 1 w3) (by omega)) ?_)
      rintro v w4 (⟨h1, _⟩ | ⟨_, b, F, rfl, hO, hk4, hF⟩)
      · simp at h1
      refine ⟨_, _, rfl, ?_⟩
      intro w5
      have ht5 : Blk w5 w4.heap.size (thC name .disk b) := Blk.alloc _ _ _
      have hk5 : Kept No w4 w5 := Kept.alloc _ _ _
      clear_value w5
      have hFlt := hO.lt
      have hz4 := hk4.size
      obtain ⟨L1, p1, st1⟩ := h.newO (hk4.no hk5) (o := .file []) (name := name) (R := fun _ => False) (RefO.keep hO hk5 fun _ _ e => e : PObjF F (fun _ => False) w5 b (.file [])) hF (fun z e => e.elim) ht5 (by omega) (fun e => by have := hFlt _ e; omega) (fun e => e)
      have hok1 := h.ok.addF (nm := name) (o := .file []) rfl (AK.fileOf_none hf0) (AK.termOf_none ht0) (by omega)
      have hnmn : (if s.nob = s.nob then name else nm s.nob) = name := if_pos rfl
      have htln : (if s.nob = s.nob then w4.heap.size else tl s.nob) = w4.heap.size := if_pos rfl
      have hadd := padd_ok p1 (i := s.nob) (by show s.nob < s.nob + 1; omega) (by show s.files.length + s.terms.length < 256; omega) (fs' := s.files ++ [(name, s.nob)]) (ts' := s.terms) (by
        show ((s.files ++ s.terms) ++ [(if s.nob = s.nob then name else nm s.nob, s.nob)]).Perm _
        rw [hnmn, List.append_assoc, List.append_assoc]
        exact List.Perm.append_left _ (List.perm_append_comm)) hok1
      rw [htln] at hadd
      refine CallR.mono hadd ?_
      rintro v w6 ⟨rfl, L2, p2, st2⟩
      refine ⟨rfl, ?_⟩
      rw [hJ]
      refine ⟨_, L2, _, _, s.nob, by rw [htln], p2, st1.trans st2, by show s.nob < s.nob + 1; omega, rfl, rfl, ?_⟩
      rw [hop hE]
      unfold AK.openS
      rw [ht0, hf0]
      rfl
  · obtain ⟨htm, hte⟩ := AK.thing_mem hth
    have hob := h.nobT htm
    have htb := (h.th t.2 hob).1
    have hsome : (s.fileOf name).isSome ∨ (s.termOf name).isSome := by
      unfold AK.thing at hth
      split at hth
      · rename_i u hu; exact .inr (by rw [hu]; rfl)
      · exact .inl (by rw [hth]; rfl)
    rw [if_pos hsome] at hE
    refine ⟨_, rfl, J, ?_, fun _ p w36 hj => fin p w36 hj⟩
    refine condTr2 (condI (fun e => bad 63 (by rw [hE, if_pos (by simpa using e)]) (by simp)) (fun e4 => ?_))
    rw [if_neg (by simpa using e4)] at hE
    refine condFa2 (condFa2 (condFa2 (nnI ?_)))
    have hopn := hop hE
    cases htt : s.termOf name with
    | some u =>
      have hu : u = t := by unfold AK.thing at hth; rw [htt] at hth; cases hth; rfl
      subst hu
      have hk : (s.objs u.2).kd = .scr := (h.ok.ti u (AK.termOf_some htt).1).2
      rw [hk] at htb
      refine ⟨_, htb.at (i := 1) rfl, condFa2 ?_⟩
      rw [hJ]
      refine ⟨s, L, tl, nm, u.2, rfl, h, KStep.refl _ _, hob, rfl, rfl, ?_⟩
      rw [hopn]; unfold AK.openS; rw [htt]
    | none =>
      have hff : s.fileOf name = some t := by unfold AK.thing at hth; rw [htt] at hth; exact hth
      have hk : (s.objs t.2).kd = .disk := (h.ok.fi t (AK.fileOf_some hff).1).2
      rw [hk] at htb
      have hO := h.ob t.2 hob
      refine ⟨_, htb.at (i := 1) rfl, condTr2 (condI (fun e5 => ?_) (fun e5 => ?_))⟩
      · have e5 : bitI fl 16 ≠ 0 := by simpa using e5
        cases ho : s.objs t.2 with
        | term LL scr => rw [ho] at hk; cases hk
        | pipe bs e0 e1 => rw [ho] at hk; cases hk
        | file bs =>
          rw [ho] at hO
          have hO : RefO (fun z => L.own z = some (.obj t.2)) w3 (L.loc t.2) bs := hO
          obtain ⟨fa, flen, fc, hfb, hfo, hfn, hfl, hfF⟩ := id hO
          refine nnI ⟨_, htb.at (i := 2) rfl, nnI (stC_blk hfb (by simp) fun w7 hfb7 hk7 _ => ?_)⟩
          have hfb7 : Blk w7 (L.loc t.2) #[.slice none 0 0] := hfb7
          obtain ⟨L1, p1, st1⟩ := h.obj hk7 (fun z hz => by rw [hz]; exact (hfF _).2 (.inl rfl)) (i := t.2) (o := .file []) (by rw [ho]; rfl) (F := fun z => z = L.loc t.2) (fun z hz => .inl (by rw [hz]; exact (hfF _).2 (.inl rfl)))
            (show RefO _ w7 (L.loc t.2) [] from ⟨none, 0, 0, hfb7, OB.nil _, inA_none _, by simp, fun k => ⟨fun e => .inl e, fun e => e.elim (fun e => e) fun e => absurd e (inA_none k)⟩⟩)
          rw [hJ]
          refine ⟨_, L1, tl, nm, t.2, rfl, p1, st1, hob, rfl, rfl, ?_⟩
          rw [hopn]; unfold AK.openS; rw [htt, hff]; dsimp only; rw [if_pos e5]
      · have e5 : ¬ bitI fl 16 ≠ 0 := by simpa using e5
        rw [hJ]
        refine ⟨s, L, tl, nm, t.2, rfl, h, KStep.refl _ _, hob, rfl, rfl, ?_⟩
        rw [hopn]; unfold AK.openS; rw [htt, hff]; dsimp only; rw [if_neg e5]
end Go.Proofs.YtpoaacnnhgebfaaGreat
namespace Go.Proofs.YtpoaacnnhgebfaaGreat
open Go.Lw
def RBr (w : World) (s : Slc) (bs : List Int) (lo hi : Nat) : Prop := OB w s.1 s.2.1 s.2.2 bs ∧ ∀ k, inA s.1 k → lo ≤ k ∧ k < hi
def RLr (w : World) (s : Slc) (LL : List (List Int)) (lo hi : Nat) : Prop := (∃ es : List Slc, SlO 1 w s.1 s.2.1 s.2.2 (es.map slv) ∧ es.length = LL.length ∧ ∀ (i : Nat) (e : Slc) (x : List Int), es[i]? = some e → LL[i]? = some x → RBr w e x lo hi) ∧ (∀ k, inA s.1 k → lo ≤ k ∧ k < hi) ∧ ∀ x ∈ LL, x.length ≤ 140737488355328
theorem RBr.keep {w w' : World} {s : Slc} {bs : List Int} {lo hi : Nat} (h : RBr w s bs lo hi) {S : Nat → Prop} (k : Kept S w w') (hn : ∀ z, lo ≤ z → z < hi → ¬ S z) : RBr w' s bs lo hi :=
  ⟨h.1.keep k fun z hz => hn z (h.2 z hz).1 (h.2 z hz).2, h.2⟩
theorem RLr.keep {w w' : World} {s : Slc} {LL : List (List Int)} {lo hi : Nat} (h : RLr w s LL lo hi) {S : Nat → Prop} (k : Kept S w w') (hn : ∀ z, lo ≤ z → z < hi → ¬ S z) : RLr w' s LL lo hi := by
  obtain ⟨⟨es, h1, h2, h3⟩, h4, h5⟩ := h
  exact ⟨⟨es, h1.keep k fun z hz => hn z (h4 z hz).1 (h4 z hz).2, h2, fun i e x he hx => (h3 i e x he hx).keep k hn⟩, h4, h5⟩
theorem RLr.rd {w : World} {s : Slc} {LL : List (List Int)} {lo hi : Nat} (h : RLr w s LL lo hi) : RL w s LL := by
  obtain ⟨⟨es, e1, e2, e3⟩, h4, h5⟩ := h
  exact ⟨⟨es, e1.rd, e2, fun _ _ _ => trivial, fun i e x he hx => ⟨(e3 i e x he hx).1.rd, fun _ _ _ => trivial⟩⟩, h5⟩
structure CpO {α : Type} (R : World → Slc → α → Nat → Nat → Prop) (lo hi : Nat) (w : World) (a : Option Addr) (l c : Nat) (fs : List (ByteArray × α)) (es : List (ByteArray × Slc)) : Prop where
  sl : SlO 2 w a l c (Nv es)
  len : es.length = fs.length
  rg : ∀ b, inA a b → lo ≤ b ∧ b < hi
  each : ∀ i, (h1 : i < es.length) → (h2 : i < fs.length) → es[i].1 = fs[i].1 ∧ R w es[i].2 fs[i].2 lo hi
theorem Nv_one (es : List (ByteArray × Slc)) : ∀ u ∈ Nv es, u.oneCell' = true := by
  intro u hu
  simp only [Nv, List.mem_flatMap, List.mem_cons, List.not_mem_nil, or_false] at hu
  obtain ⟨f, _, h | h⟩ := hu
  · subst h; rfl
  · subst h; rfl
theorem Nv_app (a b : List (ByteArray × Slc)) : Nv (a ++ b) = Nv a ++ Nv b := by simp [Nv]
theorem copyFaults_ok {w : World} {a : Option Addr} {l c : Nat} {ps : List (Int × Int)} (h : RdS 2 w a l c (Fv ps)) (hl : l * 16 ≤ 140737488355328) :
    CallR Tryz.prog 52 [.slice a l c] w fun v w' => ∃ (a' : Option Addr) (c' : Nat), v = .slice a' l c' ∧ Kept No w w' ∧ SlO 2 w' a' l c' (Fv ps) ∧ Fresh w a' := by
  refine C52 ?_
  unfold L52
  obtain ⟨a', c', w2, hrun, hs, hk, hat, hnn⟩ := run_app_sl (P := Tryz.prog) (t := 24) (t2 := 24) (ty := 24) (by kernel_rfl : slTyB Tryz.prog 24 2 16 = true) (by kernel_rfl) (SlO.nil 2 w) h (Fv_one ps) (by omega) (by omega)
  simp only [Nat.zero_add, List.nil_append] at hrun hs
  exact ⟨a', l, c', w2, hrun, a', c', rfl, hk.mono (fun b _ hb => inA_none b hb), hs, hat.fresh (Fresh.none w) (Nat.le_refl _)⟩
structure SetupO (w : World) (fs : List (ByteArray × List Int)) (ts : List (ByteArray × List (List Int))) (ps : List (Int × Int)) (af : Option Addr) (lf cf : Nat) (at_ : Option Addr) (lt ct : Nat) (ap : Option Addr) (lp cp : Nat) : Prop where
  ef : ∃ ef, RdN RB w af lf cf fs ef
  et : ∃ et, RdN RL w at_ lt ct ts et
  pp : RdS 2 w ap lp cp (Fv ps)
  lf : lf * 40 ≤ 140737488355328
  lt : lt * 40 ≤ 140737488355328
  lp : lp * 16 ≤ 140737488355328
  bf : ∀ f ∈ fs, f.2.length ≤ 140737488355328
  bt : ∀ f ∈ ts, f.2.length * 24 ≤ 140737488355328
theorem SetupO.no {w w' : World} {fs : List (ByteArray × List Int)} {ts : List (ByteArray × List (List Int))} {ps : List (Int × Int)} {af : Option Addr} {lf cf : Nat} {at_ : Option Addr} {lt ct : Nat} {ap : Option Addr} {lp cp : Nat}
    (h : SetupO w fs ts ps af lf cf at_ lt ct ap lp cp) (k : Kept No w w') : SetupO w' fs ts ps af lf cf at_ lt ct ap lp cp :=
  ⟨h.ef.elim fun e he => ⟨e, he.no (fun _ _ _ _ h k => h.no k) k⟩, h.et.elim fun e he => ⟨e, he.no (fun _ _ _ _ h k => h.no k) k⟩, h.pp.keep k fun _ _ _ e => e, h.lf, h.lt, h.lp, h.bf, h.bt⟩
structure CfgO (lo hi : Nat) (w : World) (fs : List (ByteArray × List Int)) (ts : List (ByteArray × List (List Int))) (ps : List (Int × Int)) (af : Option Addr) (lf cf : Nat) (at_ : Option Addr) (lt ct : Nat) (ap : Option Addr) (lp cp : Nat) : Prop where
  ef : ∃ ef, CpO RBr lo hi w af lf cf fs ef
  et : ∃ et, CpO RLr lo hi w at_ lt ct ts et
  pp : SlO 2 w ap lp cp (Fv ps)
  pr : ∀ b, inA ap b → lo ≤ b ∧ b < hi
end Go.Proofs.YtpoaacnnhgebfaaGreat
namespace Go.Proofs.YtpoaacnnhgebfaaGreat
open Go.Lw
structure NmI (w0 w : World) (a : Option Addr) (l c : Nat) (fs : List (ByteArray × List Int)) (es : List (ByteArray × Slc)) : Prop where
  sl : SlO 2 w a l c (Nv es)
  len : es.length = fs.length
  fr : Fresh w0 a
  each : ∀ (j : Nat) (e : ByteArray × Slc), es[j]? = some e → ∃ f, fs[j]? = some f ∧ e.1 = f.1 ∧ ∃ lo hi, RBr w e.2 f.2 lo hi ∧ w0.heap.size ≤ lo ∧ hi ≤ w.heap.size ∧ ∀ z, inA a z → z < lo ∨ hi ≤ z
theorem NmI.nil (w : World) : NmI w w none 0 0 [] [] := ⟨SlO.nil 2 w, rfl, Fresh.none w, fun j e he => by simp at he⟩
theorem NmI.no {w0 w w' : World} {a : Option Addr} {l c : Nat} {fs : List (ByteArray × List Int)} {es : List (ByteArray × Slc)} (h : NmI w0 w a l c fs es) (k : Kept No w w') : NmI w0 w' a l c fs es :=
  ⟨h.sl.keep k fun _ _ e => e, h.len, h.fr, fun j e he => by
    obtain ⟨f, h1, h2, lo, hi, h3, h4, h5, h6⟩ := h.each j e he
    exact ⟨f, h1, h2, lo, hi, h3.keep k fun _ _ _ e => e, h4, Nat.le_trans h5 k.size, h6⟩⟩
theorem NmI.l_eq {w0 w : World} {a : Option Addr} {l c : Nat} {fs : List (ByteArray × List Int)} {es : List (ByteArray × Slc)} (h : NmI w0 w a l c fs es) : l = fs.length := by
  have := h.sl.1; rw [Nv_len, h.len] at this; omega
theorem NmI.rd {w0 w : World} {a : Option Addr} {l c : Nat} {fs : List (ByteArray × List Int)} {es : List (ByteArray × Slc)} (h : NmI w0 w a l c fs es) : RdN RB w a l c fs es :=
  ⟨h.sl.rd, h.len, fun i h1 h2 => by
    obtain ⟨f, hf, he, lo, hi, hr, _⟩ := h.each i es[i] (List.getElem?_eq_getElem h1)
    rw [List.getElem?_eq_getElem h2] at hf
    cases hf
    exact ⟨he, hr.1.rd⟩⟩
theorem NmI.snoc {w0 w w3 w4 : World} {a : Option Addr} {l c : Nat} {fs : List (ByteArray × List Int)} {es : List (ByteArray × Slc)} (h : NmI w0 w a l c fs es) (k0 : w0.heap.size ≤ w.heap.size) (k3 : Kept No w w3) {s : Slc} {bs : List Int} (hd : RBr w3 s bs w.heap.size w3.heap.size)
    {nm : ByteArray} (hb : Blk w4 w3.heap.size #[.string nm, .slice s.1 s.2.1 s.2.2]) (k4 : Kept No w3 w4) (hz4 : w4.heap.size = w3.heap.size + 1) (hl : l ≤ 1000) :
    ∃ a6 c6 w6, Sem.run Tryz.prog (Builtin.append_ #[22, 22] 22 #[.slice a l c, .slice (some (Addr.mk w3.heap.size 0 none)) 1 1]) w4 = .ok (.slice a6 (l + 1) c6) w6 ∧ NmI w0 w6 a6 (l + 1) c6 (fs ++ [(nm, bs)]) (es ++ [(nm, s)]) ∧ Kept (inA a) w4 w6 := by
  have hnew4 : SlO 2 w4 (some ⟨w3.heap.size, 0, none⟩) 1 1 (Nv [(nm, s)]) := SlO.of_blk (sz := 2) (n := 1) hb rfl
  have k14 := k3.no k4
  have hs4 := h.sl.keep k14 fun _ _ e => e
  obtain ⟨a6, c6, w6, hrun, hs6, hk6, hat, _⟩ := run_app_sl (P := Tryz.prog) (t := 22) (t2 := 22) (ty := 22) (by kernel_rfl : slTyB Tryz.prog 22 2 40 = true) (by kernel_rfl) hs4 hnew4.rd (Nv_one _) (by omega) (by omega)
  rw [← Nv_app] at hs6
  have hlt := SlO.lt h.sl
  have hz3 := k3.size
  have hz6 := hk6.size
  have hin6 : ∀ k, inA a6 k → inA a k ∨ k = w4.heap.size := fun k hk => hat.in hk
  have hle := h.l_eq
  have hel := h.len
  refine ⟨a6, c6, w6, hrun, ⟨hs6, by simp [h.len], fun k hk => ?_, fun j e he => ?_⟩, hk6⟩
  · rcases hin6 k hk with e | e
    · exact h.fr k e
    · omega
  · by_cases hj : j < es.length
    · rw [List.getElem?_append_left hj] at he
      obtain ⟨f, hf, he1, lo, hi', hr, hlo, hh, hd'⟩ := h.each j e he
      refine ⟨f, by rw [List.getElem?_append_left (by omega)]; exact hf, he1, lo, hi', (hr.keep k14 fun _ _ _ e => e).keep hk6 fun z h1 h2 e => ?_, hlo, by omega, fun z hz => ?_⟩
      · have := hd' z e; omega
      · rcases hin6 z hz with e | e
        · exact hd' z e
        · omega
    · have hje : j = es.length := by
        have := (List.getElem?_eq_some_iff.1 he).1
        simp at this; omega
      subst hje
      rw [List.getElem?_append_right (by omega), Nat.sub_self] at he
      simp at he
      subst he
      refine ⟨(nm, bs), by rw [List.getElem?_append_right (by omega), hel, Nat.sub_self]; rfl, rfl, w.heap.size, w3.heap.size, (hd.keep k4 fun _ _ _ e => e).keep hk6 fun z h1 h2 e => ?_, k0, by omega, fun z hz => ?_⟩
      · have := hlt z e; omega
      · rcases hin6 z hz with e | e
        · have := hlt z e; omega
        · omega
def ofK (s : AK) (k : TK) (g : AObj → List Int) (T : List (ByteArray × Nat)) : List (ByteArray × List Int) := (T.filter fun t => decide ((s.objs t.2).kd = k)).map fun t => (t.1, g (s.objs t.2))
theorem ofK_len (s : AK) (k : TK) (g : AObj → List Int) (T : List (ByteArray × Nat)) : (ofK s k g T).length ≤ T.length := by
  unfold ofK; rw [List.length_map]; exact List.length_filter_le _ _
theorem ofK_snoc (s : AK) (k : TK) (g : AObj → List Int) (T : List (ByteArray × Nat)) {n : Nat} (hn : n < T.length) : ofK s k g (T.take (n + 1)) = if (s.objs T[n].2).kd = k then ofK s k g (T.take n) ++ [(T[n].1, g (s.objs T[n].2))] else ofK s k g (T.take n) := by
  unfold ofK
  have htk : T.take (n + 1) = T.take n ++ [T[n]] := by rw [List.take_add_one, List.getElem?_eq_getElem hn]; rfl
  rw [htk, List.filter_append, List.map_append]
  by_cases e : (s.objs T[n].2).kd = k
  · rw [if_pos e]; simp [e]
  · rw [if_neg e]; simp [e]
theorem app_nil_ok {w : World} {a : Option Addr} {l c : Nat} {bs : List Int} (h : RdB w a l c bs) (hl : l ≤ 140737488355328) : ∃ a' c' w', Sem.run Tryz.prog (Builtin.append_ #[40, 40] 40 #[.slice none 0 0, .slice a l c]) w = .ok (.slice a' l c') w' ∧ Kept No w w' ∧ RBr w' (a', l, c') bs w.heap.size w'.heap.size := by
  obtain ⟨a', c', w2, hrun, hs, hk, hat, hnn⟩ := run_app_sl (P := Tryz.prog) (t := 40) (t2 := 40) (ty := 40) (by kernel_rfl : slTyB Tryz.prog 40 1 1 = true) (by kernel_rfl) (SlO.nil 1 w) h (By_one bs) (by omega) (by omega)
  simp only [Nat.zero_add, List.nil_append] at hrun hs
  refine ⟨a', c', w2, hrun, hk.mono (fun b _ hb => inA_none b hb), hs, fun k hk' => ⟨?_, SlO.lt hs k hk'⟩⟩
  exact hat.fresh (Fresh.none w) (Nat.le_refl _) k hk'
set_option maxHeartbeats 1000000 in
theorem pfiles_ok {w : World} {pk : Nat} {s : AK} {L : KL} {tl : Nat → Nat} {nm : Nat → ByteArray} (h : PagO w pk s L tl nm) {T : List (ByteArray × Nat)} {ta : Option Addr} {tc : Nat} {da : Option Addr} {dc : Nat} (hB : PKb w pk s L tl T ta tc da dc) :
    CallR Tryz.prog 77 [pd pk] w fun v w' => ∃ a c es, v = .slice a (ofK s .disk dataO T).length c ∧ NmI w w' a (ofK s .disk dataO T).length c (ofK s .disk dataO T) es ∧ Kept No w w' := by
  refine C77 ?_
  unfold L77
  have hfl := h.ok.fl
  have hTl : T.length ≤ 256 := by have := hB.pm.length_eq; rw [List.length_append] at this; omega
  refine ⟨fun vs w' => ∃ (n : Nat) (a : Option Addr) (c : Nat) (es : List (ByteArray × Slc)), vs = [.slice a (ofK s .disk dataO (T.take n)).length c, .int .i64 (n : Int)] ∧ n ≤ T.length ∧ Kept No w w' ∧ NmI w w' a (ofK s .disk dataO (T.take n)).length c (ofK s .disk dataO (T.take n)) es,
    fun vs _ => match vs with | [_, .int _ i] => ((T.length : Int) - i).toNat | _ => 0, ⟨0, none, 0, [], rfl, Nat.zero_le _, Kept.refl _ _, NmI.nil w⟩, ?_⟩
  rintro _ a4 l4 c4 n5 w1 ⟨n, a, c, es, hv, hn, hk1, hI⟩
  simp only [List.cons.injEq, Value.slice.injEq, Value.int.injEq, true_and, and_true] at hv
  obtain ⟨⟨rfl, rfl, rfl⟩, rfl⟩ := hv
  have h1 := h.no hk1
  have hb1 := hB.b.keep hk1 fun e => e
  refine nnI ⟨_, _, _, hb1.at0 rfl, condP (fun hlt => ?_) (fun hge => ?_)⟩
  · have hnl : n < T.length := by omega
    have hmem := hB.pm.mem_iff.1 (List.getElem_mem hnl)
    have hcell : ∀ {w' : World}, Kept No w w' → ∃ q, ta = some q ∧ w'.cell? (q.add n) = some (pd (tl T[n].2)) := fun k =>
      slo_cell (hB.ts.keep k fun _ _ e => e) (by omega) (j := n) (v := pd (tl T[n].2)) (by rw [List.getElem?_map, List.getElem?_eq_getElem hnl]; rfl)
    obtain ⟨q, haq, hc⟩ := hcell hk1
    have e0 : Int.toNat (n : Int) = n := Int.toNat_natCast n
    rw [e0]
    have hr : 0 ≤ (n : Int) ∧ (n : Int) < ((T.length : Nat) : Int) := by omega
    have hob := h.nobT hmem
    have htb := (h.th _ hob).1
    rw [h.nn _ hmem] at htb
    have hO := h.ob _ hob
    have hsn := ofK_snoc s .disk dataO T hnl
    refine nnI ⟨_, _, _, hb1.at0 rfl, hr, nnE2 haq ⟨_, hc, nnI ?_⟩⟩
    have other : (s.objs T[n].2).kd ≠ .disk → inI ((n : Int) + 1) ∧ (∃ (n' : Nat) (a' : Option Addr) (c' : Nat) (es : List (ByteArray × Slc)), ([.slice a4 (ofK s .disk dataO (T.take n)).length c4, .int .i64 ((n : Int) + 1)] : List Value) = [.slice a' (ofK s .disk dataO (T.take n')).length c', .int .i64 (n' : Int)] ∧ n' ≤ T.length ∧ Kept No w w1 ∧ NmI w w1 a' (ofK s .disk dataO (T.take n')).length c' (ofK s .disk dataO (T.take n')) es) ∧ ((T.length : Int) - ((n : Int) + 1)).toNat < ((T.length : Int) - (n : Int)).toNat := fun hne => by
      rw [if_neg hne] at hsn
      exact ⟨⟨by omega, by omega⟩, ⟨n + 1, _, _, es, by rw [hsn]; rfl, by omega, hk1, by rw [hsn]; exact hI⟩, by omega⟩
    cases ho : s.objs T[n].2 with
    | term LL scr =>
      rw [ho] at htb
      exact ⟨_, (htb.keep hk1 fun e => e).at (i := 1) rfl, condFa2 (other (by rw [ho]; simp [AObj.kd]))⟩
    | pipe bs e0 e1 =>
      rw [ho] at htb
      exact ⟨_, (htb.keep hk1 fun e => e).at (i := 1) rfl, condFa2 (other (by rw [ho]; simp [AObj.kd]))⟩
    | file bs =>
      rw [ho] at htb hO
      rw [if_pos (by rw [ho]; rfl), ho] at hsn
      have hsn : ofK s .disk dataO (T.take (n + 1)) = ofK s .disk dataO (T.take n) ++ [(T[n].1, bs)] := hsn
      have hfl2 := hO.fileLen
      obtain ⟨fa, fl, fc, hfb, hfo, _⟩ : RefO _ w (L.loc T[n].2) bs := hO
      have hfol := hfo.len
      refine ⟨_, (htb.keep hk1 fun e => e).at (i := 1) rfl, condTr2 ⟨fun wS => Kept No w wS, hk1.no (Kept.drew _ _), ?_⟩⟩
      intro w2
      have hk2 : Kept No w1 w2 := Kept.drew _ _
      have hz2 : w2.heap.size = w1.heap.size := rfl
      clear_value w2
      refine nnI ⟨_, _, _, fun wS hS => (hB.b.keep hS fun e => e).at0 rfl, hr, nnE2 haq ⟨_, fun wS hS => ?_, nnI ⟨_, fun wS hS => (htb.keep hS fun e => e).at0 rfl, nnI ⟨_, _, _, fun wS hS => (hB.b.keep hS fun e => e).at0 rfl, hr, nnE2 haq ⟨_, fun wS hS => ?_, nnI ⟨_, fun wS hS => (htb.keep hS fun e => e).at (i := 2) rfl, nnI ⟨_, _, _, fun wS hS => (hfb.keep hS fun e => e).at0 rfl, ?_⟩⟩⟩⟩⟩⟩⟩
      · obtain ⟨q', haq', hc'⟩ := hcell hS
        have hq : q' = q := by rw [haq] at haq'; cases haq'; rfl
        rw [← hq]; exact hc'
      · obtain ⟨q', haq', hc'⟩ := hcell hS
        have hq : q' = q := by rw [haq] at haq'; cases haq'; rfl
        rw [← hq]; exact hc'
      obtain ⟨a29, c29, w3, hrun3, hk3, hd3⟩ := app_nil_ok (hfo.rd.keep (hk1.no hk2) fun _ _ _ e => e) (by omega)
      refine ⟨a29, fl, c29, w3, hrun3, (hk1.no hk2).no hk3, ?_⟩
      intro w4
      have hb4 : Blk w4 w3.heap.size #[.string T[n].1, .slice a29 fl c29] := Blk.alloc _ _ _
      have hk4 : Kept No w3 w4 := Kept.alloc _ _ _
      have hz4 : w4.heap.size = w3.heap.size + 1 := by simp [w4]
      clear_value w4
      have hol := ofK_len s .disk dataO (T.take n)
      rw [List.length_take] at hol
      obtain ⟨a6, c6, w6, hrun6, hI6, hk6⟩ := (hI.no hk2).snoc (by have := (hk1.no hk2).size; omega) hk3 (s := (a29, fl, c29)) hd3 hb4 hk4 hz4 (by omega)
      have kf : Kept No w w6 := (((hk1.no hk2).no hk3).no hk4).fresh hk6 hI.fr
      exact ⟨a6, _, c6, w6, hrun6, ⟨by omega, by omega⟩, ⟨n + 1, a6, c6, _, by rw [hsn, List.length_append]; rfl, by omega, kf, by rw [hsn, List.length_append]; exact hI6⟩, by show ((T.length : Int) - ((n : Int) + 1)).toNat < ((T.length : Int) - (n : Int)).toNat; omega⟩
  · have : n = T.length := by omega
    subst this
    rw [List.take_length] at hI ⊢
    exact ⟨_, _, es, rfl, hI, hk1⟩
set_option maxHeartbeats 1000000 in
theorem pscreens_ok {w : World} {pk : Nat} {s : AK} {L : KL} {tl : Nat → Nat} {nm : Nat → ByteArray} (h : PagO w pk s L tl nm) {T : List (ByteArray × Nat)} {ta : Option Addr} {tc : Nat} {da : Option Addr} {dc : Nat} (hB : PKb w pk s L tl T ta tc da dc) :
    CallR Tryz.prog 80 [pd pk] w fun v w' => ∃ a c es, v = .slice a (ofK s .scr scrO T).length c ∧ NmI w w' a (ofK s .scr scrO T).length c (ofK s .scr scrO T) es ∧ Kept No w w' := by
  refine C80 ?_
  unfold L80
  have hfl := h.ok.fl
  have hTl : T.length ≤ 256 := by have := hB.pm.length_eq; rw [List.length_append] at this; omega
  refine ⟨fun vs w' => ∃ (n : Nat) (a : Option Addr) (c : Nat) (es : List (ByteArray × Slc)), vs = [.slice a (ofK s .scr scrO (T.take n)).length c, .int .i64 (n : Int)] ∧ n ≤ T.length ∧ Kept No w w' ∧ NmI w w' a (ofK s .scr scrO (T.take n)).length c (ofK s .scr scrO (T.take n)) es,
    fun vs _ => match vs with | [_, .int _ i] => ((T.length : Int) - i).toNat | _ => 0, ⟨0, none, 0, [], rfl, Nat.zero_le _, Kept.refl _ _, NmI.nil w⟩, ?_⟩
  rintro _ a4 l4 c4 n5 w1 ⟨n, a, c, es, hv, hn, hk1, hI⟩
  simp only [List.cons.injEq, Value.slice.injEq, Value.int.injEq, true_and, and_true] at hv
  obtain ⟨⟨rfl, rfl, rfl⟩, rfl⟩ := hv
  have h1 := h.no hk1
  have hb1 := hB.b.keep hk1 fun e => e
  refine nnI ⟨_, _, _, hb1.at0 rfl, condP (fun hlt => ?_) (fun hge => ?_)⟩
  · have hnl : n < T.length := by omega
    have hmem := hB.pm.mem_iff.1 (List.getElem_mem hnl)
    have hcell : ∀ {w' : World}, Kept No w w' → ∃ q, ta = some q ∧ w'.cell? (q.add n) = some (pd (tl T[n].2)) := fun k =>
      slo_cell (hB.ts.keep k fun _ _ e => e) (by omega) (j := n) (v := pd (tl T[n].2)) (by rw [List.getElem?_map, List.getElem?_eq_getElem hnl]; rfl)
    obtain ⟨q, haq, hc⟩ := hcell hk1
    have e0 : Int.toNat (n : Int) = n := Int.toNat_natCast n
    rw [e0]
    have hr : 0 ≤ (n : Int) ∧ (n : Int) < ((T.length : Nat) : Int) := by omega
    have hob := h.nobT hmem
    have htb := (h.th _ hob).1
    rw [h.nn _ hmem] at htb
    have hO := h.ob _ hob
    have hsn := ofK_snoc s .scr scrO T hnl
    refine nnI ⟨_, _, _, hb1.at0 rfl, hr, nnE2 haq ⟨_, hc, nnI ?_⟩⟩
    have other : (s.objs T[n].2).kd ≠ .scr → inI ((n : Int) + 1) ∧ (∃ (n' : Nat) (a' : Option Addr) (c' : Nat) (es : List (ByteArray × Slc)), ([.slice a4 (ofK s .scr scrO (T.take n)).length c4, .int .i64 ((n : Int) + 1)] : List Value) = [.slice a' (ofK s .scr scrO (T.take n')).length c', .int .i64 (n' : Int)] ∧ n' ≤ T.length ∧ Kept No w w1 ∧ NmI w w1 a' (ofK s .scr scrO (T.take n')).length c' (ofK s .scr scrO (T.take n')) es) ∧ ((T.length : Int) - ((n : Int) + 1)).toNat < ((T.length : Int) - (n : Int)).toNat := fun hne => by
      rw [if_neg hne] at hsn
      exact ⟨⟨by omega, by omega⟩, ⟨n + 1, _, _, es, by rw [hsn]; rfl, by omega, hk1, by rw [hsn]; exact hI⟩, by omega⟩
    cases ho : s.objs T[n].2 with
    | file bs =>
      rw [ho] at htb
      exact ⟨_, (htb.keep hk1 fun e => e).at (i := 1) rfl, condFa2 (other (by rw [ho]; simp [AObj.kd]))⟩
    | pipe bs e0 e1 =>
      rw [ho] at htb
      exact ⟨_, (htb.keep hk1 fun e => e).at (i := 1) rfl, condFa2 (other (by rw [ho]; simp [AObj.kd]))⟩
    | term LL bs =>
      rw [ho] at htb hO
      rw [if_pos (by rw [ho]; rfl), ho] at hsn
      have hsn : ofK s .scr scrO (T.take (n + 1)) = ofK s .scr scrO (T.take n) ++ [(T[n].1, bs)] := hsn
      have hfl2 := hO.scrLen
      obtain ⟨la, ll, lc, fa, fl, fc, es0, hfb, _, _, hfo, _⟩ : RefT _ _ w (L.loc T[n].2) LL bs := hO
      have hfol := hfo.len
      refine ⟨_, (htb.keep hk1 fun e => e).at (i := 1) rfl, condTr2 ⟨fun wS => Kept No w wS, hk1.no (Kept.drew _ _), ?_⟩⟩
      intro w2
      have hk2 : Kept No w1 w2 := Kept.drew _ _
      have hz2 : w2.heap.size = w1.heap.size := rfl
      clear_value w2
      refine nnI ⟨_, _, _, fun wS hS => (hB.b.keep hS fun e => e).at0 rfl, hr, nnE2 haq ⟨_, fun wS hS => ?_, nnI ⟨_, fun wS hS => (htb.keep hS fun e => e).at0 rfl, nnI ⟨_, _, _, fun wS hS => (hB.b.keep hS fun e => e).at0 rfl, hr, nnE2 haq ⟨_, fun wS hS => ?_, nnI ⟨_, fun wS hS => (htb.keep hS fun e => e).at (i := 3) rfl, nnI ⟨_, _, _, fun wS hS => (hfb.keep hS fun e => e).at (i := 1) rfl, ?_⟩⟩⟩⟩⟩⟩⟩
      · obtain ⟨q', haq', hc'⟩ := hcell hS
        have hq : q' = q := by rw [haq] at haq'; cases haq'; rfl
        rw [← hq]; exact hc'
      · obtain ⟨q', haq', hc'⟩ := hcell hS
        have hq : q' = q := by rw [haq] at haq'; cases haq'; rfl
        rw [← hq]; exact hc'
      obtain ⟨a29, c29, w3, hrun3, hk3, hd3⟩ := app_nil_ok (hfo.rd.keep (hk1.no hk2) fun _ _ _ e => e) (by omega)
      refine ⟨a29, fl, c29, w3, hrun3, (hk1.no hk2).no hk3, ?_⟩
      intro w4
      have hb4 : Blk w4 w3.heap.size #[.string T[n].1, .slice a29 fl c29] := Blk.alloc _ _ _
      have hk4 : Kept No w3 w4 := Kept.alloc _ _ _
      have hz4 : w4.heap.size = w3.heap.size + 1 := by simp [w4]
      clear_value w4
      have hol := ofK_len s .scr scrO (T.take n)
      rw [List.length_take] at hol
      obtain ⟨a6, c6, w6, hrun6, hI6, hk6⟩ := (hI.no hk2).snoc (by have := (hk1.no hk2).size; omega) hk3 (s := (a29, fl, c29)) hd3 hb4 hk4 hz4 (by omega)
      have kf : Kept No w w6 := (((hk1.no hk2).no hk3).no hk4).fresh hk6 hI.fr
      exact ⟨a6, _, c6, w6, hrun6, ⟨by omega, by omega⟩, ⟨n + 1, a6, c6, _, by rw [hsn, List.length_append]; rfl, by omega, kf, by rw [hsn, List.length_append]; exact hI6⟩, by show ((T.length : Int) - ((n : Int) + 1)).toNat < ((T.length : Int) - (n : Int)).toNat; omega⟩
  · have : n = T.length := by omega
    subst this
    rw [List.take_length] at hI ⊢
    exact ⟨_, _, es, rfl, hI, hk1⟩
end Go.Proofs.YtpoaacnnhgebfaaGreat
namespace Go.Proofs.YtpoaacnnhgebfaaGreat
open Go.Lw
theorem qmay_ok {w : World} (f : Int × Int) : CallR Tryz.prog 158 [.agg #[.int .i64 f.1, .int .i64 f.2]] w fun v w' => v = .bool (decide (mayP f)) ∧ Kept No w w' := by
  refine C158 ?_
  unfold L158
  intro w1
  have hb : Blk w1 w.heap.size #[.int .i64 f.1, .int .i64 f.2] := Blk.alloc _ _ _
  have hk : Kept No w w1 := Kept.alloc _ _ _
  clear_value w1
  have c0 : ∀ {b : Bool}, (b = decide (mayP f)) → (Value.bool b = .bool (decide (mayP f)) ∧ Kept No w w1) := fun h => ⟨by rw [h], hk⟩
  refine ⟨_, (hb.cell 0).trans rfl, condI (fun h1 => ⟨_, (hb.cell 1).trans rfl, condP (fun h2 => ⟨_, (hb.cell 1).trans rfl, c0 ?_⟩) (fun h2 => c0 ?_)⟩) (fun h1 => ⟨_, (hb.cell 0).trans rfl, condP (fun h2 => ⟨_, (hb.cell 0).trans rfl, condP (fun h3 => ⟨_, (hb.cell 1).trans rfl, c0 ?_⟩) (fun h3 => c0 ?_)⟩) (fun h2 => c0 ?_)⟩)⟩
  · have h1 : f.1 = 1 := by simpa using h1
    rw [decide_eq_decide]; unfold mayP; omega
  · have h1 : f.1 = 1 := by simpa using h1
    symm; rw [decide_eq_false_iff_not]; unfold mayP; omega
  · have h1 : f.1 ≠ 1 := by simpa using h1
    rw [show (f.2 == 0) = decide (f.2 = 0) from rfl, decide_eq_decide]; unfold mayP; omega
  · have h1 : f.1 ≠ 1 := by simpa using h1
    symm; rw [decide_eq_false_iff_not]; unfold mayP; omega
  · have h1 : f.1 ≠ 1 := by simpa using h1
    symm; rw [decide_eq_false_iff_not]; unfold mayP; omega
theorem qcheck_ok {w : World} {a : Option Addr} {l c : Nat} {fs : List (Int × Int)} (h : RdS 2 w a l c (Fv fs)) :
    CallR Tryz.prog 59 [.slice a l c] w fun v w' => (∃ n, v = .tuple #[.int .i64 (ckF fs), .int .i64 n]) ∧ Kept No w w' := by
  refine C59 ?_
  unfold L59
  have hlen : fs.length = l := by have := h.1; rw [Fv_len] at this; omega
  refine condP (fun hlt => ⟨⟨_, by unfold ckF; rw [if_pos (by omega)]⟩, Kept.refl _ _⟩) (fun hge => ?_)
  refine ⟨fun vs w' => ∃ n : Nat, vs = [.int .i64 (n : Int)] ∧ n ≤ l ∧ Kept No w w' ∧ (∀ j, (hj : j < n) → (hl : j < fs.length) → mayP fs[j]), fun vs _ => l - ix vs, ⟨0, rfl, Nat.zero_le _, Kept.refl _ _, fun j hj => by omega⟩, ?_⟩
  rintro _ n4 w1 ⟨n, hv, hn, hk, hall⟩
  simp only [List.cons.injEq, Value.int.injEq, true_and, and_true] at hv
  subst hv
  refine condP (fun hlt => ?_) (fun hge2 => ?_)
  · have hn' : n < fs.length := by omega
    obtain ⟨e1, e2⟩ := Fv_at hn'
    have h1 := h.keep hk (fun _ _ _ e => e)
    cases ha : a with
    | none => have := RdS.isNone h ha; omega
    | some q =>
      have c1 := h1.2.2.2 q ha _ _ e1
      have c2 := h1.2.2.2 q ha _ _ e2
      rw [← Lw.add_add] at c2
      have e0 : Int.toNat (n : Int) = n := Int.toNat_natCast n
      rw [e0]
      refine ⟨⟨by omega, by omega⟩, nnI ⟨fs[n].1, fs[n].2, c1, c2, CallR.mono (qmay_ok fs[n]) ?_⟩⟩
      rintro v w2 ⟨rfl, hk2⟩
      refine ⟨_, rfl, condI (fun hb => ?_) (fun hb => ?_)⟩
      · have hb : ¬ mayP fs[n] := by simpa using hb
        have : badF fs = some n := by
          unfold badF
          rw [List.findIdx?_eq_some_iff_getElem]
          exact ⟨hn', by simp [hb], fun j hj => by simp [hall j hj (by omega)]⟩
        exact ⟨⟨_, by unfold ckF; rw [if_neg (by omega), this, if_neg (by simp)]⟩, hk.no hk2⟩
      · have hb : mayP fs[n] := by simpa using hb
        refine ⟨⟨by omega, by omega⟩, ⟨n + 1, by simp, by omega, hk.no hk2, fun j hj hl => ?_⟩, by simp only [ix]; omega⟩
        by_cases e : j = n
        · subst e; exact hb
        · exact hall j (by omega) hl
  · exact ⟨⟨_, by unfold ckF; rw [if_neg (by omega), (ixF_none (fun j hj => hall j (by omega) hj)).2, if_pos rfl]⟩, hk⟩
theorem Sv_at {ss : List ByteArray} {i : Nat} (h : i < ss.length) : (Sv ss)[i]? = some (.string ss[i]) := by
  unfold Sv; rw [List.getElem?_map, List.getElem?_eq_getElem h]; rfl
theorem phas_to {w : World} {a : Option Addr} {l c : Nat} {ss : List ByteArray} (h : RdS 1 w a l c (Sv ss)) (hl : l ≤ 1000) (s : ByteArray) {Q : Value → World → Prop} (hq : Q (.bool (decide (s ∈ ss))) w) : CallR Tryz.prog 57 [.slice a l c, .string s] w Q := by
  refine C57 ?_
  unfold L57
  have hlen : ss.length = l := by have := h.1; rw [Sv_len] at this; omega
  refine ⟨fun vs w' => ∃ n : Nat, vs = [.int .i64 (n : Int)] ∧ n ≤ l ∧ w' = w ∧ (∀ j, (hj : j < n) → (hl : j < ss.length) → ss[j] ≠ s), fun vs _ => l - ix vs, ⟨0, rfl, Nat.zero_le _, rfl, fun j hj => by omega⟩, ?_⟩
  rintro _ n5 w1 ⟨n, hv, hn, rfl, hall⟩
  simp only [List.cons.injEq, Value.int.injEq, true_and, and_true] at hv
  subst hv
  refine condP (fun hlt => ?_) (fun hge => ?_)
  · have hn' : n < ss.length := by omega
    cases ha : a with
    | none => have := RdS.isNone h ha; omega
    | some q =>
      have c1 := h.2.2.2 q ha _ _ (Sv_at hn')
      have e0 : Int.toNat (n : Int) = n := Int.toNat_natCast n
      rw [e0]
      refine ⟨⟨by omega, by omega⟩, nnI ⟨_, c1, ?_⟩⟩
      rw [strEq]
      refine condP (fun e => ?_) (fun e => ⟨⟨by omega, by omega⟩, ⟨n + 1, rfl, by omega, rfl, fun j hj hl => ?_⟩, by simp only [ix]; omega⟩)
      · rw [decide_eq_true (by rw [← e]; exact List.getElem_mem hn')] at hq; exact hq
      · by_cases e2 : j = n
        · subst e2; exact e
        · exact hall j (by omega) hl
  · rw [decide_eq_false] at hq
    · exact hq
    · intro hm
      obtain ⟨j, hj, e⟩ := List.mem_iff_getElem.1 hm
      exact hall j (by omega) hj e
theorem freshK_61 {seen : List ByteArray} {s : ByteArray} (h : namedS s = false) : freshK seen s = 61 := by unfold freshK; rw [if_pos h]
theorem freshK_6 {seen : List ByteArray} {s : ByteArray} (h : ¬ namedS s = false) (hm : s ∈ seen) : freshK seen s = 6 := by unfold freshK; rw [if_neg h, if_pos hm]
theorem freshK_0 {seen : List ByteArray} {s : ByteArray} (h : ¬ namedS s = false) (hm : ¬ s ∈ seen) : freshK seen s = 0 := by unfold freshK; rw [if_neg h, if_neg hm]
theorem seen_app {w0 w w1 : World} {a : Option Addr} {l c : Nat} {seen : List ByteArray} (h : SlO 1 w a l c (Sv seen)) (hf : Fresh w0 a) (k0 : w0.heap.size ≤ w.heap.size) {s : ByteArray} (hb : Blk w1 w.heap.size #[.string s]) (k1 : Kept No w w1) (hl : l ≤ 1000) :
    ∃ a' c' w', Sem.run Tryz.prog (Builtin.append_ #[131, 131] 131 #[.slice a l c, .slice (some (Addr.mk w.heap.size 0 none)) 1 1]) w1 = .ok (.slice a' (l + 1) c') w' ∧ SlO 1 w' a' (l + 1) c' (Sv (seen ++ [s])) ∧ Kept (inA a) w1 w' ∧ Fresh w0 a' := by
  have ht : SlO 1 w1 (some ⟨w.heap.size, 0, none⟩) 1 1 (Sv [s]) := SlO.of_blk (sz := 1) (n := 1) hb rfl
  obtain ⟨a', c', w', hrun, hs, hk, hat, _⟩ := run_app_sl (P := Tryz.prog) (t := 131) (t2 := 131) (ty := 131) (by kernel_rfl : slTyB Tryz.prog 131 1 16 = true) (by kernel_rfl) (h.keep k1 fun _ _ e => e) ht.rd (Sv_one _) (by omega) (by omega)
  refine ⟨a', c', w', hrun, ?_, hk, fun z hz => ?_⟩
  · have : Sv (seen ++ [s]) = Sv seen ++ Sv [s] := by simp [Sv]
    rw [this]; exact hs
  · rcases hat.in hz with e | e
    · exact hf z e
    · have := k1.size; omega
set_option maxHeartbeats 2000000 in
theorem pcheck_ok {w : World} {af : Option Addr} {lf cf : Nat} {fs : List (ByteArray × List Int)} {ef : List (ByteArray × Slc)} (hf : RdN RB w af lf cf fs ef) {at_ : Option Addr} {lt ct : Nat} {ts : List (ByteArray × List (List Int))} {et : List (ByteArray × Slc)} (ht : RdN RL w at_ lt ct ts et)
    {ap : Option Addr} {lp cp : Nat} {ps : List (Int × Int)} (hp : RdS 2 w ap lp cp (Fv ps)) (hlf : lf ≤ 140737488355328) (hlt : lt ≤ 140737488355328) :
    CallR Tryz.prog 9 [.slice af lf cf, .slice at_ lt ct, .slice ap lp cp] w fun v w' => v = .int .i64 (checkK fs ts ps) ∧ Kept No w w' := by
  refine C9 ?_
  unfold L9
  have hfl : fs.length = lf := by have := hf.rd.1; rw [Nv_len, hf.len] at this; omega
  have htl : ts.length = lt := by have := ht.rd.1; rw [Nv_len, ht.len] at this; omega
  refine ⟨⟨by omega, by omega⟩, condP (fun hgt => ⟨by unfold checkK; rw [if_pos (by omega)], Kept.refl _ _⟩) (fun hle => ?_)⟩
  have nok : checkK fs ts ps = if (ckFs fs []).1 ≠ 0 then (ckFs fs []).1 else if (ckTs ts (ckFs fs []).2).1 ≠ 0 then (ckTs ts (ckFs fs []).2).1 else ckF ps := by unfold checkK; rw [if_neg (by omega)]
  rw [nok]
  refine ⟨fun vs w' => ∃ (i : Nat) (seen : List ByteArray) (a : Option Addr) (c : Nat), vs = [.slice a seen.length c, .int .i64 (i : Int)] ∧ i ≤ lf ∧ seen.length = i ∧ ckFs fs [] = ckFs (fs.drop i) seen ∧ SlO 1 w' a seen.length c (Sv seen) ∧ Fresh w a ∧ Kept No w w',
    fun vs _ => match vs with | [_, .int _ i] => ((lf : Int) - i).toNat | _ => 0, ⟨0, [], none, 0, rfl, by omega, rfl, rfl, SlO.nil 1 w, Fresh.none w, Kept.refl _ _⟩, ?_⟩
  rintro _ a6 l6 c6 n7 w1 ⟨i, seen, a, c, hv, hi, hsl, hck, hs, hfr, hk1⟩
  simp only [List.cons.injEq, Value.slice.injEq, Value.int.injEq, true_and, and_true] at hv
  obtain ⟨⟨rfl, rfl, rfl⟩, rfl⟩ := hv
  have e0 : Int.toNat (i : Int) = i := Int.toNat_natCast i
  refine condP (fun hlt1 => ?_) (fun hge1 => ?_)
  · have hi' : i < fs.length := by omega
    obtain ⟨q, sl, haq, e1, e2, hR, _⟩ := (hf.no (fun _ _ _ _ h k => h.no k) hk1).at hi'
    rw [List.drop_eq_getElem_cons hi', ckFs_cons] at hck
    have hr : 0 ≤ (i : Int) ∧ (i : Int) < ((lf : Nat) : Int) := by omega
    rw [e0]
    refine ⟨hr, nnE2 haq ⟨_, e1, pnamed_ok _ ⟨_, rfl, condI (fun hb => ?_) (fun hb => ?_)⟩⟩⟩
    · have hb : namedS fs[i].1 = false := by simpa using hb
      rw [freshK_61 hb, if_pos (by simp)] at hck
      rw [hck]
      exact ⟨rfl, hk1⟩
    have hb : ¬ namedS fs[i].1 = false := by simpa using hb
    refine ⟨hr, nnE2 haq ⟨_, e1, phas_to hs.rd (by omega) _ ⟨_, rfl, condP (fun hm => ?_) (fun hm => ?_)⟩⟩⟩
    · rw [freshK_6 hb hm, if_pos (by simp)] at hck
      rw [hck]
      exact ⟨rfl, hk1⟩
    rw [freshK_0 hb hm, if_neg (by simp)] at hck
    have hRl := RdB.len hR
    refine ⟨hr, nnE2 haq ⟨_, _, _, e2, condP (fun hbig => ?_) (fun hsm => ⟨hr, nnE2 haq ⟨_, e1, ?_⟩⟩)⟩⟩
    · rw [if_pos (by omega)] at hck
      rw [hck]
      exact ⟨rfl, hk1⟩
    rw [if_neg (by omega)] at hck
    intro w4
    have hb4 : Blk w4 w1.heap.size #[.string fs[i].1] := Blk.alloc _ _ _
    have hk4 : Kept No w1 w4 := Kept.alloc _ _ _
    clear_value w4
    obtain ⟨a', c', w5, hrun, hs5, hk5, hf5⟩ := seen_app hs hfr hk1.size hb4 hk4 (by omega)
    exact ⟨a', _, c', w5, hrun, ⟨by omega, by omega⟩, ⟨i + 1, seen ++ [fs[i].1], a', c', by rw [List.length_append]; rfl, by omega, by rw [List.length_append]; simp; omega, hck, by rw [List.length_append]; exact hs5, hf5, (hk1.no hk4).fresh hk5 hfr⟩, by show ((lf : Int) - ((i : Int) + 1)).toNat < ((lf : Int) - (i : Int)).toNat; omega⟩
  have hif : i = lf := by omega
  rw [List.drop_of_length_le (by omega)] at hck
  have hck : ckFs fs [] = (0, seen) := hck
  rw [hck]
  dsimp only
  rw [if_neg (by simp)]
  have hseen0 : seen.length ≤ 256 := by omega
  clear nok hck hf
  refine ⟨fun vs w' => ∃ (j : Nat) (seen2 : List ByteArray) (a : Option Addr) (c : Nat), vs = [.slice a seen2.length c, .int .i64 (j : Int)] ∧ j ≤ lt ∧ seen2.length = lf + j ∧ ckTs ts seen = ckTs (ts.drop j) seen2 ∧ SlO 1 w' a seen2.length c (Sv seen2) ∧ Fresh w a ∧ Kept No w w',
    fun vs _ => match vs with | [_, .int _ i] => ((lt : Int) - i).toNat | _ => 0, ⟨0, seen, _, _, rfl, by omega, by omega, rfl, hs, hfr, hk1⟩, ?_⟩
  clear hs hfr hk1 e0
  rintro _ a23 l23 c23 n24 w6 ⟨j, seen2, a, c, hv, hj, hsl2, hck2, hs, hfr, hk1⟩
  simp only [List.cons.injEq, Value.slice.injEq, Value.int.injEq, true_and, and_true] at hv
  obtain ⟨⟨rfl, rfl, rfl⟩, rfl⟩ := hv
  have e0 : Int.toNat (j : Int) = j := Int.toNat_natCast j
  refine condP (fun hlt1 => ?_) (fun hge1 => ?_)
  · have hj' : j < ts.length := by omega
    obtain ⟨q, sl, haq, e1, e2, hR, _⟩ := (ht.no (fun _ _ _ _ h k => h.no k) hk1).at hj'
    rw [List.drop_eq_getElem_cons hj', ckTs_cons] at hck2
    have hr : 0 ≤ (j : Int) ∧ (j : Int) < ((lt : Nat) : Int) := by omega
    rw [e0]
    refine ⟨hr, nnE2 haq ⟨_, e1, pnamed_ok _ ⟨_, rfl, condI (fun hb => ?_) (fun hb => ?_)⟩⟩⟩
    · have hb : namedS ts[j].1 = false := by simpa using hb
      rw [freshK_61 hb, if_pos (by simp)] at hck2
      rw [hck2]
      exact ⟨rfl, hk1⟩
    have hb : ¬ namedS ts[j].1 = false := by simpa using hb
    refine ⟨hr, nnE2 haq ⟨_, e1, phas_to hs.rd (by omega) _ ⟨_, rfl, condP (fun hm => ?_) (fun hm => ?_)⟩⟩⟩
    · rw [freshK_6 hb hm, if_pos (by simp)] at hck2
      rw [hck2]
      exact ⟨rfl, hk1⟩
    rw [freshK_0 hb hm, if_neg (by simp)] at hck2
    refine ⟨hr, nnE2 haq ⟨_, _, _, e2, CallR.mono (rcheck_ok hR.1) ?_⟩⟩
    rintro v w9 ⟨rfl, rfl⟩
    refine ⟨_, rfl, condN (fun hne => ?_) (fun heq => ⟨hr, nnE2 haq ⟨_, e1, ?_⟩⟩)⟩
    · rw [if_pos hne] at hck2
      rw [hck2, if_pos hne]
      exact ⟨rfl, hk1⟩
    rw [if_neg (by simpa using heq)] at hck2
    generalize hw10 : World.alloc w9 _ = w10
    have hb4 : Blk w10 w9.heap.size #[.string ts[j].1] := by rw [← hw10]; exact Blk.alloc _ _ _
    have hk4 : Kept No w9 w10 := by rw [← hw10]; exact Kept.alloc _ _ _
    clear hw10
    obtain ⟨a', c', w11, hrun, hs5, hk5, hf5⟩ := seen_app hs hfr hk1.size hb4 hk4 (by omega)
    exact ⟨a', _, c', w11, hrun, ⟨by omega, by omega⟩, ⟨j + 1, seen2 ++ [ts[j].1], a', c', by rw [List.length_append]; rfl, by omega, by rw [List.length_append]; simp; omega, hck2, by rw [List.length_append]; exact hs5, hf5, (hk1.no hk4).fresh hk5 hfr⟩, by show ((lt : Int) - ((j : Int) + 1)).toNat < ((lt : Int) - (j : Int)).toNat; omega⟩
  rw [List.drop_of_length_le (by omega)] at hck2
  have hck2 : ckTs ts seen = (0, seen2) := hck2
  rw [hck2, if_neg (by simp)]
  refine CallR.mono (qcheck_ok (hp.keep hk1 fun _ _ _ e => e)) ?_
  rintro v w12 ⟨⟨n, rfl⟩, hk12⟩
  exact ⟨_, _, rfl, rfl, hk1.no hk12⟩
end Go.Proofs.YtpoaacnnhgebfaaGreat
namespace Go.Proofs.YtpoaacnnhgebfaaGreat
open Go.Lw
open Classical in
noncomputable def KL.pg0 (pk pg : Nat) (a : Option Addr) : KL :=
  { own := fun z => if z = pk then some .kern else if z = pg then some .plan else if inA a z then some .flts else none, loc := fun _ => 0, dloc := fun _ => 0, rf := 0, rt := 0, rd := 0, pg := pg }
theorem page0 {w : World} {pk pg : Nat} {a : Option Addr} {l c : Nat} {ps : List (Int × Int)} (hb : Blk w pk #[.slice none 0 0, .slice none 0 0, .int .i64 1, pd pg, .int .i64 0, .int .i64 0]) (hp : Blk w pg #[.slice a l c]) (hs : SlO 2 w a l c (Fv ps)) (h1 : pk ≠ pg) (h2 : ∀ b, inA a b → b ≠ pk ∧ b ≠ pg) (hl : ps.length ≤ 4096) (hm : ∀ p ∈ ps, mayP p) :
    PagO w pk (AK.empty ps) (KL.pg0 pk pg a) (fun _ => 0) (fun _ => ByteArray.mk #[]) ∧ ∀ z, (KL.pg0 pk pg a).own z ≠ none → z = pk ∨ z = pg ∨ inA a z := by
  have hsome : ∀ z, (KL.pg0 pk pg a).own z ≠ none → z = pk ∨ z = pg ∨ inA a z := by
    intro z hz
    unfold KL.pg0 at hz
    dsimp only at hz
    by_cases e1 : z = pk
    · exact .inl e1
    rw [if_neg e1] at hz
    by_cases e2 : z = pg
    · exact .inr (.inl e2)
    rw [if_neg e2] at hz
    by_cases e3 : inA a z
    · exact .inr (.inr e3)
    · rw [if_neg e3] at hz; exact absurd rfl hz
  refine ⟨⟨⟨[], none, 0, none, 0, hb, SlO.nil 1 w, (fun b e => absurd e (inA_none b)), SlO.nil 1 w, (fun b e => absurd e (inA_none b)), List.Perm.refl _, List.Pairwise.nil⟩, (fun i hi => by cases hi), (fun f hf => by cases hf), (fun i hi => by cases hi), (fun d hd => by cases hd), ⟨a, l, c, hp, hs.rd, fun b hb' => ?_⟩, if_pos rfl, ?_, (fun d hd => by cases hd), fun z hz => ?_, AK.ok_empty hl hm⟩, hsome⟩
  · obtain ⟨e1, e2⟩ := h2 b hb'
    unfold KL.pg0
    dsimp only
    rw [if_neg e1, if_neg e2, if_pos hb']
  · unfold KL.pg0
    dsimp only
    rw [if_neg (Ne.symm h1), if_pos rfl]
  · rcases hsome z hz with rfl | rfl | e
    · exact hb.lt
    · exact hp.lt
    · exact SlO.lt hs z e
set_option maxHeartbeats 2000000 in
theorem pnew_ok {W w : World} (k0 : Kept No W w) {af : Option Addr} {lf cf : Nat} {fs : List (ByteArray × List Int)} {ef : List (ByteArray × Slc)} (hf : RdN RB W af lf cf fs ef) {at_ : Option Addr} {lt ct : Nat} {ts : List (ByteArray × List (List Int))} {et : List (ByteArray × Slc)} (ht : RdN RL W at_ lt ct ts et)
    {ap : Option Addr} {lp cp : Nat} {ps : List (Int × Int)} (hp : SlO 2 w ap lp cp (Fv ps)) (hck : AK.CkOk fs ts ps) (hlf : lf ≤ 140737488355328) (hlt : lt ≤ 140737488355328) (hpB : ∀ b, inA ap b → W.heap.size ≤ b) :
    CallR Tryz.prog 60 [.slice af lf cf, .slice at_ lt ct, .slice ap lp cp] w fun v w' => ∃ pk L tl nm, v = pd pk ∧ PagO w' pk (AK.new fs ts ps) L tl nm ∧ (∀ z, L.own z ≠ none → W.heap.size ≤ z) ∧ Kept No W w' := by
  refine C60 ?_
  unfold L60
  have hfl : fs.length = lf := by have := hf.rd.1; rw [Nv_len, hf.len] at this; omega
  have htl : ts.length = lt := by have := ht.rd.1; rw [Nv_len, ht.len] at this; omega
  intro w1 w2
  have hp1 : Blk w1 w.heap.size #[.slice ap lp cp] := Blk.alloc _ _ _
  have hk1 : Kept No w w1 := Kept.alloc _ _ _
  have hz1 : w1.heap.size = w.heap.size + 1 := by simp [w1]
  have hb2 : Blk w2 w1.heap.size #[.slice none 0 0, .slice none 0 0, .int .i64 1, pd w.heap.size, .int .i64 0, .int .i64 0] := Blk.alloc _ _ _
  have hk2 : Kept No w1 w2 := Kept.alloc _ _ _
  clear_value w2
  clear_value w1
  have k2 := hk1.no hk2
  have k02 := k0.no k2
  have hplt := SlO.lt hp
  have hz0 := k0.size
  obtain ⟨hP2, hown⟩ := page0 (ps := ps) hb2 (hp1.keep hk2 fun e => e) (hp.keep k2 fun _ _ e => e) (by omega) (fun b hb => by have := hplt b hb; omega) hck.pl hck.pm
  have hown : ∀ z, (KL.pg0 w1.heap.size w.heap.size ap).own z ≠ none → W.heap.size ≤ z := fun z hz => by
    rcases hown z hz with e | e | e
    · omega
    · omega
    · exact hpB z e
  generalize KL.pg0 w1.heap.size w.heap.size ap = L0 at hP2 hown
  obtain ⟨pk, hpk⟩ : ∃ pk, pk = w1.heap.size := ⟨_, rfl⟩
  rw [← hpk] at hP2 ⊢
  have fin : ∀ {w' : World} {L' : KL}, KStep w2 w' L0 L' → (∀ z, L'.own z ≠ none → W.heap.size ≤ z) ∧ Kept No W w' := by
    intro w' L' st
    refine ⟨fun z hz => ?_, k02.trans st.kept fun x hx e => by have := hown x e; omega⟩
    rcases st.grew z hz with e | e
    · exact hown z e
    · have := k02.size; omega
  refine ⟨fun vs w' => ∃ (i : Nat) (L' : KL) (tl : Nat → Nat) (nm : Nat → ByteArray), vs = [.int .i64 (i : Int)] ∧ i ≤ lf ∧ PagO w' pk (AK.withF (fs.take i) (AK.empty ps)) L' tl nm ∧ KStep w2 w' L0 L',
    fun vs _ => lf - ix vs, ⟨0, L0, _, _, rfl, by omega, hP2, KStep.refl _ _⟩, ?_⟩
  rintro _ n6 w3 ⟨i, L3, tl, nm, hvs, hi, h3, st3⟩
  simp only [List.cons.injEq, Value.int.injEq, true_and, and_true] at hvs
  subst hvs
  obtain ⟨hge3, k3⟩ := fin st3
  refine condP (fun hlt1 => ?_) (fun hge => ?_)
  · have hi' : i < fs.length := by omega
    obtain ⟨q, sl, haq, e1, e2, hR, _⟩ := (hf.no (fun _ _ _ _ h k => h.no k) k3).at hi'
    have e0 : Int.toNat (i : Int) = i := Int.toNat_natCast i
    rw [e0]
    have hr : 0 ≤ (i : Int) ∧ (i : Int) < ((lf : Nat) : Int) := by omega
    have hfl2 := (hck.fs fs[i] (List.getElem_mem hi')).2
    have hsl : fs[i].2.length = sl.2.1 := RdB.len hR
    refine ⟨hr, nnE2 haq ⟨_, _, _, e2, CallR.mono (rnew_ok hR (by omega)) ?_⟩⟩
    rintro v w4 (⟨hbig, _⟩ | ⟨_, b, F, rfl, hO, hk4, hF⟩)
    · omega
    refine ⟨_, _, rfl, hr, nnE2 haq ⟨_, hk4.cell e1 fun e => e, ?_⟩⟩
    intro w5
    have ht5 : Blk w5 w4.heap.size (thC fs[i].1 .disk b) := Blk.alloc _ _ _
    have hk5 : Kept No w4 w5 := Kept.alloc _ _ _
    clear_value w5
    have hFlt := hO.lt
    have hz4 := hk4.size
    obtain ⟨L5, p5, st5⟩ := h3.newO (hk4.no hk5) (o := .file fs[i].2) (name := fs[i].1) (R := fun _ => False) (RefO.keep hO hk5 fun _ _ e => e : PObjF F (fun _ => False) w5 b (.file fs[i].2)) hF (fun z e => e.elim) ht5 (by omega) (fun e => by have := hFlt _ e; omega) (fun e => e)
    obtain ⟨q1, q2, q3⟩ := AK.withF_ok_next hck hi'
    have hT : fs.take (i + 1) = fs.take i ++ [fs[i]] := by rw [List.take_add_one, List.getElem?_eq_getElem hi']; rfl
    generalize hs0 : AK.withF (fs.take i) (AK.empty ps) = s0 at h3 p5 q1 q2 q3
    have hok1 := h3.ok.addF (nm := fs[i].1) (o := .file fs[i].2) rfl q1 q2 q3
    have hnmn : (if s0.nob = s0.nob then fs[i].1 else nm s0.nob) = fs[i].1 := if_pos rfl
    have htln : (if s0.nob = s0.nob then w4.heap.size else tl s0.nob) = w4.heap.size := if_pos rfl
    have hadd := padd_ok p5 (i := s0.nob) (by show s0.nob < s0.nob + 1; omega) (by show s0.files.length + s0.terms.length < 256; omega) (fs' := s0.files ++ [(fs[i].1, s0.nob)]) (ts' := s0.terms) (by
      show ((s0.files ++ s0.terms) ++ [(if s0.nob = s0.nob then fs[i].1 else nm s0.nob, s0.nob)]).Perm _
      rw [hnmn, List.append_assoc, List.append_assoc]
      exact List.Perm.append_left _ (List.perm_append_comm)) hok1
    rw [htln] at hadd
    refine CallR.mono hadd ?_
    rintro v w6 ⟨rfl, L6, p6, st6⟩
    have heq : AK.withF (fs.take (i + 1)) (AK.empty ps) = s0.addF fs[i].1 (.file fs[i].2) := by rw [hT, AK.withF_snoc, hs0]
    have p6' : PagO w6 pk (s0.addF fs[i].1 (.file fs[i].2)) L6 (fun j => if j = s0.nob then w4.heap.size else tl j) (fun j => if j = s0.nob then fs[i].1 else nm j) := p6
    rw [← heq] at p6'
    exact ⟨rfl, ⟨by omega, by omega⟩, ⟨i + 1, L6, _, _, rfl, by omega, p6', (st3.trans st5).trans st6⟩, by simp only [ix]; omega⟩
  have hil : i = fs.length := by omega
  rw [List.take_of_length_le (by omega)] at h3
  refine ⟨fun vs w' => ∃ (j : Nat) (L' : KL) (tl : Nat → Nat) (nm : Nat → ByteArray), vs = [.int .i64 (j : Int)] ∧ j ≤ lt ∧ PagO w' pk (AK.withT (ts.take j) (AK.withF fs (AK.empty ps))) L' tl nm ∧ KStep w2 w' L0 L',
    fun vs _ => lt - ix vs, ⟨0, L3, _, _, rfl, by omega, h3, st3⟩, ?_⟩
  clear h3 st3 hge3 k3 hlf
  rintro _ n17 w7 ⟨j, L7, tl, nm, hvs, hj, h7, st7⟩
  simp only [List.cons.injEq, Value.int.injEq, true_and, and_true] at hvs
  subst hvs
  obtain ⟨hge7, k7⟩ := fin st7
  refine condP (fun hlt1 => ?_) (fun hge2 => ?_)
  · have hj' : j < ts.length := by omega
    obtain ⟨q, sl, haq, e1, e2, hR, _⟩ := (ht.no (fun _ _ _ _ h k => h.no k) k7).at hj'
    have e0 : Int.toNat (j : Int) = j := Int.toNat_natCast j
    rw [e0]
    have hr : 0 ≤ (j : Int) ∧ (j : Int) < ((lt : Nat) : Int) := by omega
    refine ⟨hr, nnE2 haq ⟨_, _, _, e2, CallR.mono (rnewT_ok hR.1 hR.2) ?_⟩⟩
    rintro v w8 ⟨hk8, ⟨hbad, _⟩ | ⟨_, b, F, R, rfl, hO, hFR⟩⟩
    · exact absurd (hck.ts ts[j] (List.getElem_mem hj')).2 hbad
    refine ⟨_, _, rfl, hr, nnE2 haq ⟨_, hk8.cell e1 fun e => e, ?_⟩⟩
    intro w9
    have ht9 : Blk w9 w8.heap.size (thC ts[j].1 .scr b) := Blk.alloc _ _ _
    have hk9 : Kept No w8 w9 := Kept.alloc _ _ _
    have hz9 : w9.heap.size = w8.heap.size + 1 := by simp [w9]
    clear_value w9
    have hOlt := hO.lt
    have hz8 := hk8.size
    have hdis : ∀ z, R z → ¬ F z := by
      obtain ⟨la, ll, lc, sa, sl', sc, es, _, _, _, _, _, _, _, _, _, hRF, _⟩ := hO
      exact hRF
    obtain ⟨L9, p9, st9⟩ := h7.newO (hk8.no hk9) (o := .term ts[j].2 []) (name := ts[j].1) (RefT.keep hO hk9 (fun _ _ e => e) (fun _ _ e => e) : PObjF F R w9 b (.term ts[j].2 [])) (fun z hz => hFR z (.inl hz)) (fun z hz => ⟨hFR z (.inr hz), by have := hOlt z (.inr hz); omega, hdis z hz⟩) ht9 (by omega) (fun e => by have := hOlt _ (.inl e); omega) (fun e => by have := hOlt _ (.inr e); omega)
    obtain ⟨q1, q2, q3⟩ := AK.withT_ok_next hck hj'
    have hT : ts.take (j + 1) = ts.take j ++ [ts[j]] := by rw [List.take_add_one, List.getElem?_eq_getElem hj']; rfl
    generalize hs0 : AK.withT (ts.take j) (AK.withF fs (AK.empty ps)) = s0 at h7 p9 q1 q2 q3
    have hok1 := h7.ok.addT (nm := ts[j].1) (o := .term ts[j].2 []) rfl q1 q2 q3
    have hnmn : (if s0.nob = s0.nob then ts[j].1 else nm s0.nob) = ts[j].1 := if_pos rfl
    have htln : (if s0.nob = s0.nob then w8.heap.size else tl s0.nob) = w8.heap.size := if_pos rfl
    have hadd := padd_ok p9 (i := s0.nob) (by show s0.nob < s0.nob + 1; omega) (by show s0.files.length + s0.terms.length < 256; omega) (fs' := s0.files) (ts' := s0.terms ++ [(ts[j].1, s0.nob)]) (by
      show ((s0.files ++ s0.terms) ++ [(if s0.nob = s0.nob then ts[j].1 else nm s0.nob, s0.nob)]).Perm _
      rw [hnmn, List.append_assoc]) hok1
    rw [htln] at hadd
    refine CallR.mono hadd ?_
    rintro v w10 ⟨rfl, L10, p10, st10⟩
    have heq : AK.withT (ts.take (j + 1)) (AK.withF fs (AK.empty ps)) = s0.addT ts[j].1 (.term ts[j].2 []) := by rw [hT, AK.withT_snoc, hs0]
    have p10' : PagO w10 pk (s0.addT ts[j].1 (.term ts[j].2 [])) L10 (fun i => if i = s0.nob then w8.heap.size else tl i) (fun i => if i = s0.nob then ts[j].1 else nm i) := p10
    rw [← heq] at p10'
    exact ⟨rfl, ⟨by omega, by omega⟩, ⟨j + 1, L10, _, _, rfl, by omega, p10', (st7.trans st9).trans st10⟩, by simp only [ix]; omega⟩
  have hjl : j = ts.length := by omega
  rw [List.take_of_length_le (by omega)] at h7
  exact ⟨pk, L7, tl, nm, rfl, h7, hge7, k7⟩
end Go.Proofs.YtpoaacnnhgebfaaGreat
namespace Go.Proofs.YtpoaacnnhgebfaaGreat
open Go.Lw
theorem PInv.of {s s' : AK} (h : PInv s) (hd : ∀ y ∈ s'.descs, ∃ x ∈ s.descs, y.num = x.num ∧ y.ob = x.ob ∧ y.fl = x.fl) (ho : ∀ i bs e0 e1, s'.objs i = .pipe bs e0 e1 → ∃ bs', s.objs i = .pipe bs' e0 e1) : PInv s' := by
  refine ⟨fun y hy bs e0 e1 he => ?_, fun y hy z hz hob hk hfl => ?_⟩
  · obtain ⟨x, hx, e1', e2, e3⟩ := hd y hy
    obtain ⟨bs', hb⟩ := ho _ _ _ _ he
    rw [e2] at hb
    rw [e3]; exact h.en x hx _ _ _ hb
  · obtain ⟨x, hx, a1, a2, a3⟩ := hd y hy
    obtain ⟨u, hu, b1, b2, b3⟩ := hd z hz
    have hcon : (s.objs x.ob).kd = .con := by
      cases hs : s'.objs y.ob with
      | file bs => rw [hs] at hk; cases hk
      | term LL scr => rw [hs] at hk; cases hk
      | pipe bs e0 e1 =>
        obtain ⟨bs', hb⟩ := ho _ _ _ _ hs
        rw [← a2, hb]; rfl
    rw [a1, b1]
    exact h.un x hx u hu (by rw [← a2, ← b2]; exact hob) hcon (by rw [← a3, ← b3]; exact hfl)
theorem PInv.new (fs : List (ByteArray × List Int)) (ts : List (ByteArray × List (List Int))) (ps : List (Int × Int)) : PInv (AK.new fs ts ps) := by
  have hd : (AK.new fs ts ps).descs = [] := (AK.new_is _ _ _).2.2.1
  exact ⟨fun x hx => (by rw [hd] at hx; cases hx), fun x hx => (by rw [hd] at hx; cases hx)⟩
theorem setD_like {s : AK} {d a b : Int} : ∀ y ∈ (s.setD d a b).descs, ∃ x ∈ s.descs, y.num = x.num ∧ y.ob = x.ob ∧ y.fl = x.fl := by
  intro y hy
  obtain ⟨x, hx, ⟨_, rfl⟩ | ⟨_, rfl⟩⟩ := AK.setD_mem hy
  · exact ⟨x, hx, rfl, rfl, rfl⟩
  · exact ⟨y, hx, rfl, rfl, rfl⟩
theorem same_like (s : AK) : ∀ y ∈ s.descs, ∃ x ∈ s.descs, y.num = x.num ∧ y.ob = x.ob ∧ y.fl = x.fl := fun y hy => ⟨y, hy, rfl, rfl, rfl⟩
theorem PInv.setD {s : AK} (h : PInv s) (d a b : Int) : PInv (s.setD d a b) := h.of setD_like fun i bs e0 e1 he => ⟨bs, he⟩
theorem PInv.met0 {s : AK} (h : PInv s) : PInv s.met0 := h.of (same_like s) fun i bs e0 e1 he => ⟨bs, he⟩
theorem PInv.met1 {s : AK} (h : PInv s) : PInv s.met1 := h.of (same_like s) fun i bs e0 e1 he => ⟨bs, he⟩
theorem PInv.setO {s : AK} (h : PInv s) (i : Nat) {o : AObj} (ho : ∀ bs e0 e1, o = .pipe bs e0 e1 → ∃ bs', s.objs i = .pipe bs' e0 e1) : PInv (s.setO i o) := h.of (same_like s) fun j bs e0 e1 he => by
  have he : (if j = i then o else s.objs j) = .pipe bs e0 e1 := he
  by_cases e : j = i
  · rw [if_pos e] at he; rw [e]; exact ho _ _ _ he
  · rw [if_neg e] at he; exact ⟨bs, he⟩
theorem PInv.read {s : AK} (h : PInv s) (d n : Int) : PInv (s.read d n).2.2 := by
  rcases AK.read_cases s d n with ⟨e, _, hr⟩ | ⟨hr, _⟩ | ⟨x, hx, _, _, _, _, ⟨_, hr⟩ | ⟨_, hr⟩⟩
  · rw [hr]; exact h
  · rw [hr]; exact h
  · rw [hr]; exact h.met0
  · rw [hr]
    dsimp only
    unfold AK.rdO
    cases ho : s.met0.objs x.ob with
    | file bs => exact h.met0.setD _ _ _
    | term LL scr => exact h.met0.setO _ fun bs e0 e1 e => by cases e
    | pipe bs e0 e1 => exact h.met0.setO _ fun bs' f0 f1 e => by cases e; exact ⟨bs, ho⟩
theorem PInv.write {s : AK} (h : PInv s) (d : Int) (ds : List Int) : PInv (s.write d ds).2.2 := by
  unfold AK.write
  split
  · exact h
  split
  · exact h
  split
  · exact h
  split
  · exact h
  · rename_i x _
    split
    · exact h
    split
    · exact h.met1
    · dsimp only
      generalize min (metF s.ps ds.length).1 (s.roomO x ds.length).1 = m
      unfold AK.wrO
      cases ho : s.met1.objs x.ob with
      | file bs => exact (h.met1.setO _ fun bs' e0 e1 e => by cases e).setD _ _ _
      | term LL scr => exact h.met1.setO _ fun bs' e0 e1 e => by cases e
      | pipe bs e0 e1 => exact h.met1.setO _ fun bs' f0 f1 e => by cases e; exact ⟨bs, ho⟩
theorem PInv.seek {s : AK} (h : PInv s) (d off wh : Int) : PInv (s.seek d off wh).2.2 := by
  unfold AK.seek
  split
  · exact h
  split
  · exact h
  split
  · split
    · exact h
    · rename_i x _ _ _ _ _
      dsimp only
      generalize (if wh = 0 then (0 : Int) else _) = base
      split
      · exact h
      · exact h.setD _ _ _
  · exact h
theorem PInv.keep {s : AK} (h : PInv s) (d : Int) : PInv (s.keep d).2 := by
  unfold AK.keep
  split
  · exact h
  split
  · exact h
  · split
    · exact h
    · exact h.setD _ _ _
theorem PInv.drop {s : AK} (h : PInv s) (d : Int) : PInv (s.drop d).2 := by
  unfold AK.drop
  split
  · exact h
  split
  · exact h
  · rename_i x hx
    split
    · obtain ⟨hxm, hxn⟩ := AK.desc_some hx
      have hmem : ∀ y ∈ (s.delD d).descs, y ∈ s.descs ∧ y.num ≠ d := fun y hy => by
        have hy : y ∈ s.descs.filter fun x => decide (x.num ≠ d) := hy
        rw [List.mem_filter] at hy
        exact ⟨hy.1, by simpa using hy.2⟩
      have hdel : PInv (s.delD d) := h.of (fun y hy => ⟨y, (hmem y hy).1, rfl, rfl, rfl⟩) fun i bs e0 e1 he => ⟨bs, he⟩
      dsimp only
      unfold AK.leave
      cases ho : (s.delD d).objs x.ob with
      | file bs => exact hdel
      | term LL scr => exact hdel
      | pipe bs e0 e1 =>
        have ho : s.objs x.ob = .pipe bs e0 e1 := ho
        have hxe := h.en x hxm _ _ _ ho
        refine ⟨fun y hy bs' f0 f1 he => ?_, fun y hy z hz hob hk hfl => ?_⟩
        · obtain ⟨hy1, hy2⟩ := hmem y hy
          have he : (if y.ob = x.ob then AObj.pipe bs (leaveP (bitI x.fl 2 != 0) e0 e1).2.1 (leaveP (bitI x.fl 2 != 0) e0 e1).2.2 else s.objs y.ob) = .pipe bs' f0 f1 := he
          by_cases e : y.ob = x.ob
          · rw [if_pos e] at he
            simp only [AObj.pipe.injEq] at he
            obtain ⟨_, rfl, rfl⟩ := he
            have hye := h.en y hy1 _ _ _ (by rw [e]; exact ho)
            have hfl : y.fl ≠ x.fl := fun e2 => hy2 (by rw [h.un y hy1 x hxm e (by rw [e, ho]; rfl) e2, hxn])
            unfold leaveP
            rcases hxe with ⟨a, b⟩ | ⟨a, b⟩
            · have hb : (bitI x.fl 2 != 0) = false := by rw [a]; kernel_rfl
              rw [hb]
              rcases hye with ⟨c, _⟩ | ⟨c, c2⟩
              · exact absurd (c.trans a.symm) hfl
              · refine .inr ⟨c, ?_⟩
                simp only [Bool.false_eq_true, if_false]
                split <;> exact c2
            · have hb : (bitI x.fl 2 != 0) = true := by rw [a]; kernel_rfl
              rw [hb]
              rcases hye with ⟨c, c2⟩ | ⟨c, _⟩
              · refine .inl ⟨c, ?_⟩
                simp only [if_true]
                split <;> exact c2
              · exact absurd (c.trans a.symm) hfl
          · rw [if_neg e] at he
            exact h.en y hy1 _ _ _ he
        · obtain ⟨hy1, hy2⟩ := hmem y hy
          obtain ⟨hz1, _⟩ := hmem z hz
          refine h.un y hy1 z hz1 hob ?_ hfl
          have hk : (if y.ob = x.ob then AObj.pipe bs (leaveP (bitI x.fl 2 != 0) e0 e1).2.1 (leaveP (bitI x.fl 2 != 0) e0 e1).2.2 else s.objs y.ob).kd = .con := hk
          by_cases e : y.ob = x.ob
          · rw [e, ho]; rfl
          · rw [if_neg e] at hk; exact hk
    · exact h.setD _ _ _
theorem PInv.newD {s : AK} (h : PInv s) {i : Nat} (hk : (s.objs i).kd ≠ .con) (fl : Int) : PInv (s.newD i fl) := by
  have hm : ∀ y ∈ (s.newD i fl).descs, y ∈ s.descs ∨ y.ob = i := fun y hy => by
    have hy : y ∈ s.descs ++ [(⟨s.next, i, fl, 0, 1⟩ : AD)] := hy
    rcases List.mem_append.1 hy with e | e
    · exact .inl e
    · rw [List.mem_singleton] at e; subst e; exact .inr rfl
  refine ⟨fun y hy bs e0 e1 he => ?_, fun y hy z hz hob hkk hfl => ?_⟩
  · have he : s.objs y.ob = .pipe bs e0 e1 := he
    rcases hm y hy with e | e
    · exact h.en y e _ _ _ he
    · rw [e] at he; rw [he] at hk; exact absurd rfl hk
  · have hkk : (s.objs y.ob).kd = .con := hkk
    rcases hm y hy with e | e
    · rcases hm z hz with e2 | e2
      · exact h.un y e z e2 hob hkk hfl
      · rw [hob, e2] at hkk; exact absurd hkk hk
    · rw [e] at hkk; exact absurd hkk hk
theorem PInv.newO {s : AK} (h : PInv s) (hok : s.Ok) (o : AObj) : PInv (s.newO o) := by
  have hob : ∀ y ∈ s.descs, (s.newO o).objs y.ob = s.objs y.ob := fun y hy => AK.newO_old s o (hok.di y hy).1
  refine ⟨fun y hy bs e0 e1 he => ?_, fun y hy z hz hobb hkk hfl => ?_⟩
  · rw [hob y hy] at he; exact h.en y hy _ _ _ he
  · rw [hob y hy] at hkk; exact h.un y hy z hz hobb hkk hfl
theorem PInv.open_ {s : AK} (h : PInv s) (hok : s.Ok) (name : ByteArray) (fl : Int) : PInv (s.open_ name fl).2.2 := by
  unfold AK.open_
  split
  · exact h
  · dsimp only
    unfold AK.openS
    split
    · rename_i t ht
      exact h.newD (by rw [(hok.ti t (AK.termOf_some ht).1).2]; simp) fl
    · split
      · rename_i f hf
        have hk := (hok.fi f (AK.fileOf_some hf).1).2
        split
        · refine PInv.newD (h.setO f.2 fun bs e0 e1 e => by cases e) ?_ fl
          rw [AK.objs_setO_same]; simp [AObj.kd]
        · exact h.newD (by rw [hk]; simp) fl
      · have h1 : PInv { s.newO (.file []) with files := s.files ++ [(name, s.nob)] } := (h.newO hok (.file [])).of (same_like _) fun i bs e0 e1 he => ⟨bs, he⟩
        refine h1.newD ?_ fl
        show ((s.newO (.file [])).objs s.nob).kd ≠ _
        rw [AK.objs_newO_new]; simp [AObj.kd]
theorem PInv.pipe {s : AK} (h : PInv s) (hok : s.Ok) : PInv s.pipe.2.2.2 := by
  unfold AK.pipe
  split
  · exact h
  · dsimp only
    have hm : ∀ y ∈ (((s.newO (.pipe [] 1 1)).newD s.nob 1).newD s.nob 2).descs, (y ∈ s.descs ∧ y.ob < s.nob) ∨ (y.ob = s.nob ∧ y.fl = 1 ∧ y.num = s.next) ∨ (y.ob = s.nob ∧ y.fl = 2 ∧ y.num = s.next + 1) := fun y hy => by
      have hy : y ∈ (s.descs ++ [(⟨s.next, s.nob, 1, 0, 1⟩ : AD)]) ++ [(⟨s.next + 1, s.nob, 2, 0, 1⟩ : AD)] := hy
      rcases List.mem_append.1 hy with e | e
      · rcases List.mem_append.1 e with e | e
        · exact .inl ⟨e, (hok.di y e).1⟩
        · rw [List.mem_singleton] at e; subst e; exact .inr (.inl ⟨rfl, rfl, rfl⟩)
      · rw [List.mem_singleton] at e; subst e; exact .inr (.inr ⟨rfl, rfl, rfl⟩)
    have hobj : ∀ i, (((s.newO (.pipe [] 1 1)).newD s.nob 1).newD s.nob 2).objs i = if i = s.nob then .pipe [] 1 1 else s.objs i := fun i => rfl
    refine ⟨fun y hy bs e0 e1 he => ?_, fun y hy z hz hob hkk hfl => ?_⟩
    · rw [hobj] at he
      rcases hm y hy with ⟨e, e2⟩ | ⟨e, e2, _⟩ | ⟨e, e2, _⟩
      · rw [if_neg (by omega)] at he
        exact h.en y e _ _ _ he
      · rw [if_pos e] at he; cases he; exact .inl ⟨e2, by omega⟩
      · rw [if_pos e] at he; cases he; exact .inr ⟨e2, by omega⟩
    · rw [hobj] at hkk
      rcases hm y hy with ⟨e, e2⟩ | ⟨e, e2, e3⟩ | ⟨e, e2, e3⟩
      · rw [if_neg (by omega)] at hkk
        rcases hm z hz with ⟨g, g2⟩ | ⟨g, _⟩ | ⟨g, _⟩
        · exact h.un y e z g hob hkk hfl
        · omega
        · omega
      · rcases hm z hz with ⟨g, g2⟩ | ⟨g, g2, g3⟩ | ⟨g, g2, _⟩
        · omega
        · rw [e3, g3]
        · rw [e2, g2] at hfl; cases hfl
      · rcases hm z hz with ⟨g, g2⟩ | ⟨g, g2, _⟩ | ⟨g, g2, g3⟩
        · omega
        · rw [e2, g2] at hfl; cases hfl
        · rw [e3, g3]
theorem files_eq {s : AK} (hok : s.Ok) {T : List (ByteArray × Nat)} (hp : T.Perm (s.files ++ s.terms)) (hs : T.Pairwise nmLe) : ofK s .disk dataO T = s.filesV := by
  have hF : (T.filter fun t => decide ((s.objs t.2).kd = .disk)).Perm s.files := by
    have h1 := hp.filter fun t => decide ((s.objs t.2).kd = .disk)
    rw [List.filter_append] at h1
    have h2 : s.files.filter (fun t => decide ((s.objs t.2).kd = .disk)) = s.files := List.filter_eq_self.2 fun t ht => by simp [(hok.fi t ht).2]
    have h3 : s.terms.filter (fun t => decide ((s.objs t.2).kd = .disk)) = [] := List.filter_eq_nil_iff.2 fun t ht => by simp [(hok.ti t ht).2]
    rw [h2, h3, List.append_nil] at h1
    exact h1
  have hFs : (T.filter fun t => decide ((s.objs t.2).kd = .disk)).Pairwise nmLe := hs.filter _
  unfold ofK
  generalize T.filter (fun t => decide ((s.objs t.2).kd = .disk)) = F at hF hFs
  have e1 : sortN (s.files.map (·.1)) = F.map (·.1) := by
    rw [← sortN_of_perm (hF.map (·.1))]
    unfold sortN
    rw [List.mergeSort_of_pairwise, strL_dataL]
    unfold dataL
    rw [List.map_map, List.pairwise_map]
    exact hFs.imp fun {a b : ByteArray × Nat} (h : nmLe a b) => @decide_eq_true (a.1.data.toList ≤ b.1.data.toList) _ h
  unfold AK.filesV
  rw [e1, List.map_map]
  refine List.map_congr_left fun t ht => ?_
  have htf := hF.mem_iff.1 ht
  show (t.1, dataO (s.objs t.2)) = (t.1, s.bytesOf t.1)
  unfold AK.bytesOf
  rw [AK.fileOf_mem hok htf]
theorem screen_mem {s : AK} (hok : s.Ok) {T : List (ByteArray × Nat)} (hp : T.Perm (s.files ++ s.terms)) {f : ByteArray × List Int} (hf : f ∈ ofK s .scr scrO T) : s.screenV f.1 = (f.2, true) := by
  unfold ofK at hf
  obtain ⟨t, ht, rfl⟩ := List.mem_map.1 hf
  rw [List.mem_filter] at ht
  obtain ⟨ht1, ht2⟩ := ht
  have ht2 : (s.objs t.2).kd = .scr := by simpa using ht2
  have htt : t ∈ s.terms := by
    rcases List.mem_append.1 (hp.mem_iff.1 ht1) with e | e
    · rw [(hok.fi t e).2] at ht2; cases ht2
    · exact e
  unfold AK.screenV
  rw [AK.termOf_mem hok.tn htt]
end Go.Proofs.YtpoaacnnhgebfaaGreat
set_option maxRecDepth 100000
namespace Go.Proofs.YtpoaacnnhgebfaaGreat
open Go.Lw
def L22 (p1 : Option Addr) (p2 : Option Addr) (n3 : Int) (s4 : ByteArray) (n5 : Int) (n6 : Int) (n7 : Int) (b8 : Bool) (a9 : Option Addr) (l9 : Nat) (c9 : Nat) (Q : Value → World → Prop) (w : World) : Prop :=
  let w1 := World.alloc w (Obj.cells #[.int .i64 n3, .string s4, .int .i64 n5, .int .i64 n6, .int .i64 n7, .bool b8, .slice a9 l9 c9] 52);
  ∃ (J10 : List Value → World → Prop),
  (∃ (n11 : Int), w1.cell? (Addr.mk w.heap.size 0 none) = some ((.int .i64 n11 : Value)) ∧
  cond (n11 == 0)
  (∃ (s12 : ByteArray), w1.cell? (Addr.mk w.heap.size 1 none) = some ((.string s12 : Value)) ∧
  ∃ (n13 : Int), w1.cell? (Addr.mk w.heap.size 2 none) = some ((.int .i64 n13 : Value)) ∧
  CallR Tryz.prog 91 [.pointer p1, .string s12, .int .i64 n13] w1 (fun (r16 : Value) (w2 : World) =>
  ∃ (n14 : Int) (n15 : Int), r16 = .tuple #[.int .i64 n14, .int .i64 n15] ∧
  ∃ (s17 : ByteArray), w2.cell? (Addr.mk w.heap.size 1 none) = some ((.string s17 : Value)) ∧
  ∃ (n18 : Int), w2.cell? (Addr.mk w.heap.size 2 none) = some ((.int .i64 n18 : Value)) ∧
  CallR Tryz.prog 97 [.pointer p2, .string s17, .int .i64 n18] w2 (fun (r21 : Value) (w3 : World) =>
  ∃ (n19 : Int) (n20 : Int), r21 = .tuple #[.int .i64 n19, .int .i64 n20] ∧
  cond (n14 == n19)
  (CallR Tryz.prog 16 [.int .i64 n15] w3 (fun (r23 : Value) (w4 : World) =>
  ∃ (n22 : Int), r23 = .int .i64 n22 ∧
  Q (.bool (n22 == n20)) w4))
  (Q (.bool false) w3))))
  (cond (n11 == 1)
  (CallR Tryz.prog 98 [.pointer p1] w1 (fun (r27 : Value) (w5 : World) =>
  ∃ (n24 : Int) (n25 : Int) (n26 : Int), r27 = .tuple #[.int .i64 n24, .int .i64 n25, .int .i64 n26] ∧
  CallR Tryz.prog 99 [.pointer p2] w5 (fun (r31 : Value) (w6 : World) =>
  ∃ (n28 : Int) (n29 : Int) (n30 : Int), r31 = .tuple #[.int .i64 n28, .int .i64 n29, .int .i64 n30] ∧
  cond (n24 == n28)
  (cond (n25 == n29)
  (CallR Tryz.prog 16 [.int .i64 n26] w6 (fun (r33 : Value) (w7 : World) =>
  ∃ (n32 : Int), r33 = .int .i64 n32 ∧
  Q (.bool (n32 == n30)) w7))
  (Q (.bool false) w6))
  (Q (.bool false) w6))))
  (cond (n11 == 2)
  (∃ (n34 : Int), w1.cell? (Addr.mk w.heap.size 2 none) = some ((.int .i64 n34 : Value)) ∧
  CallR Tryz.prog 100 [.pointer p1, .int .i64 n34] w1 (fun (r37 : Value) (w8 : World) =>
  ∃ (n35 : Int) (n36 : Int), r37 = .tuple #[.int .i64 n35, .int .i64 n36] ∧
  ∃ (n38 : Int), w8.cell? (Addr.mk w.heap.size 2 none) = some ((.int .i64 n38 : Value)) ∧
  CallR Tryz.prog 101 [.pointer p2, .int .i64 n38] w8 (fun (r41 : Value) (w9 : World) =>
  ∃ (n39 : Int) (n40 : Int), r41 = .tuple #[.int .i64 n39, .int .i64 n40] ∧
  cond (n35 == n39)
  (CallR Tryz.prog 16 [.int .i64 n36] w9 (fun (r43 : Value) (w10 : World) =>
  ∃ (n42 : Int), r43 = .int .i64 n42 ∧
  Q (.bool (n42 == n40)) w10))
  (Q (.bool false) w9))))
  (cond (n11 == 3)
  (∃ (S44 : World → Prop), S44 (World.drew w1) ∧
  let w11 := World.drew w1;
  ∃ (n45 : Int), (∀ wS : World, S44 wS → wS.cell? (Addr.mk w.heap.size 2 none) = some ((.int .i64 n45 : Value))) ∧
  ∃ (n46 : Int), (∀ wS : World, S44 wS → wS.cell? (Addr.mk w.heap.size 2 none) = some ((.int .i64 n46 : Value))) ∧
  CallR Tryz.prog 93 [.pointer p1, .int .i64 n45] w11 (fun (r48 : Value) (w12 : World) =>
  ∃ (n47 : Int), r48 = .int .i64 n47 ∧
  S44 w12 ∧
  CallR Tryz.prog 16 [.int .i64 n47] w12 (fun (r50 : Value) (w13 : World) =>
  ∃ (n49 : Int), r50 = .int .i64 n49 ∧
  S44 w13 ∧
  CallR Tryz.prog 102 [.pointer p2, .int .i64 n46] w13 (fun (r52 : Value) (w14 : World) =>
  ∃ (n51 : Int), r52 = .int .i64 n51 ∧
  Q (.bool (n49 == n51)) w14))))
  (cond (n11 == 4)
  (∃ (n53 : Int), w1.cell? (Addr.mk w.heap.size 2 none) = some ((.int .i64 n53 : Value)) ∧
  CallR Tryz.prog 92 [.pointer p1, .int .i64 n53] w1 (fun (r56 : Value) (w15 : World) =>
  ∃ (n54 : Int) (n55 : Int), r56 = .tuple #[.int .i64 n54, .int .i64 n55] ∧
  ∃ (n57 : Int), w15.cell? (Addr.mk w.heap.size 2 none) = some ((.int .i64 n57 : Value)) ∧
  CallR Tryz.prog 103 [.pointer p2, .int .i64 n57] w15 (fun (r60 : Value) (w16 : World) =>
  ∃ (n58 : Int) (n59 : Int), r60 = .tuple #[.int .i64 n58, .int .i64 n59] ∧
  cond (n54 == n58)
  (CallR Tryz.prog 16 [.int .i64 n55] w16 (fun (r62 : Value) (w17 : World) =>
  ∃ (n61 : Int), r62 = .int .i64 n61 ∧
  Q (.bool (n61 == n59)) w17))
  (Q (.bool false) w16))))
  (cond (n11 == 5)
  (∃ (S63 : World → Prop), S63 (World.drew w1) ∧
  let w18 := World.drew w1;
  ∃ (n64 : Int), (∀ wS : World, S63 wS → wS.cell? (Addr.mk w.heap.size 2 none) = some ((.int .i64 n64 : Value))) ∧
  ∃ (n65 : Int), (∀ wS : World, S63 wS → wS.cell? (Addr.mk w.heap.size 3 none) = some ((.int .i64 n65 : Value))) ∧
  ∃ (n66 : Int), (∀ wS : World, S63 wS → wS.cell? (Addr.mk w.heap.size 2 none) = some ((.int .i64 n66 : Value))) ∧
  ∃ (n67 : Int), (∀ wS : World, S63 wS → wS.cell? (Addr.mk w.heap.size 3 none) = some ((.int .i64 n67 : Value))) ∧
  CallR Tryz.prog 94 [.pointer p1, .int .i64 n64, .int .i64 n65] w18 (fun (r69 : Value) (w19 : World) =>
  ∃ (n68 : Int), r69 = .int .i64 n68 ∧
  S63 w19 ∧
  CallR Tryz.prog 16 [.int .i64 n68] w19 (fun (r71 : Value) (w20 : World) =>
  ∃ (n70 : Int), r71 = .int .i64 n70 ∧
  S63 w20 ∧
  CallR Tryz.prog 104 [.pointer p2, .int .i64 n66, .int .i64 n67] w20 (fun (r73 : Value) (w21 : World) =>
  ∃ (n72 : Int), r73 = .int .i64 n72 ∧
  Q (.bool (n70 == n72)) w21))))
  (cond (n11 == 6)
  (∃ (S74 : World → Prop), S74 (World.drew w1) ∧
  let w22 := World.drew w1;
  ∃ (n75 : Int), (∀ wS : World, S74 wS → wS.cell? (Addr.mk w.heap.size 2 none) = some ((.int .i64 n75 : Value))) ∧
  ∃ (b76 : Bool), (∀ wS : World, S74 wS → wS.cell? (Addr.mk w.heap.size 5 none) = some ((.bool b76 : Value))) ∧
  ∃ (n77 : Int), (∀ wS : World, S74 wS → wS.cell? (Addr.mk w.heap.size 2 none) = some ((.int .i64 n77 : Value))) ∧
  ∃ (b78 : Bool), (∀ wS : World, S74 wS → wS.cell? (Addr.mk w.heap.size 5 none) = some ((.bool b78 : Value))) ∧
  CallR Tryz.prog 95 [.pointer p1, .int .i64 n75, .bool b76] w22 (fun (r80 : Value) (w23 : World) =>
  ∃ (n79 : Int), r80 = .int .i64 n79 ∧
  S74 w23 ∧
  CallR Tryz.prog 16 [.int .i64 n79] w23 (fun (r82 : Value) (w24 : World) =>
  ∃ (n81 : Int), r82 = .int .i64 n81 ∧
  S74 w24 ∧
  CallR Tryz.prog 105 [.pointer p2, .int .i64 n77, .bool b78] w24 (fun (r84 : Value) (w25 : World) =>
  ∃ (n83 : Int), r84 = .int .i64 n83 ∧
  Q (.bool (n81 == n83)) w25))))
  (cond (n11 == 7)
  (∃ (n85 : Int), w1.cell? (Addr.mk w.heap.size 2 none) = some ((.int .i64 n85 : Value)) ∧
  ∃ (n86 : Int), w1.cell? (Addr.mk w.heap.size 3 none) = some ((.int .i64 n86 : Value)) ∧
  CallR Tryz.prog 106 [.pointer p1, .int .i64 n85, .int .i64 n86] w1 (fun (r89 : Value) (w26 : World) =>
  ∃ (a87 : Option Addr) (l87 : Nat) (c87 : Nat) (n88 : Int), r89 = .tuple #[.slice a87 l87 c87, .int .i64 n88] ∧
  ∃ (n90 : Int), w26.cell? (Addr.mk w.heap.size 2 none) = some ((.int .i64 n90 : Value)) ∧
  ∃ (n91 : Int), w26.cell? (Addr.mk w.heap.size 3 none) = some ((.int .i64 n91 : Value)) ∧
  CallR Tryz.prog 107 [.pointer p2, .int .i64 n90, .int .i64 n91] w26 (fun (r94 : Value) (w27 : World) =>
  ∃ (a92 : Option Addr) (l92 : Nat) (c92 : Nat) (n93 : Int), r94 = .tuple #[.slice a92 l92 c92, .int .i64 n93] ∧
  CallR Tryz.prog 39 [.slice a87 l87 c87, .slice a92 l92 c92] w27 (fun (r96 : Value) (w28 : World) =>
  ∃ (b95 : Bool), r96 = .bool b95 ∧
  cond b95
  (CallR Tryz.prog 16 [.int .i64 n88] w28 (fun (r98 : Value) (w29 : World) =>
  ∃ (n97 : Int), r98 = .int .i64 n97 ∧
  Q (.bool (n97 == n93)) w29))
  (Q (.bool false) w28)))))
  (cond (n11 == 8)
  (∃ (n99 : Int), w1.cell? (Addr.mk w.heap.size 2 none) = some ((.int .i64 n99 : Value)) ∧
  ∃ (a100 : Option Addr) (l100 : Nat) (c100 : Nat), w1.cell? (Addr.mk w.heap.size 6 none) = some ((.slice a100 l100 c100 : Value)) ∧
  CallR Tryz.prog 108 [.pointer p1, .int .i64 n99, .slice a100 l100 c100] w1 (fun (r103 : Value) (w30 : World) =>
  ∃ (n101 : Int) (n102 : Int), r103 = .tuple #[.int .i64 n101, .int .i64 n102] ∧
  ∃ (n104 : Int), w30.cell? (Addr.mk w.heap.size 2 none) = some ((.int .i64 n104 : Value)) ∧
  ∃ (a105 : Option Addr) (l105 : Nat) (c105 : Nat), w30.cell? (Addr.mk w.heap.size 6 none) = some ((.slice a105 l105 c105 : Value)) ∧
  CallR Tryz.prog 109 [.pointer p2, .int .i64 n104, .slice a105 l105 c105] w30 (fun (r108 : Value) (w31 : World) =>
  ∃ (n106 : Int) (n107 : Int), r108 = .tuple #[.int .i64 n106, .int .i64 n107] ∧
  cond (n101 == n106)
  (CallR Tryz.prog 16 [.int .i64 n102] w31 (fun (r110 : Value) (w32 : World) =>
  ∃ (n109 : Int), r110 = .int .i64 n109 ∧
  Q (.bool (n109 == n107)) w32))
  (Q (.bool false) w31))))
  (cond (n11 == 9)
  (∃ (n111 : Int), w1.cell? (Addr.mk w.heap.size 2 none) = some ((.int .i64 n111 : Value)) ∧
  ∃ (n112 : Int), w1.cell? (Addr.mk w.heap.size 3 none) = some ((.int .i64 n112 : Value)) ∧
  ∃ (n113 : Int), w1.cell? (Addr.mk w.heap.size 4 none) = some ((.int .i64 n113 : Value)) ∧
  CallR Tryz.prog 110 [.pointer p1, .int .i64 n111, .int .i64 n112, .int .i64 n113] w1 (fun (r116 : Value) (w33 : World) =>
  ∃ (n114 : Int) (n115 : Int), r116 = .tuple #[.int .i64 n114, .int .i64 n115] ∧
  ∃ (n117 : Int), w33.cell? (Addr.mk w.heap.size 2 none) = some ((.int .i64 n117 : Value)) ∧
  ∃ (n118 : Int), w33.cell? (Addr.mk w.heap.size 3 none) = some ((.int .i64 n118 : Value)) ∧
  ∃ (n119 : Int), w33.cell? (Addr.mk w.heap.size 4 none) = some ((.int .i64 n119 : Value)) ∧
  CallR Tryz.prog 111 [.pointer p2, .int .i64 n117, .int .i64 n118, .int .i64 n119] w33 (fun (r122 : Value) (w34 : World) =>
  ∃ (n120 : Int) (n121 : Int), r122 = .tuple #[.int .i64 n120, .int .i64 n121] ∧
  cond (n114 == n120)
  (CallR Tryz.prog 16 [.int .i64 n115] w34 (fun (r124 : Value) (w35 : World) =>
  ∃ (n123 : Int), r124 = .int .i64 n123 ∧
  Q (.bool (n123 == n121)) w35))
  (Q (.bool false) w34))))
  (cond (n11 == 11)
  (CallR Tryz.prog 112 [.pointer p1] w1 (fun (r125 : Value) (w36 : World) =>
  r125 = .tuple #[] ∧
  CallR Tryz.prog 113 [.pointer p2] w36 (fun (r126 : Value) (w37 : World) =>
  r126 = .tuple #[] ∧
  J10 [] w37)))
  (J10 [] w1)))))))))))) ∧
  (∀ (_ : Env) (w38 : World), J10 [] w38 →
  ∃ (n127 : Int), w38.cell? (Addr.mk w.heap.size 2 none) = some ((.int .i64 n127 : Value)) ∧
  CallR Tryz.prog 114 [.pointer p1, .int .i64 n127] w38 (fun (r130 : Value) (w39 : World) =>
  ∃ (b128 : Bool) (n129 : Int), r130 = .tuple #[.bool b128, .int .i64 n129] ∧
  ∃ (n131 : Int), w39.cell? (Addr.mk w.heap.size 2 none) = some ((.int .i64 n131 : Value)) ∧
  CallR Tryz.prog 115 [.pointer p2, .int .i64 n131] w39 (fun (r134 : Value) (w40 : World) =>
  ∃ (b132 : Bool) (n133 : Int), r134 = .tuple #[.bool b132, .int .i64 n133] ∧
  ∃ (n135 : Int), w40.cell? (Addr.mk w.heap.size 2 none) = some ((.int .i64 n135 : Value)) ∧
  CallR Tryz.prog 116 [.pointer p1, .int .i64 n135] w40 (fun (r138 : Value) (w41 : World) =>
  ∃ (n136 : Int) (n137 : Int), r138 = .tuple #[.int .i64 n136, .int .i64 n137] ∧
  ∃ (n139 : Int), w41.cell? (Addr.mk w.heap.size 2 none) = some ((.int .i64 n139 : Value)) ∧
  CallR Tryz.prog 117 [.pointer p2, .int .i64 n139] w41 (fun (r142 : Value) (w42 : World) =>
  ∃ (n140 : Int) (n141 : Int), r142 = .tuple #[.int .i64 n140, .int .i64 n141] ∧
  cond (b128 == b132)
  (CallR Tryz.prog 16 [.int .i64 n129] w42 (fun (r144 : Value) (w43 : World) =>
  ∃ (n143 : Int), r144 = .int .i64 n143 ∧
  cond (n143 == n133)
  (cond (n136 == n140)
  (CallR Tryz.prog 16 [.int .i64 n137] w43 (fun (r146 : Value) (w44 : World) =>
  ∃ (n145 : Int), r146 = .int .i64 n145 ∧
  Q (.bool (n145 == n141)) w44))
  (Q (.bool false) w43))
  (Q (.bool false) w43)))
  (Q (.bool false) w42))))))
end Go.Proofs.YtpoaacnnhgebfaaGreat
set_option maxRecDepth 512
namespace Go.Proofs.YtpoaacnnhgebfaaGreat
open Go.Lw
def TabC (cur : Array Value) (gk : Nat) (sl : List (Int × Bool)) : Prop :=
  cur.size = 129 ∧ sl.length = 64 ∧ cur[0]? = some (pd gk) ∧ ∀ i, (h : i < sl.length) → cur[1 + i * 2]? = some (.int .i64 sl[i].1) ∧ cur[1 + i * 2 + 1]? = some (.bool sl[i].2)
def TabO (w : World) (t gk : Nat) (sl : List (Int × Bool)) : Prop := ∃ cur, Blk w t cur ∧ TabC cur gk sl
theorem TabO.keep {w w' : World} {t gk : Nat} {sl : List (Int × Bool)} (h : TabO w t gk sl) {S : Nat → Prop} (k : Kept S w w') (hn : ¬ S t) : TabO w' t gk sl := by
  obtain ⟨cur, hb, hc⟩ := h; exact ⟨cur, hb.keep k hn, hc⟩
theorem TabO.lt {w : World} {t gk : Nat} {sl : List (Int × Bool)} (h : TabO w t gk sl) : t < w.heap.size := by
  obtain ⟨cur, hb, hc⟩ := h; exact hb.lt
theorem TabO.len {w : World} {t gk : Nat} {sl : List (Int × Bool)} (h : TabO w t gk sl) : sl.length = 64 := by
  obtain ⟨cur, hb, hc⟩ := h; exact hc.2.1
theorem TabO.at0 {w : World} {t gk : Nat} {sl : List (Int × Bool)} (h : TabO w t gk sl) : w.cell? ⟨t, 0, none⟩ = some (pd gk) := by
  obtain ⟨cur, hb, hc⟩ := h; exact hb.at0 hc.2.2.1
theorem tadd (t i : Nat) : ((⟨t, 0, none⟩ : Addr).add 1).add (i * 2) = ⟨t, 1 + i * 2, none⟩ := by rw [Lw.add_add, add_none, Nat.zero_add]
theorem tadd1 (t i : Nat) : (((⟨t, 0, none⟩ : Addr).add 1).add (i * 2)).add 1 = ⟨t, 1 + i * 2 + 1, none⟩ := by rw [tadd, add_none]
theorem TabO.desc {w : World} {t gk : Nat} {sl : List (Int × Bool)} (h : TabO w t gk sl) {i : Nat} (hi : i < sl.length) : w.cell? (((⟨t, 0, none⟩ : Addr).add 1).add (i * 2)) = some (.int .i64 sl[i].1) := by
  obtain ⟨cur, hb, hc⟩ := h
  rw [tadd, hb.cell]; exact (hc.2.2.2 i hi).1
theorem TabO.stD {w : World} {t gk : Nat} {sl : List (Int × Bool)} (h : TabO w t gk sl) {i : Nat} (hi : i < sl.length) {d : Int} {K : World → Prop} (hk : ∀ w', TabO w' t gk (sl.set i (d, sl[i].2)) → Kept (· = t) w w' → w'.heap.size = w.heap.size → K w') :
    stC (((⟨t, 0, none⟩ : Addr).add 1).add (i * 2)) (.int .i64 d) w K := by
  obtain ⟨cur, hb, h1, h2, h3, h4⟩ := h
  rw [tadd]
  refine stC_blk hb (by omega) fun w' hb' hk' hs' => hk w' ⟨_, hb', by simpa using h1, by simpa using h2, ?_, fun j hj => ?_⟩ hk' hs'
  · rw [Array.getElem?_setIfInBounds_ne (by omega)]; exact h3
  · rw [List.length_set] at hj
    obtain ⟨g1, g2⟩ := h4 j hj
    rw [List.getElem_set]
    by_cases e : i = j
    · subst e
      rw [if_pos rfl, Array.getElem?_setIfInBounds_self_of_lt (by omega), Array.getElem?_setIfInBounds_ne (by omega)]
      exact ⟨rfl, g2⟩
    · rw [if_neg e, Array.getElem?_setIfInBounds_ne (by omega), Array.getElem?_setIfInBounds_ne (by omega)]
      exact ⟨g1, g2⟩
theorem TabO.stM {w : World} {t gk : Nat} {sl : List (Int × Bool)} (h : TabO w t gk sl) {i : Nat} (hi : i < sl.length) {m : Bool} {K : World → Prop} (hk : ∀ w', TabO w' t gk (sl.set i (sl[i].1, m)) → Kept (· = t) w w' → w'.heap.size = w.heap.size → K w') :
    stC ((((⟨t, 0, none⟩ : Addr).add 1).add (i * 2)).add 1) (.bool m) w K := by
  obtain ⟨cur, hb, h1, h2, h3, h4⟩ := h
  rw [tadd1]
  refine stC_blk hb (by omega) fun w' hb' hk' hs' => hk w' ⟨_, hb', by simpa using h1, by simpa using h2, ?_, fun j hj => ?_⟩ hk' hs'
  · rw [Array.getElem?_setIfInBounds_ne (by omega)]; exact h3
  · rw [List.length_set] at hj
    obtain ⟨g1, g2⟩ := h4 j hj
    rw [List.getElem_set]
    by_cases e : i = j
    · subst e
      rw [if_pos rfl, Array.getElem?_setIfInBounds_ne (by omega), Array.getElem?_setIfInBounds_self_of_lt (by omega)]
      exact ⟨g1, rfl⟩
    · rw [if_neg e, Array.getElem?_setIfInBounds_ne (by omega), Array.getElem?_setIfInBounds_ne (by omega)]
      exact ⟨g1, g2⟩
theorem TabO.st {w : World} {t gk : Nat} {sl : List (Int × Bool)} (h : TabO w t gk sl) {i : Nat} (hi : i < sl.length) {d : Int} {m : Bool} {K : World → Prop} (hk : ∀ w', TabO w' t gk (sl.set i (d, m)) → Kept (· = t) w w' → w'.heap.size = w.heap.size → K w') :
    stC (((⟨t, 0, none⟩ : Addr).add 1).add (i * 2)) (.int .i64 d) w fun w1 => stC ((((⟨t, 0, none⟩ : Addr).add 1).add (i * 2)).add 1) (.bool m) w1 K :=
  h.stD hi fun w1 h1 hk1 hs1 => h1.stM (by rw [List.length_set]; exact hi) fun w2 h2 hk2 hs2 => hk w2 (by
    rw [List.set_set] at h2
    simpa using h2) (hk1.trans hk2 fun _ _ e => e) (by omega)
theorem TabO.all {w : World} {t gk : Nat} {sl : List (Int × Bool)} (h : TabO w t gk sl) : ∃ vs : List Value, vs.length = 128 ∧ (∀ i v, vs[i]? = some v → w.cell? (((⟨t, 0, none⟩ : Addr).add 1).add i) = some v) ∧
    ∀ i, (hi : i < sl.length) → List.take 2 (List.drop (i * 2) (Array.toList vs.toArray)) = [.int .i64 sl[i].1, .bool sl[i].2] := by
  obtain ⟨cur, hb, h1, h2, h3, h4⟩ := h
  refine ⟨cur.toList.drop 1, by rw [List.length_drop, Array.length_toList, h1], fun i v hv => ?_, fun i hi => ?_⟩
  · rw [Lw.add_add, add_none, Nat.zero_add, hb.cell]
    rw [List.getElem?_drop] at hv
    simpa using hv
  · obtain ⟨g1, g2⟩ := h4 i hi
    apply List.ext_getElem?
    intro j
    rw [List.getElem?_take]
    match j with
    | 0 => rw [if_pos (by omega)]; simpa [Nat.add_comm] using g1
    | 1 => rw [if_pos (by omega)]; simpa [Nat.add_comm, Nat.add_left_comm, Nat.add_assoc] using g2
    | j + 2 => rw [if_neg (by omega)]; simp
end Go.Proofs.YtpoaacnnhgebfaaGreat
namespace Go.Proofs.YtpoaacnnhgebfaaGreat
open Go.Lw
structure TStep (t : Nat) (w w' : World) (L L' : KL) : Prop where
  kept : Kept (fun z => L.own z ≠ none ∨ z = t) w w'
  grew : ∀ z, L'.own z ≠ none → L.own z ≠ none ∨ w.heap.size ≤ z
theorem TStep.refl (t : Nat) (w : World) (L : KL) : TStep t w w L L := ⟨Kept.refl _ _, fun _ h => .inl h⟩
theorem TStep.of_no {t : Nat} {w w' : World} {L : KL} (k : Kept No w w') : TStep t w w' L L := ⟨k.mono fun _ _ e => e.elim, fun _ h => .inl h⟩
theorem TStep.of_k {t : Nat} {w w' : World} {L L' : KL} (k : KStep w w' L L') : TStep t w w' L L' := ⟨k.kept.mono fun _ _ e => .inl e, k.grew⟩
theorem TStep.of_t {t : Nat} {w w' : World} {L : KL} (k : Kept (· = t) w w') : TStep t w w' L L := ⟨k.mono fun _ _ e => .inr e, fun _ h => .inl h⟩
theorem TStep.trans {t : Nat} {w w1 w2 : World} {L L1 L2 : KL} (h : TStep t w w1 L L1) (k : TStep t w1 w2 L1 L2) : TStep t w w2 L L2 :=
  ⟨h.kept.trans k.kept fun x hx e => by
    rcases e with e | e
    · rcases h.grew x e with e | e
      · exact .inl e
      · omega
    · exact .inr e, fun z hz => by
    rcases k.grew z hz with e | e
    · exact h.grew z e
    · exact .inr (Nat.le_trans h.kept.size e)⟩
theorem TStep.own {t : Nat} {w w' : World} {L L' : KL} (h : TStep t w w' L L') {z : Nat} (hz : L.own z = none) (hl : z < w.heap.size) : L'.own z = none := by
  cases ho : L'.own z with
  | none => rfl
  | some x =>
    exfalso
    rcases h.grew z (by rw [ho]; simp) with e | e
    · exact e hz
    · omega
theorem TabO.step {w w' : World} {t gk : Nat} {sl : List (Int × Bool)} {L L' : KL} (h : TabO w t gk sl) (hn : L.own t = none) (st : KStep w w' L L') : TabO w' t gk sl := h.keep st.kept fun e => e hn
end Go.Proofs.YtpoaacnnhgebfaaGreat
namespace Go.Proofs.YtpoaacnnhgebfaaGreat
open Go.Lw
end Go.Proofs.YtpoaacnnhgebfaaGreat
namespace Go.Proofs.YtpoaacnnhgebfaaGreat
open Go.Lw
theorem In_len {w : World} {a : Option Addr} {l c : Nat} {xs : List Int} (h : RdS 1 w a l c (In xs)) : xs.length = l := by have := h.1; rw [In_length] at this; omega
theorem In_cell {w : World} {a : Option Addr} {l c : Nat} {xs : List Int} (h : RdS 1 w a l c (In xs)) {i : Nat} (hi : i < xs.length) : ∃ q, a = some q ∧ w.cell? (q.add i) = some (.int .i64 xs[i]) := by
  cases a with
  | none =>
    have := (RdS.isNone h rfl).1
    have := In_len h
    omega
  | some q => exact ⟨q, rfl, h.2.2.2 q rfl i _ (In_get xs i hi)⟩
def nA : ByteArray := ByteArray.mk #[97]
def nB : ByteArray := ByteArray.mk #[98]
def fs7 : List (ByteArray × List Int) := [(nA, []), (nB, [])]
def a7 : AK := AK.new fs7 [] []
theorem KernO.keepT {w w' : World} {gk t : Nat} {s : AK} {L : KL} (h : KernO w gk s L) (hn : L.own t = none) (k : Kept (· = t) w w') : KernO w' gk s L := h.keep k fun x e => by rw [e]; exact hn
end Go.Proofs.YtpoaacnnhgebfaaGreat
namespace Go.Proofs.YtpoaacnnhgebfaaGreat
open Go.Lw
theorem Fv_get? : ∀ (ps : List (Int × Int)) (i : Nat) (v : Value), (Fv ps)[i]? = some v → ∃ (j : Nat) (hj : j < ps.length), (i = j * 2 ∧ v = .int .i64 ps[j].1) ∨ (i = j * 2 + 1 ∧ v = .int .i64 ps[j].2)
  | [], i, v, h => by simp [Fv] at h
  | p :: r, 0, v, h => by
    have h : some (Value.int .i64 p.1) = some v := h
    simp only [Option.some.injEq] at h
    exact ⟨0, by simp, .inl ⟨rfl, h.symm⟩⟩
  | p :: r, 1, v, h => by
    have h : some (Value.int .i64 p.2) = some v := h
    simp only [Option.some.injEq] at h
    exact ⟨0, by simp, .inr ⟨rfl, h.symm⟩⟩
  | p :: r, i + 2, v, h => by
    have h : (Fv r)[i]? = some v := h
    obtain ⟨j, hj, h⟩ := Fv_get? r i v h
    refine ⟨j + 1, by simpa using hj, ?_⟩
    rcases h with ⟨h1, h2⟩ | ⟨h1, h2⟩
    · exact .inl ⟨by omega, h2⟩
    · exact .inr ⟨by omega, h2⟩
theorem rdF_of_view {W : World} {a : Option Addr} {l c : Nat} (hlc : l ≤ c) (hz : a = none → c = 0)
    (h : ∀ q : Addr, a = some q → ∀ i : Nat, i < l → ∃ n1, (Lit.int .i64 n1).wf = true ∧ ∃ n2, (Lit.int .i64 n2).wf = true ∧ W.cell? (q.add (i * 2)) = some (.int .i64 n1) ∧ W.cell? ((q.add (i * 2)).add 1) = some (.int .i64 n2) ∧ True) :
    ∃ ps : List (Int × Int), RdS 2 W a l c (Fv ps) ∧ ps.length = l := by
  cases a with
  | none =>
    have := hz rfl
    obtain rfl : l = 0 := by omega
    subst this
    exact ⟨[], RdS.nil 2 _, rfl⟩
  | some q =>
    obtain ⟨f, hf⟩ := Deep.choose_lt (α := Int × Int) (n := l) (p := fun i x => W.cell? (q.add (i * 2)) = some (.int .i64 x.1) ∧ W.cell? ((q.add (i * 2)).add 1) = some (.int .i64 x.2)) (fun i hi => by
      obtain ⟨n1, _, n2, _, h1, h2, _⟩ := h q rfl i hi
      exact ⟨(n1, n2), h1, h2⟩)
    refine ⟨(List.range l).map f, ⟨by rw [Fv_len]; simp, hlc, (fun h => by cases h), fun ad had i v hi => ?_⟩, by simp⟩
    cases had
    obtain ⟨j, hj, h⟩ := Fv_get? _ i v hi
    have hj' : j < l := by simpa using hj
    rcases h with ⟨rfl, rfl⟩ | ⟨rfl, rfl⟩
    · have := (hf j hj').1; simpa using this
    · have := (hf j hj').2; rw [Lw.add_add] at this; simpa using this
theorem cutI (n m : Int) (h0 : 0 < m) (h1 : m ≤ 1048576) : inI (Int.tmod n m + m) ∧ 0 ≤ Int.tmod (Int.tmod n m + m) m ∧ Int.tmod (Int.tmod n m + m) m < m := by
  have h2 := Int.tmod_lt_of_pos n h0
  have h3 := Int.lt_tmod_of_pos n h0
  have h4 := Int.tmod_lt_of_pos (Int.tmod n m + m) h0
  have h5 := Int.tmod_nonneg m (by omega : 0 ≤ Int.tmod n m + m)
  exact ⟨⟨by omega, by omega⟩, h5, h4⟩
end Go.Proofs.YtpoaacnnhgebfaaGreat
namespace Go.Proofs.YtpoaacnnhgebfaaGreat
open Go.Lw
structure SV where
  what : Int
  nm : ByteArray
  a : Int
  b : Int
  c : Int
  sl : Slc
  bs : List Int
instance : Inhabited SV := ⟨⟨0, ByteArray.mk #[], 0, 0, 0, (none, 0, 0), []⟩⟩
structure SVat (w : World) (q : Addr) (x : SV) : Prop where
  e0 : w.cell? q = some (.int .i64 x.what)
  e1 : w.cell? (q.add 1) = some (.string x.nm)
  e2 : w.cell? (q.add 2) = some (.int .i64 x.a)
  e3 : w.cell? (q.add 3) = some (.int .i64 x.b)
  e4 : w.cell? (q.add 4) = some (.int .i64 x.c)
  e5 : w.cell? (q.add 5) = some (.slice x.sl.1 x.sl.2.1 x.sl.2.2)
  rd : RdB w x.sl.1 x.sl.2.1 x.sl.2.2 x.bs
  le : x.sl.2.1 ≤ 140737488351232
theorem SVat.no {w w' : World} {q : Addr} {x : SV} (h : SVat w q x) (k : Kept No w w') : SVat w' q x :=
  ⟨k.cell h.e0 fun e => e, k.cell h.e1 fun e => e, k.cell h.e2 fun e => e, k.cell h.e3 fun e => e, k.cell h.e4 fun e => e, k.cell h.e5 fun e => e, h.rd.keep k fun _ _ _ e => e, h.le⟩
def StepsO (w : World) (a : Option Addr) (l : Nat) (xs : List SV) : Prop := xs.length = l ∧ ∀ i, (h : i < xs.length) → ∃ q, a = some q ∧ SVat w (q.add (i * 6)) xs[i]
theorem StepsO.no {w w' : World} {a : Option Addr} {l : Nat} {xs : List SV} (h : StepsO w a l xs) (k : Kept No w w') : StepsO w' a l xs :=
  ⟨h.1, fun i hi => by
    obtain ⟨q, hq, hs⟩ := h.2 i hi
    exact ⟨q, hq, hs.no k⟩⟩
end Go.Proofs.YtpoaacnnhgebfaaGreat
namespace Go.Proofs.YtpoaacnnhgebfaaGreat
open Go.Lw
def Alk (v v' : Value) : Prop := v' = v ∨ (∃ s s', v = .string s ∧ v' = .string s') ∨ (∃ k n n', v = .int k n ∧ v' = .int k n')
theorem Alk.refl (v : Value) : Alk v v := .inl rfl
theorem Alk.trans {a b c : Value} (h : Alk a b) (k : Alk b c) : Alk a c := by
  rcases h with rfl | ⟨s, s', rfl, rfl⟩ | ⟨t, n, n', rfl, rfl⟩
  · exact k
  · rcases k with rfl | ⟨u, u', e, rfl⟩ | ⟨t, n, n', e, _⟩
    · exact .inr (.inl ⟨_, _, rfl, rfl⟩)
    · exact .inr (.inl ⟨_, _, rfl, rfl⟩)
    · cases e
  · rcases k with rfl | ⟨u, u', e, _⟩ | ⟨t', m, m', e, rfl⟩
    · exact .inr (.inr ⟨_, _, _, rfl, rfl⟩)
    · cases e
    · cases e; exact .inr (.inr ⟨_, _, _, rfl, rfl⟩)
theorem Alk.sl {a : Option Addr} {l c : Nat} {v' : Value} (h : Alk (.slice a l c) v') : v' = .slice a l c := by
  rcases h with rfl | ⟨s, s', e, _⟩ | ⟨t, n, n', e, _⟩
  · rfl
  · cases e
  · cases e
theorem Alk.int {k : IntKind} {n : Int} {v' : Value} (h : Alk (.int k n) v') : ∃ m, v' = .int k m := by
  rcases h with rfl | ⟨s, s', e, _⟩ | ⟨t, n, n', e, rfl⟩
  · exact ⟨_, rfl⟩
  · cases e
  · cases e; exact ⟨_, rfl⟩
theorem Alk.str {s : ByteArray} {v' : Value} (h : Alk (.string s) v') : ∃ t, v' = .string t := by
  rcases h with rfl | ⟨s, s', e, rfl⟩ | ⟨t, n, n', e, _⟩
  · exact ⟨_, rfl⟩
  · exact ⟨_, rfl⟩
  · cases e
structure Sk (S : Nat → Prop) (w w' : World) : Prop where
  kept : Kept S w w'
  alike : ∀ g cur, Blk w g cur → ∃ cur', Blk w' g cur' ∧ cur'.size = cur.size ∧ ∀ (i : Nat) (v : Value), cur[i]? = some v → ∃ v', cur'[i]? = some v' ∧ Alk v v'
theorem Sk.of_no {S : Nat → Prop} {w w' : World} (k : Kept No w w') : Sk S w w' :=
  ⟨k.mono fun _ _ e => e.elim, fun g cur h => ⟨cur, h.keep k fun e => e, rfl, fun i v hv => ⟨v, hv, .refl v⟩⟩⟩
theorem Sk.refl {S : Nat → Prop} (w : World) : Sk S w w := .of_no (Kept.refl _ _)
theorem Sk.trans {S : Nat → Prop} {w w1 w2 : World} (h : Sk S w w1) (k : Sk S w1 w2) : Sk S w w2 :=
  ⟨h.kept.trans k.kept fun _ _ e => e, fun g cur hb => by
    obtain ⟨c1, h1, z1, a1⟩ := h.alike g cur hb
    obtain ⟨c2, h2, z2, a2⟩ := k.alike g c1 h1
    refine ⟨c2, h2, z2.trans z1, fun i v hv => ?_⟩
    obtain ⟨v1, e1, k1⟩ := a1 i v hv
    obtain ⟨v2, e2, k2⟩ := a2 i v1 e1
    exact ⟨v2, e2, k1.trans k2⟩⟩
theorem Blk.uniq {w : World} {g : Nat} {c1 c2 : Array Value} (h : Blk w g c1) (k : Blk w g c2) : c1 = c2 := by
  obtain ⟨e1, h⟩ := h
  obtain ⟨e2, k⟩ := k
  rw [h] at k
  cases k; rfl
theorem Sk.store {S : Nat → Prop} {w : World} {g i : Nat} {cur : Array Value} {v0 v : Value} {K : World → Prop} (h : Blk w g cur) (hv : cur[i]? = some v0) (ha : Alk v0 v) (hS : S g)
    (hk : ∀ w', Sk S w w' → w'.heap.size = w.heap.size → K w') : stC ⟨g, i, none⟩ v w K := by
  have hi : i < cur.size := (Array.getElem?_eq_some_iff.1 hv).1
  refine stC_blk h hi fun w' hb' hk' hz => hk w' ⟨hk'.mono fun b _ e => by rw [e]; exact hS, fun g2 cur2 h2 => ?_⟩ hz
  by_cases e : g2 = g
  · subst e
    obtain rfl := h2.uniq h
    refine ⟨_, hb', by simp, fun j u hj => ?_⟩
    by_cases e2 : i = j
    · subst e2
      rw [hv] at hj
      cases hj
      exact ⟨v, by simp [hi], ha⟩
    · exact ⟨u, by rw [Array.getElem?_setIfInBounds_ne e2]; exact hj, .refl u⟩
  · exact ⟨cur2, h2.keep hk' e, rfl, fun j u hj => ⟨u, hj, .refl u⟩⟩
theorem Sk.slo {S : Nat → Prop} {w w' : World} {sz : Nat} {a : Option Addr} {l c : Nat} {xs : List Value} (h : SlO sz w a l c xs) (k : Sk S w w') :
    ∃ xs', SlO sz w' a l c xs' ∧ ∀ (i : Nat) (v : Value), xs[i]? = some v → ∃ v', xs'[i]? = some v' ∧ Alk v v' := by
  rcases h.2 with ⟨rfl, rfl, rfl⟩ | ⟨g, off, cur, rfl, hb, hlc, hcs, htk⟩
  · exact ⟨xs, ⟨h.1, .inl ⟨rfl, rfl, rfl⟩⟩, fun i v hv => ⟨v, hv, .refl v⟩⟩
  · obtain ⟨cur', hb', hz, ha⟩ := k.alike g cur hb
    have hlcs : l * sz ≤ c * sz := Nat.mul_le_mul_right _ hlc
    refine ⟨(cur'.toList.drop off).take (l * sz), ⟨?_, .inr ⟨g, off, cur', rfl, hb', hlc, by omega, rfl⟩⟩, fun i v hv => ?_⟩
    · rw [List.length_take, List.length_drop, Array.length_toList]; omega
    · rw [← htk, List.getElem?_take] at hv
      by_cases hi : i < l * sz
      · rw [if_pos hi, List.getElem?_drop, Array.getElem?_toList] at hv
        obtain ⟨v', e, k⟩ := ha _ v hv
        exact ⟨v', by rw [List.getElem?_take, if_pos hi, List.getElem?_drop, Array.getElem?_toList]; exact e, k⟩
      · rw [if_neg hi] at hv; cases hv
theorem Sk.st {S : Nat → Prop} {w : World} {sz : Nat} {a : Option Addr} {l c : Nat} {xs : List Value} (h : SlO sz w a l c xs) {q : Addr} (hq : a = some q) {j : Nat} {v0 v : Value} (hv : xs[j]? = some v0) (ha : Alk v0 v) (hS : ∀ b, inA a b → S b) {K : World → Prop}
    (hk : ∀ w', Sk S w w' → w'.heap.size = w.heap.size → K w') : stC (q.add j) v w K := by
  rcases h.2 with ⟨rfl, rfl, rfl⟩ | ⟨g, off, cur, rfl, hb, hlc, hcs, htk⟩
  · cases hq
  · cases hq
    rw [add_none]
    rw [← htk, List.getElem?_take] at hv
    by_cases hi : j < l * sz
    · rw [if_pos hi, List.getElem?_drop, Array.getElem?_toList] at hv
      exact Sk.store hb hv ha (hS g ((inA_some _ _ _ _).2 rfl)) hk
    · rw [if_neg hi] at hv; cases hv
theorem Sk.ob {S : Nat → Prop} {w w' : World} {a : Option Addr} {l c : Nat} {bs : List Int} (h : OB w a l c bs) (k : Sk S w w') : ∃ bs', OB w' a l c bs' := by
  obtain ⟨xs, hx, ha⟩ := Sk.slo h k
  have hl : xs.length = l := by have := hx.1; simpa using this
  have hbl := h.len
  refine ⟨xs.map fun v => match v with | .int _ n => n | _ => 0, ?_⟩
  have : By (xs.map fun v => match v with | .int _ n => n | _ => 0) = xs := by
    apply List.ext_getElem?
    intro i
    unfold By
    rw [List.map_map, List.getElem?_map]
    by_cases hi : i < l
    · obtain ⟨v', e, kk⟩ := ha i (.int .u8 bs[i]) (by unfold By; rw [List.getElem?_map, List.getElem?_eq_getElem (by omega)]; rfl)
      obtain ⟨m, rfl⟩ := kk.int
      rw [e]; rfl
    · rw [List.getElem?_eq_none (by omega)]; rfl
  show SlO 1 w' a l c (By _)
  rw [this]; exact hx
end Go.Proofs.YtpoaacnnhgebfaaGreat
namespace Go.Proofs.YtpoaacnnhgebfaaGreat
open Go.Lw
structure Duo (W w : World) (gk pk : Nat) (s : AK) (L M : KL) (tl : Nat → Nat) (nm : Nat → ByteArray) : Prop where
  hk : KernO w gk s L
  hp : PagO w pk s M tl nm
  hi : PInv s
  ap : ∀ z, L.own z ≠ none → M.own z = none
  nk : ∀ z, L.own z ≠ none → W.heap.size ≤ z
  nm : ∀ z, M.own z ≠ none → W.heap.size ≤ z
  kp : Kept No W w
theorem Duo.no {W w w' : World} {gk pk : Nat} {s : AK} {L M : KL} {tl : Nat → Nat} {nm : Nat → ByteArray} (h : Duo W w gk pk s L M tl nm) (k : Kept No w w') : Duo W w' gk pk s L M tl nm := ⟨h.hk.no k, h.hp.no k, h.hi, h.ap, h.nk, h.nm, h.kp.no k⟩
theorem Duo.pa {W w : World} {gk pk : Nat} {s : AK} {L M : KL} {tl : Nat → Nat} {nm : Nat → ByteArray} (h : Duo W w gk pk s L M tl nm) {z : Nat} (hz : M.own z ≠ none) : L.own z = none := by
  cases ho : L.own z with
  | none => rfl
  | some t => exact absurd (h.ap z (by rw [ho]; simp)) hz
theorem Duo.old {W w : World} {gk pk : Nat} {s : AK} {L M : KL} {tl : Nat → Nat} {nm : Nat → ByteArray} (h : Duo W w gk pk s L M tl nm) {z : Nat} (hz : z < W.heap.size) : L.own z = none ∧ M.own z = none := by
  constructor
  · cases ho : L.own z with
    | none => rfl
    | some t => have := h.nk z (by rw [ho]; simp); omega
  · cases ho : M.own z with
    | none => rfl
    | some t => have := h.nm z (by rw [ho]; simp); omega
theorem Duo.both {W w w1 w2 : World} {gk pk : Nat} {s s' : AK} {L M L' M' : KL} {tl tl' : Nat → Nat} {nm nm' : Nat → ByteArray} (h : Duo W w gk pk s L M tl nm) (hK : KernO w1 gk s' L') (st : KStep w w1 L L') (hP : PagO w2 pk s' M' tl' nm') (st' : KStep w1 w2 M M') (hi : PInv s') : Duo W w2 gk pk s' L' M' tl' nm' := by
  have ap1 : ∀ z, L'.own z ≠ none → M.own z = none := fun z hz => by
    rcases st.grew z hz with e | e
    · exact h.ap z e
    · cases ho : M.own z with
      | none => rfl
      | some t => have := h.hp.lt z (by rw [ho]; simp); omega
  have k1 : Kept No W w1 := h.kp.trans st.kept fun y hy e => by have := h.nk y e; omega
  have hz0 : w.heap.size ≤ w1.heap.size := st.kept.size
  have hz1 : W.heap.size ≤ w.heap.size := h.kp.size
  refine ⟨hK.keep st'.kept fun x hx => ?_, hP, hi, fun z hz => ?_, fun z hz => ?_, fun z hz => ?_, k1.trans st'.kept fun y hy e => by have := h.nm y e; omega⟩
  · cases ho : L'.own x with
    | none => rfl
    | some t => exact absurd (ap1 x (by rw [ho]; simp)) hx
  · cases ho : M'.own z with
    | none => rfl
    | some t =>
      rcases st'.grew z (by rw [ho]; simp) with e | e
      · exact absurd (ap1 z hz) e
      · have := hK.lt z hz; omega
  · rcases st.grew z hz with e | e
    · exact h.nk z e
    · omega
  · rcases st'.grew z hz with e | e
    · exact h.nm z e
    · omega
theorem Duo.mid {W w w1 : World} {gk pk : Nat} {s s' : AK} {L M L' : KL} {tl : Nat → Nat} {nm : Nat → ByteArray} (h : Duo W w gk pk s L M tl nm) (st : KStep w w1 L L') : PagO w1 pk s M tl nm := h.hp.keep st.kept fun x hx => h.ap x hx
end Go.Proofs.YtpoaacnnhgebfaaGreat
namespace Go.Proofs.YtpoaacnnhgebfaaGreat
open Go.Lw
theorem AK.scr_bound {w : World} {gk : Nat} {s : AK} {L : KL} (h : KernO w gk s L) (nm : ByteArray) : (s.screenV nm).1.length ≤ 1048576 := by
  unfold AK.screenV
  split
  · rename_i g hg
    unfold AK.termOf at hg
    have hm := List.mem_of_find?_eq_some hg
    have hO := h.ob g.2 (h.ok.ti g hm).1
    show (scrO (s.objs g.2)).length ≤ 1048576
    cases ho : s.objs g.2 with
    | term LL scr =>
      rw [ho] at hO
      have hT : TermO _ _ w (L.loc g.2) LL scr := hO
      exact hT.scr
    | file bs => simp [scrO]
    | pipe bs e0 e1 => simp [scrO]
  · simp
end Go.Proofs.YtpoaacnnhgebfaaGreat
namespace Go.Proofs.YtpoaacnnhgebfaaGreat
open Go.Lw
end Go.Proofs.YtpoaacnnhgebfaaGreat
namespace Go.Proofs.YtpoaacnnhgebfaaGreat
open Go.Lw
def PagE (w : World) (pk : Nat) (s : AK) (M : KL) : Prop := ∃ tl nm, PagO w pk s M tl nm
theorem PagE.keep {w w' : World} {pk : Nat} {s : AK} {M : KL} (h : PagE w pk s M) {S : Nat → Prop} (k : Kept S w w') (hS : ∀ x, S x → M.own x = none) : PagE w' pk s M := by
  obtain ⟨tl, nm, h⟩ := h; exact ⟨tl, nm, h.keep k hS⟩
theorem PagE.no {w w' : World} {pk : Nat} {s : AK} {M : KL} (h : PagE w pk s M) (k : Kept No w w') : PagE w' pk s M := h.keep k fun _ e => e.elim
theorem PagE.new_none {w : World} {pk : Nat} {s : AK} {M : KL} (h : PagE w pk s M) {z : Nat} (hz : w.heap.size ≤ z) : M.own z = none := by
  obtain ⟨tl, nm, h⟩ := h; exact h.new_none hz
theorem PagE.lt {w : World} {pk : Nat} {s : AK} {M : KL} (h : PagE w pk s M) : ∀ k, M.own k ≠ none → k < w.heap.size := by
  obtain ⟨tl, nm, h⟩ := h; exact h.lt
theorem PagE.keepT {w w' : World} {pk u : Nat} {s : AK} {M : KL} (h : PagE w pk s M) (hn : M.own u = none) (k : Kept (· = u) w w') : PagE w' pk s M := h.keep k fun x e => by rw [e]; exact hn
end Go.Proofs.YtpoaacnnhgebfaaGreat
namespace Go.Proofs.YtpoaacnnhgebfaaGreat
open Go.Lw
structure DuT (W w : World) (gk pk t u : Nat) (sl : List (Int × Bool)) (s : AK) (L M : KL) : Prop where
  du : ∃ tl nm, Duo W w gk pk s L M tl nm
  ht : TabO w t gk sl
  hu : TabO w u pk sl
  lt : L.own t = none
  lu : L.own u = none
  mt : M.own t = none
  mu : M.own u = none
  tu : t ≠ u
  wt : W.heap.size ≤ t
  wu : W.heap.size ≤ u
theorem DuT.hk {W w : World} {gk pk t u : Nat} {sl : List (Int × Bool)} {s : AK} {L M : KL} (h : DuT W w gk pk t u sl s L M) : KernO w gk s L := by
  obtain ⟨tl, nm, d⟩ := h.du; exact d.hk
theorem DuT.hp {W w : World} {gk pk t u : Nat} {sl : List (Int × Bool)} {s : AK} {L M : KL} (h : DuT W w gk pk t u sl s L M) : PagE w pk s M := by
  obtain ⟨tl, nm, d⟩ := h.du; exact ⟨_, _, d.hp⟩
theorem DuT.hi {W w : World} {gk pk t u : Nat} {sl : List (Int × Bool)} {s : AK} {L M : KL} (h : DuT W w gk pk t u sl s L M) : PInv s := by
  obtain ⟨tl, nm, d⟩ := h.du; exact d.hi
theorem DuT.kp {W w : World} {gk pk t u : Nat} {sl : List (Int × Bool)} {s : AK} {L M : KL} (h : DuT W w gk pk t u sl s L M) : Kept No W w := by
  obtain ⟨tl, nm, d⟩ := h.du; exact d.kp
theorem DuT.ok {W w : World} {gk pk t u : Nat} {sl : List (Int × Bool)} {s : AK} {L M : KL} (h : DuT W w gk pk t u sl s L M) : s.Ok := h.hk.ok
theorem DuT.no {W w w' : World} {gk pk t u : Nat} {sl : List (Int × Bool)} {s : AK} {L M : KL} (h : DuT W w gk pk t u sl s L M) (k : Kept No w w') : DuT W w' gk pk t u sl s L M := by
  obtain ⟨tl, nm, d⟩ := h.du
  exact ⟨⟨tl, nm, d.no k⟩, h.ht.keep k (fun e => e), h.hu.keep k (fun e => e), h.lt, h.lu, h.mt, h.mu, h.tu, h.wt, h.wu⟩
theorem DuT.midK {W w w1 : World} {gk pk t u : Nat} {sl : List (Int × Bool)} {s : AK} {L M L' : KL} (h : DuT W w gk pk t u sl s L M) (st : TStep t w w1 L L') : Kept No W w1 := h.kp.trans st.kept fun y hy e => by
  obtain ⟨tl, nm, d⟩ := h.du
  rcases e with e | rfl
  · have := d.nk y e; omega
  · have := h.wt; omega
theorem DuT.both {W w w1 w2 : World} {gk pk t u : Nat} {sl sl' : List (Int × Bool)} {s s' : AK} {L M L' M' : KL} (h : DuT W w gk pk t u sl s L M) (hT : TabO w1 t gk sl') (hK : KernO w1 gk s' L') (st : TStep t w w1 L L') (hU : TabO w2 u pk sl') (hP : PagE w2 pk s' M') (st' : TStep u w1 w2 M M') (hi : PInv s') : DuT W w2 gk pk t u sl' s' L' M' := by
  obtain ⟨tl, nm, d⟩ := h.du
  obtain ⟨tl', nm', hP⟩ := hP
  have hz0 : w.heap.size ≤ w1.heap.size := st.kept.size
  have hz1 : W.heap.size ≤ w.heap.size := d.kp.size
  have htl := h.ht.lt
  have hul := h.hu.lt
  have ap1 : ∀ z, L'.own z ≠ none → M.own z = none := fun z hz => by
    rcases st.grew z hz with e | e
    · exact d.ap z e
    · cases ho : M.own z with
      | none => rfl
      | some t => have := d.hp.lt z (by rw [ho]; simp); omega
  have lt' : L'.own t = none := st.own h.lt htl
  have lu' : L'.own u = none := st.own h.lu hul
  have mt' : M'.own t = none := st'.own h.mt (by omega)
  have mu' : M'.own u = none := st'.own h.mu (by omega)
  refine ⟨⟨tl', nm', hK.keep st'.kept fun x hx => ?_, hP, hi, fun z hz => ?_, fun z hz => ?_, fun z hz => ?_, (h.midK st).trans st'.kept fun y hy e => ?_⟩, hT.keep st'.kept fun hx => ?_, hU, lt', lu', mt', mu', h.tu, h.wt, h.wu⟩
  · rcases hx with hx | rfl
    · cases ho : L'.own x with
      | none => rfl
      | some t => exact absurd (ap1 x (by rw [ho]; simp)) hx
    · exact lu'
  · cases ho : M'.own z with
    | none => rfl
    | some t =>
      rcases st'.grew z (by rw [ho]; simp) with e | e
      · exact absurd (ap1 z hz) e
      · have := hK.lt z hz; omega
  · rcases st.grew z hz with e | e
    · exact d.nk z e
    · omega
  · rcases st'.grew z hz with e | e
    · exact d.nm z e
    · omega
  · rcases e with e | rfl
    · have := d.nm y e; omega
    · have := h.wu; omega
  · rcases hx with hx | hx
    · exact hx h.mt
    · exact h.tu hx
structure SV7 where
  what : Int
  nm : ByteArray
  a : Int
  b : Int
  c : Int
  on : Bool
  sl : Slc
  bs : List Int
end Go.Proofs.YtpoaacnnhgebfaaGreat
set_option maxRecDepth 100000
namespace Go.Proofs.YtpoaacnnhgebfaaGreat
open Go.Lw
def A32 : Ann := ⟨[], [], [], [], [], []⟩
def L32 (p1 : Option Addr) (n2 : Int) (Q : Value → World → Prop) (w : World) : Prop :=
  let w1 := World.alloc w (Obj.cells #[.int .i64 5, .slice none 0 0, .int .i64 0, .int .i64 0, .slice none 0 0, .slice none 0 0, .pointer p1, .int .i64 n2, .int .i64 0] 217);
  Q (.pointer (some (Addr.mk w.heap.size 0 none))) w1
theorem C32 {p1 : Option Addr} {n2 : Int} {Q : Value → World → Prop} {w : World} (h : L32 p1 n2 Q w) : CallR Tryz.prog 32 [.pointer p1, .int .i64 n2] w Q :=
  fun_calls (A := A32) mixed Tryz.func32 (c := (Tryz.f32.body).getD .skip) rfl (by kernel_rfl) (Eq.mp (by kernel_rfl) h)
def A43 : Ann := ⟨[], [], [], [(3, [0, 1, 2, 3, 4, 5, 6, 7, 8, 9, 10, 11, 12, 13]), (10, [0, 1, 2, 3, 4, 5, 6, 7, 8, 9, 10])], [], []⟩
def L43 (p1 : Option Addr) (n2 : Int) (Q : Value → World → Prop) (w : World) : Prop :=
  nn p1 (fun (q3 : Addr) =>
  ∃ (n4 : Int), w.cell? (Addr.add q3 8) = some ((.int .i64 n4 : Value)) ∧
  inI (n4 + 1) ∧
  nn p1 (fun (q5 : Addr) =>
  stC (Addr.add q5 8) (.int .i64 (n4 + 1)) w (fun (w1 : World) =>
  nn p1 (fun (q6 : Addr) =>
  ∃ (n7 : Int), w1.cell? q6 = some ((.int .i64 n7 : Value)) ∧
  cond (n7 == 5)
  (let w2 := World.drew w1;
  nn p1 (fun (q8 : Addr) =>
  ∃ (p9 : Option Addr), w2.cell? (Addr.add q8 6) = some ((.pointer p9 : Value)) ∧
  nn p1 (fun (q10 : Addr) =>
  ∃ (n11 : Int), w2.cell? (Addr.add q10 7) = some ((.int .i64 n11 : Value)) ∧
  CallR Tryz.prog 65 [.pointer p9, .int .i64 n11, .int .i64 n2] w2 (fun (r14 : Value) (w3 : World) =>
  ∃ (a12 : Option Addr) (l12 : Nat) (c12 : Nat) (n13 : Int), r14 = .tuple #[.slice a12 l12 c12, .int .i64 n13] ∧
  Q (.tuple #[.slice a12 l12 c12, .int .i64 n13]) w3))))
  (cond (decide (n2 < 0))
  (Q (.tuple #[.slice none 0 0, .int .i64 4]) w1)
  (cond (decide (n2 > 1048576))
  (Q (.tuple #[.slice none 0 0, .int .i64 4]) w1)
  (cond (n2 == 0)
  (Q (.tuple #[.slice none 0 0, .int .i64 0]) w1)
  (nn p1 (fun (q15 : Addr) =>
  ∃ (n16 : Int), w1.cell? q15 = some ((.int .i64 n16 : Value)) ∧
  cond (n16 == 4)
  (CallR Tryz.prog 147 [.pointer p1, .int .i64 n2] w1 (fun (r19 : Value) (w4 : World) =>
  ∃ (a17 : Option Addr) (l17 : Nat) (c17 : Nat) (n18 : Int), r19 = .tuple #[.slice a17 l17 c17, .int .i64 n18] ∧
  Q (.tuple #[.slice a17 l17 c17, .int .i64 n18]) w4))
  (let w5 := World.drew w1;
  nn p1 (fun (q20 : Addr) =>
  ∃ (a21 : Option Addr) (l21 : Nat) (c21 : Nat), w5.cell? (Addr.add q20 1) = some ((.slice a21 l21 c21 : Value)) ∧
  nn p1 (fun (q22 : Addr) =>
  ∃ (n23 : Int), w5.cell? (Addr.add q22 3) = some ((.int .i64 n23 : Value)) ∧
  CallR Tryz.prog 148 [.slice a21 l21 c21, .int .i64 n23, .int .i64 n2] w5 (fun (r25 : Value) (w6 : World) =>
  ∃ (a24 : Option Addr) (l24 : Nat) (c24 : Nat), r25 = .slice a24 l24 c24 ∧
  nn p1 (fun (q26 : Addr) =>
  ∃ (n27 : Int), w6.cell? (Addr.add q26 3) = some ((.int .i64 n27 : Value)) ∧
  inI (n27 + (((l24 : Nat) : Int))) ∧
  nn p1 (fun (q28 : Addr) =>
  stC (Addr.add q28 3) (.int .i64 (n27 + (((l24 : Nat) : Int)))) w6 (fun (w7 : World) =>
  Q (.tuple #[.slice a24 l24 c24, .int .i64 0]) w7))))))))))))))))
theorem C43 {p1 : Option Addr} {n2 : Int} {Q : Value → World → Prop} {w : World} (h : L43 p1 n2 Q w) : CallR Tryz.prog 43 [.pointer p1, .int .i64 n2] w Q :=
  fun_calls (A := A43) mixed Tryz.func43 (c := (Tryz.f43.body).getD .skip) rfl (by kernel_rfl) (Eq.mp (by kernel_rfl) h)
def A47 : Ann := ⟨[], [], [], [(3, [0, 1, 2, 3, 4, 5, 6, 7, 8, 9, 10, 11, 12, 13]), (15, [0, 1, 2, 3, 4, 5, 6, 7, 8, 9, 10, 11, 12, 13, 14, 15])], [], []⟩
def L47 (p1 : Option Addr) (a2 : Option Addr) (l2 : Nat) (c2 : Nat) (Q : Value → World → Prop) (w : World) : Prop :=
  nn p1 (fun (q3 : Addr) =>
  ∃ (n4 : Int), w.cell? (Addr.add q3 8) = some ((.int .i64 n4 : Value)) ∧
  inI (n4 + 1) ∧
  nn p1 (fun (q5 : Addr) =>
  stC (Addr.add q5 8) (.int .i64 (n4 + 1)) w (fun (w1 : World) =>
  nn p1 (fun (q6 : Addr) =>
  ∃ (n7 : Int), w1.cell? q6 = some ((.int .i64 n7 : Value)) ∧
  cond (n7 == 5)
  (let w2 := World.drew w1;
  nn p1 (fun (q8 : Addr) =>
  ∃ (p9 : Option Addr), w2.cell? (Addr.add q8 6) = some ((.pointer p9 : Value)) ∧
  nn p1 (fun (q10 : Addr) =>
  ∃ (n11 : Int), w2.cell? (Addr.add q10 7) = some ((.int .i64 n11 : Value)) ∧
  CallR Tryz.prog 67 [.pointer p9, .int .i64 n11, .slice a2 l2 c2] w2 (fun (r14 : Value) (w3 : World) =>
  ∃ (n12 : Int) (n13 : Int), r14 = .tuple #[.int .i64 n12, .int .i64 n13] ∧
  Q (.tuple #[.int .i64 n12, .int .i64 n13]) w3))))
  (nn p1 (fun (q15 : Addr) =>
  ∃ (n16 : Int), w1.cell? q15 = some ((.int .i64 n16 : Value)) ∧
  cond (n16 == 3)
  (Q (.tuple #[.int .i64 0, .int .i64 65]) w1)
  (cond (decide ((((l2 : Nat) : Int)) > 1048576))
  (Q (.tuple #[.int .i64 0, .int .i64 5]) w1)
  (cond ((((l2 : Nat) : Int)) == 0)
  (Q (.tuple #[.int .i64 0, .int .i64 0]) w1)
  (nn p1 (fun (q17 : Addr) =>
  ∃ (n18 : Int), w1.cell? q17 = some ((.int .i64 n18 : Value)) ∧
  cond (n18 == 4)
  (CallR Tryz.prog 149 [.pointer p1, .slice a2 l2 c2] w1 (fun (r21 : Value) (w4 : World) =>
  ∃ (n19 : Int) (n20 : Int), r21 = .tuple #[.int .i64 n19, .int .i64 n20] ∧
  Q (.tuple #[.int .i64 n19, .int .i64 n20]) w4))
  (nn p1 (fun (q23 : Addr) =>
  ∃ (n24 : Int), w1.cell? (Addr.add q23 3) = some ((.int .i64 n24 : Value)) ∧
  nn p1 (fun (q25 : Addr) =>
  ∃ (n26 : Int), w1.cell? (Addr.add q25 2) = some ((.int .i64 n26 : Value)) ∧
  ∀ nd22 : Nat, let w5 := World.drewN w1 nd22;
  cond (decide (n24 ≥ n26))
  (Q (.tuple #[.int .i64 0, .int .i64 31]) w5)
  (nn p1 (fun (q28 : Addr) =>
  ∃ (n29 : Int), w5.cell? (Addr.add q28 2) = some ((.int .i64 n29 : Value)) ∧
  nn p1 (fun (q30 : Addr) =>
  ∃ (n31 : Int), w5.cell? (Addr.add q30 3) = some ((.int .i64 n31 : Value)) ∧
  inI (n29 - n31) ∧
  ∀ nd27 : Nat, let w6 := World.drewN w5 nd27;
  let w7 := World.drew w6;
  nn p1 (fun (q32 : Addr) =>
  ∃ (a33 : Option Addr) (l33 : Nat) (c33 : Nat), w7.cell? (Addr.add q32 1) = some ((.slice a33 l33 c33 : Value)) ∧
  nn p1 (fun (q34 : Addr) =>
  ∃ (n35 : Int), w7.cell? (Addr.add q34 3) = some ((.int .i64 n35 : Value)) ∧
  (0 ≤ (mn (((l2 : Nat) : Int)) (n29 - n31) : Int) ∧ (mn (((l2 : Nat) : Int)) (n29 - n31) : Int) ≤ ((c2 : Nat) : Int)) ∧
  CallR Tryz.prog 150 [.slice a33 l33 c33, .int .i64 n35, .slice a2 (Int.toNat (mn (((l2 : Nat) : Int)) (n29 - n31))) c2] w7 (fun (r37 : Value) (w8 : World) =>
  ∃ (a36 : Option Addr) (l36 : Nat) (c36 : Nat), r37 = .slice a36 l36 c36 ∧
  nn p1 (fun (q38 : Addr) =>
  stC (Addr.add q38 1) (.slice a36 l36 c36) w8 (fun (w9 : World) =>
  nn p1 (fun (q39 : Addr) =>
  ∃ (n40 : Int), w9.cell? (Addr.add q39 3) = some ((.int .i64 n40 : Value)) ∧
  inI (n40 + (mn (((l2 : Nat) : Int)) (n29 - n31))) ∧
  nn p1 (fun (q41 : Addr) =>
  stC (Addr.add q41 3) (.int .i64 (n40 + (mn (((l2 : Nat) : Int)) (n29 - n31)))) w9 (fun (w10 : World) =>
  Q (.tuple #[.int .i64 (mn (((l2 : Nat) : Int)) (n29 - n31)), .int .i64 0]) w10))))))))))))))))))))))))
theorem C47 {p1 : Option Addr} {a2 : Option Addr} {l2 : Nat} {c2 : Nat} {Q : Value → World → Prop} {w : World} (h : L47 p1 a2 l2 c2 Q w) : CallR Tryz.prog 47 [.pointer p1, .slice a2 l2 c2] w Q :=
  fun_calls (A := A47) mixed Tryz.func47 (c := (Tryz.f47.body).getD .skip) rfl (by kernel_rfl) (Eq.mp (by kernel_rfl) h)
def L5 (a1 : Option Addr) (l1 : Nat) (c1 : Nat) (a2 : Option Addr) (l2 : Nat) (c2 : Nat) (a3 : Option Addr) (l3 : Nat) (c3 : Nat) (a4 : Option Addr) (l4 : Nat) (c4 : Nat) (n5 : Int) (a6 : Option Addr) (l6 : Nat) (c6 : Nat) (Q : Value → World → Prop) (w : World) : Prop :=
  let w1 := World.alloc w (Obj.cells #[.slice a1 l1 c1, .slice a2 l2 c2, .slice a3 l3 c3] 26);
  ∃ (a7 : Option Addr) (l7 : Nat) (c7 : Nat) (a8 : Option Addr) (l8 : Nat) (c8 : Nat) (a9 : Option Addr) (l9 : Nat) (c9 : Nat), w1.cell? (Addr.mk w.heap.size 0 none) = some ((.slice a7 l7 c7 : Value)) ∧ w1.cell? (Addr.mk w.heap.size 1 none) = some ((.slice a8 l8 c8 : Value)) ∧ w1.cell? (Addr.mk w.heap.size 2 none) = some ((.slice a9 l9 c9 : Value)) ∧ 
  CallR Tryz.prog 7 [.agg #[.slice a7 l7 c7, .slice a8 l8 c8, .slice a9 l9 c9]] w1 (fun (r13 : Value) (w2 : World) =>
  ∃ (a10 : Option Addr) (l10 : Nat) (c10 : Nat) (a11 : Option Addr) (l11 : Nat) (c11 : Nat) (a12 : Option Addr) (l12 : Nat) (c12 : Nat), r13 = .agg #[.slice a10 l10 c10, .slice a11 l11 c11, .slice a12 l12 c12] ∧
  CallR Tryz.prog 8 [.agg #[.slice a10 l10 c10, .slice a11 l11 c11, .slice a12 l12 c12]] w2 (fun (r16 : Value) (w3 : World) =>
  ∃ (p14 : Option Addr) (n15 : Int), r16 = .tuple #[.pointer p14, .int .i64 n15] ∧
  ∃ (a17 : Option Addr) (l17 : Nat) (c17 : Nat) (a18 : Option Addr) (l18 : Nat) (c18 : Nat) (a19 : Option Addr) (l19 : Nat) (c19 : Nat), w3.cell? (Addr.mk w.heap.size 0 none) = some ((.slice a17 l17 c17 : Value)) ∧ w3.cell? (Addr.mk w.heap.size 1 none) = some ((.slice a18 l18 c18 : Value)) ∧ w3.cell? (Addr.mk w.heap.size 2 none) = some ((.slice a19 l19 c19 : Value)) ∧ 
  CallR Tryz.prog 10 [.agg #[.slice a17 l17 c17, .slice a18 l18 c18, .slice a19 l19 c19]] w3 (fun (r21 : Value) (w4 : World) =>
  ∃ (p20 : Option Addr), r21 = .pointer p20 ∧
  CallR Tryz.prog 26 [.int .i64 n15] w4 (fun (r23 : Value) (w5 : World) =>
  ∃ (n22 : Int), r23 = .int .i64 n22 ∧
  cond (!((n22 == 0) == (!(Option.isNone p20))))
  (Q (.bool false) w5)
  (cond (!((Option.isNone p14) == (Option.isNone p20)))
  (Q (.bool false) w5)
  (cond (Option.isNone p14)
  (CallR Tryz.prog 27 [] w5 (fun (r25 : Value) (w6 : World) =>
  ∃ (b24 : Bool), r25 = .bool b24 ∧
  Q (.bool b24) w6))
  (∃ (I26 : List Value → World → Prop) (mu27 : List Value → World → Nat),
  I26 [.int .i64 0] w5 ∧
  ∀ (_ : Env) (n28 : Int) (w7 : World), I26 [.int .i64 n28] w7 →
  cond (decide (n28 < (((l4 : Nat) : Int))))
  ((0 ≤ (n28 : Int) ∧ (n28 : Int) < ((l4 : Nat) : Int)) ∧
  nn a4 (fun (q29 : Addr) =>
  ∃ (n30 : Int), w7.cell? (Addr.add q29 (Int.toNat n28 * 6)) = some ((.int .i64 n30 : Value)) ∧
  cond (n30 == 1)
  (CallR Tryz.prog 28 [.pointer p14] w7 (fun (r34 : Value) (w8 : World) =>
  ∃ (n31 : Int) (n32 : Int) (n33 : Int), r34 = .tuple #[.int .i64 n31, .int .i64 n32, .int .i64 n33] ∧
  CallR Tryz.prog 29 [.pointer p20] w8 (fun (r38 : Value) (w9 : World) =>
  ∃ (n35 : Int) (n36 : Int) (n37 : Int), r38 = .tuple #[.int .i64 n35, .int .i64 n36, .int .i64 n37] ∧
  inI (n28 + 1) ∧
  I26 [.int .i64 (n28 + 1)] w9 ∧ mu27 [.int .i64 (n28 + 1)] w9 < mu27 [.int .i64 n28] w7)))
  (let w10 := World.drew w7;
  (0 ≤ (n28 : Int) ∧ (n28 : Int) < ((l4 : Nat) : Int)) ∧
  nn a4 (fun (q39 : Addr) =>
  ∃ (s40 : ByteArray), w10.cell? (Addr.add (Addr.add q39 (Int.toNat n28 * 6)) 1) = some ((.string s40 : Value)) ∧
  (0 ≤ (n28 : Int) ∧ (n28 : Int) < ((l4 : Nat) : Int)) ∧
  nn a4 (fun (q41 : Addr) =>
  ∃ (n42 : Int), w10.cell? (Addr.add (Addr.add q41 (Int.toNat n28 * 6)) 2) = some ((.int .i64 n42 : Value)) ∧
  CallR Tryz.prog 30 [.pointer p14, .string s40, .int .i64 n42] w10 (fun (r45 : Value) (w11 : World) =>
  ∃ (n43 : Int) (n44 : Int), r45 = .tuple #[.int .i64 n43, .int .i64 n44] ∧
  let w12 := World.drew w11;
  (0 ≤ (n28 : Int) ∧ (n28 : Int) < ((l4 : Nat) : Int)) ∧
  nn a4 (fun (q46 : Addr) =>
  ∃ (s47 : ByteArray), w12.cell? (Addr.add (Addr.add q46 (Int.toNat n28 * 6)) 1) = some ((.string s47 : Value)) ∧
  (0 ≤ (n28 : Int) ∧ (n28 : Int) < ((l4 : Nat) : Int)) ∧
  nn a4 (fun (q48 : Addr) =>
  ∃ (n49 : Int), w12.cell? (Addr.add (Addr.add q48 (Int.toNat n28 * 6)) 2) = some ((.int .i64 n49 : Value)) ∧
  CallR Tryz.prog 31 [.pointer p20, .string s47, .int .i64 n49] w12 (fun (r52 : Value) (w13 : World) =>
  ∃ (n50 : Int) (n51 : Int), r52 = .tuple #[.int .i64 n50, .int .i64 n51] ∧
  inI (n28 + 1) ∧
  I26 [.int .i64 (n28 + 1)] w13 ∧ mu27 [.int .i64 (n28 + 1)] w13 < mu27 [.int .i64 n28] w7)))))))))
  (CallR Tryz.prog 32 [.pointer p20, .int .i64 n5] w7 (fun (r54 : Value) (w14 : World) =>
  ∃ (p53 : Option Addr), r54 = .pointer p53 ∧
  let w15 := World.alloc w14 (Obj.cells #[.pointer none, .int .i64 0] 70);
  stC (Addr.mk w14.heap.size 0 none) (.pointer p14) w15 (fun (w16 : World) =>
  stC (Addr.mk w14.heap.size 1 none) (.int .i64 n5) w16 (fun (w17 : World) =>
  ∃ (I55 : List Value → World → Prop) (mu56 : List Value → World → Nat),
  I55 [.int .i64 0] w17 ∧
  ∀ (_ : Env) (n57 : Int) (w18 : World), I55 [.int .i64 n57] w18 →
  cond (decide (n57 < (((l6 : Nat) : Int))))
  ((0 ≤ (n57 : Int) ∧ (n57 : Int) < ((l6 : Nat) : Int)) ∧
  nn a6 (fun (q58 : Addr) =>
  ∃ (n59 : Int), w18.cell? (Addr.add q58 (Int.toNat n57 * 3)) = some ((.int .i64 n59 : Value)) ∧
  cond (n59 == 0)
  (let w19 := World.drew w18;
  ∃ (p60 : Option Addr) (n61 : Int), w19.cell? (Addr.mk w14.heap.size 0 none) = some ((.pointer p60 : Value)) ∧ w19.cell? (Addr.mk w14.heap.size 1 none) = some ((.int .i64 n61 : Value)) ∧ 
  (0 ≤ (n57 : Int) ∧ (n57 : Int) < ((l6 : Nat) : Int)) ∧
  nn a6 (fun (q62 : Addr) =>
  ∃ (n63 : Int), w19.cell? (Addr.add (Addr.add q62 (Int.toNat n57 * 3)) 1) = some ((.int .i64 n63 : Value)) ∧
  CallR Tryz.prog 33 [.iface 70 (.agg #[.pointer p60, .int .i64 n61]), .int .i64 n63] w19 (fun (r66 : Value) (w20 : World) =>
  ∃ (a64 : Option Addr) (l64 : Nat) (c64 : Nat) (n65 : Int), r66 = .tuple #[.slice a64 l64 c64, .int .i64 n65] ∧
  (0 ≤ (n57 : Int) ∧ (n57 : Int) < ((l6 : Nat) : Int)) ∧
  nn a6 (fun (q67 : Addr) =>
  ∃ (n68 : Int), w20.cell? (Addr.add (Addr.add q67 (Int.toNat n57 * 3)) 1) = some ((.int .i64 n68 : Value)) ∧
  CallR Tryz.prog 34 [.pointer p53, .int .i64 n68] w20 (fun (r71 : Value) (w21 : World) =>
  ∃ (a69 : Option Addr) (l69 : Nat) (c69 : Nat) (n70 : Int), r71 = .tuple #[.slice a69 l69 c69, .int .i64 n70] ∧
  CallR Tryz.prog 39 [.slice a64 l64 c64, .slice a69 l69 c69] w21 (fun (r73 : Value) (w22 : World) =>
  ∃ (b72 : Bool), r73 = .bool b72 ∧
  cond (!b72)
  (Q (.bool false) w22)
  (CallR Tryz.prog 26 [.int .i64 n65] w22 (fun (r75 : Value) (w23 : World) =>
  ∃ (n74 : Int), r75 = .int .i64 n74 ∧
  cond (n74 != n70)
  (Q (.bool false) w23)
  (inI (n57 + 1) ∧
  I55 [.int .i64 (n57 + 1)] w23 ∧ mu56 [.int .i64 (n57 + 1)] w23 < mu56 [.int .i64 n57] w18)))))))))
  (cond (n59 == 1)
  (let w24 := World.drew w18;
  ∃ (p76 : Option Addr) (n77 : Int), w24.cell? (Addr.mk w14.heap.size 0 none) = some ((.pointer p76 : Value)) ∧ w24.cell? (Addr.mk w14.heap.size 1 none) = some ((.int .i64 n77 : Value)) ∧ 
  (0 ≤ (n57 : Int) ∧ (n57 : Int) < ((l6 : Nat) : Int)) ∧
  nn a6 (fun (q78 : Addr) =>
  ∃ (n79 : Int), w24.cell? (Addr.add (Addr.add q78 (Int.toNat n57 * 3)) 1) = some ((.int .i64 n79 : Value)) ∧
  CallR Tryz.prog 35 [.iface 70 (.agg #[.pointer p76, .int .i64 n77]), .int .i64 n79] w24 (fun (r82 : Value) (w25 : World) =>
  ∃ (a80 : Option Addr) (l80 : Nat) (c80 : Nat) (n81 : Int), r82 = .tuple #[.slice a80 l80 c80, .int .i64 n81] ∧
  (0 ≤ (n57 : Int) ∧ (n57 : Int) < ((l6 : Nat) : Int)) ∧
  nn a6 (fun (q83 : Addr) =>
  ∃ (n84 : Int), w25.cell? (Addr.add (Addr.add q83 (Int.toNat n57 * 3)) 1) = some ((.int .i64 n84 : Value)) ∧
  CallR Tryz.prog 36 [.pointer p53, .int .i64 n84] w25 (fun (r87 : Value) (w26 : World) =>
  ∃ (a85 : Option Addr) (l85 : Nat) (c85 : Nat) (n86 : Int), r87 = .tuple #[.slice a85 l85 c85, .int .i64 n86] ∧
  CallR Tryz.prog 39 [.slice a80 l80 c80, .slice a85 l85 c85] w26 (fun (r89 : Value) (w27 : World) =>
  ∃ (b88 : Bool), r89 = .bool b88 ∧
  cond (!b88)
  (Q (.bool false) w27)
  (CallR Tryz.prog 26 [.int .i64 n81] w27 (fun (r91 : Value) (w28 : World) =>
  ∃ (n90 : Int), r91 = .int .i64 n90 ∧
  cond (n90 != n86)
  (Q (.bool false) w28)
  (inI (n57 + 1) ∧
  I55 [.int .i64 (n57 + 1)] w28 ∧ mu56 [.int .i64 (n57 + 1)] w28 < mu56 [.int .i64 n57] w18)))))))))
  (cond (n59 == 2)
  (let w29 := World.drew w18;
  ∃ (p92 : Option Addr) (n93 : Int), w29.cell? (Addr.mk w14.heap.size 0 none) = some ((.pointer p92 : Value)) ∧ w29.cell? (Addr.mk w14.heap.size 1 none) = some ((.int .i64 n93 : Value)) ∧ 
  (0 ≤ (n57 : Int) ∧ (n57 : Int) < ((l6 : Nat) : Int)) ∧
  nn a6 (fun (q94 : Addr) =>
  ∃ (a95 : Option Addr) (l95 : Nat) (c95 : Nat), w29.cell? (Addr.add (Addr.add q94 (Int.toNat n57 * 3)) 2) = some ((.slice a95 l95 c95 : Value)) ∧
  CallR Tryz.prog 37 [.iface 70 (.agg #[.pointer p92, .int .i64 n93]), .slice a95 l95 c95] w29 (fun (r98 : Value) (w30 : World) =>
  ∃ (n96 : Int) (n97 : Int), r98 = .tuple #[.int .i64 n96, .int .i64 n97] ∧
  (0 ≤ (n57 : Int) ∧ (n57 : Int) < ((l6 : Nat) : Int)) ∧
  nn a6 (fun (q99 : Addr) =>
  ∃ (a100 : Option Addr) (l100 : Nat) (c100 : Nat), w30.cell? (Addr.add (Addr.add q99 (Int.toNat n57 * 3)) 2) = some ((.slice a100 l100 c100 : Value)) ∧
  CallR Tryz.prog 38 [.pointer p53, .slice a100 l100 c100] w30 (fun (r103 : Value) (w31 : World) =>
  ∃ (n101 : Int) (n102 : Int), r103 = .tuple #[.int .i64 n101, .int .i64 n102] ∧
  CallR Tryz.prog 39 [.slice none 0 0, .slice none 0 0] w31 (fun (r105 : Value) (w32 : World) =>
  ∃ (b104 : Bool), r105 = .bool b104 ∧
  cond (!b104)
  (Q (.bool false) w32)
  (cond (n96 != n101)
  (Q (.bool false) w32)
  (CallR Tryz.prog 26 [.int .i64 n97] w32 (fun (r107 : Value) (w33 : World) =>
  ∃ (n106 : Int), r107 = .int .i64 n106 ∧
  cond (n106 != n102)
  (Q (.bool false) w33)
  (inI (n57 + 1) ∧
  I55 [.int .i64 (n57 + 1)] w33 ∧ mu56 [.int .i64 (n57 + 1)] w33 < mu56 [.int .i64 n57] w18))))))))))
  (CallR Tryz.prog 39 [.slice none 0 0, .slice none 0 0] w18 (fun (r109 : Value) (w34 : World) =>
  ∃ (b108 : Bool), r109 = .bool b108 ∧
  cond (!b108)
  (Q (.bool false) w34)
  (CallR Tryz.prog 26 [.int .i64 0] w34 (fun (r111 : Value) (w35 : World) =>
  ∃ (n110 : Int), r111 = .int .i64 n110 ∧
  cond (n110 != 0)
  (Q (.bool false) w35)
  (inI (n57 + 1) ∧
  I55 [.int .i64 (n57 + 1)] w35 ∧ mu56 [.int .i64 (n57 + 1)] w35 < mu56 [.int .i64 n57] w18)))))))))
  (CallR Tryz.prog 14 [.pointer p14, .pointer p20] w18 (fun (r113 : Value) (w36 : World) =>
  ∃ (b112 : Bool), r113 = .bool b112 ∧
  cond b112
  (CallR Tryz.prog 27 [] w36 (fun (r115 : Value) (w37 : World) =>
  ∃ (b114 : Bool), r115 = .bool b114 ∧
  Q (.bool b114) w37))
  (Q (.bool false) w36))))))))))))))
end Go.Proofs.YtpoaacnnhgebfaaGreat
set_option maxRecDepth 512
namespace Go.Proofs.YtpoaacnnhgebfaaGreat
open Go.Lw
def RawK (w : World) (x pk : Nat) (d cl : Int) : Prop := Blk w x #[.int .i64 5, .slice none 0 0, .int .i64 0, .int .i64 0, .slice none 0 0, .slice none 0 0, pd pk, .int .i64 d, .int .i64 cl]
theorem prof_ok {w : World} (pk : Nat) (d : Int) : CallR Tryz.prog 32 [pd pk, .int .i64 d] w fun v w' => v = pd w.heap.size ∧ RawK w' w.heap.size pk d 0 ∧ Kept No w w' := by
  refine C32 ?_
  unfold L32
  intro w1
  exact ⟨rfl, Blk.alloc _ _ _, Kept.alloc _ _ _⟩
theorem prread_ok {w : World} {x pk : Nat} {d cl : Int} {s : AK} {M : KL} (hX : RawK w x pk d cl) (hP : PagE w pk s M) (hn : M.own x = none) (n : Int) (hc : s.c0 ≤ 4611686018427387904) (h0 : 0 ≤ cl) (h1 : cl ≤ 4611686018427387904) :
    CallR Tryz.prog 43 [pd x, .int .i64 n] w fun v w' => ∃ a l c M', v = .tuple #[.slice a l c, .int .i64 (s.read d n).2.1] ∧ RdB w' a l c (s.read d n).1 ∧ RawK w' x pk d (cl + 1) ∧ PagE w' pk (s.read d n).2.2 M' ∧ TStep x w w' M M' := by
  refine C43 ?_
  unfold L43
  refine nnI ⟨_, hX.at (i := 8) rfl, ⟨by omega, by omega⟩, nnI (stC_blk hX (by simp) fun w1 hb1 hk1 hs1 => ?_)⟩
  have hX1 : RawK w1 x pk d (cl + 1) := hb1
  have hP1 := hP.keepT hn hk1
  refine nnI ⟨_, hX1.at0 rfl, condTr2 ?_⟩
  intro w2
  have hk2 : Kept No w1 w2 := Kept.drew _ _
  clear_value w2
  have hX2 : RawK w2 x pk d (cl + 1) := Blk.keep hX1 hk2 fun e => e
  obtain ⟨tl, nm, hP2⟩ := hP1.no hk2
  refine nnI ⟨_, hX2.at (i := 6) rfl, nnI ⟨_, hX2.at (i := 7) rfl, CallR.mono (pread_ok hP2 d n hc) ?_⟩⟩
  rintro v w3 ⟨a, l, c, M3, rfl, hr, h3, st3⟩
  exact ⟨_, _, _, _, rfl, a, l, c, M3, rfl, hr, Blk.keep hX2 st3.kept fun e => e hn, ⟨_, _, h3⟩, (TStep.of_t hk1).trans (.of_k (st3.fresh hk2))⟩
theorem prwrite_ok {w : World} {x pk : Nat} {d cl : Int} {s : AK} {M : KL} (hX : RawK w x pk d cl) (hP : PagE w pk s M) (hn : M.own x = none) {a : Option Addr} {l c : Nat} {ds : List Int} (hd : RdB w a l c ds) (hap : ds ≠ [] → ∀ k, inA a k → M.own k = none ∧ k ≠ x) (hc : s.c1 ≤ 4611686018427387904) (h0 : 0 ≤ cl) (h1 : cl ≤ 4611686018427387904) :
    CallR Tryz.prog 47 [pd x, .slice a l c] w fun v w' => v = .tuple #[.int .i64 (s.write d ds).1, .int .i64 (s.write d ds).2.1] ∧ ∃ M', RawK w' x pk d (cl + 1) ∧ PagE w' pk (s.write d ds).2.2 M' ∧ TStep x w w' M M' := by
  refine C47 ?_
  unfold L47
  refine nnI ⟨_, hX.at (i := 8) rfl, ⟨by omega, by omega⟩, nnI (stC_blk hX (by simp) fun w1 hb1 hk1 hs1 => ?_)⟩
  have hX1 : RawK w1 x pk d (cl + 1) := hb1
  have hP1 := hP.keepT hn hk1
  refine nnI ⟨_, hX1.at0 rfl, condTr2 ?_⟩
  intro w2
  have hk2 : Kept No w1 w2 := Kept.drew _ _
  clear_value w2
  have hX2 : RawK w2 x pk d (cl + 1) := Blk.keep hX1 hk2 fun e => e
  obtain ⟨tl, nm, hP2⟩ := hP1.no hk2
  have hd2 : RdB w2 a l c ds := (RdB.keep0 hd hk1 fun hne b hb e => (hap hne b hb).2 e).keep hk2 fun _ _ _ e => e
  refine nnI ⟨_, hX2.at (i := 6) rfl, nnI ⟨_, hX2.at (i := 7) rfl, CallR.mono (pwrite_ok hP2 d hd2 (fun hne k hk => (hap hne k hk).1) hc) ?_⟩⟩
  rintro v w3 ⟨rfl, M3, h3, st3⟩
  exact ⟨_, _, rfl, rfl, M3, Blk.keep hX2 st3.kept fun e => e hn, ⟨_, _, h3⟩, (TStep.of_t hk1).trans (.of_k (st3.fresh hk2))⟩
end Go.Proofs.YtpoaacnnhgebfaaGreat
