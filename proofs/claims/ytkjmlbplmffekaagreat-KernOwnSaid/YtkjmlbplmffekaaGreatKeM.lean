/-
  Open and Pipe. Conditions: as each says.
-/
import Derived.Test.YtkjmlbplmffekaaGreatKeK
set_option linter.unusedVariables false
namespace Go.Proofs.YtkjmlbplmffekaaGreat
open Go.Lw

theorem flagged_ok {w : World} (f : Int) {Q : Value → World → Prop} (hq : Q (.bool (AK.flagged f)) w) : CallR Tryz.prog 89 [.int .i64 f] w Q := by
  refine C89 ?_
  unfold L89
  have fl : AK.flagged f = (decide (f ≥ 0 ∧ f ≤ 63) && (bitI f 3 != 0) && ((bitI f 2 != 0) || (bitI f 20 == 0)) && ((bitI f 8 != 0) || (bitI f 32 == 0))) := rfl
  have b3 : IntKind.wrap .i64 ↑(BitVec.ofInt (IntKind.bits .i64) f &&& BitVec.ofInt (IntKind.bits .i64) 3).toNat = bitI f 3 := rfl
  have b2 : IntKind.wrap .i64 ↑(BitVec.ofInt (IntKind.bits .i64) f &&& BitVec.ofInt (IntKind.bits .i64) 2).toNat = bitI f 2 := rfl
  have b20 : IntKind.wrap .i64 ↑(BitVec.ofInt (IntKind.bits .i64) f &&& BitVec.ofInt (IntKind.bits .i64) 20).toNat = bitI f 20 := rfl
  have b8 : IntKind.wrap .i64 ↑(BitVec.ofInt (IntKind.bits .i64) f &&& BitVec.ofInt (IntKind.bits .i64) 8).toNat = bitI f 8 := rfl
  have b32 : IntKind.wrap .i64 ↑(BitVec.ofInt (IntKind.bits .i64) f &&& BitVec.ofInt (IntKind.bits .i64) 32).toNat = bitI f 32 := rfl
  rw [b3, b2, b20, b8, b32]
  rw [fl] at hq
  refine condP (fun h0 => condP (fun h1 => ?_) (fun h1 => ?_)) (fun h0 => ?_)
  · rw [decide_eq_true (⟨h0, h1⟩ : f ≥ 0 ∧ f ≤ 63)] at hq
    cases h3 : (bitI f 3 != 0)
    · rw [h3] at hq; exact hq
    · rw [h3] at hq
      cases h2 : (bitI f 2 != 0)
      · rw [h2] at hq
        cases h20 : (bitI f 20 == 0)
        · rw [h20] at hq; exact hq
        · rw [h20] at hq
          cases h8 : (bitI f 8 != 0)
          · rw [h8] at hq; simpa using hq
          · rw [h8] at hq; simpa using hq
      · rw [h2] at hq
        cases h8 : (bitI f 8 != 0)
        · rw [h8] at hq; simpa using hq
        · rw [h8] at hq; simpa using hq
  · rw [decide_eq_false (fun h => h1 h.2)] at hq; exact hq
  · rw [decide_eq_false (fun h => h0 h.1)] at hq; exact hq

theorem AK.fileOf_some {s : AK} {nm : ByteArray} {f : ByteArray × Nat} (h : s.fileOf nm = some f) : f ∈ s.files ∧ f.1 = nm := by
  unfold AK.fileOf at h
  exact ⟨List.mem_of_find?_eq_some h, by simpa using List.find?_some h⟩
theorem AK.fileOf_none {s : AK} {nm : ByteArray} (h : s.fileOf nm = none) : ∀ f ∈ s.files, f.1 ≠ nm := by
  unfold AK.fileOf at h
  rw [List.find?_eq_none] at h
  intro x hx
  simpa using h x hx
theorem AK.termOf_some {s : AK} {nm : ByteArray} {f : ByteArray × Nat} (h : s.termOf nm = some f) : f ∈ s.terms ∧ f.1 = nm := by
  unfold AK.termOf at h
  exact ⟨List.mem_of_find?_eq_some h, by simpa using List.find?_some h⟩
theorem AK.termOf_none {s : AK} {nm : ByteArray} (h : s.termOf nm = none) : ∀ f ∈ s.terms, f.1 ≠ nm := by
  unfold AK.termOf at h
  rw [List.find?_eq_none] at h
  intro x hx
  simpa using h x hx

def fP (s : AK) (L : KL) (nm : ByteArray) : Option Addr := match s.fileOf nm with
  | none => none
  | some f => some ⟨L.loc f.2, 0, none⟩
def tP (s : AK) (L : KL) (nm : ByteArray) : Option Addr := match s.termOf nm with
  | none => none
  | some f => some ⟨L.loc f.2, 0, none⟩

theorem look_file {w : World} {gk : Nat} {s : AK} {L : KL} (h : KernO w gk s L) (nm : ByteArray) :
    (Instr.lookup 67 (.map (some L.rf)) (.string nm) true).run Tryz.prog w = .ok (.tuple #[.pointer (fP s L nm), .bool (s.fileOf nm).isSome]) w := by
  have hT : Tryz.prog.underlying 67 = some (.map 9 155) := by kernel_rfl
  have hI : Tryz.prog.underlying 9 = some .string := by kernel_rfl
  unfold fP
  cases hf : s.fileOf nm with
  | none =>
    refine lookup_out hT hI h.mf (k := .string nm) trivial (fun x hx e => ?_) (z := .pointer none) (by kernel_rfl) true
    obtain ⟨y, hy, rfl⟩ := List.mem_map.1 hx
    simp only [Value.string.injEq] at e
    exact AK.fileOf_none hf y hy e
  | some f =>
    obtain ⟨hm, hn⟩ := AK.fileOf_some hf
    exact lookup_in hT hI h.mf (k := .string nm) trivial (v := pd (L.loc f.2)) (List.mem_map.2 ⟨f, hm, by rw [hn]⟩) true

theorem look_term {w : World} {gk : Nat} {s : AK} {L : KL} (h : KernO w gk s L) (nm : ByteArray) :
    (Instr.lookup 68 (.map (some L.rt)) (.string nm) true).run Tryz.prog w = .ok (.tuple #[.pointer (tP s L nm), .bool (s.termOf nm).isSome]) w := by
  have hT : Tryz.prog.underlying 68 = some (.map 9 158) := by kernel_rfl
  have hI : Tryz.prog.underlying 9 = some .string := by kernel_rfl
  unfold tP
  cases hf : s.termOf nm with
  | none =>
    refine lookup_out hT hI h.mt (k := .string nm) trivial (fun x hx e => ?_) (z := .pointer none) (by kernel_rfl) true
    obtain ⟨y, hy, rfl⟩ := List.mem_map.1 hx
    simp only [Value.string.injEq] at e
    exact AK.termOf_none hf y hy e
  | some f =>
    obtain ⟨hm, hn⟩ := AK.termOf_some hf
    exact lookup_in hT hI h.mt (k := .string nm) trivial (v := pd (L.loc f.2)) (List.mem_map.2 ⟨f, hm, by rw [hn]⟩) true

/-- A new file, laid and named. -/
theorem addF_ok {w w1 : World} {gk : Nat} {s : AK} {L : KL} (h : KernO w gk s L) (k : Kept No w w1) {b : Nat} {F : Nat → Prop} {bs : List Int} (hO : FileO F w1 b bs) (hF : ∀ z, F z → w.heap.size ≤ z)
    {nm : ByteArray} (h1 : ∀ f ∈ s.files, f.1 ≠ nm) (h2 : ∀ f ∈ s.terms, f.1 ≠ nm) (hl : s.files.length + s.terms.length < 256) :
    ∃ w2 L', (Instr.mapUpdate 67 (.map (some L.rf)) (.string nm) (pd b)).run Tryz.prog w1 = .ok () w2 ∧ KernO w2 gk (s.addF nm (.file bs)) L' ∧ KStep w w2 L L' ∧ L'.loc s.nob = b ∧ Kept (· = L.rf) w1 w2 := by
  have hT : Tryz.prog.underlying 67 = some (.map 9 155) := by kernel_rfl
  have hI : Tryz.prog.underlying 9 = some .string := by kernel_rfl
  obtain ⟨hn, st⟩ := h.newStep k (R := No) (o := .file bs) hO hF (fun z e => e.elim)
  obtain ⟨w2, hrun, hm, hk2, hs2⟩ := update_new hT hI (hn.mf) (k := .string nm) trivial (fun x hx e => by
    obtain ⟨y, hy, rfl⟩ := List.mem_map.1 hx
    simp only [Value.string.injEq] at e
    exact h1 y hy e) (pd b)
  have hok := h.ok.addF (o := .file bs) rfl h1 h2 hl
  have hb : (L.addO s.nob b F No).loc s.nob = b := if_pos rfl
  obtain ⟨h3, st3⟩ := hn.mfStep (fs := s.files ++ [(nm, s.nob)]) hk2 (by
    show MapO w2 _ .string ((s.files ++ [(nm, s.nob)]).map fun f => (Value.string f.1, pd ((L.addO s.nob b F No).loc f.2)))
    rw [List.map_append]
    show MapO w2 _ .string (_ ++ [(Value.string nm, pd ((L.addO s.nob b F No).loc s.nob))])
    rw [hb]
    exact hm) hok
  exact ⟨w2, _, hrun, h3, st.trans st3, hb, hk2⟩

set_option maxHeartbeats 1000000 in
theorem kernOpen_ok {w : World} {gk : Nat} {s : AK} {L : KL} (h : KernO w gk s L) (nm : ByteArray) (fl : Int) (hn2 : s.next ≤ 4611686018427387904) :
    CallR Tryz.prog 19 [pd gk, .string nm, .int .i64 fl] w fun v w' => v = .tuple #[.int .i64 (s.open_ nm fl).1, .int .i64 (s.open_ nm fl).2.1] ∧ ∃ L', KernO w' gk (s.open_ nm fl).2.2 L' ∧ KStep w w' L L' := by
  refine C19 ?_
  unfold L19
  have bad : ∀ (e : Int) (w' : World), s.openE nm fl = e → e ≠ 0 → Kept No w w' → (.tuple #[.int .i64 0, .int .i64 e] : Value) = .tuple #[.int .i64 (s.open_ nm fl).1, .int .i64 (s.open_ nm fl).2.1] ∧ ∃ L', KernO w' gk (s.open_ nm fl).2.2 L' ∧ KStep w w' L L' := by
    intro e w' he hne hk
    unfold AK.open_
    rw [he, if_pos hne]
    exact ⟨rfl, L, h.no hk, .of_no hk⟩
  have hE : s.openE nm fl = if namedS nm = false then 61 else if AK.flagged fl = false then 65 else if 256 ≤ s.descs.length then 3 else
    if (s.fileOf nm).isSome ∨ (s.termOf nm).isSome then (if bitI fl 32 ≠ 0 then 63 else 0)
    else if bitI fl 8 = 0 then 62 else if 256 ≤ s.files.length + s.terms.length then 3 else 0 := rfl
  refine enone_to h ⟨false, rfl, condF rfl (CallR.mono (named_ok nm) ?_)⟩
  rintro v w2 ⟨rfl, hk2⟩
  refine ⟨_, rfl, condI (fun e => bad 61 _ (by rw [hE, if_pos (by simpa using e)]) (by decide) hk2) (fun e => ?_)⟩
  rw [if_neg (by simpa using e)] at hE
  refine flagged_ok fl ⟨_, rfl, condI (fun e => bad 65 _ (by rw [hE, if_pos (by simpa using e)]) (by decide) hk2) (fun e => ?_)⟩
  rw [if_neg (by simpa using e)] at hE
  have h2 := h.no hk2
  have hTd : Tryz.prog.underlying 69 = some (.map 3 172) := by kernel_rfl
  have hTf : Tryz.prog.underlying 67 = some (.map 9 155) := by kernel_rfl
  have hTt : Tryz.prog.underlying 68 = some (.map 9 158) := by kernel_rfl
  have hlen : (s.mD L).length = s.descs.length := by unfold AK.mD; rw [List.length_map]
  refine nnI ⟨_, h2.blk.at (i := 3) rfl, _, _, len_map hTd h2.md _, condP (fun hd => bad 3 _ (by rw [hE, if_pos (by omega)]) (by decide) hk2) (fun hd => ?_)⟩
  rw [if_neg (by omega)] at hE
  refine nnI ⟨_, h2.blk.at (i := 1) rfl, _, _, _, look_file h2 nm, nnI ⟨_, h2.blk.at (i := 2) rfl, _, _, _, look_term h2 nm, ?_⟩⟩
  have b32 : IntKind.wrap .i64 ↑(BitVec.ofInt (IntKind.bits .i64) fl &&& BitVec.ofInt (IntKind.bits .i64) 32).toNat = bitI fl 32 := rfl
  have b8 : IntKind.wrap .i64 ↑(BitVec.ofInt (IntKind.bits .i64) fl &&& BitVec.ofInt (IntKind.bits .i64) 8).toNat = bitI fl 8 := rfl
  have b16 : IntKind.wrap .i64 ↑(BitVec.ofInt (IntKind.bits .i64) fl &&& BitVec.ofInt (IntKind.bits .i64) 16).toNat = bitI fl 16 := rfl
  rw [b32, b8, b16]
  refine ⟨fun vs w' => ∃ s1 L1 p, vs = [.pointer p] ∧ s.openE nm fl = 0 ∧ KernO w' gk s1 L1 ∧ KStep w w' L L1 ∧ s1.next = s.next ∧ s1.descs = s.descs ∧
    ((∃ t, s.termOf nm = some t ∧ s1 = s ∧ L1 = L) ∨ (s.termOf nm = none ∧ ∃ i bs, p = some ⟨L1.loc i, 0, none⟩ ∧ i < s1.nob ∧ s1.objs i = .file bs ∧ s.openS nm fl = (if bitI fl 16 ≠ 0 then s1.setO i (.file []) else s1).newD i fl)), ?_, ?_⟩
  · have old : ∀ w', (s.fileOf nm).isSome = true ∨ (s.termOf nm).isSome = true → Kept No w w' → bitI fl 32 = 0 → ∃ s1 L1 p, [Value.pointer (fP s L nm)] = [.pointer p] ∧ s.openE nm fl = 0 ∧ KernO w' gk s1 L1 ∧ KStep w w' L L1 ∧ s1.next = s.next ∧ s1.descs = s.descs ∧
      ((∃ t, s.termOf nm = some t ∧ s1 = s ∧ L1 = L) ∨ (s.termOf nm = none ∧ ∃ i bs, p = some ⟨L1.loc i, 0, none⟩ ∧ i < s1.nob ∧ s1.objs i = .file bs ∧ s.openS nm fl = (if bitI fl 16 ≠ 0 then s1.setO i (.file []) else s1).newD i fl)) := by
      intro w' ho hk hz
      refine ⟨s, L, _, rfl, by rw [hE, if_pos ho, if_neg (fun e => e hz)], h.no hk, .of_no hk, rfl, rfl, ?_⟩
      cases ht : s.termOf nm with
      | some t => exact .inl ⟨t, rfl, rfl, rfl⟩
      | none =>
        right
        rw [ht] at ho
        cases hf : s.fileOf nm with
        | none => rw [hf] at ho; simp at ho
        | some f =>
          obtain ⟨hm, hn⟩ := AK.fileOf_some hf
          have hfi := h.ok.fi f hm
          obtain ⟨bs, hbs⟩ : ∃ bs, s.objs f.2 = .file bs := by
            cases ho : s.objs f.2 with
            | file bs => exact ⟨bs, rfl⟩
            | term _ _ => rw [ho] at hfi; cases hfi.2
            | pipe _ _ _ => rw [ho] at hfi; cases hfi.2
          refine ⟨rfl, f.2, bs, by unfold fP; rw [hf], hfi.1, hbs, ?_⟩
          unfold AK.openS
          rw [ht, hf]
    refine condI (fun hf => condI (fun hx => bad 63 _ (by rw [hE, if_pos (.inl hf), if_pos (by simpa using hx)]) (by decide) hk2) (fun hx => old w2 (.inl hf) hk2 (by simpa using hx))) (fun hf => ?_)
    refine condI (fun ht => condI (fun hx => bad 63 _ (by rw [hE, if_pos (.inr ht), if_pos (by simpa using hx)]) (by decide) hk2) (fun hx => old w2 (.inr ht) hk2 (by simpa using hx))) (fun ht => ?_)
    rw [if_neg (by rw [hf, ht]; simp)] at hE
    refine condI (fun h8 => bad 62 _ (by rw [hE, if_pos (by simpa using h8)]) (by decide) hk2) (fun h8 => ?_)
    rw [if_neg (by simpa using h8)] at hE
    refine ⟨fun wS => Kept No w2 wS, Kept.drew _ _, ?_⟩
    intro w7
    have hk7 : Kept No w2 w7 := Kept.drew _ _
    clear_value w7
    have h7 := h2.no hk7
    refine nnI ⟨_, fun wS hS => (h2.no hS).blk.at (i := 1) rfl, nnI ⟨_, fun wS hS => (h2.no hS).blk.at (i := 2) rfl, _, _, len_map hTf h7.mf _, hk7, _, _, len_map hTt h7.mt _, ?_⟩⟩
    have e1 : (s.mF L).length = s.files.length := by unfold AK.mF; rw [List.length_map]
    have e2 : (s.mT L).length = s.terms.length := by unfold AK.mT; rw [List.length_map]
    have hfl := h.ok.fl
    rw [e1, e2]
    have k7 := hk2.no hk7
    refine ⟨⟨by omega, by omega⟩, condP (fun hc => bad 3 _ (by rw [hE, if_pos (by omega)]) (by decide) k7) (fun hc => ?_)⟩
    rw [if_neg (by omega)] at hE
    refine CallR.mono (finew_ok (RdB.nil w7) (by omega)) ?_
    rintro v w10 (⟨hbig, _⟩ | ⟨_, b, F, rfl, hO, hk10, hF⟩)
    · simp at hbig
    have hf' : s.fileOf nm = none := by cases hx : s.fileOf nm with | none => rfl | some _ => rw [hx] at hf; cases hf
    have ht' : s.termOf nm = none := by cases hx : s.termOf nm with | none => rfl | some _ => rw [hx] at ht; cases ht
    obtain ⟨w11, L1, hrun, h11, st, hloc, _⟩ := addF_ok h7 hk10 hO hF (AK.fileOf_none hf') (AK.termOf_none ht') (by omega)
    have h10 := h7.no hk10
    refine ⟨_, _, rfl, nnI ⟨_, h10.blk.at (i := 1) rfl, w11, hrun, s.addF nm (.file []), L1, _, rfl, hE, h11, st.fresh k7, rfl, rfl, .inr ⟨ht', s.nob, [], by rw [hloc], Nat.lt_succ_self _, AK.objs_newO_new' s _, ?_⟩⟩⟩
    have e : (s.addF nm (.file [])).setO s.nob (.file []) = s.addF nm (.file []) := by
      have := AK.setO_same (s.addF nm (.file [])) s.nob
      have e' : (s.addF nm (.file [])).objs s.nob = .file [] := AK.objs_newO_new' s _
      rw [e'] at this
      exact this
    unfold AK.openS
    rw [ht', hf', e]
    simp only [ite_self]
    rfl
  · rintro _ p w12 ⟨s1, L1, p', hvs, hE0, h12, st12, hnx, hds, hcase⟩
    simp only [List.cons.injEq, Value.pointer.injEq, and_true] at hvs
    subst hvs
    have good : s.open_ nm fl = (s.next, 0, s.openS nm fl) := by unfold AK.open_; rw [hE0, if_neg (fun e => e rfl)]
    rw [good]
    have hdl : s1.descs.length < 256 := by rw [hds]; omega
    rcases hcase with ⟨t, ht, rfl, rfl⟩ | ⟨ht, i, bs, rfl, hi, hoi, hS⟩
    · obtain ⟨hm, hn⟩ := AK.termOf_some ht
      have hti := h.ok.ti t hm
      have hd := describe_ok h12 hti.1 fl (by omega) hdl
      rw [hti.2] at hd
      have htp : tP s1 L1 nm = some ⟨L1.loc t.2, 0, none⟩ := by unfold tP; rw [ht]
      refine condT (by rw [ht]; rfl) ?_
      rw [htp]
      refine CallR.mono hd ?_
      rintro v w13 ⟨rfl, L', h', st', _⟩
      refine ⟨_, rfl, rfl, L', ?_, st12.trans st'⟩
      show KernO w13 gk (s1.openS nm fl) L'
      unfold AK.openS
      rw [ht]
      exact h'
    · refine condF (by rw [ht]; rfl) ?_
      dsimp only
      rw [hS]
      refine condI (fun h16 => ?_) (fun h16 => ?_)
      · rw [if_pos (by simpa using h16)]
        have hO := h12.ob i hi
        rw [hoi] at hO
        have hO : FileO _ w12 (L1.loc i) bs := hO
        refine CallR.mono (trunc_ok hO 0) ?_
        rintro v w14 ⟨rfl, F', hO', hg, hk14⟩
        have htr : (truncF bs 0).2 = [] := by unfold truncF; rfl
        rw [htr] at hO'
        obtain ⟨L2, h14, st14, hloc, _, _⟩ := h12.obOnly hk14 (fun z hz => hz) (o := .file []) (by rw [hoi]; rfl) (F := F') (fun z hz => hg z hz) hO'
        refine ⟨_, rfl, ?_⟩
        have hd := describe_ok h14 (i := i) hi fl (by show s1.next ≤ _; omega) hdl
        rw [AK.objs_setO_same', hloc] at hd
        refine CallR.mono hd ?_
        rintro v w15 ⟨rfl, L', h', st', _⟩
        exact ⟨_, rfl, by rw [← hnx]; rfl, L', h', (st12.trans st14).trans st'⟩
      · rw [if_neg (by simpa using h16)]
        have hd := describe_ok h12 (i := i) hi fl (by omega) hdl
        rw [hoi] at hd
        refine CallR.mono hd ?_
        rintro v w15 ⟨rfl, L', h', st', _⟩
        exact ⟨_, rfl, by rw [← hnx], L', h', st12.trans st'⟩

theorem kernPipe_ok {w : World} {gk : Nat} {s : AK} {L : KL} (h : KernO w gk s L) (hn2 : s.next ≤ 4611686018427387903) :
    CallR Tryz.prog 26 [pd gk] w fun v w' => v = .tuple #[.int .i64 s.pipe.1, .int .i64 s.pipe.2.1, .int .i64 s.pipe.2.2.1] ∧ ∃ L', KernO w' gk s.pipe.2.2.2 L' ∧ KStep w w' L L' := by
  refine C26 ?_
  unfold L26
  have hTd : Tryz.prog.underlying 69 = some (.map 3 172) := by kernel_rfl
  have hlen : (s.mD L).length = s.descs.length := by unfold AK.mD; rw [List.length_map]
  unfold AK.pipe
  refine enone_to h ⟨false, rfl, condF rfl (nnI ⟨_, h.blk.at (i := 3) rfl, _, _, len_map hTd h.md _, condP (fun hd => ?_) (fun hd => ?_)⟩)⟩
  · rw [if_pos (by omega)]; exact ⟨rfl, L, h, KStep.refl _ _⟩
  rw [if_neg (by omega)]
  refine CallR.mono (knew_ok w) ?_
  rintro v w3 ⟨rfl, hp3, hk3⟩
  refine ⟨_, rfl, CallR.mono (kjoin_ok hp3 false) ?_⟩
  rintro v w4 ⟨rfl, hp4, hk4⟩
  refine ⟨_, rfl, CallR.mono (kjoin_ok hp4 true) ?_⟩
  rintro v w5 ⟨rfl, hp5, hk5⟩
  have k5 : Kept No w w5 := (hk3.fresh hk4 (fun x e => by omega)).fresh hk5 (fun x e => by omega)
  have hp5 : PipeO w5 w.heap.size [] 1 1 := hp5
  obtain ⟨h5, st5⟩ := h.newStep k5 (b := w.heap.size) (F := (· = w.heap.size)) (R := No) (o := .pipe [] 1 1) ⟨hp5, fun z => Iff.rfl⟩ (fun z e => Nat.le_of_eq (Eq.symm e)) (fun z e => e.elim)
  have hd5 := describe_ok h5 (i := s.nob) (Nat.lt_succ_self _) 1 (by show s.next ≤ _; omega) (by show s.descs.length < 256; omega)
  have e1 : (s.newO (.pipe [] 1 1)).objs s.nob = .pipe [] 1 1 := if_pos rfl
  have e2 : (L.addO s.nob w.heap.size (· = w.heap.size) No).loc s.nob = w.heap.size := if_pos rfl
  rw [e1, e2] at hd5
  refine ⟨_, rfl, CallR.mono hd5 ?_⟩
  rintro v w6 ⟨rfl, L6, h6, st6, hloc6⟩
  have hn := h.ok.nx
  have hd6 := describe_ok h6 (i := s.nob) (Nat.lt_succ_self _) 2 (by show s.next + 1 ≤ _; omega) (by show (s.descs ++ [_]).length < 256; rw [List.length_append]; simp; omega)
  have e1 : ((s.newO (.pipe [] 1 1)).newD s.nob 1).objs s.nob = .pipe [] 1 1 := e1
  rw [e1, hloc6, e2] at hd6
  refine ⟨_, rfl, CallR.mono hd6 ?_⟩
  rintro v w7 ⟨rfl, L7, h7, st7, _⟩
  exact ⟨_, rfl, rfl, L7, h7, (st5.trans st6).trans st7⟩

end Go.Proofs.YtkjmlbplmffekaaGreat
