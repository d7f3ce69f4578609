/-
  The page's kernel: its files and its screens. Conditions: as each says.
  The page's kernel: whether a beginning may be. Conditions: as each says.
  The page's kernel: a new one. Conditions: as each says.
  The page's kernel and the program's, in plain words: the ends of pipes, files by name, screens. Conditions: none.
-/
import Derived.Test.YtpoaacnnhgebfaaGreatGkE
import Derived.Test.YtpoaacnnhgebfaaGreatCf
import Derived.Test.YtpoaacnnhgebfaaGreatKeK
import Derived.Test.YtpoaacnnhgebfaaGreatKeN
set_option linter.unusedVariables false
namespace Go.Proofs.YtpoaacnnhgebfaaGreat
open Go.Lw

/-- Named bytes, made one by one. -/
structure NmI (w0 w : World) (a : Option Addr) (l c : Nat) (fs : List (ByteArray × List Int)) (es : List (ByteArray × Slc)) : Prop where
  sl : SlO 2 w a l c (Nv es)
  len : es.length = fs.length
  fr : Fresh w0 a
  each : ∀ (j : Nat) (e : ByteArray × Slc), es[j]? = some e → ∃ f, fs[j]? = some f ∧ e.1 = f.1 ∧ ∃ lo hi, RBr w e.2 f.2 lo hi ∧ w0.heap.size ≤ lo ∧ hi ≤ w.heap.size ∧ ∀ z, inA a z → z < lo ∨ hi ≤ z

theorem NmI.nil (w : World) : NmI w w none 0 0 [] [] := ⟨SlO.nil 2 w, rfl, Fresh.none w, fun j e he => by simp at he⟩

theorem NmI.no {w0 w w' : World} {a : Option Addr} {l c : Nat} {fs : List (ByteArray × List Int)} {es : List (ByteArray × Slc)} (h : NmI w0 w a l c fs es) (k : Kept No w w') : NmI w0 w' a l c fs es :=
  ⟨h.sl.keep k fun _ _ e => e, h.len, h.fr, fun j e he => by
    obtain ⟨f, h1, h2, lo, hi, h3, h4, h5, h6⟩ := h.each j e he
    exact ⟨f, h1, h2, lo, hi, h3.keep k fun _ _ _ e => e, h4, Nat.le_trans h5 k.size, h6⟩⟩

theorem NmI.l_eq {w0 w : World} {a : Option Addr} {l c : Nat} {fs : List (ByteArray × List Int)} {es : List (ByteArray × Slc)} (h : NmI w0 w a l c fs es) : l = fs.length := by
  have := h.sl.1; rw [Nv_len, h.len] at this; omega

theorem NmI.rd {w0 w : World} {a : Option Addr} {l c : Nat} {fs : List (ByteArray × List Int)} {es : List (ByteArray × Slc)} (h : NmI w0 w a l c fs es) : RdN RB w a l c fs es :=
  ⟨h.sl.rd, h.len, fun i h1 h2 => by
    obtain ⟨f, hf, he, lo, hi, hr, _⟩ := h.each i es[i] (List.getElem?_eq_getElem h1)
    rw [List.getElem?_eq_getElem h2] at hf
    cases hf
    exact ⟨he, hr.1.rd⟩⟩

theorem NmI.snoc {w0 w w3 w4 : World} {a : Option Addr} {l c : Nat} {fs : List (ByteArray × List Int)} {es : List (ByteArray × Slc)} (h : NmI w0 w a l c fs es) (k0 : w0.heap.size ≤ w.heap.size) (k3 : Kept No w w3) {s : Slc} {bs : List Int} (hd : RBr w3 s bs w.heap.size w3.heap.size)
    {nm : ByteArray} (hb : Blk w4 w3.heap.size #[.string nm, .slice s.1 s.2.1 s.2.2]) (k4 : Kept No w3 w4) (hz4 : w4.heap.size = w3.heap.size + 1) (hl : l ≤ 1000) :
    ∃ a6 c6 w6, Sem.run Tryz.prog (Builtin.append_ #[22, 22] 22 #[.slice a l c, .slice (some (Addr.mk w3.heap.size 0 none)) 1 1]) w4 = .ok (.slice a6 (l + 1) c6) w6 ∧ NmI w0 w6 a6 (l + 1) c6 (fs ++ [(nm, bs)]) (es ++ [(nm, s)]) ∧ Kept (inA a) w4 w6 := by
  have hnew4 : SlO 2 w4 (some ⟨w3.heap.size, 0, none⟩) 1 1 (Nv [(nm, s)]) := SlO.of_blk (sz := 2) (n := 1) hb rfl
  have k14 := k3.no k4
  have hs4 := h.sl.keep k14 fun _ _ e => e
  obtain ⟨a6, c6, w6, hrun, hs6, hk6, hat, _⟩ := run_app_sl (P := Tryz.prog) (t := 22) (t2 := 22) (ty := 22) (by kernel_rfl : slTyB Tryz.prog 22 2 40 = true) (by kernel_rfl) hs4 hnew4.rd (Nv_one _) (by omega) (by omega)
  rw [← Nv_app] at hs6
  have hlt := SlO.lt h.sl
  have hz3 := k3.size
  have hz6 := hk6.size
  have hin6 : ∀ k, inA a6 k → inA a k ∨ k = w4.heap.size := fun k hk => hat.in hk
  have hle := h.l_eq
  have hel := h.len
  refine ⟨a6, c6, w6, hrun, ⟨hs6, by simp [h.len], fun k hk => ?_, fun j e he => ?_⟩, hk6⟩
  · rcases hin6 k hk with e | e
    · exact h.fr k e
    · omega
  · by_cases hj : j < es.length
    · rw [List.getElem?_append_left hj] at he
      obtain ⟨f, hf, he1, lo, hi', hr, hlo, hh, hd'⟩ := h.each j e he
      refine ⟨f, by rw [List.getElem?_append_left (by omega)]; exact hf, he1, lo, hi', (hr.keep k14 fun _ _ _ e => e).keep hk6 fun z h1 h2 e => ?_, hlo, by omega, fun z hz => ?_⟩
      · have := hd' z e; omega
      · rcases hin6 z hz with e | e
        · exact hd' z e
        · omega
    · have hje : j = es.length := by
        have := (List.getElem?_eq_some_iff.1 he).1
        simp at this; omega
      subst hje
      rw [List.getElem?_append_right (by omega), Nat.sub_self] at he
      simp at he
      subst he
      refine ⟨(nm, bs), by rw [List.getElem?_append_right (by omega), hel, Nat.sub_self]; rfl, rfl, w.heap.size, w3.heap.size, (hd.keep k4 fun _ _ _ e => e).keep hk6 fun z h1 h2 e => ?_, k0, by omega, fun z hz => ?_⟩
      · have := hlt z e; omega
      · rcases hin6 z hz with e | e
        · have := hlt z e; omega
        · omega

/-- Things of one kind, by name. -/
def ofK (s : AK) (k : TK) (g : AObj → List Int) (T : List (ByteArray × Nat)) : List (ByteArray × List Int) := (T.filter fun t => decide ((s.objs t.2).kd = k)).map fun t => (t.1, g (s.objs t.2))

theorem ofK_len (s : AK) (k : TK) (g : AObj → List Int) (T : List (ByteArray × Nat)) : (ofK s k g T).length ≤ T.length := by
  unfold ofK; rw [List.length_map]; exact List.length_filter_le _ _

theorem ofK_snoc (s : AK) (k : TK) (g : AObj → List Int) (T : List (ByteArray × Nat)) {n : Nat} (hn : n < T.length) : ofK s k g (T.take (n + 1)) = if (s.objs T[n].2).kd = k then ofK s k g (T.take n) ++ [(T[n].1, g (s.objs T[n].2))] else ofK s k g (T.take n) := by
  unfold ofK
  have htk : T.take (n + 1) = T.take n ++ [T[n]] := by rw [List.take_add_one, List.getElem?_eq_getElem hn]; rfl
  rw [htk, List.filter_append, List.map_append]
  by_cases e : (s.objs T[n].2).kd = k
  · rw [if_pos e]; simp [e]
  · rw [if_neg e]; simp [e]

theorem app_nil_ok {w : World} {a : Option Addr} {l c : Nat} {bs : List Int} (h : RdB w a l c bs) (hl : l ≤ 140737488355328) : ∃ a' c' w', Sem.run Tryz.prog (Builtin.append_ #[40, 40] 40 #[.slice none 0 0, .slice a l c]) w = .ok (.slice a' l c') w' ∧ Kept No w w' ∧ RBr w' (a', l, c') bs w.heap.size w'.heap.size := by
  obtain ⟨a', c', w2, hrun, hs, hk, hat, hnn⟩ := run_app_sl (P := Tryz.prog) (t := 40) (t2 := 40) (ty := 40) (by kernel_rfl : slTyB Tryz.prog 40 1 1 = true) (by kernel_rfl) (SlO.nil 1 w) h (By_one bs) (by omega) (by omega)
  simp only [Nat.zero_add, List.nil_append] at hrun hs
  refine ⟨a', c', w2, hrun, hk.mono (fun b _ hb => inA_none b hb), hs, fun k hk' => ⟨?_, SlO.lt hs k hk'⟩⟩
  exact hat.fresh (Fresh.none w) (Nat.le_refl _) k hk'

set_option maxHeartbeats 1000000 in
theorem pfiles_ok {w : World} {pk : Nat} {s : AK} {L : KL} {tl : Nat → Nat} {nm : Nat → ByteArray} (h : PagO w pk s L tl nm) {T : List (ByteArray × Nat)} {ta : Option Addr} {tc : Nat} {da : Option Addr} {dc : Nat} (hB : PKb w pk s L tl T ta tc da dc) :
    CallR Tryz.prog 77 [pd pk] w fun v w' => ∃ a c es, v = .slice a (ofK s .disk dataO T).length c ∧ NmI w w' a (ofK s .disk dataO T).length c (ofK s .disk dataO T) es ∧ Kept No w w' := by
  refine C77 ?_
  unfold L77
  have hfl := h.ok.fl
  have hTl : T.length ≤ 256 := by have := hB.pm.length_eq; rw [List.length_append] at this; omega
  refine ⟨fun vs w' => ∃ (n : Nat) (a : Option Addr) (c : Nat) (es : List (ByteArray × Slc)), vs = [.slice a (ofK s .disk dataO (T.take n)).length c, .int .i64 (n : Int)] ∧ n ≤ T.length ∧ Kept No w w' ∧ NmI w w' a (ofK s .disk dataO (T.take n)).length c (ofK s .disk dataO (T.take n)) es,
    fun vs _ => match vs with | [_, .int _ i] => ((T.length : Int) - i).toNat | _ => 0, ⟨0, none, 0, [], rfl, Nat.zero_le _, Kept.refl _ _, NmI.nil w⟩, ?_⟩
  rintro _ a4 l4 c4 n5 w1 ⟨n, a, c, es, hv, hn, hk1, hI⟩
  simp only [List.cons.injEq, Value.slice.injEq, Value.int.injEq, true_and, and_true] at hv
  obtain ⟨⟨rfl, rfl, rfl⟩, rfl⟩ := hv
  have h1 := h.no hk1
  have hb1 := hB.b.keep hk1 fun e => e
  refine nnI ⟨_, _, _, hb1.at0 rfl, condP (fun hlt => ?_) (fun hge => ?_)⟩
  · have hnl : n < T.length := by omega
    have hmem := hB.pm.mem_iff.1 (List.getElem_mem hnl)
    have hcell : ∀ {w' : World}, Kept No w w' → ∃ q, ta = some q ∧ w'.cell? (q.add n) = some (pd (tl T[n].2)) := fun k =>
      slo_cell (hB.ts.keep k fun _ _ e => e) (by omega) (j := n) (v := pd (tl T[n].2)) (by rw [List.getElem?_map, List.getElem?_eq_getElem hnl]; rfl)
    obtain ⟨q, haq, hc⟩ := hcell hk1
    have e0 : Int.toNat (n : Int) = n := Int.toNat_natCast n
    rw [e0]
    have hr : 0 ≤ (n : Int) ∧ (n : Int) < ((T.length : Nat) : Int) := by omega
    have hob := h.nobT hmem
    have htb := (h.th _ hob).1
    rw [h.nn _ hmem] at htb
    have hO := h.ob _ hob
    have hsn := ofK_snoc s .disk dataO T hnl
    refine nnI ⟨_, _, _, hb1.at0 rfl, hr, nnE2 haq ⟨_, hc, nnI ?_⟩⟩
    have other : (s.objs T[n].2).kd ≠ .disk → inI ((n : Int) + 1) ∧ (∃ (n' : Nat) (a' : Option Addr) (c' : Nat) (es : List (ByteArray × Slc)), ([.slice a4 (ofK s .disk dataO (T.take n)).length c4, .int .i64 ((n : Int) + 1)] : List Value) = [.slice a' (ofK s .disk dataO (T.take n')).length c', .int .i64 (n' : Int)] ∧ n' ≤ T.length ∧ Kept No w w1 ∧ NmI w w1 a' (ofK s .disk dataO (T.take n')).length c' (ofK s .disk dataO (T.take n')) es) ∧ ((T.length : Int) - ((n : Int) + 1)).toNat < ((T.length : Int) - (n : Int)).toNat := fun hne => by
      rw [if_neg hne] at hsn
      exact ⟨⟨by omega, by omega⟩, ⟨n + 1, _, _, es, by rw [hsn]; rfl, by omega, hk1, by rw [hsn]; exact hI⟩, by omega⟩
    cases ho : s.objs T[n].2 with
    | term LL scr =>
      rw [ho] at htb
      exact ⟨_, (htb.keep hk1 fun e => e).at (i := 1) rfl, condFa2 (other (by rw [ho]; simp [AObj.kd]))⟩
    | pipe bs e0 e1 =>
      rw [ho] at htb
      exact ⟨_, (htb.keep hk1 fun e => e).at (i := 1) rfl, condFa2 (other (by rw [ho]; simp [AObj.kd]))⟩
    | file bs =>
      rw [ho] at htb hO
      rw [if_pos (by rw [ho]; rfl), ho] at hsn
      have hsn : ofK s .disk dataO (T.take (n + 1)) = ofK s .disk dataO (T.take n) ++ [(T[n].1, bs)] := hsn
      have hfl2 := hO.fileLen
      obtain ⟨fa, fl, fc, hfb, hfo, _⟩ : RefO _ w (L.loc T[n].2) bs := hO
      have hfol := hfo.len
      refine ⟨_, (htb.keep hk1 fun e => e).at (i := 1) rfl, condTr2 ⟨fun wS => Kept No w wS, hk1.no (Kept.drew _ _), ?_⟩⟩
      intro w2
      have hk2 : Kept No w1 w2 := Kept.drew _ _
      have hz2 : w2.heap.size = w1.heap.size := rfl
      clear_value w2
      refine nnI ⟨_, _, _, fun wS hS => (hB.b.keep hS fun e => e).at0 rfl, hr, nnE2 haq ⟨_, fun wS hS => ?_, nnI ⟨_, fun wS hS => (htb.keep hS fun e => e).at0 rfl, nnI ⟨_, _, _, fun wS hS => (hB.b.keep hS fun e => e).at0 rfl, hr, nnE2 haq ⟨_, fun wS hS => ?_, nnI ⟨_, fun wS hS => (htb.keep hS fun e => e).at (i := 2) rfl, nnI ⟨_, _, _, fun wS hS => (hfb.keep hS fun e => e).at0 rfl, ?_⟩⟩⟩⟩⟩⟩⟩
      · obtain ⟨q', haq', hc'⟩ := hcell hS
        have hq : q' = q := by rw [haq] at haq'; cases haq'; rfl
        rw [← hq]; exact hc'
      · obtain ⟨q', haq', hc'⟩ := hcell hS
        have hq : q' = q := by rw [haq] at haq'; cases haq'; rfl
        rw [← hq]; exact hc'
      obtain ⟨a29, c29, w3, hrun3, hk3, hd3⟩ := app_nil_ok (hfo.rd.keep (hk1.no hk2) fun _ _ _ e => e) (by omega)
      refine ⟨a29, fl, c29, w3, hrun3, (hk1.no hk2).no hk3, ?_⟩
      intro w4
      have hb4 : Blk w4 w3.heap.size #[.string T[n].1, .slice a29 fl c29] := Blk.alloc _ _ _
      have hk4 : Kept No w3 w4 := Kept.alloc _ _ _
      have hz4 : w4.heap.size = w3.heap.size + 1 := by simp [w4]
      clear_value w4
      have hol := ofK_len s .disk dataO (T.take n)
      rw [List.length_take] at hol
      obtain ⟨a6, c6, w6, hrun6, hI6, hk6⟩ := (hI.no hk2).snoc (by have := (hk1.no hk2).size; omega) hk3 (s := (a29, fl, c29)) hd3 hb4 hk4 hz4 (by omega)
      have kf : Kept No w w6 := (((hk1.no hk2).no hk3).no hk4).fresh hk6 hI.fr
      exact ⟨a6, _, c6, w6, hrun6, ⟨by omega, by omega⟩, ⟨n + 1, a6, c6, _, by rw [hsn, List.length_append]; rfl, by omega, kf, by rw [hsn, List.length_append]; exact hI6⟩, by show ((T.length : Int) - ((n : Int) + 1)).toNat < ((T.length : Int) - (n : Int)).toNat; omega⟩
  · have : n = T.length := by omega
    subst this
    rw [List.take_length] at hI ⊢
    exact ⟨_, _, es, rfl, hI, hk1⟩

set_option maxHeartbeats 1000000 in
theorem pscreens_ok {w : World} {pk : Nat} {s : AK} {L : KL} {tl : Nat → Nat} {nm : Nat → ByteArray} (h : PagO w pk s L tl nm) {T : List (ByteArray × Nat)} {ta : Option Addr} {tc : Nat} {da : Option Addr} {dc : Nat} (hB : PKb w pk s L tl T ta tc da dc) :
    CallR Tryz.prog 80 [pd pk] w fun v w' => ∃ a c es, v = .slice a (ofK s .scr scrO T).length c ∧ NmI w w' a (ofK s .scr scrO T).length c (ofK s .scr scrO T) es ∧ Kept No w w' := by
  refine C80 ?_
  unfold L80
  have hfl := h.ok.fl
  have hTl : T.length ≤ 256 := by have := hB.pm.length_eq; rw [List.length_append] at this; omega
  refine ⟨fun vs w' => ∃ (n : Nat) (a : Option Addr) (c : Nat) (es : List (ByteArray × Slc)), vs = [.slice a (ofK s .scr scrO (T.take n)).length c, .int .i64 (n : Int)] ∧ n ≤ T.length ∧ Kept No w w' ∧ NmI w w' a (ofK s .scr scrO (T.take n)).length c (ofK s .scr scrO (T.take n)) es,
    fun vs _ => match vs with | [_, .int _ i] => ((T.length : Int) - i).toNat | _ => 0, ⟨0, none, 0, [], rfl, Nat.zero_le _, Kept.refl _ _, NmI.nil w⟩, ?_⟩
  rintro _ a4 l4 c4 n5 w1 ⟨n, a, c, es, hv, hn, hk1, hI⟩
  simp only [List.cons.injEq, Value.slice.injEq, Value.int.injEq, true_and, and_true] at hv
  obtain ⟨⟨rfl, rfl, rfl⟩, rfl⟩ := hv
  have h1 := h.no hk1
  have hb1 := hB.b.keep hk1 fun e => e
  refine nnI ⟨_, _, _, hb1.at0 rfl, condP (fun hlt => ?_) (fun hge => ?_)⟩
  · have hnl : n < T.length := by omega
    have hmem := hB.pm.mem_iff.1 (List.getElem_mem hnl)
    have hcell : ∀ {w' : World}, Kept No w w' → ∃ q, ta = some q ∧ w'.cell? (q.add n) = some (pd (tl T[n].2)) := fun k =>
      slo_cell (hB.ts.keep k fun _ _ e => e) (by omega) (j := n) (v := pd (tl T[n].2)) (by rw [List.getElem?_map, List.getElem?_eq_getElem hnl]; rfl)
    obtain ⟨q, haq, hc⟩ := hcell hk1
    have e0 : Int.toNat (n : Int) = n := Int.toNat_natCast n
    rw [e0]
    have hr : 0 ≤ (n : Int) ∧ (n : Int) < ((T.length : Nat) : Int) := by omega
    have hob := h.nobT hmem
    have htb := (h.th _ hob).1
    rw [h.nn _ hmem] at htb
    have hO := h.ob _ hob
    have hsn := ofK_snoc s .scr scrO T hnl
    refine nnI ⟨_, _, _, hb1.at0 rfl, hr, nnE2 haq ⟨_, hc, nnI ?_⟩⟩
    have other : (s.objs T[n].2).kd ≠ .scr → inI ((n : Int) + 1) ∧ (∃ (n' : Nat) (a' : Option Addr) (c' : Nat) (es : List (ByteArray × Slc)), ([.slice a4 (ofK s .scr scrO (T.take n)).length c4, .int .i64 ((n : Int) + 1)] : List Value) = [.slice a' (ofK s .scr scrO (T.take n')).length c', .int .i64 (n' : Int)] ∧ n' ≤ T.length ∧ Kept No w w1 ∧ NmI w w1 a' (ofK s .scr scrO (T.take n')).length c' (ofK s .scr scrO (T.take n')) es) ∧ ((T.length : Int) - ((n : Int) + 1)).toNat < ((T.length : Int) - (n : Int)).toNat := fun hne => by
      rw [if_neg hne] at hsn
      exact ⟨⟨by omega, by omega⟩, ⟨n + 1, _, _, es, by rw [hsn]; rfl, by omega, hk1, by rw [hsn]; exact hI⟩, by omega⟩
    cases ho : s.objs T[n].2 with
    | file bs =>
      rw [ho] at htb
      exact ⟨_, (htb.keep hk1 fun e => e).at (i := 1) rfl, condFa2 (other (by rw [ho]; simp [AObj.kd]))⟩
    | pipe bs e0 e1 =>
      rw [ho] at htb
      exact ⟨_, (htb.keep hk1 fun e => e).at (i := 1) rfl, condFa2 (other (by rw [ho]; simp [AObj.kd]))⟩
    | term LL bs =>
      rw [ho] at htb hO
      rw [if_pos (by rw [ho]; rfl), ho] at hsn
      have hsn : ofK s .scr scrO (T.take (n + 1)) = ofK s .scr scrO (T.take n) ++ [(T[n].1, bs)] := hsn
      have hfl2 := hO.scrLen
      obtain ⟨la, ll, lc, fa, fl, fc, es0, hfb, _, _, hfo, _⟩ : RefT _ _ w (L.loc T[n].2) LL bs := hO
      have hfol := hfo.len
      refine ⟨_, (htb.keep hk1 fun e => e).at (i := 1) rfl, condTr2 ⟨fun wS => Kept No w wS, hk1.no (Kept.drew _ _), ?_⟩⟩
      intro w2
      have hk2 : Kept No w1 w2 := Kept.drew _ _
      have hz2 : w2.heap.size = w1.heap.size := rfl
      clear_value w2
      refine nnI ⟨_, _, _, fun wS hS => (hB.b.keep hS fun e => e).at0 rfl, hr, nnE2 haq ⟨_, fun wS hS => ?_, nnI ⟨_, fun wS hS => (htb.keep hS fun e => e).at0 rfl, nnI ⟨_, _, _, fun wS hS => (hB.b.keep hS fun e => e).at0 rfl, hr, nnE2 haq ⟨_, fun wS hS => ?_, nnI ⟨_, fun wS hS => (htb.keep hS fun e => e).at (i := 3) rfl, nnI ⟨_, _, _, fun wS hS => (hfb.keep hS fun e => e).at (i := 1) rfl, ?_⟩⟩⟩⟩⟩⟩⟩
      · obtain ⟨q', haq', hc'⟩ := hcell hS
        have hq : q' = q := by rw [haq] at haq'; cases haq'; rfl
        rw [← hq]; exact hc'
      · obtain ⟨q', haq', hc'⟩ := hcell hS
        have hq : q' = q := by rw [haq] at haq'; cases haq'; rfl
        rw [← hq]; exact hc'
      obtain ⟨a29, c29, w3, hrun3, hk3, hd3⟩ := app_nil_ok (hfo.rd.keep (hk1.no hk2) fun _ _ _ e => e) (by omega)
      refine ⟨a29, fl, c29, w3, hrun3, (hk1.no hk2).no hk3, ?_⟩
      intro w4
      have hb4 : Blk w4 w3.heap.size #[.string T[n].1, .slice a29 fl c29] := Blk.alloc _ _ _
      have hk4 : Kept No w3 w4 := Kept.alloc _ _ _
      have hz4 : w4.heap.size = w3.heap.size + 1 := by simp [w4]
      clear_value w4
      have hol := ofK_len s .scr scrO (T.take n)
      rw [List.length_take] at hol
      obtain ⟨a6, c6, w6, hrun6, hI6, hk6⟩ := (hI.no hk2).snoc (by have := (hk1.no hk2).size; omega) hk3 (s := (a29, fl, c29)) hd3 hb4 hk4 hz4 (by omega)
      have kf : Kept No w w6 := (((hk1.no hk2).no hk3).no hk4).fresh hk6 hI.fr
      exact ⟨a6, _, c6, w6, hrun6, ⟨by omega, by omega⟩, ⟨n + 1, a6, c6, _, by rw [hsn, List.length_append]; rfl, by omega, kf, by rw [hsn, List.length_append]; exact hI6⟩, by show ((T.length : Int) - ((n : Int) + 1)).toNat < ((T.length : Int) - (n : Int)).toNat; omega⟩
  · have : n = T.length := by omega
    subst this
    rw [List.take_length] at hI ⊢
    exact ⟨_, _, es, rfl, hI, hk1⟩

end Go.Proofs.YtpoaacnnhgebfaaGreat

namespace Go.Proofs.YtpoaacnnhgebfaaGreat
open Go.Lw

theorem qmay_ok {w : World} (f : Int × Int) : CallR Tryz.prog 158 [.agg #[.int .i64 f.1, .int .i64 f.2]] w fun v w' => v = .bool (decide (mayP f)) ∧ Kept No w w' := by
  refine C158 ?_
  unfold L158
  intro w1
  have hb : Blk w1 w.heap.size #[.int .i64 f.1, .int .i64 f.2] := Blk.alloc _ _ _
  have hk : Kept No w w1 := Kept.alloc _ _ _
  clear_value w1
  have c0 : ∀ {b : Bool}, (b = decide (mayP f)) → (Value.bool b = .bool (decide (mayP f)) ∧ Kept No w w1) := fun h => ⟨by rw [h], hk⟩
  refine ⟨_, (hb.cell 0).trans rfl, condI (fun h1 => ⟨_, (hb.cell 1).trans rfl, condP (fun h2 => ⟨_, (hb.cell 1).trans rfl, c0 ?_⟩) (fun h2 => c0 ?_)⟩) (fun h1 => ⟨_, (hb.cell 0).trans rfl, condP (fun h2 => ⟨_, (hb.cell 0).trans rfl, condP (fun h3 => ⟨_, (hb.cell 1).trans rfl, c0 ?_⟩) (fun h3 => c0 ?_)⟩) (fun h2 => c0 ?_)⟩)⟩
  · have h1 : f.1 = 1 := by simpa using h1
    rw [decide_eq_decide]; unfold mayP; omega
  · have h1 : f.1 = 1 := by simpa using h1
    symm; rw [decide_eq_false_iff_not]; unfold mayP; omega
  · have h1 : f.1 ≠ 1 := by simpa using h1
    rw [show (f.2 == 0) = decide (f.2 = 0) from rfl, decide_eq_decide]; unfold mayP; omega
  · have h1 : f.1 ≠ 1 := by simpa using h1
    symm; rw [decide_eq_false_iff_not]; unfold mayP; omega
  · have h1 : f.1 ≠ 1 := by simpa using h1
    symm; rw [decide_eq_false_iff_not]; unfold mayP; omega

theorem qcheck_ok {w : World} {a : Option Addr} {l c : Nat} {fs : List (Int × Int)} (h : RdS 2 w a l c (Fv fs)) :
    CallR Tryz.prog 59 [.slice a l c] w fun v w' => (∃ n, v = .tuple #[.int .i64 (ckF fs), .int .i64 n]) ∧ Kept No w w' := by
  refine C59 ?_
  unfold L59
  have hlen : fs.length = l := by have := h.1; rw [Fv_len] at this; omega
  refine condP (fun hlt => ⟨⟨_, by unfold ckF; rw [if_pos (by omega)]⟩, Kept.refl _ _⟩) (fun hge => ?_)
  refine ⟨fun vs w' => ∃ n : Nat, vs = [.int .i64 (n : Int)] ∧ n ≤ l ∧ Kept No w w' ∧ (∀ j, (hj : j < n) → (hl : j < fs.length) → mayP fs[j]), fun vs _ => l - ix vs, ⟨0, rfl, Nat.zero_le _, Kept.refl _ _, fun j hj => by omega⟩, ?_⟩
  rintro _ n4 w1 ⟨n, hv, hn, hk, hall⟩
  simp only [List.cons.injEq, Value.int.injEq, true_and, and_true] at hv
  subst hv
  refine condP (fun hlt => ?_) (fun hge2 => ?_)
  · have hn' : n < fs.length := by omega
    obtain ⟨e1, e2⟩ := Fv_at hn'
    have h1 := h.keep hk (fun _ _ _ e => e)
    cases ha : a with
    | none => have := RdS.isNone h ha; omega
    | some q =>
      have c1 := h1.2.2.2 q ha _ _ e1
      have c2 := h1.2.2.2 q ha _ _ e2
      rw [← Lw.add_add] at c2
      have e0 : Int.toNat (n : Int) = n := Int.toNat_natCast n
      rw [e0]
      refine ⟨⟨by omega, by omega⟩, nnI ⟨fs[n].1, fs[n].2, c1, c2, CallR.mono (qmay_ok fs[n]) ?_⟩⟩
      rintro v w2 ⟨rfl, hk2⟩
      refine ⟨_, rfl, condI (fun hb => ?_) (fun hb => ?_)⟩
      · have hb : ¬ mayP fs[n] := by simpa using hb
        have : badF fs = some n := by
          unfold badF
          rw [List.findIdx?_eq_some_iff_getElem]
          exact ⟨hn', by simp [hb], fun j hj => by simp [hall j hj (by omega)]⟩
        exact ⟨⟨_, by unfold ckF; rw [if_neg (by omega), this, if_neg (by simp)]⟩, hk.no hk2⟩
      · have hb : mayP fs[n] := by simpa using hb
        refine ⟨⟨by omega, by omega⟩, ⟨n + 1, by simp, by omega, hk.no hk2, fun j hj hl => ?_⟩, by simp only [ix]; omega⟩
        by_cases e : j = n
        · subst e; exact hb
        · exact hall j (by omega) hl
  · exact ⟨⟨_, by unfold ckF; rw [if_neg (by omega), (ixF_none (fun j hj => hall j (by omega) hj)).2, if_pos rfl]⟩, hk⟩

theorem Sv_at {ss : List ByteArray} {i : Nat} (h : i < ss.length) : (Sv ss)[i]? = some (.string ss[i]) := by
  unfold Sv; rw [List.getElem?_map, List.getElem?_eq_getElem h]; rfl

theorem phas_to {w : World} {a : Option Addr} {l c : Nat} {ss : List ByteArray} (h : RdS 1 w a l c (Sv ss)) (hl : l ≤ 1000) (s : ByteArray) {Q : Value → World → Prop} (hq : Q (.bool (decide (s ∈ ss))) w) : CallR Tryz.prog 57 [.slice a l c, .string s] w Q := by
  refine C57 ?_
  unfold L57
  have hlen : ss.length = l := by have := h.1; rw [Sv_len] at this; omega
  refine ⟨fun vs w' => ∃ n : Nat, vs = [.int .i64 (n : Int)] ∧ n ≤ l ∧ w' = w ∧ (∀ j, (hj : j < n) → (hl : j < ss.length) → ss[j] ≠ s), fun vs _ => l - ix vs, ⟨0, rfl, Nat.zero_le _, rfl, fun j hj => by omega⟩, ?_⟩
  rintro _ n5 w1 ⟨n, hv, hn, rfl, hall⟩
  simp only [List.cons.injEq, Value.int.injEq, true_and, and_true] at hv
  subst hv
  refine condP (fun hlt => ?_) (fun hge => ?_)
  · have hn' : n < ss.length := by omega
    cases ha : a with
    | none => have := RdS.isNone h ha; omega
    | some q =>
      have c1 := h.2.2.2 q ha _ _ (Sv_at hn')
      have e0 : Int.toNat (n : Int) = n := Int.toNat_natCast n
      rw [e0]
      refine ⟨⟨by omega, by omega⟩, nnI ⟨_, c1, ?_⟩⟩
      rw [strEq]
      refine condP (fun e => ?_) (fun e => ⟨⟨by omega, by omega⟩, ⟨n + 1, rfl, by omega, rfl, fun j hj hl => ?_⟩, by simp only [ix]; omega⟩)
      · rw [decide_eq_true (by rw [← e]; exact List.getElem_mem hn')] at hq; exact hq
      · by_cases e2 : j = n
        · subst e2; exact e
        · exact hall j (by omega) hl
  · rw [decide_eq_false] at hq
    · exact hq
    · intro hm
      obtain ⟨j, hj, e⟩ := List.mem_iff_getElem.1 hm
      exact hall j (by omega) hj e

theorem freshK_61 {seen : List ByteArray} {s : ByteArray} (h : namedS s = false) : freshK seen s = 61 := by unfold freshK; rw [if_pos h]
theorem freshK_6 {seen : List ByteArray} {s : ByteArray} (h : ¬ namedS s = false) (hm : s ∈ seen) : freshK seen s = 6 := by unfold freshK; rw [if_neg h, if_pos hm]
theorem freshK_0 {seen : List ByteArray} {s : ByteArray} (h : ¬ namedS s = false) (hm : ¬ s ∈ seen) : freshK seen s = 0 := by unfold freshK; rw [if_neg h, if_neg hm]

/-- A name more. -/
theorem seen_app {w0 w w1 : World} {a : Option Addr} {l c : Nat} {seen : List ByteArray} (h : SlO 1 w a l c (Sv seen)) (hf : Fresh w0 a) (k0 : w0.heap.size ≤ w.heap.size) {s : ByteArray} (hb : Blk w1 w.heap.size #[.string s]) (k1 : Kept No w w1) (hl : l ≤ 1000) :
    ∃ a' c' w', Sem.run Tryz.prog (Builtin.append_ #[131, 131] 131 #[.slice a l c, .slice (some (Addr.mk w.heap.size 0 none)) 1 1]) w1 = .ok (.slice a' (l + 1) c') w' ∧ SlO 1 w' a' (l + 1) c' (Sv (seen ++ [s])) ∧ Kept (inA a) w1 w' ∧ Fresh w0 a' := by
  have ht : SlO 1 w1 (some ⟨w.heap.size, 0, none⟩) 1 1 (Sv [s]) := SlO.of_blk (sz := 1) (n := 1) hb rfl
  obtain ⟨a', c', w', hrun, hs, hk, hat, _⟩ := run_app_sl (P := Tryz.prog) (t := 131) (t2 := 131) (ty := 131) (by kernel_rfl : slTyB Tryz.prog 131 1 16 = true) (by kernel_rfl) (h.keep k1 fun _ _ e => e) ht.rd (Sv_one _) (by omega) (by omega)
  refine ⟨a', c', w', hrun, ?_, hk, fun z hz => ?_⟩
  · have : Sv (seen ++ [s]) = Sv seen ++ Sv [s] := by simp [Sv]
    rw [this]; exact hs
  · rcases hat.in hz with e | e
    · exact hf z e
    · have := k1.size; omega

set_option maxHeartbeats 2000000 in
theorem pcheck_ok {w : World} {af : Option Addr} {lf cf : Nat} {fs : List (ByteArray × List Int)} {ef : List (ByteArray × Slc)} (hf : RdN RB w af lf cf fs ef) {at_ : Option Addr} {lt ct : Nat} {ts : List (ByteArray × List (List Int))} {et : List (ByteArray × Slc)} (ht : RdN RL w at_ lt ct ts et)
    {ap : Option Addr} {lp cp : Nat} {ps : List (Int × Int)} (hp : RdS 2 w ap lp cp (Fv ps)) (hlf : lf ≤ 140737488355328) (hlt : lt ≤ 140737488355328) :
    CallR Tryz.prog 9 [.slice af lf cf, .slice at_ lt ct, .slice ap lp cp] w fun v w' => v = .int .i64 (checkK fs ts ps) ∧ Kept No w w' := by
  refine C9 ?_
  unfold L9
  have hfl : fs.length = lf := by have := hf.rd.1; rw [Nv_len, hf.len] at this; omega
  have htl : ts.length = lt := by have := ht.rd.1; rw [Nv_len, ht.len] at this; omega
  refine ⟨⟨by omega, by omega⟩, condP (fun hgt => ⟨by unfold checkK; rw [if_pos (by omega)], Kept.refl _ _⟩) (fun hle => ?_)⟩
  have nok : checkK fs ts ps = if (ckFs fs []).1 ≠ 0 then (ckFs fs []).1 else if (ckTs ts (ckFs fs []).2).1 ≠ 0 then (ckTs ts (ckFs fs []).2).1 else ckF ps := by unfold checkK; rw [if_neg (by omega)]
  rw [nok]
  refine ⟨fun vs w' => ∃ (i : Nat) (seen : List ByteArray) (a : Option Addr) (c : Nat), vs = [.slice a seen.length c, .int .i64 (i : Int)] ∧ i ≤ lf ∧ seen.length = i ∧ ckFs fs [] = ckFs (fs.drop i) seen ∧ SlO 1 w' a seen.length c (Sv seen) ∧ Fresh w a ∧ Kept No w w',
    fun vs _ => match vs with | [_, .int _ i] => ((lf : Int) - i).toNat | _ => 0, ⟨0, [], none, 0, rfl, by omega, rfl, rfl, SlO.nil 1 w, Fresh.none w, Kept.refl _ _⟩, ?_⟩
  rintro _ a6 l6 c6 n7 w1 ⟨i, seen, a, c, hv, hi, hsl, hck, hs, hfr, hk1⟩
  simp only [List.cons.injEq, Value.slice.injEq, Value.int.injEq, true_and, and_true] at hv
  obtain ⟨⟨rfl, rfl, rfl⟩, rfl⟩ := hv
  have e0 : Int.toNat (i : Int) = i := Int.toNat_natCast i
  refine condP (fun hlt1 => ?_) (fun hge1 => ?_)
  · have hi' : i < fs.length := by omega
    obtain ⟨q, sl, haq, e1, e2, hR, _⟩ := (hf.no (fun _ _ _ _ h k => h.no k) hk1).at hi'
    rw [List.drop_eq_getElem_cons hi', ckFs_cons] at hck
    have hr : 0 ≤ (i : Int) ∧ (i : Int) < ((lf : Nat) : Int) := by omega
    rw [e0]
    refine ⟨hr, nnE2 haq ⟨_, e1, pnamed_ok _ ⟨_, rfl, condI (fun hb => ?_) (fun hb => ?_)⟩⟩⟩
    · have hb : namedS fs[i].1 = false := by simpa using hb
      rw [freshK_61 hb, if_pos (by simp)] at hck
      rw [hck]
      exact ⟨rfl, hk1⟩
    have hb : ¬ namedS fs[i].1 = false := by simpa using hb
    refine ⟨hr, nnE2 haq ⟨_, e1, phas_to hs.rd (by omega) _ ⟨_, rfl, condP (fun hm => ?_) (fun hm => ?_)⟩⟩⟩
    · rw [freshK_6 hb hm, if_pos (by simp)] at hck
      rw [hck]
      exact ⟨rfl, hk1⟩
    rw [freshK_0 hb hm, if_neg (by simp)] at hck
    have hRl := RdB.len hR
    refine ⟨hr, nnE2 haq ⟨_, _, _, e2, condP (fun hbig => ?_) (fun hsm => ⟨hr, nnE2 haq ⟨_, e1, ?_⟩⟩)⟩⟩
    · rw [if_pos (by omega)] at hck
      rw [hck]
      exact ⟨rfl, hk1⟩
    rw [if_neg (by omega)] at hck
    intro w4
    have hb4 : Blk w4 w1.heap.size #[.string fs[i].1] := Blk.alloc _ _ _
    have hk4 : Kept No w1 w4 := Kept.alloc _ _ _
    clear_value w4
    obtain ⟨a', c', w5, hrun, hs5, hk5, hf5⟩ := seen_app hs hfr hk1.size hb4 hk4 (by omega)
    exact ⟨a', _, c', w5, hrun, ⟨by omega, by omega⟩, ⟨i + 1, seen ++ [fs[i].1], a', c', by rw [List.length_append]; rfl, by omega, by rw [List.length_append]; simp; omega, hck, by rw [List.length_append]; exact hs5, hf5, (hk1.no hk4).fresh hk5 hfr⟩, by show ((lf : Int) - ((i : Int) + 1)).toNat < ((lf : Int) - (i : Int)).toNat; omega⟩
  have hif : i = lf := by omega
  rw [List.drop_of_length_le (by omega)] at hck
  have hck : ckFs fs [] = (0, seen) := hck
  rw [hck]
  dsimp only
  rw [if_neg (by simp)]
  have hseen0 : seen.length ≤ 256 := by omega
  clear nok hck hf
  refine ⟨fun vs w' => ∃ (j : Nat) (seen2 : List ByteArray) (a : Option Addr) (c : Nat), vs = [.slice a seen2.length c, .int .i64 (j : Int)] ∧ j ≤ lt ∧ seen2.length = lf + j ∧ ckTs ts seen = ckTs (ts.drop j) seen2 ∧ SlO 1 w' a seen2.length c (Sv seen2) ∧ Fresh w a ∧ Kept No w w',
    fun vs _ => match vs with | [_, .int _ i] => ((lt : Int) - i).toNat | _ => 0, ⟨0, seen, _, _, rfl, by omega, by omega, rfl, hs, hfr, hk1⟩, ?_⟩
  clear hs hfr hk1 e0
  rintro _ a23 l23 c23 n24 w6 ⟨j, seen2, a, c, hv, hj, hsl2, hck2, hs, hfr, hk1⟩
  simp only [List.cons.injEq, Value.slice.injEq, Value.int.injEq, true_and, and_true] at hv
  obtain ⟨⟨rfl, rfl, rfl⟩, rfl⟩ := hv
  have e0 : Int.toNat (j : Int) = j := Int.toNat_natCast j
  refine condP (fun hlt1 => ?_) (fun hge1 => ?_)
  · have hj' : j < ts.length := by omega
    obtain ⟨q, sl, haq, e1, e2, hR, _⟩ := (ht.no (fun _ _ _ _ h k => h.no k) hk1).at hj'
    rw [List.drop_eq_getElem_cons hj', ckTs_cons] at hck2
    have hr : 0 ≤ (j : Int) ∧ (j : Int) < ((lt : Nat) : Int) := by omega
    rw [e0]
    refine ⟨hr, nnE2 haq ⟨_, e1, pnamed_ok _ ⟨_, rfl, condI (fun hb => ?_) (fun hb => ?_)⟩⟩⟩
    · have hb : namedS ts[j].1 = false := by simpa using hb
      rw [freshK_61 hb, if_pos (by simp)] at hck2
      rw [hck2]
      exact ⟨rfl, hk1⟩
    have hb : ¬ namedS ts[j].1 = false := by simpa using hb
    refine ⟨hr, nnE2 haq ⟨_, e1, phas_to hs.rd (by omega) _ ⟨_, rfl, condP (fun hm => ?_) (fun hm => ?_)⟩⟩⟩
    · rw [freshK_6 hb hm, if_pos (by simp)] at hck2
      rw [hck2]
      exact ⟨rfl, hk1⟩
    rw [freshK_0 hb hm, if_neg (by simp)] at hck2
    refine ⟨hr, nnE2 haq ⟨_, _, _, e2, CallR.mono (rcheck_ok hR.1) ?_⟩⟩
    rintro v w9 ⟨rfl, rfl⟩
    refine ⟨_, rfl, condN (fun hne => ?_) (fun heq => ⟨hr, nnE2 haq ⟨_, e1, ?_⟩⟩)⟩
    · rw [if_pos hne] at hck2
      rw [hck2, if_pos hne]
      exact ⟨rfl, hk1⟩
    rw [if_neg (by simpa using heq)] at hck2
    generalize hw10 : World.alloc w9 _ = w10
    have hb4 : Blk w10 w9.heap.size #[.string ts[j].1] := by rw [← hw10]; exact Blk.alloc _ _ _
    have hk4 : Kept No w9 w10 := by rw [← hw10]; exact Kept.alloc _ _ _
    clear hw10
    obtain ⟨a', c', w11, hrun, hs5, hk5, hf5⟩ := seen_app hs hfr hk1.size hb4 hk4 (by omega)
    exact ⟨a', _, c', w11, hrun, ⟨by omega, by omega⟩, ⟨j + 1, seen2 ++ [ts[j].1], a', c', by rw [List.length_append]; rfl, by omega, by rw [List.length_append]; simp; omega, hck2, by rw [List.length_append]; exact hs5, hf5, (hk1.no hk4).fresh hk5 hfr⟩, by show ((lt : Int) - ((j : Int) + 1)).toNat < ((lt : Int) - (j : Int)).toNat; omega⟩
  rw [List.drop_of_length_le (by omega)] at hck2
  have hck2 : ckTs ts seen = (0, seen2) := hck2
  rw [hck2, if_neg (by simp)]
  refine CallR.mono (qcheck_ok (hp.keep hk1 fun _ _ _ e => e)) ?_
  rintro v w12 ⟨⟨n, rfl⟩, hk12⟩
  exact ⟨_, _, rfl, rfl, hk1.no hk12⟩

end Go.Proofs.YtpoaacnnhgebfaaGreat

namespace Go.Proofs.YtpoaacnnhgebfaaGreat
open Go.Lw

open Classical in
noncomputable def KL.pg0 (pk pg : Nat) (a : Option Addr) : KL :=
  { own := fun z => if z = pk then some .kern else if z = pg then some .plan else if inA a z then some .flts else none, loc := fun _ => 0, dloc := fun _ => 0, rf := 0, rt := 0, rd := 0, pg := pg }

theorem page0 {w : World} {pk pg : Nat} {a : Option Addr} {l c : Nat} {ps : List (Int × Int)} (hb : Blk w pk #[.slice none 0 0, .slice none 0 0, .int .i64 1, pd pg, .int .i64 0, .int .i64 0]) (hp : Blk w pg #[.slice a l c]) (hs : SlO 2 w a l c (Fv ps)) (h1 : pk ≠ pg) (h2 : ∀ b, inA a b → b ≠ pk ∧ b ≠ pg) (hl : ps.length ≤ 4096) (hm : ∀ p ∈ ps, mayP p) :
    PagO w pk (AK.empty ps) (KL.pg0 pk pg a) (fun _ => 0) (fun _ => ByteArray.mk #[]) ∧ ∀ z, (KL.pg0 pk pg a).own z ≠ none → z = pk ∨ z = pg ∨ inA a z := by
  have hsome : ∀ z, (KL.pg0 pk pg a).own z ≠ none → z = pk ∨ z = pg ∨ inA a z := by
    intro z hz
    unfold KL.pg0 at hz
    dsimp only at hz
    by_cases e1 : z = pk
    · exact .inl e1
    rw [if_neg e1] at hz
    by_cases e2 : z = pg
    · exact .inr (.inl e2)
    rw [if_neg e2] at hz
    by_cases e3 : inA a z
    · exact .inr (.inr e3)
    · rw [if_neg e3] at hz; exact absurd rfl hz
  refine ⟨⟨⟨[], none, 0, none, 0, hb, SlO.nil 1 w, (fun b e => absurd e (inA_none b)), SlO.nil 1 w, (fun b e => absurd e (inA_none b)), List.Perm.refl _, List.Pairwise.nil⟩, (fun i hi => by cases hi), (fun f hf => by cases hf), (fun i hi => by cases hi), (fun d hd => by cases hd), ⟨a, l, c, hp, hs.rd, fun b hb' => ?_⟩, if_pos rfl, ?_, (fun d hd => by cases hd), fun z hz => ?_, AK.ok_empty hl hm⟩, hsome⟩
  · obtain ⟨e1, e2⟩ := h2 b hb'
    unfold KL.pg0
    dsimp only
    rw [if_neg e1, if_neg e2, if_pos hb']
  · unfold KL.pg0
    dsimp only
    rw [if_neg (Ne.symm h1), if_pos rfl]
  · rcases hsome z hz with rfl | rfl | e
    · exact hb.lt
    · exact hp.lt
    · exact SlO.lt hs z e

set_option maxHeartbeats 2000000 in
theorem pnew_ok {W w : World} (k0 : Kept No W w) {af : Option Addr} {lf cf : Nat} {fs : List (ByteArray × List Int)} {ef : List (ByteArray × Slc)} (hf : RdN RB W af lf cf fs ef) {at_ : Option Addr} {lt ct : Nat} {ts : List (ByteArray × List (List Int))} {et : List (ByteArray × Slc)} (ht : RdN RL W at_ lt ct ts et)
    {ap : Option Addr} {lp cp : Nat} {ps : List (Int × Int)} (hp : SlO 2 w ap lp cp (Fv ps)) (hck : AK.CkOk fs ts ps) (hlf : lf ≤ 140737488355328) (hlt : lt ≤ 140737488355328) (hpB : ∀ b, inA ap b → W.heap.size ≤ b) :
    CallR Tryz.prog 60 [.slice af lf cf, .slice at_ lt ct, .slice ap lp cp] w fun v w' => ∃ pk L tl nm, v = pd pk ∧ PagO w' pk (AK.new fs ts ps) L tl nm ∧ (∀ z, L.own z ≠ none → W.heap.size ≤ z) ∧ Kept No W w' := by
  refine C60 ?_
  unfold L60
  have hfl : fs.length = lf := by have := hf.rd.1; rw [Nv_len, hf.len] at this; omega
  have htl : ts.length = lt := by have := ht.rd.1; rw [Nv_len, ht.len] at this; omega
  intro w1 w2
  have hp1 : Blk w1 w.heap.size #[.slice ap lp cp] := Blk.alloc _ _ _
  have hk1 : Kept No w w1 := Kept.alloc _ _ _
  have hz1 : w1.heap.size = w.heap.size + 1 := by simp [w1]
  have hb2 : Blk w2 w1.heap.size #[.slice none 0 0, .slice none 0 0, .int .i64 1, pd w.heap.size, .int .i64 0, .int .i64 0] := Blk.alloc _ _ _
  have hk2 : Kept No w1 w2 := Kept.alloc _ _ _
  clear_value w2
  clear_value w1
  have k2 := hk1.no hk2
  have k02 := k0.no k2
  have hplt := SlO.lt hp
  have hz0 := k0.size
  obtain ⟨hP2, hown⟩ := page0 (ps := ps) hb2 (hp1.keep hk2 fun e => e) (hp.keep k2 fun _ _ e => e) (by omega) (fun b hb => by have := hplt b hb; omega) hck.pl hck.pm
  have hown : ∀ z, (KL.pg0 w1.heap.size w.heap.size ap).own z ≠ none → W.heap.size ≤ z := fun z hz => by
    rcases hown z hz with e | e | e
    · omega
    · omega
    · exact hpB z e
  generalize KL.pg0 w1.heap.size w.heap.size ap = L0 at hP2 hown
  obtain ⟨pk, hpk⟩ : ∃ pk, pk = w1.heap.size := ⟨_, rfl⟩
  rw [← hpk] at hP2 ⊢
  have fin : ∀ {w' : World} {L' : KL}, KStep w2 w' L0 L' → (∀ z, L'.own z ≠ none → W.heap.size ≤ z) ∧ Kept No W w' := by
    intro w' L' st
    refine ⟨fun z hz => ?_, k02.trans st.kept fun x hx e => by have := hown x e; omega⟩
    rcases st.grew z hz with e | e
    · exact hown z e
    · have := k02.size; omega
  refine ⟨fun vs w' => ∃ (i : Nat) (L' : KL) (tl : Nat → Nat) (nm : Nat → ByteArray), vs = [.int .i64 (i : Int)] ∧ i ≤ lf ∧ PagO w' pk (AK.withF (fs.take i) (AK.empty ps)) L' tl nm ∧ KStep w2 w' L0 L',
    fun vs _ => lf - ix vs, ⟨0, L0, _, _, rfl, by omega, hP2, KStep.refl _ _⟩, ?_⟩
  rintro _ n6 w3 ⟨i, L3, tl, nm, hvs, hi, h3, st3⟩
  simp only [List.cons.injEq, Value.int.injEq, true_and, and_true] at hvs
  subst hvs
  obtain ⟨hge3, k3⟩ := fin st3
  refine condP (fun hlt1 => ?_) (fun hge => ?_)
  · have hi' : i < fs.length := by omega
    obtain ⟨q, sl, haq, e1, e2, hR, _⟩ := (hf.no (fun _ _ _ _ h k => h.no k) k3).at hi'
    have e0 : Int.toNat (i : Int) = i := Int.toNat_natCast i
    rw [e0]
    have hr : 0 ≤ (i : Int) ∧ (i : Int) < ((lf : Nat) : Int) := by omega
    have hfl2 := (hck.fs fs[i] (List.getElem_mem hi')).2
    have hsl : fs[i].2.length = sl.2.1 := RdB.len hR
    refine ⟨hr, nnE2 haq ⟨_, _, _, e2, CallR.mono (rnew_ok hR (by omega)) ?_⟩⟩
    rintro v w4 (⟨hbig, _⟩ | ⟨_, b, F, rfl, hO, hk4, hF⟩)
    · omega
    refine ⟨_, _, rfl, hr, nnE2 haq ⟨_, hk4.cell e1 fun e => e, ?_⟩⟩
    intro w5
    have ht5 : Blk w5 w4.heap.size (thC fs[i].1 .disk b) := Blk.alloc _ _ _
    have hk5 : Kept No w4 w5 := Kept.alloc _ _ _
    clear_value w5
    have hFlt := hO.lt
    have hz4 := hk4.size
    obtain ⟨L5, p5, st5⟩ := h3.newO (hk4.no hk5) (o := .file fs[i].2) (name := fs[i].1) (R := fun _ => False) (RefO.keep hO hk5 fun _ _ e => e : PObjF F (fun _ => False) w5 b (.file fs[i].2)) hF (fun z e => e.elim) ht5 (by omega) (fun e => by have := hFlt _ e; omega) (fun e => e)
    obtain ⟨q1, q2, q3⟩ := AK.withF_ok_next hck hi'
    have hT : fs.take (i + 1) = fs.take i ++ [fs[i]] := by rw [List.take_add_one, List.getElem?_eq_getElem hi']; rfl
    generalize hs0 : AK.withF (fs.take i) (AK.empty ps) = s0 at h3 p5 q1 q2 q3
    have hok1 := h3.ok.addF (nm := fs[i].1) (o := .file fs[i].2) rfl q1 q2 q3
    have hnmn : (if s0.nob = s0.nob then fs[i].1 else nm s0.nob) = fs[i].1 := if_pos rfl
    have htln : (if s0.nob = s0.nob then w4.heap.size else tl s0.nob) = w4.heap.size := if_pos rfl
    have hadd := padd_ok p5 (i := s0.nob) (by show s0.nob < s0.nob + 1; omega) (by show s0.files.length + s0.terms.length < 256; omega) (fs' := s0.files ++ [(fs[i].1, s0.nob)]) (ts' := s0.terms) (by
      show ((s0.files ++ s0.terms) ++ [(if s0.nob = s0.nob then fs[i].1 else nm s0.nob, s0.nob)]).Perm _
      rw [hnmn, List.append_assoc, List.append_assoc]
      exact List.Perm.append_left _ (List.perm_append_comm)) hok1
    rw [htln] at hadd
    refine CallR.mono hadd ?_
    rintro v w6 ⟨rfl, L6, p6, st6⟩
    have heq : AK.withF (fs.take (i + 1)) (AK.empty ps) = s0.addF fs[i].1 (.file fs[i].2) := by rw [hT, AK.withF_snoc, hs0]
    have p6' : PagO w6 pk (s0.addF fs[i].1 (.file fs[i].2)) L6 (fun j => if j = s0.nob then w4.heap.size else tl j) (fun j => if j = s0.nob then fs[i].1 else nm j) := p6
    rw [← heq] at p6'
    exact ⟨rfl, ⟨by omega, by omega⟩, ⟨i + 1, L6, _, _, rfl, by omega, p6', (st3.trans st5).trans st6⟩, by simp only [ix]; omega⟩
  have hil : i = fs.length := by omega
  rw [List.take_of_length_le (by omega)] at h3
  refine ⟨fun vs w' => ∃ (j : Nat) (L' : KL) (tl : Nat → Nat) (nm : Nat → ByteArray), vs = [.int .i64 (j : Int)] ∧ j ≤ lt ∧ PagO w' pk (AK.withT (ts.take j) (AK.withF fs (AK.empty ps))) L' tl nm ∧ KStep w2 w' L0 L',
    fun vs _ => lt - ix vs, ⟨0, L3, _, _, rfl, by omega, h3, st3⟩, ?_⟩
  clear h3 st3 hge3 k3 hlf
  rintro _ n17 w7 ⟨j, L7, tl, nm, hvs, hj, h7, st7⟩
  simp only [List.cons.injEq, Value.int.injEq, true_and, and_true] at hvs
  subst hvs
  obtain ⟨hge7, k7⟩ := fin st7
  refine condP (fun hlt1 => ?_) (fun hge2 => ?_)
  · have hj' : j < ts.length := by omega
    obtain ⟨q, sl, haq, e1, e2, hR, _⟩ := (ht.no (fun _ _ _ _ h k => h.no k) k7).at hj'
    have e0 : Int.toNat (j : Int) = j := Int.toNat_natCast j
    rw [e0]
    have hr : 0 ≤ (j : Int) ∧ (j : Int) < ((lt : Nat) : Int) := by omega
    refine ⟨hr, nnE2 haq ⟨_, _, _, e2, CallR.mono (rnewT_ok hR.1 hR.2) ?_⟩⟩
    rintro v w8 ⟨hk8, ⟨hbad, _⟩ | ⟨_, b, F, R, rfl, hO, hFR⟩⟩
    · exact absurd (hck.ts ts[j] (List.getElem_mem hj')).2 hbad
    refine ⟨_, _, rfl, hr, nnE2 haq ⟨_, hk8.cell e1 fun e => e, ?_⟩⟩
    intro w9
    have ht9 : Blk w9 w8.heap.size (thC ts[j].1 .scr b) := Blk.alloc _ _ _
    have hk9 : Kept No w8 w9 := Kept.alloc _ _ _
    have hz9 : w9.heap.size = w8.heap.size + 1 := by simp [w9]
    clear_value w9
    have hOlt := hO.lt
    have hz8 := hk8.size
    have hdis : ∀ z, R z → ¬ F z := by
      obtain ⟨la, ll, lc, sa, sl', sc, es, _, _, _, _, _, _, _, _, _, hRF, _⟩ := hO
      exact hRF
    obtain ⟨L9, p9, st9⟩ := h7.newO (hk8.no hk9) (o := .term ts[j].2 []) (name := ts[j].1) (RefT.keep hO hk9 (fun _ _ e => e) (fun _ _ e => e) : PObjF F R w9 b (.term ts[j].2 [])) (fun z hz => hFR z (.inl hz)) (fun z hz => ⟨hFR z (.inr hz), by have := hOlt z (.inr hz); omega, hdis z hz⟩) ht9 (by omega) (fun e => by have := hOlt _ (.inl e); omega) (fun e => by have := hOlt _ (.inr e); omega)
    obtain ⟨q1, q2, q3⟩ := AK.withT_ok_next hck hj'
    have hT : ts.take (j + 1) = ts.take j ++ [ts[j]] := by rw [List.take_add_one, List.getElem?_eq_getElem hj']; rfl
    generalize hs0 : AK.withT (ts.take j) (AK.withF fs (AK.empty ps)) = s0 at h7 p9 q1 q2 q3
    have hok1 := h7.ok.addT (nm := ts[j].1) (o := .term ts[j].2 []) rfl q1 q2 q3
    have hnmn : (if s0.nob = s0.nob then ts[j].1 else nm s0.nob) = ts[j].1 := if_pos rfl
    have htln : (if s0.nob = s0.nob then w8.heap.size else tl s0.nob) = w8.heap.size := if_pos rfl
    have hadd := padd_ok p9 (i := s0.nob) (by show s0.nob < s0.nob + 1; omega) (by show s0.files.length + s0.terms.length < 256; omega) (fs' := s0.files) (ts' := s0.terms ++ [(ts[j].1, s0.nob)]) (by
      show ((s0.files ++ s0.terms) ++ [(if s0.nob = s0.nob then ts[j].1 else nm s0.nob, s0.nob)]).Perm _
      rw [hnmn, List.append_assoc]) hok1
    rw [htln] at hadd
    refine CallR.mono hadd ?_
    rintro v w10 ⟨rfl, L10, p10, st10⟩
    have heq : AK.withT (ts.take (j + 1)) (AK.withF fs (AK.empty ps)) = s0.addT ts[j].1 (.term ts[j].2 []) := by rw [hT, AK.withT_snoc, hs0]
    have p10' : PagO w10 pk (s0.addT ts[j].1 (.term ts[j].2 [])) L10 (fun i => if i = s0.nob then w8.heap.size else tl i) (fun i => if i = s0.nob then ts[j].1 else nm i) := p10
    rw [← heq] at p10'
    exact ⟨rfl, ⟨by omega, by omega⟩, ⟨j + 1, L10, _, _, rfl, by omega, p10', (st7.trans st9).trans st10⟩, by simp only [ix]; omega⟩
  have hjl : j = ts.length := by omega
  rw [List.take_of_length_le (by omega)] at h7
  exact ⟨pk, L7, tl, nm, rfl, h7, hge7, k7⟩

end Go.Proofs.YtpoaacnnhgebfaaGreat

namespace Go.Proofs.YtpoaacnnhgebfaaGreat
open Go.Lw

theorem PInv.of {s s' : AK} (h : PInv s) (hd : ∀ y ∈ s'.descs, ∃ x ∈ s.descs, y.num = x.num ∧ y.ob = x.ob ∧ y.fl = x.fl) (ho : ∀ i bs e0 e1, s'.objs i = .pipe bs e0 e1 → ∃ bs', s.objs i = .pipe bs' e0 e1) : PInv s' := by
  refine ⟨fun y hy bs e0 e1 he => ?_, fun y hy z hz hob hk hfl => ?_⟩
  · obtain ⟨x, hx, e1', e2, e3⟩ := hd y hy
    obtain ⟨bs', hb⟩ := ho _ _ _ _ he
    rw [e2] at hb
    rw [e3]; exact h.en x hx _ _ _ hb
  · obtain ⟨x, hx, a1, a2, a3⟩ := hd y hy
    obtain ⟨u, hu, b1, b2, b3⟩ := hd z hz
    have hcon : (s.objs x.ob).kd = .con := by
      cases hs : s'.objs y.ob with
      | file bs => rw [hs] at hk; cases hk
      | term LL scr => rw [hs] at hk; cases hk
      | pipe bs e0 e1 =>
        obtain ⟨bs', hb⟩ := ho _ _ _ _ hs
        rw [← a2, hb]; rfl
    rw [a1, b1]
    exact h.un x hx u hu (by rw [← a2, ← b2]; exact hob) hcon (by rw [← a3, ← b3]; exact hfl)

theorem PInv.new (fs : List (ByteArray × List Int)) (ts : List (ByteArray × List (List Int))) (ps : List (Int × Int)) : PInv (AK.new fs ts ps) := by
  have hd : (AK.new fs ts ps).descs = [] := (AK.new_is _ _ _).2.2.1
  exact ⟨fun x hx => (by rw [hd] at hx; cases hx), fun x hx => (by rw [hd] at hx; cases hx)⟩

theorem setD_like {s : AK} {d a b : Int} : ∀ y ∈ (s.setD d a b).descs, ∃ x ∈ s.descs, y.num = x.num ∧ y.ob = x.ob ∧ y.fl = x.fl := by
  intro y hy
  obtain ⟨x, hx, ⟨_, rfl⟩ | ⟨_, rfl⟩⟩ := AK.setD_mem hy
  · exact ⟨x, hx, rfl, rfl, rfl⟩
  · exact ⟨y, hx, rfl, rfl, rfl⟩
theorem same_like (s : AK) : ∀ y ∈ s.descs, ∃ x ∈ s.descs, y.num = x.num ∧ y.ob = x.ob ∧ y.fl = x.fl := fun y hy => ⟨y, hy, rfl, rfl, rfl⟩

theorem PInv.setD {s : AK} (h : PInv s) (d a b : Int) : PInv (s.setD d a b) := h.of setD_like fun i bs e0 e1 he => ⟨bs, he⟩
theorem PInv.met0 {s : AK} (h : PInv s) : PInv s.met0 := h.of (same_like s) fun i bs e0 e1 he => ⟨bs, he⟩
theorem PInv.met1 {s : AK} (h : PInv s) : PInv s.met1 := h.of (same_like s) fun i bs e0 e1 he => ⟨bs, he⟩
theorem PInv.setO {s : AK} (h : PInv s) (i : Nat) {o : AObj} (ho : ∀ bs e0 e1, o = .pipe bs e0 e1 → ∃ bs', s.objs i = .pipe bs' e0 e1) : PInv (s.setO i o) := h.of (same_like s) fun j bs e0 e1 he => by
  have he : (if j = i then o else s.objs j) = .pipe bs e0 e1 := he
  by_cases e : j = i
  · rw [if_pos e] at he; rw [e]; exact ho _ _ _ he
  · rw [if_neg e] at he; exact ⟨bs, he⟩

theorem PInv.read {s : AK} (h : PInv s) (d n : Int) : PInv (s.read d n).2.2 := by
  rcases AK.read_cases s d n with ⟨e, _, hr⟩ | ⟨hr, _⟩ | ⟨x, hx, _, _, _, _, ⟨_, hr⟩ | ⟨_, hr⟩⟩
  · rw [hr]; exact h
  · rw [hr]; exact h
  · rw [hr]; exact h.met0
  · rw [hr]
    dsimp only
    unfold AK.rdO
    cases ho : s.met0.objs x.ob with
    | file bs => exact h.met0.setD _ _ _
    | term LL scr => exact h.met0.setO _ fun bs e0 e1 e => by cases e
    | pipe bs e0 e1 => exact h.met0.setO _ fun bs' f0 f1 e => by cases e; exact ⟨bs, ho⟩

theorem PInv.write {s : AK} (h : PInv s) (d : Int) (ds : List Int) : PInv (s.write d ds).2.2 := by
  unfold AK.write
  split
  · exact h
  split
  · exact h
  split
  · exact h
  split
  · exact h
  · rename_i x _
    split
    · exact h
    split
    · exact h.met1
    · dsimp only
      generalize min (metF s.ps ds.length).1 (s.roomO x ds.length).1 = m
      unfold AK.wrO
      cases ho : s.met1.objs x.ob with
      | file bs => exact (h.met1.setO _ fun bs' e0 e1 e => by cases e).setD _ _ _
      | term LL scr => exact h.met1.setO _ fun bs' e0 e1 e => by cases e
      | pipe bs e0 e1 => exact h.met1.setO _ fun bs' f0 f1 e => by cases e; exact ⟨bs, ho⟩

theorem PInv.seek {s : AK} (h : PInv s) (d off wh : Int) : PInv (s.seek d off wh).2.2 := by
  unfold AK.seek
  split
  · exact h
  split
  · exact h
  split
  · split
    · exact h
    · rename_i x _ _ _ _ _
      dsimp only
      generalize (if wh = 0 then (0 : Int) else _) = base
      split
      · exact h
      · exact h.setD _ _ _
  · exact h

theorem PInv.keep {s : AK} (h : PInv s) (d : Int) : PInv (s.keep d).2 := by
  unfold AK.keep
  split
  · exact h
  split
  · exact h
  · split
    · exact h
    · exact h.setD _ _ _

theorem PInv.drop {s : AK} (h : PInv s) (d : Int) : PInv (s.drop d).2 := by
  unfold AK.drop
  split
  · exact h
  split
  · exact h
  · rename_i x hx
    split
    · obtain ⟨hxm, hxn⟩ := AK.desc_some hx
      have hmem : ∀ y ∈ (s.delD d).descs, y ∈ s.descs ∧ y.num ≠ d := fun y hy => by
        have hy : y ∈ s.descs.filter fun x => decide (x.num ≠ d) := hy
        rw [List.mem_filter] at hy
        exact ⟨hy.1, by simpa using hy.2⟩
      have hdel : PInv (s.delD d) := h.of (fun y hy => ⟨y, (hmem y hy).1, rfl, rfl, rfl⟩) fun i bs e0 e1 he => ⟨bs, he⟩
      dsimp only
      unfold AK.leave
      cases ho : (s.delD d).objs x.ob with
      | file bs => exact hdel
      | term LL scr => exact hdel
      | pipe bs e0 e1 =>
        have ho : s.objs x.ob = .pipe bs e0 e1 := ho
        have hxe := h.en x hxm _ _ _ ho
        refine ⟨fun y hy bs' f0 f1 he => ?_, fun y hy z hz hob hk hfl => ?_⟩
        · obtain ⟨hy1, hy2⟩ := hmem y hy
          have he : (if y.ob = x.ob then AObj.pipe bs (leaveP (bitI x.fl 2 != 0) e0 e1).2.1 (leaveP (bitI x.fl 2 != 0) e0 e1).2.2 else s.objs y.ob) = .pipe bs' f0 f1 := he
          by_cases e : y.ob = x.ob
          · rw [if_pos e] at he
            simp only [AObj.pipe.injEq] at he
            obtain ⟨_, rfl, rfl⟩ := he
            have hye := h.en y hy1 _ _ _ (by rw [e]; exact ho)
            have hfl : y.fl ≠ x.fl := fun e2 => hy2 (by rw [h.un y hy1 x hxm e (by rw [e, ho]; rfl) e2, hxn])
            unfold leaveP
            rcases hxe with ⟨a, b⟩ | ⟨a, b⟩
            · have hb : (bitI x.fl 2 != 0) = false := by rw [a]; kernel_rfl
              rw [hb]
              rcases hye with ⟨c, _⟩ | ⟨c, c2⟩
              · exact absurd (c.trans a.symm) hfl
              · refine .inr ⟨c, ?_⟩
                simp only [Bool.false_eq_true, if_false]
                split <;> exact c2
            · have hb : (bitI x.fl 2 != 0) = true := by rw [a]; kernel_rfl
              rw [hb]
              rcases hye with ⟨c, c2⟩ | ⟨c, _⟩
              · refine .inl ⟨c, ?_⟩
                simp only [if_true]
                split <;> exact c2
              · exact absurd (c.trans a.symm) hfl
          · rw [if_neg e] at he
            exact h.en y hy1 _ _ _ he
        · obtain ⟨hy1, hy2⟩ := hmem y hy
          obtain ⟨hz1, _⟩ := hmem z hz
          refine h.un y hy1 z hz1 hob ?_ hfl
          have hk : (if y.ob = x.ob then AObj.pipe bs (leaveP (bitI x.fl 2 != 0) e0 e1).2.1 (leaveP (bitI x.fl 2 != 0) e0 e1).2.2 else s.objs y.ob).kd = .con := hk
          by_cases e : y.ob = x.ob
          · rw [e, ho]; rfl
          · rw [if_neg e] at hk; exact hk
    · exact h.setD _ _ _

/-- A description of what is no pipe. -/
theorem PInv.newD {s : AK} (h : PInv s) {i : Nat} (hk : (s.objs i).kd ≠ .con) (fl : Int) : PInv (s.newD i fl) := by
  have hm : ∀ y ∈ (s.newD i fl).descs, y ∈ s.descs ∨ y.ob = i := fun y hy => by
    have hy : y ∈ s.descs ++ [(⟨s.next, i, fl, 0, 1⟩ : AD)] := hy
    rcases List.mem_append.1 hy with e | e
    · exact .inl e
    · rw [List.mem_singleton] at e; subst e; exact .inr rfl
  refine ⟨fun y hy bs e0 e1 he => ?_, fun y hy z hz hob hkk hfl => ?_⟩
  · have he : s.objs y.ob = .pipe bs e0 e1 := he
    rcases hm y hy with e | e
    · exact h.en y e _ _ _ he
    · rw [e] at he; rw [he] at hk; exact absurd rfl hk
  · have hkk : (s.objs y.ob).kd = .con := hkk
    rcases hm y hy with e | e
    · rcases hm z hz with e2 | e2
      · exact h.un y e z e2 hob hkk hfl
      · rw [hob, e2] at hkk; exact absurd hkk hk
    · rw [e] at hkk; exact absurd hkk hk

theorem PInv.newO {s : AK} (h : PInv s) (hok : s.Ok) (o : AObj) : PInv (s.newO o) := by
  have hob : ∀ y ∈ s.descs, (s.newO o).objs y.ob = s.objs y.ob := fun y hy => AK.newO_old s o (hok.di y hy).1
  refine ⟨fun y hy bs e0 e1 he => ?_, fun y hy z hz hobb hkk hfl => ?_⟩
  · rw [hob y hy] at he; exact h.en y hy _ _ _ he
  · rw [hob y hy] at hkk; exact h.un y hy z hz hobb hkk hfl

theorem PInv.open_ {s : AK} (h : PInv s) (hok : s.Ok) (name : ByteArray) (fl : Int) : PInv (s.open_ name fl).2.2 := by
  unfold AK.open_
  split
  · exact h
  · dsimp only
    unfold AK.openS
    split
    · rename_i t ht
      exact h.newD (by rw [(hok.ti t (AK.termOf_some ht).1).2]; simp) fl
    · split
      · rename_i f hf
        have hk := (hok.fi f (AK.fileOf_some hf).1).2
        split
        · refine PInv.newD (h.setO f.2 fun bs e0 e1 e => by cases e) ?_ fl
          rw [AK.objs_setO_same]; simp [AObj.kd]
        · exact h.newD (by rw [hk]; simp) fl
      · have h1 : PInv { s.newO (.file []) with files := s.files ++ [(name, s.nob)] } := (h.newO hok (.file [])).of (same_like _) fun i bs e0 e1 he => ⟨bs, he⟩
        refine h1.newD ?_ fl
        show ((s.newO (.file [])).objs s.nob).kd ≠ _
        rw [AK.objs_newO_new]; simp [AObj.kd]

theorem PInv.pipe {s : AK} (h : PInv s) (hok : s.Ok) : PInv s.pipe.2.2.2 := by
  unfold AK.pipe
  split
  · exact h
  · dsimp only
    have hm : ∀ y ∈ (((s.newO (.pipe [] 1 1)).newD s.nob 1).newD s.nob 2).descs, (y ∈ s.descs ∧ y.ob < s.nob) ∨ (y.ob = s.nob ∧ y.fl = 1 ∧ y.num = s.next) ∨ (y.ob = s.nob ∧ y.fl = 2 ∧ y.num = s.next + 1) := fun y hy => by
      have hy : y ∈ (s.descs ++ [(⟨s.next, s.nob, 1, 0, 1⟩ : AD)]) ++ [(⟨s.next + 1, s.nob, 2, 0, 1⟩ : AD)] := hy
      rcases List.mem_append.1 hy with e | e
      · rcases List.mem_append.1 e with e | e
        · exact .inl ⟨e, (hok.di y e).1⟩
        · rw [List.mem_singleton] at e; subst e; exact .inr (.inl ⟨rfl, rfl, rfl⟩)
      · rw [List.mem_singleton] at e; subst e; exact .inr (.inr ⟨rfl, rfl, rfl⟩)
    have hobj : ∀ i, (((s.newO (.pipe [] 1 1)).newD s.nob 1).newD s.nob 2).objs i = if i = s.nob then .pipe [] 1 1 else s.objs i := fun i => rfl
    refine ⟨fun y hy bs e0 e1 he => ?_, fun y hy z hz hob hkk hfl => ?_⟩
    · rw [hobj] at he
      rcases hm y hy with ⟨e, e2⟩ | ⟨e, e2, _⟩ | ⟨e, e2, _⟩
      · rw [if_neg (by omega)] at he
        exact h.en y e _ _ _ he
      · rw [if_pos e] at he; cases he; exact .inl ⟨e2, by omega⟩
      · rw [if_pos e] at he; cases he; exact .inr ⟨e2, by omega⟩
    · rw [hobj] at hkk
      rcases hm y hy with ⟨e, e2⟩ | ⟨e, e2, e3⟩ | ⟨e, e2, e3⟩
      · rw [if_neg (by omega)] at hkk
        rcases hm z hz with ⟨g, g2⟩ | ⟨g, _⟩ | ⟨g, _⟩
        · exact h.un y e z g hob hkk hfl
        · omega
        · omega
      · rcases hm z hz with ⟨g, g2⟩ | ⟨g, g2, g3⟩ | ⟨g, g2, _⟩
        · omega
        · rw [e3, g3]
        · rw [e2, g2] at hfl; cases hfl
      · rcases hm z hz with ⟨g, g2⟩ | ⟨g, g2, _⟩ | ⟨g, g2, g3⟩
        · omega
        · rw [e2, g2] at hfl; cases hfl
        · rw [e3, g3]

/-- The page's files are the program's. -/
theorem files_eq {s : AK} (hok : s.Ok) {T : List (ByteArray × Nat)} (hp : T.Perm (s.files ++ s.terms)) (hs : T.Pairwise nmLe) : ofK s .disk dataO T = s.filesV := by
  have hF : (T.filter fun t => decide ((s.objs t.2).kd = .disk)).Perm s.files := by
    have h1 := hp.filter fun t => decide ((s.objs t.2).kd = .disk)
    rw [List.filter_append] at h1
    have h2 : s.files.filter (fun t => decide ((s.objs t.2).kd = .disk)) = s.files := List.filter_eq_self.2 fun t ht => by simp [(hok.fi t ht).2]
    have h3 : s.terms.filter (fun t => decide ((s.objs t.2).kd = .disk)) = [] := List.filter_eq_nil_iff.2 fun t ht => by simp [(hok.ti t ht).2]
    rw [h2, h3, List.append_nil] at h1
    exact h1
  have hFs : (T.filter fun t => decide ((s.objs t.2).kd = .disk)).Pairwise nmLe := hs.filter _
  unfold ofK
  generalize T.filter (fun t => decide ((s.objs t.2).kd = .disk)) = F at hF hFs
  have e1 : sortN (s.files.map (·.1)) = F.map (·.1) := by
    rw [← sortN_of_perm (hF.map (·.1))]
    unfold sortN
    rw [List.mergeSort_of_pairwise, strL_dataL]
    unfold dataL
    rw [List.map_map, List.pairwise_map]
    exact hFs.imp fun {a b : ByteArray × Nat} (h : nmLe a b) => @decide_eq_true (a.1.data.toList ≤ b.1.data.toList) _ h
  unfold AK.filesV
  rw [e1, List.map_map]
  refine List.map_congr_left fun t ht => ?_
  have htf := hF.mem_iff.1 ht
  show (t.1, dataO (s.objs t.2)) = (t.1, s.bytesOf t.1)
  unfold AK.bytesOf
  rw [AK.fileOf_mem hok htf]

/-- What the page says of a screen is what the program says. -/
theorem screen_mem {s : AK} (hok : s.Ok) {T : List (ByteArray × Nat)} (hp : T.Perm (s.files ++ s.terms)) {f : ByteArray × List Int} (hf : f ∈ ofK s .scr scrO T) : s.screenV f.1 = (f.2, true) := by
  unfold ofK at hf
  obtain ⟨t, ht, rfl⟩ := List.mem_map.1 hf
  rw [List.mem_filter] at ht
  obtain ⟨ht1, ht2⟩ := ht
  have ht2 : (s.objs t.2).kd = .scr := by simpa using ht2
  have htt : t ∈ s.terms := by
    rcases List.mem_append.1 (hp.mem_iff.1 ht1) with e | e
    · rw [(hok.fi t e).2] at ht2; cases ht2
    · exact e
  unfold AK.screenV
  rw [AK.termOf_mem hok.tn htt]

end Go.Proofs.YtpoaacnnhgebfaaGreat
