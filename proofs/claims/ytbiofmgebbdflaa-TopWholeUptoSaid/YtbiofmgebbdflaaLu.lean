/-
  From a row's reading of its arguments of small bulk to plain words on memory, and the frame of such a row. Conditions: none.
-/
import Derived.Test.YtbiofmgebbdflaaRows
import Derived.Test.YtbiofmgebbdflaaLr
import Derived.Deep.CondSized
set_option linter.unusedVariables false
namespace Go.Proofs.Ytbiofmgebbdflaa
open Go.Lw
open Go.ChangeShapes Go.WideShapes Go.RowKit

/-- What is known of a value of type t that is read: its cells go to K. -/
def vwU (P : Program) (W : World) : Nat → TypeId → (List Value → Prop) → Prop
  | 0, _, K => ∃ cs, K cs
  | fuel + 1, t, K =>
    match P.underlying t with
    | some .bool => ∃ b, K [.bool b]
    | some (.int k) => ∃ n, (Lit.int k n).wf = true ∧ K [.int k n]
    | some .string => ∃ s : ByteArray, s.size ≤ 1048576 ∧ K [.string s]
    | some (.slice e) =>
      match P.underlying e with
      | some (.int k) => bif !Nat.beq (P.cellsOf e) 1 then ∃ cs, K cs else ∃ (a : Option Addr) (l c : Nat) (ns : List Int), RdS 1 W a l c (ns.map (Value.int k)) ∧ (∀ n ∈ ns, (Lit.int k n).wf = true) ∧ l ≤ 1048576 ∧ K [.slice a l c]
      | some .string => bif !Nat.beq (P.cellsOf e) 1 then ∃ cs, K cs else ∃ (a : Option Addr) (l c : Nat) (ss : List ByteArray), RdS 1 W a l c (ss.map Value.string) ∧ (∀ s ∈ ss, s.size ≤ 1048576) ∧ l ≤ 1048576 ∧ K [.slice a l c]
      | some .bool => bif !Nat.beq (P.cellsOf e) 1 then ∃ cs, K cs else ∃ (a : Option Addr) (l c : Nat) (bs : List Bool), RdS 1 W a l c (bs.map Value.bool) ∧ l ≤ 1048576 ∧ K [.slice a l c]
      | _ => ∃ (a : Option Addr) (l c : Nat), l ≤ c ∧ (a = none → c = 0) ∧ l ≤ 1048576 ∧
          (∀ (q : Addr), a = some q → ∀ i : Nat, i < l → vwU P W fuel e fun cs => cellsAt W (q.add (i * P.cellsOf e)) 0 cs) ∧ K [.slice a l c]
    | some (.struct fs) => bif contigB P fs.toList 0 (P.cellsOf t) then vwF (vwU P W fuel) fs.toList [] K else ∃ cs, K cs
    | _ => ∃ cs, K cs

section
variable {H : Type} {enc : TypeId × Value → H} {P : Program} {W : World}

theorem bulk_pos (d : DataW H) : 1 ≤ Rows.uptoBulk d := by
  cases d with
  | lit l => cases l <;> simp [Rows.uptoBulk]
  | nil => simp [Rows.uptoBulk]
  | ptr d => simp [Rows.uptoBulk]
  | slice elems spare => simp [Rows.uptoBulk]
  | agg parts => simp [Rows.uptoBulk]
  | iface t d => simp [Rows.uptoBulk]
  | map entries => simp [Rows.uptoBulk]
  | held h => simp [Rows.uptoBulk]

theorem bulk_part {d : DataW H} {l : List (DataW H)} (h : d ∈ l) : Rows.uptoBulk d ≤ Rows.uptoBulkAll l := by
  induction l with
  | nil => cases h
  | cons x r ih =>
    simp only [Rows.uptoBulkAll]
    cases List.mem_cons.1 h with
    | inl e => subst e; omega
    | inr e => have := ih e; omega

theorem bulk_app (l r : List (DataW H)) : Rows.uptoBulkAll (l ++ r) = Rows.uptoBulkAll l + Rows.uptoBulkAll r := by
  induction l with
  | nil => simp [Rows.uptoBulkAll]
  | cons x l ih => simp only [List.cons_append, Rows.uptoBulkAll, ih]; omega

theorem bulk_len (l : List (DataW H)) : l.length ≤ Rows.uptoBulkAll l := by
  induction l with
  | nil => simp [Rows.uptoBulkAll]
  | cons x r ih => have := bulk_pos x; simp only [Rows.uptoBulkAll, List.length_cons]; omega

def SmallU (d : DataW H) : Prop := Rows.uptoBulk d ≤ 1048576

theorem SmallU.slice {elems spare : List (DataW H)} (h : SmallU (.slice elems spare)) : elems.length ≤ 1048576 ∧ ∀ d ∈ elems, SmallU d := by
  unfold SmallU at *
  simp only [Rows.uptoBulk] at h
  have := bulk_len elems
  exact ⟨by omega, fun d hd => by have := bulk_part hd; omega⟩

/-- Of each element of a slice one list. -/
theorem ofOneU {e : TypeId} {sp : Nat → Bool} {n m : Nat} {V : Nat → Value} {D : Nat → DataW H} {Pl : Nat → List MemPlace} {α : Type} {f : α → Value} {p : α → Prop} [Inhabited α]
    (dec : ∀ {v : Value} {x : DataW H × List MemPlace}, DataW.trod enc P W 0 sp true n e [v] = some x → SmallU x.1 → ∃ y, v = f y ∧ p y)
    {a : Addr} (h : ∀ i, i < m → W.cell? (a.add i) = some (V i) ∧ DataW.trod enc P W 0 sp true n e [V i] = some (D i, Pl i)) (hs : ∀ i, i < m → SmallU (D i)) :
    ∃ ys : List α, ys.length = m ∧ (∀ y ∈ ys, p y) ∧ ∀ i v, (ys.map f)[i]? = some v → W.cell? (a.add i) = some v := by
  obtain ⟨g, hg⟩ := Deep.choose_lt (α := α) (n := m) (p := fun i y => V i = f y ∧ p y) (fun i hi => dec (h i hi).2 (hs i hi))
  refine ⟨(List.range m).map g, by simp, fun y hy => ?_, fun i v hi => ?_⟩
  · obtain ⟨i, hi, rfl⟩ := List.mem_map.1 hy
    exact (hg i (List.mem_range.1 hi)).2
  · rw [List.getElem?_map, List.getElem?_map] at hi
    by_cases hlt : i < m
    · simp [hlt] at hi
      subst hi
      rw [(h i hlt).1, (hg i hlt).1]
    · simp [hlt] at hi

theorem vwF_ofU {sp : Nat → Bool} {m n : Nat} {cs : List Value} {K : List Value → Prop} (hK : K cs)
    (ih : ∀ (t : TypeId) (cs : List Value) (x : DataW H × List MemPlace) (K : List Value → Prop), DataW.trod enc P W 0 sp true n t cs = some x → SmallU x.1 → K cs → vwU P W m t K) :
    ∀ (fl : List Field) (xs : List (DataW H × List MemPlace)) (o : Nat) (acc : List Value), acc = cs.take o → contigB P fl o cs.length = true → fl.length = xs.length →
      (∀ (i : Nat) (f : Field), fl[i]? = some f → DataW.trod enc P W 0 sp true n f.type ((cs.drop f.offset).take (P.cellsOf f.type)) = xs[i]?) →
      Rows.uptoBulkAll (xs.map (·.1)) ≤ 1048576 → vwF (vwU P W m) fl acc K
  | [], xs, o, acc, ha, hc, _, _, _ => by
    unfold contigB at hc
    have : o = cs.length := Nat.eq_of_beq_eq_true hc
    subst this
    rw [List.take_length] at ha
    subst ha
    exact hK
  | f :: r, [], _, _, _, _, hl, _, _ => by cases hl
  | f :: r, x :: xs, o, acc, ha, hc, hl, hx, hw => by
    unfold contigB at hc
    simp only [Bool.and_eq_true] at hc
    have ho : f.offset = o := Nat.eq_of_beq_eq_true hc.1
    have h0 := hx 0 f rfl
    simp only [List.getElem?_cons_zero] at h0
    simp only [List.map_cons, Rows.uptoBulkAll] at hw
    unfold vwF
    refine ih f.type _ x _ h0 (by show Rows.uptoBulk _ ≤ 1048576; (try simp only []); omega) ?_
    refine vwF_ofU hK ih r xs (o + P.cellsOf f.type) _ ?_ hc.2 (by simpa using hl) (fun i g hg => hx (i + 1) g hg) (by omega)
    rw [ha, ho, List.take_add]

theorem vwU_of {sp : Nat → Bool} (hsp : ∀ b, sp b = true) : ∀ (m n : Nat) (t : TypeId) (cs : List Value) (x : DataW H × List MemPlace) (K : List Value → Prop),
    DataW.trod enc P W 0 sp true n t cs = some x → SmallU x.1 → K cs → vwU P W m t K
  | 0, _, _, cs, _, K, _, _, hK => ⟨cs, hK⟩
  | m + 1, n, t, cs, x, K, h, hs, hK => by
    unfold vwU
    split
    · rename_i ht
      obtain ⟨b, rfl, _⟩ := DataW.trod_bool ht h
      exact ⟨b, hK⟩
    · rename_i k ht
      obtain ⟨z, rfl, _, hz⟩ := DataW.trod_int ht h
      exact ⟨z, hz, hK⟩
    · rename_i ht
      obtain ⟨s, rfl, rfl, hz⟩ := DataW.trod_string ht h
      refine ⟨s, ?_, hK⟩
      have h3 : Rows.uptoBulk (DataW.lit (H := H) (.string s.data.toList)) ≤ 1048576 := hs
      simp only [Rows.uptoBulk, Array.length_toList] at h3
      have : s.size = s.data.size := rfl
      omega
    · rename_i e ht
      -- a slice
      have gen : ∀ {α : Type} [Inhabited α] {f : α → Value} {p : α → Prop}, P.cellsOf e = 1 →
          (∀ {k : Nat} {v : Value} {x : DataW H × List MemPlace}, DataW.trod enc P W 0 sp true k e [v] = some x → SmallU x.1 → ∃ y, v = f y ∧ p y) →
          ∃ (a : Option Addr) (l c : Nat) (ys : List α), cs = [.slice a l c] ∧ RdS 1 W a l c (ys.map f) ∧ (∀ y ∈ ys, p y) ∧ l ≤ 1048576 := by
        intro α _ f p hc dec
        rcases Deep.open_slice1 ht hc h with ⟨rfl, rfl⟩ | ⟨a, l, c, mm, k, V, D, Pl, rfl, hb, hlc, hcm, hmm, rfl, hx⟩
        · exact ⟨none, 0, 0, [], rfl, by simpa using RdS.nil 1 W, by simp, by omega⟩
        · rw [if_pos (hsp _)] at hmm
          obtain rfl := hmm.symm
          obtain ⟨hsz, hel⟩ := SmallU.slice hs
          simp only [List.length_map, List.length_range] at hsz
          have hss : ∀ i, i < l → SmallU (D i) := fun i hi => hel _ (List.mem_map.2 ⟨i, List.mem_range.2 hi, rfl⟩)
          obtain ⟨ys, hyl, hyp, hyc⟩ := ofOneU (a := a) (m := l) dec (fun i hi => hx i (by omega)) hss
          refine ⟨some a, l, c, ys, rfl, ⟨by simp [hyl], hlc, (fun h => by cases h), fun ad had i v hi => by cases had; exact hyc i v hi⟩, hyp, ?_⟩
          exact hsz
      split
      · rename_i k he
        refine condI (fun _ => ⟨cs, hK⟩) (fun hc => ?_)
        have hc : P.cellsOf e = 1 := Nat.eq_of_beq_eq_true (by cases hb : Nat.beq (P.cellsOf e) 1 <;> simp_all)
        obtain ⟨a, l, c, ys, rfl, h1, h2, h3⟩ := gen (α := Int) (f := Value.int k) (p := fun n => (Lit.int k n).wf = true) hc (fun hx _ => by
          obtain ⟨z, hz, _, hw⟩ := DataW.trod_int he hx
          cases hz; exact ⟨z, rfl, hw⟩)
        exact ⟨a, l, c, ys, h1, h2, h3, hK⟩
      · rename_i he
        refine condI (fun _ => ⟨cs, hK⟩) (fun hc => ?_)
        have hc : P.cellsOf e = 1 := Nat.eq_of_beq_eq_true (by cases hb : Nat.beq (P.cellsOf e) 1 <;> simp_all)
        obtain ⟨a, l, c, ys, rfl, h1, h2, h3⟩ := gen (α := ByteArray) (f := Value.string) (p := fun s => s.size ≤ 1048576) hc (fun hx hsm => by
          obtain ⟨s, hz, rfl, hw⟩ := DataW.trod_string he hx
          cases hz
          refine ⟨s, rfl, ?_⟩
          have h3 : Rows.uptoBulk (DataW.lit (H := H) (.string s.data.toList)) ≤ 1048576 := hsm
          simp only [Rows.uptoBulk, Array.length_toList] at h3
          have : s.size = s.data.size := rfl
          omega)
        exact ⟨a, l, c, ys, h1, h2, h3, hK⟩
      · rename_i he
        refine condI (fun _ => ⟨cs, hK⟩) (fun hc => ?_)
        have hc : P.cellsOf e = 1 := Nat.eq_of_beq_eq_true (by cases hb : Nat.beq (P.cellsOf e) 1 <;> simp_all)
        obtain ⟨a, l, c, ys, rfl, h1, _, h3⟩ := gen (α := Bool) (f := Value.bool) (p := fun _ => True) hc (fun hx _ => by
          obtain ⟨b, hz, _⟩ := DataW.trod_bool he hx
          cases hz; exact ⟨b, rfl, trivial⟩)
        exact ⟨a, l, c, ys, h1, h3, hK⟩
      · rcases Deep.open_slice ht h with ⟨rfl, rfl⟩ | ⟨a, l, c, mm, k, D, Pl, rfl, hb, hlc, hcm, hmm, rfl, hx⟩
        · exact ⟨none, 0, 0, by omega, fun _ => rfl, by omega, (fun q hq => by cases hq), hK⟩
        · rw [if_pos (hsp _)] at hmm
          obtain rfl := hmm.symm
          obtain ⟨hsz, hel⟩ := SmallU.slice hs
          simp only [List.length_map, List.length_range] at hsz
          refine ⟨some a, l, c, hlc, (fun h => by cases h), hsz, fun q hq i hi => ?_, hK⟩
          cases hq
          obtain ⟨cs', h1, h2⟩ := hx i (by omega)
          obtain ⟨_, hlen, hcell⟩ := World.cells?_some h1
          refine vwU_of hsp m k e cs' _ _ h2 (hel _ (List.mem_map.2 ⟨i, List.mem_range.2 hi, rfl⟩)) (cellsAt_of fun j v hj => ?_)
          have hjl : j < P.cellsOf e := by rw [← hlen]; exact (List.getElem?_eq_some_iff.1 hj).1
          rw [Nat.zero_add, hcell j hjl]; exact hj
    · rename_i fs ht
      obtain ⟨xs, k, _, rfl, hcl, hxl, hf⟩ := DataW.trod_struct ht h
      cases hB : contigB P fs.toList 0 (P.cellsOf t) with
      | false => exact ⟨cs, hK⟩
      | true =>
        refine vwF_ofU (n := k) hK (fun t cs x K h hs hK => vwU_of hsp m k t cs x K h hs hK) fs.toList xs 0 [] (by simp) (by rw [hcl]; exact hB) (by simp [hxl]) (fun i f hi => hf i f (by simpa using hi)) ?_
        have h3 : Rows.uptoBulk (DataW.agg (xs.map (·.1))) ≤ 1048576 := hs
        simp only [Rows.uptoBulk] at h3
        omega
    · exact ⟨cs, hK⟩

end


def vwAU (P : Program) (W : World) (m : Nat) : List TypeId → (List Value → Prop) → Prop
  | [], K => K []
  | t :: ts, K => vwU P W m t fun cs => vwAU P W m ts fun vs => K (Lw.valOf P t cs :: vs)

theorem vwAU_of {H : Type} {enc : TypeId × Value → H} {P : Program} {W : World} {base : Nat} (m : Nat) :
    ∀ (ts : List TypeId) (vs : List Value) (ds : List (DataW H)) (ps : List MemPlace) (K : List Value → Prop), ts.all (fun t => aggT P t || plainT P t) = true →
    (∀ (j : Nat) t v, ts[j]? = some t → vs[j]? = some v → Value.okWide P W .any base t v) → DataW.TrodAll enc P W 0 (fun _ => true) true ts vs ds ps →
    Rows.uptoBulkAll ds ≤ 1048576 → K vs → vwAU P W m ts K
  | [], vs, ds, ps, K, _, _, h, _, hK => by
    obtain ⟨rfl, _, _⟩ := trodAll_nil h
    exact hK
  | t :: ts, vs, ds, ps, K, hall, hok, h, hw, hK => by
    obtain ⟨v, vs1, d, ds1, p, q, rfl, rfl, rfl, h1, h2⟩ := trodAll_cons h
    simp only [List.all_cons, Bool.and_eq_true] at hall
    simp only [Rows.uptoBulkAll] at hw
    obtain ⟨fuel, hf⟩ := h1
    unfold vwAU
    have hval : Lw.valOf P t v.cells.toList = v := by
      have hv := hok 0 t v rfl rfl
      unfold Lw.valOf
      have hB := hall.1
      rw [Bool.or_eq_true] at hB
      cases ha : aggT P t with
      | true =>
        unfold aggT at ha
        split at ha
        · rename_i fs hu
          obtain ⟨cs, rfl, _⟩ := okWide_struct hu hv
          simp [Value.cells]
        · cases ha
      | false =>
        rw [ha] at hB
        simp only [Bool.false_eq_true, false_or] at hB
        unfold plainT at hB
        split at hB
        · rename_i hu; obtain ⟨b, rfl⟩ := okWide_bool hu hv; simp [Value.cells]
        · rename_i k hu; obtain ⟨n, rfl⟩ := okWide_int hu hv; simp [Value.cells]
        · rename_i hu; obtain ⟨s, rfl⟩ := okWide_string hu hv; simp [Value.cells]
        · rename_i e hu; obtain ⟨a, l, c, rfl⟩ := okWide_slice hu hv; simp [Value.cells]
        · cases hB
    refine vwU_of (fun _ => rfl) m fuel t _ _ _ hf (by show Rows.uptoBulk _ ≤ 1048576; (try simp only []); omega) ?_
    rw [hval]
    exact vwAU_of m ts vs1 ds1 q _ hall.2 (fun j t' v' h1 h2 => hok (j + 1) t' v' h1 h2) h2 (by omega) hK

/-- A law's contract, from its walk. -/
theorem law_contractU {H : Type} {enc : TypeId × Value → H} {P : Program} {f : FuncId} {fn : Func} {s : ChangeSpec} {fresh handsOn : Bool} {tb : TypeId} {ts : List TypeId} (hts : fn.params.toList = ts)
    (hl : laidOutB P = true) (hread : (ts.all fun t => P.readableRec t && decide (t < P.types.size)) = true) (hpl : ts.all (fun t => aggT P t || plainT P t) = true)
    (hres : fn.resultTypes.toList = [tb]) (htb : P.underlying tb = some .bool) (hvars : s.vars = [])
    (hspec : ∀ ds : List (DataW H), ds.length = ts.length → s.fn H ds = { results := [.lit (.bool true)], args := ds })
    (walk : ∀ (W : World) (args : List Value), vwAU P W 6 ts (fun vs => args = vs) → CallR P f args W fun v w' => v = .bool true ∧ Kept No W w')
    (W : World) (base : Nat) (args : Array Value) (ds gs : List (DataW H)) (before : List MemPlace)
    (hval : ∀ (j : Nat) t v, fn.params[j]? = some t → args[j]? = some v → Value.okWide P W .any base t v)
    (hW : DataW.Whole enc P fn.params.toList s.vars false W args.toList ds gs before)
    (hk : Rows.uptoSmall H (ds ++ gs) = true) :
    Calls P f args W fun e W' => ∃ v, e = .returned v ∧ s.post enc P fn false fresh handsOn false W args v W' := by
  have hW' := hW
  obtain ⟨p, q, hA, hV, rfl, hfz, hnd⟩ := hW
  rw [hvars] at hV
  obtain ⟨rfl, rfl⟩ := trodVars_none hV
  have hlen := length_trodAll hA
  have hsz' : Rows.uptoBulkAll ds ≤ 1048576 := by
    have : Rows.uptoBulkAll (ds ++ []) ≤ 1048576 := of_decide_eq_true hk
    rwa [List.append_nil] at this
  have hlt : ∀ x ∈ p, x.block < W.heap.size := fun x hx => hW'.lt x (by simp [hx])
  rw [hts] at hA hlen
  have hv := vwAU_of 6 ts args.toList ds p (fun vs => args.toList = vs) hpl (fun j t v h1 h2 => hval j t v (by rw [← hts] at h1; simpa using h1) (by simpa using h2)) hA hsz' rfl
  have hc := walk W args.toList hv
  unfold CallR at hc
  refine Calls.mono (by simpa using hc) fun e W' he => ?_
  obtain ⟨v, rfl, rfl, hk⟩ := he
  have hB := hk.below
  refine ⟨_, rfl, ds, [], p ++ [], [], p, [], hW', ?_, ?_, ?_, hB.frame _, fun h => by cases h⟩
  · rw [List.append_nil, hspec ds (by rw [hlen]), hres]
    have e1 : (Value.bool true).resultList fn.resultTypes.size = [.bool true] := by
      have : fn.resultTypes.size = 1 := by rw [← Array.length_toList, hres]; rfl
      rw [this]; rfl
    rw [e1]
    exact trodAll_mk1 ⟨1, by simp [DataW.trod, htb, Value.cells]⟩
  · rw [List.append_nil, hspec ds (by rw [hlen]), hts]
    exact trodAll_below hl hB ts args.toList ds p hread hA hlt
  · rw [List.append_nil, hspec ds (by rw [hlen]), hvars]
    rfl

end Go.Proofs.Ytbiofmgebbdflaa
