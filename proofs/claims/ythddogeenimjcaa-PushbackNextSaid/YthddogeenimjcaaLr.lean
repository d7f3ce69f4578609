/-
  From a row's reading of its arguments to plain words on memory, and the frame of a row: a law that answers true and turns nothing that was there. Conditions: none.
  Words and lemmas on lists of byte slices, and on the conversions between bytes and strings. Conditions: none; they speak of whatever program.
-/
import Derived.Test.YthddogeenimjcaaLm
import Derived.ProofKit
import Derived.SizedLaws
import Derived.Carry
import Derived.OpenShut
import Derived.ChangeSame
import Derived.ChangeArms
import Derived.Deep.Slices
import Derived.Laws.BytesArg
import Derived.Lib.SlBytesConst
set_option linter.unusedVariables false
namespace Go.Lw
open Go.ChangeShapes Go.WideShapes Go.RowKit

/-! ## What lies in memory -/

def cellsAt (W : World) (a : Addr) : Nat → List Value → Prop
  | _, [] => True
  | 0, v :: vs => W.cell? a = some v ∧ cellsAt W a 1 vs
  | i + 1, v :: vs => W.cell? (a.add (i + 1)) = some v ∧ cellsAt W a (i + 2) vs

theorem cellsAt_of {W : World} {a : Addr} : ∀ {vs : List Value} {i : Nat}, (∀ j v, vs[j]? = some v → W.cell? (a.add (i + j)) = some v) → cellsAt W a i vs
  | [], i, _ => by cases i <;> exact trivial
  | v :: vs, 0, h => ⟨by have := h 0 v rfl; simpa [Addr.add] using this, cellsAt_of fun j u hj => by have := h (j + 1) u hj; rw [← this]; congr 2; omega⟩
  | v :: vs, i + 1, h => ⟨h 0 v rfl, cellsAt_of fun j u hj => by have := h (j + 1) u hj; rw [← this]; congr 2; omega⟩

def contigB (P : Program) : List Field → Nat → Nat → Bool
  | [], o, tot => Nat.beq o tot
  | f :: r, o, tot => Nat.beq f.offset o && contigB P r (o + P.cellsOf f.type) tot

def vwF (v : TypeId → (List Value → Prop) → Prop) : List Field → List Value → (List Value → Prop) → Prop
  | [], acc, K => K acc
  | f :: r, acc, K => v f.type fun cs => vwF v r (acc ++ cs) K

/-- What is known of a value of type t that is read: its cells go to K. -/
def vw (P : Program) (W : World) : Nat → TypeId → (List Value → Prop) → Prop
  | 0, _, K => ∃ cs, K cs
  | fuel + 1, t, K =>
    match P.underlying t with
    | some .bool => ∃ b, K [.bool b]
    | some (.int k) => ∃ n, (Lit.int k n).wf = true ∧ K [.int k n]
    | some .string => ∃ s : ByteArray, s.size ≤ 140737488351232 ∧ K [.string s]
    | some (.slice e) =>
      match P.underlying e with
      | some (.int k) => bif !Nat.beq (P.cellsOf e) 1 then ∃ cs, K cs else ∃ (a : Option Addr) (l c : Nat) (ns : List Int), RdS 1 W a l c (ns.map (Value.int k)) ∧ (∀ n ∈ ns, (Lit.int k n).wf = true) ∧ l * P.bytesOf e ≤ 140737488351232 ∧ K [.slice a l c]
      | some .string => bif !Nat.beq (P.cellsOf e) 1 then ∃ cs, K cs else ∃ (a : Option Addr) (l c : Nat) (ss : List ByteArray), RdS 1 W a l c (ss.map Value.string) ∧ (∀ s ∈ ss, s.size ≤ 140737488351232) ∧ l * P.bytesOf e ≤ 140737488351232 ∧ K [.slice a l c]
      | some .bool => bif !Nat.beq (P.cellsOf e) 1 then ∃ cs, K cs else ∃ (a : Option Addr) (l c : Nat) (bs : List Bool), RdS 1 W a l c (bs.map Value.bool) ∧ l * P.bytesOf e ≤ 140737488351232 ∧ K [.slice a l c]
      | _ => ∃ (a : Option Addr) (l c : Nat), l ≤ c ∧ (a = none → c = 0) ∧ l * P.bytesOf e ≤ 140737488351232 ∧
          (∀ (q : Addr), a = some q → ∀ i : Nat, i < l → vw P W fuel e fun cs => cellsAt W (q.add (i * P.cellsOf e)) 0 cs) ∧ K [.slice a l c]
    | some (.struct fs) => bif contigB P fs.toList 0 (P.cellsOf t) then vwF (vw P W fuel) fs.toList [] K else ∃ cs, K cs
    | _ => ∃ cs, K cs

section
variable {H : Type} {enc : TypeId × Value → H} {P : Program} {W : World}

def Small (P : Program) (t : TypeId) (d : DataW H) : Prop := ∀ n ∈ d.weights P t, n ≤ reachBytes

theorem Small.slice {t e : TypeId} {elems spare : List (DataW H)} (hu : P.underlying t = some (.slice e)) (h : Small P t (.slice elems spare)) :
    (elems.length + spare.length) * P.bytesOf e ≤ reachBytes ∧ ∀ d ∈ elems, Small P e d := by
  have key : ∀ (l : List (DataW H)) (d : DataW H), d ∈ l → ∀ n ∈ d.weights P e, n ∈ DataW.weightsAll P e l := by
    intro l
    induction l with
    | nil => intro d hd; cases hd
    | cons x l ih =>
      intro d hd n hn
      simp only [DataW.weightsAll, List.mem_append]
      rcases List.mem_cons.1 hd with rfl | hd
      · exact .inl hn
      · exact .inr (ih d hd n hn)
  refine ⟨h _ (by simp [DataW.weights, hu]), fun d hd n hn => h n ?_⟩
  simp only [DataW.weights, hu, List.mem_cons, List.mem_append]
  exact .inr (.inl (key _ d hd n hn))

/-- Of each element of a slice one list. -/
theorem ofOne {e : TypeId} {sp : Nat → Bool} {n m : Nat} {V : Nat → Value} {D : Nat → DataW H} {Pl : Nat → List MemPlace} {α : Type} {f : α → Value} {p : α → Prop} [Inhabited α]
    (dec : ∀ {v : Value} {x : DataW H × List MemPlace}, DataW.trod enc P W 0 sp true n e [v] = some x → Small P e x.1 → ∃ y, v = f y ∧ p y)
    {a : Addr} (h : ∀ i, i < m → W.cell? (a.add i) = some (V i) ∧ DataW.trod enc P W 0 sp true n e [V i] = some (D i, Pl i)) (hs : ∀ i, i < m → Small P e (D i)) :
    ∃ ys : List α, ys.length = m ∧ (∀ y ∈ ys, p y) ∧ ∀ i v, (ys.map f)[i]? = some v → W.cell? (a.add i) = some v := by
  obtain ⟨g, hg⟩ := Deep.choose_lt (α := α) (n := m) (p := fun i y => V i = f y ∧ p y) (fun i hi => dec (h i hi).2 (hs i hi))
  refine ⟨(List.range m).map g, by simp, fun y hy => ?_, fun i v hi => ?_⟩
  · obtain ⟨i, hi, rfl⟩ := List.mem_map.1 hy
    exact (hg i (List.mem_range.1 hi)).2
  · rw [List.getElem?_map, List.getElem?_map] at hi
    by_cases hlt : i < m
    · simp [hlt] at hi
      subst hi
      rw [(h i hlt).1, (hg i hlt).1]
    · simp [hlt] at hi

theorem vwF_of {sp : Nat → Bool} {m n : Nat} {cs : List Value} {K : List Value → Prop} (hK : K cs)
    (ih : ∀ (t : TypeId) (cs : List Value) (x : DataW H × List MemPlace) (K : List Value → Prop), DataW.trod enc P W 0 sp true n t cs = some x → Small P t x.1 → K cs → vw P W m t K) :
    ∀ (fl : List Field) (xs : List (DataW H × List MemPlace)) (o : Nat) (acc : List Value), acc = cs.take o → contigB P fl o cs.length = true → fl.length = xs.length →
      (∀ (i : Nat) (f : Field), fl[i]? = some f → DataW.trod enc P W 0 sp true n f.type ((cs.drop f.offset).take (P.cellsOf f.type)) = xs[i]?) →
      (∀ w ∈ DataW.weightsEach P (fl.map (·.type)) (xs.map (·.1)), w ≤ reachBytes) → vwF (vw P W m) fl acc K
  | [], xs, o, acc, ha, hc, _, _, _ => by
    unfold contigB at hc
    have : o = cs.length := Nat.eq_of_beq_eq_true hc
    subst this
    rw [List.take_length] at ha
    subst ha
    exact hK
  | f :: r, [], _, _, _, _, hl, _, _ => by cases hl
  | f :: r, x :: xs, o, acc, ha, hc, hl, hx, hw => by
    unfold contigB at hc
    simp only [Bool.and_eq_true] at hc
    have ho : f.offset = o := Nat.eq_of_beq_eq_true hc.1
    have h0 := hx 0 f rfl
    simp only [List.getElem?_cons_zero] at h0
    simp only [List.map_cons, DataW.weightsEach, List.mem_append] at hw
    unfold vwF
    refine ih f.type _ x _ h0 (fun n hn => hw n (.inl hn)) ?_
    refine vwF_of hK ih r xs (o + P.cellsOf f.type) _ ?_ hc.2 (by simpa using hl) (fun i g hg => hx (i + 1) g hg) (fun n hn => hw n (.inr hn))
    rw [ha, ho, List.take_add]

theorem vw_of {sp : Nat → Bool} (hsp : ∀ b, sp b = true) : ∀ (m n : Nat) (t : TypeId) (cs : List Value) (x : DataW H × List MemPlace) (K : List Value → Prop),
    DataW.trod enc P W 0 sp true n t cs = some x → Small P t x.1 → K cs → vw P W m t K
  | 0, _, _, cs, _, K, _, _, hK => ⟨cs, hK⟩
  | m + 1, n, t, cs, x, K, h, hs, hK => by
    unfold vw
    split
    · rename_i ht
      obtain ⟨b, rfl, _⟩ := DataW.trod_bool ht h
      exact ⟨b, hK⟩
    · rename_i k ht
      obtain ⟨z, rfl, _, hz⟩ := DataW.trod_int ht h
      exact ⟨z, hz, hK⟩
    · rename_i ht
      obtain ⟨s, rfl, rfl, hz⟩ := DataW.trod_string ht h
      refine ⟨s, ?_, hK⟩
      have := hs s.data.toList.length (by simp [DataW.weights])
      rwa [Array.length_toList] at this
    · rename_i e ht
      -- a slice
      have gen : ∀ {α : Type} [Inhabited α] {f : α → Value} {p : α → Prop}, P.cellsOf e = 1 →
          (∀ {k : Nat} {v : Value} {x : DataW H × List MemPlace}, DataW.trod enc P W 0 sp true k e [v] = some x → Small P e x.1 → ∃ y, v = f y ∧ p y) →
          ∃ (a : Option Addr) (l c : Nat) (ys : List α), cs = [.slice a l c] ∧ RdS 1 W a l c (ys.map f) ∧ (∀ y ∈ ys, p y) ∧ l * P.bytesOf e ≤ 140737488351232 := by
        intro α _ f p hc dec
        rcases Deep.open_slice1 ht hc h with ⟨rfl, rfl⟩ | ⟨a, l, c, mm, k, V, D, Pl, rfl, hb, hlc, hcm, hmm, rfl, hx⟩
        · exact ⟨none, 0, 0, [], rfl, by simpa using RdS.nil 1 W, by simp, by omega⟩
        · rw [if_pos (hsp _)] at hmm
          obtain rfl := hmm.symm
          obtain ⟨hsz, hel⟩ := hs.slice ht
          simp only [List.length_map, List.length_range] at hsz
          have hss : ∀ i, i < l → Small P e (D i) := fun i hi => hel _ (List.mem_map.2 ⟨i, List.mem_range.2 hi, rfl⟩)
          obtain ⟨ys, hyl, hyp, hyc⟩ := ofOne (a := a) (m := l) dec (fun i hi => hx i (by omega)) hss
          refine ⟨some a, l, c, ys, rfl, ⟨by simp [hyl], hlc, (fun h => by cases h), fun ad had i v hi => by cases had; exact hyc i v hi⟩, hyp, ?_⟩
          have : l * P.bytesOf e ≤ (l + (c - l)) * P.bytesOf e := Nat.mul_le_mul_right _ (by omega)
          unfold reachBytes at hsz
          omega
      split
      · rename_i k he
        refine condI (fun _ => ⟨cs, hK⟩) (fun hc => ?_)
        have hc : P.cellsOf e = 1 := Nat.eq_of_beq_eq_true (by cases hb : Nat.beq (P.cellsOf e) 1 <;> simp_all)
        obtain ⟨a, l, c, ys, rfl, h1, h2, h3⟩ := gen (α := Int) (f := Value.int k) (p := fun n => (Lit.int k n).wf = true) hc (fun hx _ => by
          obtain ⟨z, hz, _, hw⟩ := DataW.trod_int he hx
          cases hz; exact ⟨z, rfl, hw⟩)
        exact ⟨a, l, c, ys, h1, h2, h3, hK⟩
      · rename_i he
        refine condI (fun _ => ⟨cs, hK⟩) (fun hc => ?_)
        have hc : P.cellsOf e = 1 := Nat.eq_of_beq_eq_true (by cases hb : Nat.beq (P.cellsOf e) 1 <;> simp_all)
        obtain ⟨a, l, c, ys, rfl, h1, h2, h3⟩ := gen (α := ByteArray) (f := Value.string) (p := fun s => s.size ≤ 140737488351232) hc (fun hx hsm => by
          obtain ⟨s, hz, rfl, hw⟩ := DataW.trod_string he hx
          cases hz
          refine ⟨s, rfl, ?_⟩
          have := hsm s.data.toList.length (by simp [DataW.weights])
          rwa [Array.length_toList] at this)
        exact ⟨a, l, c, ys, h1, h2, h3, hK⟩
      · rename_i he
        refine condI (fun _ => ⟨cs, hK⟩) (fun hc => ?_)
        have hc : P.cellsOf e = 1 := Nat.eq_of_beq_eq_true (by cases hb : Nat.beq (P.cellsOf e) 1 <;> simp_all)
        obtain ⟨a, l, c, ys, rfl, h1, _, h3⟩ := gen (α := Bool) (f := Value.bool) (p := fun _ => True) hc (fun hx _ => by
          obtain ⟨b, hz, _⟩ := DataW.trod_bool he hx
          cases hz; exact ⟨b, rfl, trivial⟩)
        exact ⟨a, l, c, ys, h1, h3, hK⟩
      · rcases Deep.open_slice ht h with ⟨rfl, rfl⟩ | ⟨a, l, c, mm, k, D, Pl, rfl, hb, hlc, hcm, hmm, rfl, hx⟩
        · exact ⟨none, 0, 0, by omega, fun _ => rfl, by omega, (fun q hq => by cases hq), hK⟩
        · rw [if_pos (hsp _)] at hmm
          obtain rfl := hmm.symm
          obtain ⟨hsz, hel⟩ := hs.slice ht
          simp only [List.length_map, List.length_range] at hsz
          have hle : l * P.bytesOf e ≤ (l + (c - l)) * P.bytesOf e := Nat.mul_le_mul_right _ (by omega)
          unfold reachBytes at hsz
          refine ⟨some a, l, c, hlc, (fun h => by cases h), by omega, fun q hq i hi => ?_, hK⟩
          cases hq
          obtain ⟨cs', h1, h2⟩ := hx i (by omega)
          obtain ⟨_, hlen, hcell⟩ := World.cells?_some h1
          refine vw_of hsp m k e cs' _ _ h2 (hel _ (List.mem_map.2 ⟨i, List.mem_range.2 hi, rfl⟩)) (cellsAt_of fun j v hj => ?_)
          have hjl : j < P.cellsOf e := by rw [← hlen]; exact (List.getElem?_eq_some_iff.1 hj).1
          rw [Nat.zero_add, hcell j hjl]; exact hj
    · rename_i fs ht
      obtain ⟨xs, k, _, rfl, hcl, hxl, hf⟩ := DataW.trod_struct ht h
      cases hB : contigB P fs.toList 0 (P.cellsOf t) with
      | false => exact ⟨cs, hK⟩
      | true =>
        refine vwF_of (n := k) hK (fun t cs x K h hs hK => vw_of hsp m k t cs x K h hs hK) fs.toList xs 0 [] (by simp) (by rw [hcl]; exact hB) (by simp [hxl]) (fun i f hi => hf i f (by simpa using hi)) ?_
        intro w hw
        exact hs w (by simpa [DataW.weights, ht] using hw)
    · exact ⟨cs, hK⟩

end

/-! ## All arguments -/

def aggT (P : Program) (t : TypeId) : Bool := match P.underlying t with | some (.struct _) => true | _ => false
def plainT (P : Program) (t : TypeId) : Bool := match P.underlying t with | some .bool | some (.int _) | some .string | some (.slice _) => true | _ => false
def valOf (P : Program) (t : TypeId) (cs : List Value) : Value := bif aggT P t then .agg cs.toArray else cs.headD undef

def vwA (P : Program) (W : World) (m : Nat) : List TypeId → (List Value → Prop) → Prop
  | [], K => K []
  | t :: ts, K => vw P W m t fun cs => vwA P W m ts fun vs => K (valOf P t cs :: vs)

theorem vwA_of {H : Type} {enc : TypeId × Value → H} {P : Program} {W : World} {base : Nat} (m : Nat) :
    ∀ (ts : List TypeId) (vs : List Value) (ds : List (DataW H)) (ps : List MemPlace) (K : List Value → Prop), ts.all (fun t => aggT P t || plainT P t) = true →
    (∀ (j : Nat) t v, ts[j]? = some t → vs[j]? = some v → Value.okWide P W .any base t v) → DataW.TrodAll enc P W 0 (fun _ => true) true ts vs ds ps →
    (∀ n ∈ DataW.weightsEach P ts ds, n ≤ reachBytes) → K vs → vwA P W m ts K
  | [], vs, ds, ps, K, _, _, h, _, hK => by
    obtain ⟨rfl, _, _⟩ := trodAll_nil h
    exact hK
  | t :: ts, vs, ds, ps, K, hall, hok, h, hw, hK => by
    obtain ⟨v, vs1, d, ds1, p, q, rfl, rfl, rfl, h1, h2⟩ := trodAll_cons h
    simp only [List.all_cons, Bool.and_eq_true] at hall
    simp only [DataW.weightsEach, List.mem_append] at hw
    obtain ⟨fuel, hf⟩ := h1
    unfold vwA
    have hval : valOf P t v.cells.toList = v := by
      have hv := hok 0 t v rfl rfl
      unfold valOf
      have hB := hall.1
      rw [Bool.or_eq_true] at hB
      cases ha : aggT P t with
      | true =>
        unfold aggT at ha
        split at ha
        · rename_i fs hu
          obtain ⟨cs, rfl, _⟩ := okWide_struct hu hv
          simp [Value.cells]
        · cases ha
      | false =>
        rw [ha] at hB
        simp only [Bool.false_eq_true, false_or] at hB
        unfold plainT at hB
        split at hB
        · rename_i hu; obtain ⟨b, rfl⟩ := okWide_bool hu hv; simp [Value.cells]
        · rename_i k hu; obtain ⟨n, rfl⟩ := okWide_int hu hv; simp [Value.cells]
        · rename_i hu; obtain ⟨s, rfl⟩ := okWide_string hu hv; simp [Value.cells]
        · rename_i e hu; obtain ⟨a, l, c, rfl⟩ := okWide_slice hu hv; simp [Value.cells]
        · cases hB
    refine vw_of (fun _ => rfl) m fuel t _ _ _ hf (fun n hn => hw n (.inl hn)) ?_
    rw [hval]
    exact vwA_of m ts vs1 ds1 q _ hall.2 (fun j t' v' h1 h2 => hok (j + 1) t' v' h1 h2) h2 (fun n hn => hw n (.inr hn)) hK

/-! ## Behind the call -/

theorem trodAll_below {H : Type} {enc : TypeId × Value → H} {P : Program} (hl : laidOutB P = true) {W W' : World} (hb : Below W.heap.size W W') :
    ∀ (ts : List TypeId) (vs : List Value) (ds : List (DataW H)) (ps : List MemPlace), (ts.all fun t => P.readableRec t && decide (t < P.types.size)) = true →
      DataW.TrodAll enc P W 0 (fun _ => true) true ts vs ds ps → (∀ x ∈ ps, x.block < W.heap.size) → DataW.TrodAll enc P W' 0 (fun b => decide (b < W.heap.size)) true ts vs ds ps
  | [], vs, ds, ps, _, h, _ => by
    obtain ⟨rfl, rfl, rfl⟩ := trodAll_nil h
    exact trodAll_mk0
  | t :: ts, vs, ds, ps, hall, h, hlt => by
    obtain ⟨v, vs1, d, ds1, p, q, rfl, rfl, rfl, h1, h2⟩ := trodAll_cons h
    simp only [List.all_cons, Bool.and_eq_true, decide_eq_true_eq] at hall
    exact trodAll_cons_mk (Below.trod hl hall.1.1 hall.1.2 h1 hb fun x hx => hlt x (by simp [hx]))
      (trodAll_below hl hb ts vs1 ds1 q (by simpa using hall.2) h2 fun x hx => hlt x (by simp [hx]))

theorem length_trodAll {H : Type} {enc : TypeId × Value → H} {P : Program} {W : World} : ∀ {ts : List TypeId} {vs : List Value} {ds : List (DataW H)} {ps : List MemPlace},
    DataW.TrodAll enc P W 0 (fun _ => true) true ts vs ds ps → ds.length = ts.length
  | [], _, _, _, h => by obtain ⟨_, rfl, _⟩ := trodAll_nil h; rfl
  | _ :: _, _, _, _, h => by
    obtain ⟨v, vs1, d, ds1, p, q, rfl, rfl, rfl, _, h2⟩ := trodAll_cons h
    simp [length_trodAll h2]

/-- A law's contract, from its walk. -/
theorem law_contract {H : Type} {enc : TypeId × Value → H} {P : Program} {f : FuncId} {fn : Func} {s : ChangeSpec} {fresh handsOn : Bool} {tb : TypeId} {ts : List TypeId} (hts : fn.params.toList = ts)
    (hl : laidOutB P = true) (hread : (ts.all fun t => P.readableRec t && decide (t < P.types.size)) = true) (hpl : ts.all (fun t => aggT P t || plainT P t) = true)
    (hres : fn.resultTypes.toList = [tb]) (htb : P.underlying tb = some .bool) (hvars : s.vars = [])
    (hspec : ∀ ds : List (DataW H), ds.length = ts.length → s.fn H ds = { results := [.lit (.bool true)], args := ds })
    (walk : ∀ (W : World) (args : List Value), vwA P W 6 ts (fun vs => args = vs) → CallR P f args W fun v w' => v = .bool true ∧ Kept No W w')
    (W : World) (base : Nat) (args : Array Value) (ds gs : List (DataW H)) (before : List MemPlace)
    (hval : ∀ (j : Nat) t v, fn.params[j]? = some t → args[j]? = some v → Value.okWide P W .any base t v)
    (hW : DataW.Whole enc P fn.params.toList s.vars false W args.toList ds gs before)
    (hsz : (DataW.weightsEach P (fn.params.toList ++ s.plain.varTypes P) (ds ++ gs)).all (· ≤ reachBytes) = true) :
    Calls P f args W fun e W' => ∃ v, e = .returned v ∧ s.post enc P fn false fresh handsOn false W args v W' := by
  have hW' := hW
  obtain ⟨p, q, hA, hV, rfl, hfz, hnd⟩ := hW
  rw [hvars] at hV
  obtain ⟨rfl, rfl⟩ := trodVars_none hV
  have hlen := length_trodAll hA
  have hsz' : ∀ n ∈ DataW.weightsEach P ts ds, n ≤ reachBytes := by
    have hvt : s.plain.varTypes P = [] := by
      have : s.plain.vars = [] := hvars
      unfold DataSpec.varTypes
      rw [this]; rfl
    rw [hvt] at hsz
    simp only [List.append_nil] at hsz
    rw [hts] at hsz
    intro n hn
    have := List.all_eq_true.1 hsz n hn
    simpa using this
  have hlt : ∀ x ∈ p, x.block < W.heap.size := fun x hx => hW'.lt x (by simp [hx])
  rw [hts] at hA hlen
  have hv := vwA_of 6 ts args.toList ds p (fun vs => args.toList = vs) hpl (fun j t v h1 h2 => hval j t v (by rw [← hts] at h1; simpa using h1) (by simpa using h2)) hA hsz' rfl
  have hc := walk W args.toList hv
  unfold CallR at hc
  refine Calls.mono (by simpa using hc) fun e W' he => ?_
  obtain ⟨v, rfl, rfl, hk⟩ := he
  have hB := hk.below
  refine ⟨_, rfl, ds, [], p ++ [], [], p, [], hW', ?_, ?_, ?_, hB.frame _, fun h => by cases h⟩
  · rw [List.append_nil, hspec ds (by rw [hlen]), hres]
    have e1 : (Value.bool true).resultList fn.resultTypes.size = [.bool true] := by
      have : fn.resultTypes.size = 1 := by rw [← Array.length_toList, hres]; rfl
      rw [this]; rfl
    rw [e1]
    exact trodAll_mk1 ⟨1, by simp [DataW.trod, htb, Value.cells]⟩
  · rw [List.append_nil, hspec ds (by rw [hlen]), hts]
    exact trodAll_below hl hB ts args.toList ds p hread hA hlt
  · rw [List.append_nil, hspec ds (by rw [hlen]), hvars]
    rfl

end Go.Lw

namespace Go.Lw

abbrev Slc := Option Addr × Nat × Nat
def slv (e : Slc) : Value := .slice e.1 e.2.1 e.2.2
instance : Inhabited Slc := ⟨(none, 0, 0)⟩

theorem slv_one (es : List Slc) : ∀ u ∈ es.map slv, u.oneCell' = true := by
  intro u hu; rw [List.mem_map] at hu; obtain ⟨e, _, rfl⟩ := hu; rfl

/-- What is empty is kept whatever turns. -/
theorem RdS.keep0 {sz : Nat} {w w' : World} {a : Option Addr} {l c : Nat} {xs : List Value} (h : RdS sz w a l c xs) {S : Nat → Prop} (k : Kept S w w') (hn : xs ≠ [] → ∀ b, inA a b → ¬ S b) : RdS sz w' a l c xs := by
  cases xs with
  | nil => obtain ⟨hl, hlc, hz, _⟩ := h; exact ⟨hl, hlc, hz, fun ad _ i v hi => by simp at hi⟩
  | cons x xs => exact h.keep k (fun b _ hb => hn (by simp) b hb)

theorem RdB.keep0 {w w' : World} {a : Option Addr} {l c : Nat} {bs : List Int} (h : RdB w a l c bs) {S : Nat → Prop} (k : Kept S w w') (hn : bs ≠ [] → ∀ b, inA a b → ¬ S b) : RdB w' a l c bs :=
  RdS.keep0 h k fun hne => hn (fun e => hne (by rw [e]; rfl))

theorem RdB.old {w : World} {a : Option Addr} {l c : Nat} {bs : List Int} (h : RdB w a l c bs) (hne : bs ≠ []) : ∀ b, inA a b → b < w.heap.size :=
  RdS.old h fun e => hne (By_inj (b := []) e)

/-- Lists of bytes that are read; R: the memory they lie in. -/
def RdL (R : Nat → Prop) (w : World) (a : Option Addr) (l c : Nat) (xss : List (List Int)) : Prop :=
  ∃ es : List Slc, RdS 1 w a l c (es.map slv) ∧ es.length = xss.length ∧ (l ≠ 0 → ∀ k, inA a k → R k) ∧
    ∀ (i : Nat) (e : Slc) (xs : List Int), es[i]? = some e → xss[i]? = some xs → RdB w e.1 e.2.1 e.2.2 xs ∧ (xs ≠ [] → ∀ k, inA e.1 k → R k)

theorem RdL.len {R : Nat → Prop} {w : World} {a : Option Addr} {l c : Nat} {xss : List (List Int)} (h : RdL R w a l c xss) : xss.length = l := by
  obtain ⟨es, h1, h2, _⟩ := h
  have := h1.1
  simp at this; omega

theorem RdL.keep {R S : Nat → Prop} {w w' : World} {a : Option Addr} {l c : Nat} {xss : List (List Int)} (h : RdL R w a l c xss) (k : Kept S w w') (hn : ∀ x, R x → ¬ S x) : RdL R w' a l c xss := by
  have hlen := h.len
  obtain ⟨es, h1, h2, h3, h4⟩ := h
  refine ⟨es, h1.keep0 k (fun hne b hb => hn b (h3 (fun e => hne (List.eq_nil_of_length_eq_zero (by rw [List.length_map]; omega))) b hb)), h2, h3, fun i e xs he hx => ?_⟩
  obtain ⟨h5, h6⟩ := h4 i e xs he hx
  exact ⟨h5.keep0 k fun hne b hb => hn b (h6 hne b hb), h6⟩

theorem RdL.mono {R R' : Nat → Prop} {w : World} {a : Option Addr} {l c : Nat} {xss : List (List Int)} (h : RdL R w a l c xss) (hr : ∀ x, R x → R' x) : RdL R' w a l c xss := by
  obtain ⟨es, h1, h2, h3, h4⟩ := h
  exact ⟨es, h1, h2, fun hl k hk => hr k (h3 hl k hk), fun i e xs he hx => ⟨(h4 i e xs he hx).1, fun hne k hk => hr k ((h4 i e xs he hx).2 hne k hk)⟩⟩

theorem RdL.get {R : Nat → Prop} {w : World} {a : Option Addr} {l c : Nat} {xss : List (List Int)} (h : RdL R w a l c xss) {i : Nat} (hi : i < xss.length) :
    ∃ (q : Addr) (e : Slc), a = some q ∧ w.cell? (q.add i) = some (.slice e.1 e.2.1 e.2.2) ∧ RdB w e.1 e.2.1 e.2.2 xss[i] ∧ (xss[i] ≠ [] → ∀ k, inA e.1 k → R k) := by
  obtain ⟨es, h1, h2, h3, h4⟩ := h
  have hie : i < es.length := by omega
  cases a with
  | none =>
    have := (RdS.isNone h1 rfl).2.2
    have hl : (es.map slv).length = 0 := by rw [this]; rfl
    simp at hl; subst hl; simp at hie
  | some q =>
    have hc := h1.2.2.2 q rfl i (slv es[i]) (by simp [hie])
    obtain ⟨h5, h6⟩ := h4 i es[i] xss[i] (by simp) (by simp)
    exact ⟨q, es[i], rfl, hc, h5, h6⟩

theorem RdL.nil (R : Nat → Prop) (w : World) : RdL R w none 0 0 [] := ⟨[], RdS.nil 1 w, rfl, fun h => absurd rfl h, fun i e xs he => by simp at he⟩

theorem RdL.from {R : Nat → Prop} {w : World} {a : Option Addr} {l c : Nat} {xss : List (List Int)} (h : RdL R w a l c xss) (i : Nat) (hi : i ≤ l) : RdL R w (adv a i c 1) (l - i) (c - i) (xss.drop i) := by
  obtain ⟨es, h1, h2, h3, h4⟩ := h
  refine ⟨es.drop i, ?_, by simp [h2], fun hl k hk => h3 (by omega) k (inA_adv.1 hk), fun j e xs he hx => h4 (i + j) e xs (by rw [List.getElem?_drop] at he; exact he) (by rw [List.getElem?_drop] at hx; exact hx)⟩
  have := RdS.from h1 i hi
  rw [Nat.mul_one] at this
  rw [List.map_drop]; exact this

/-- A row's lists. -/
theorem rdL_of_view {W : World} {a : Option Addr} {l c : Nat} (hlc : l ≤ c) (hz : a = none → c = 0)
    (h : ∀ q : Addr, a = some q → ∀ i : Nat, i < l → ∃ (a' : Option Addr) (l' c' : Nat) (ns : List Int), RdS 1 W a' l' c' (ns.map (Value.int .u8)) ∧ (∀ n ∈ ns, (Lit.int .u8 n).wf = true) ∧ l' * 1 ≤ 140737488351232 ∧ W.cell? (q.add (i * 1)) = some (.slice a' l' c') ∧ True) :
    ∃ xss, RdL (· < W.heap.size) W a l c xss ∧ (∀ xs ∈ xss, xs.length ≤ 140737488351232) ∧ ∀ xs ∈ xss, ∀ n ∈ xs, 0 ≤ n ∧ n ≤ 255 := by
  cases a with
  | none =>
    have := hz rfl
    obtain rfl : l = 0 := by omega
    subst this
    exact ⟨[], RdL.nil _ _, by simp, by simp⟩
  | some q =>
    obtain ⟨f, hf⟩ := Deep.choose_lt (α := Slc × List Int) (n := l) (p := fun i x => RdB W x.1.1 x.1.2.1 x.1.2.2 x.2 ∧ x.1.2.1 ≤ 140737488351232 ∧ W.cell? (q.add i) = some (slv x.1) ∧ ∀ n ∈ x.2, 0 ≤ n ∧ n ≤ 255) (fun i hi => by
      obtain ⟨a', l', c', ns, h1, h2, h3, h4, _⟩ := h q rfl i hi
      exact ⟨((a', l', c'), ns), h1, by simpa using h3, by simpa [slv] using h4, fun n hn => bounds_u8 (h2 n hn)⟩)
    refine ⟨(List.range l).map fun i => (f i).2, ⟨(List.range l).map fun i => (f i).1, ⟨by simp, hlc, (fun h => by cases h), fun ad had i v hi => ?_⟩, by simp, fun hl k hk => ?_, fun i e xs he hx => ?_⟩, fun xs hx => ?_, fun xs hx => ?_⟩
    · cases had
      by_cases hil : i < l
      · simp [hil] at hi; subst hi; exact (hf i hil).2.2.1
      · simp [hil] at hi
    · obtain ⟨ad, had, rfl⟩ := hk
      cases had
      have := World.block_lt_of_cell? W _ (hf 0 (by omega)).2.2.1
      have hbe : (q.add 0).block = q.block := by unfold Addr.add; split <;> rfl
      omega
    · by_cases hil : i < l
      · simp [hil] at he hx; subst he hx; exact ⟨(hf i hil).1, fun hne k hk => (hf i hil).1.old hne k hk⟩
      · simp [hil] at he
    · obtain ⟨i, hi, rfl⟩ := List.mem_map.1 hx
      have hi := List.mem_range.1 hi
      have := (hf i hi).1.len
      have := (hf i hi).2.1
      omega
    · obtain ⟨i, hi, rfl⟩ := List.mem_map.1 hx
      exact (hf i (List.mem_range.1 hi)).2.2.2

/-! ## Conversions -/

section
variable {P : Program}

def u8T (P : Program) (t : TypeId) : Bool :=
  match P.underlying t with
  | some (.slice e) => match P.underlying e with | some (.int .u8) => true | _ => false
  | _ => false

theorem u8T_spec {t : TypeId} (h : u8T P t = true) : ∃ e, P.underlying t = some (.slice e) ∧ P.underlying e = some (.int .u8) := by
  unfold u8T at h
  split at h
  · rename_i e he
    split at h
    · rename_i hu; exact ⟨e, he, hu⟩
    · cases h
  · cases h

def u8E (P : Program) (t e : TypeId) : Bool :=
  match P.underlying t with
  | some (.slice e') => Nat.beq e' e && (match P.underlying e' with | some (.int .u8) => true | _ => false)
  | _ => false

theorem u8E_spec {t e : TypeId} (h : u8E P t e = true) : P.underlying t = some (.slice e) ∧ P.underlying e = some (.int .u8) := by
  unfold u8E at h
  split at h
  · rename_i e' he
    simp only [Bool.and_eq_true] at h
    have : e' = e := Nat.eq_of_beq_eq_true h.1
    subst this
    have h2 := h.2
    split at h2
    · rename_i hu; exact ⟨he, hu⟩
    · cases h2
  · cases h

/-- The bytes of a string's constant. -/
theorem run_const (w : World) {t e : TypeId} (ht : u8E P t e = true) (bs : List Int) :
    ∃ w', (convert t t (.slice (some ⟨w.heap.size, 0, none⟩) bs.length bs.length)).run P (w.alloc (.cells (By bs).toArray e)) = .ok (.slice (some ⟨w.heap.size, 0, none⟩) bs.length bs.length) w' ∧
      RdB w' (some ⟨w.heap.size, 0, none⟩) bs.length bs.length bs ∧ Kept No w w' ∧ w'.heap.size = w.heap.size + 1 := by
  obtain ⟨h1, h2⟩ := u8E_spec ht
  refine ⟨_, Lib.run_convert_bytes_const w t e (By bs).toArray bs.length bs.length h1 h2, ⟨by simp, Nat.le_refl _, (fun h => by cases h), fun ad had i v hi => ?_⟩, Kept.alloc _ _ _, by show (w.heap.push _).size = _; simp⟩
  cases had
  rw [add_none, Nat.zero_add]
  have hb := heap_alloc_new w (.cells (By bs).toArray e ((By bs).toArray.size, (By bs).toArray.size + 1))
  rw [cell_of_row _ _ i _ _ _ hb]
  simpa using hi

theorem run_str (w : World) {t ts : TypeId} (ht : u8T P t = true) (hs : isStringT P ts = true) {a : Option Addr} {l c : Nat} {bs : List Int} (h : RdB w a l c bs) :
    (convert t ts (.slice a l c)).run P w = .ok (.string (strOfNums bs)) w := by
  obtain ⟨e, h1, h2⟩ := u8T_spec ht
  have h3 : P.underlying ts = some .string := by
    unfold isStringT at hs
    split at hs
    · assumption
    · cases hs
  have hlen := h.len
  rw [run_convert_bytes_string w t ts e a l c h1 h2 h3]
  cases a with
  | none =>
    have := (RdS.isNone h rfl).2.2
    have hb : bs = [] := By_inj (b := []) this
    subst hb
    simp [Conv.bytesToString]
    rfl
  | some q =>
    have hl : (loadCells q l).run P w = .ok (bs.map (Value.int .u8)).toArray w := by
      have := run_loadCells_list (P := P) w q (bs.map (Value.int .u8)) (fun j v hj => h.2.2.2 q rfl j v hj)
      simpa [hlen] using this
    rw [run_bytesToString w q l c bs hl, foldl_push_bytes]
    simp [strOfNums, ByteArray.empty, ByteArray.emptyWithCapacity]
    rfl
end

end Go.Lw
