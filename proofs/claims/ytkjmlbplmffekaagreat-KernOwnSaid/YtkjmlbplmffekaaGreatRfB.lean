/-
  A range over a function: what an iterator is, and what a function does that ranges over one. Conditions: none; it speaks of whatever program.
-/
import Derived.Test.YtkjmlbplmffekaaGreatRf
namespace Go.Lw

/-! ## An iterator -/

theorem funI_calls {P : Program} {A : Ann} {k : FuncId} {fn : Func} {c : Code} {args : List Value} {w : World} {Q : Value → World → Prop}
    (hf : P.funcs[k]? = some fn) (hb : fn.body = some c) (hn : (Nat.ble args.length fn.ntmps && fits fn.ntmps c) = true)
    (h : semI P A c (funQ P fn.results.toList Q) (env0 args) w) : CallR P k args w Q := by
  simp only [Bool.and_eq_true] at hn
  have hle := Nat.le_of_ble_eq_true hn.1
  have hsz : (args.toArray ++ Array.replicate (fn.ntmps - args.toArray.size) undef).size = fn.ntmps := by simp; omega
  have ha : AgreeD [] { tmps := args.toArray ++ Array.replicate (fn.ntmps - args.toArray.size) undef, defers := [] } (env0 args) := by
    refine ⟨rfl, fun t => ?_⟩
    unfold env0
    simp only [Array.getD_eq_getD_getElem?]
    by_cases ht : t < args.length
    · rw [Array.getElem?_append_left (by simpa using ht)]; simp
    · have h1 : args[t]? = none := by simp; omega
      rw [h1]
      rw [Array.getElem?_append_right (by simp; omega)]
      by_cases h2 : t - args.length < fn.ntmps - args.length
      · simp [h2]
      · simp [h2]
  unfold CallR
  rw [← callsIn_FW (ro := none) (n := 0)]
  refine callsIn_of_wp hf hb trivial ?_ rfl
  refine wpIn_mono (semI_sound c _ (env0 args) w _ ha (by simp only [hsz]; exact hn.2) h) ?_
  intro ex a' w' ⟨_, e', ha', _, _, hq⟩
  have fin : resS P fn.results.toList e' w' (fun vs => Q (retV vs) w') → a'.defers = [] ∧ ∃ v, (results fn a'.tmps).run P w' = .ok v w' ∧ ∃ v', Ending.returned v = .returned v' ∧ Q v' w' := fun hr => by
    obtain ⟨vs, hK, hrun⟩ := resS_run ha' _ _ hr
    exact ⟨ha'.1, retV vs, results_run hrun, _, rfl, hK⟩
  cases ex with
  | normal => exact fin hq
  | ret => exact fin hq
  | exit i => exact hq.elim
  | goto i => exact hq.elim
  | panic c => exact hq.elim
  | outgrown => exact hq.elim

/-- An iterator that yields these, one behind the other, and leans on the blocks Kp. -/
def IterOK (P : Program) (gf : FuncId) (lb : List Value) (xs : List (List Value)) (Kp : Nat → Prop) (w : World) : Prop :=
  ∀ (l : Nat) (J Jx : Nat → World → Prop) (W : World), Kept No w W → (∀ i A B, J i A → Kept No A B → J i B) → (∀ i A B, Jx i A → Kept No A B → Jx i B) →
    (∀ i x A, xs[i]? = some x → J i A → YieldR P l x A fun b B => cond b (J (i + 1) B ∧ Kept (fun z => ¬ Kp z) A B) (Jx i B)) → J 0 W →
    CallR P gf (.func (.yield l) #[] #[] :: lb) W fun _ W' => J xs.length W' ∨ ∃ i, i < xs.length ∧ Jx i W'

/-! ## The statement -/

def updL (e : Env) : List Nat → List Value → Env
  | p :: ps, v :: vs => updL (upd e (some p) v) ps vs
  | _, _ => e

theorem updL_agree : ∀ (ps : List Nat) (vs : List Value) (a : Act) (e : Env), AgreeD [] a e → (∀ p ∈ ps, p < a.tmps.size) →
    AgreeD [] { tmps := (ps.zip vs).foldl (fun t (pv : Nat × Value) => t.setIfInBounds pv.1 pv.2) a.tmps, defers := [] } (updL e ps vs) ∧ ((ps.zip vs).foldl (fun t (pv : Nat × Value) => t.setIfInBounds pv.1 pv.2) a.tmps).size = a.tmps.size
  | [], vs, a, e, ha, _ => ⟨⟨rfl, ha.2⟩, rfl⟩
  | p :: ps, [], a, e, ha, _ => ⟨⟨rfl, ha.2⟩, rfl⟩
  | p :: ps, v :: vs, a, e, ha, hp => by
    have h1 := ha.put (some p) v (fun k hk => by cases hk; exact hp p (by simp))
    have := updL_agree ps vs (a.put (some p) v) _ h1 (fun q hq => by rw [put_size]; exact hp q (by simp [hq]))
    simp only [List.zip_cons_cons, List.foldl_cons, updL]
    refine ⟨this.1, ?_⟩
    have h2 := this.2
    rw [put_size] at h2
    exact h2

def Steady (D : Nat) (I : Nat → World → Prop) : Prop := ∀ i A B, I i A → Kept (fun z => z = D ∨ z = D + 1) A B → I i B

/-- One round: the assignments turn no world; the body. -/
def roundS (P : Program) (A : Ann) (D : Nat) (assign body : Code) (T : Nat → Prop) (next stop : World → Prop) (e : Env) (W : World) : Prop :=
  semI P A assign (fun ex e' w' => match ex with
    | .normal => w' = W ∧ ∀ W', Kept (fun z => z = D + 1) W W' → semI P A body (fun ex _ W'' => match ex with
        | .normal => Kept T W' W'' ∧ next W''
        | .ret => Kept T W' W'' ∧ stop W''
        | _ => False) e' W'
    | _ => False) e W

def markD (D : Nat) : List Deferred := [{ target := .collected D, args := #[] }]

theorem Kept.putObj (w : World) (l : Nat) (o : Obj) : Kept (fun z => z = l) w (w.putObj l o) :=
  ⟨rfl, rfl, rfl, by simp, fun k _ hk => World.putObj_heap_other hk⟩

theorem rf_sound {P : Program} {A : Ann} {g : Operand} {ps : Array Tmp} {assign body : Code} {Q : Exit → Act → World → Prop} {a : Act} {e : Env} {w : World} (ha : AgreeD [] a e)
    (hfit : (fits a.tmps.size assign && fits a.tmps.size body && ps.toList.all (Nat.blt · a.tmps.size)) = true)
    {gf : FuncId} {lb : Array Value} (hg : ev e g = .func (.func gf) #[] lb) (hb : bodyB P gf = true)
    {xs : List (List Value)} {Kp T : Nat → Prop} (hit : IterOK P gf lb.toList xs Kp w) (hKp : ∀ z, Kp z → z < w.heap.size) (hT : ∀ z, T z → ¬ Kp z ∧ z ≠ w.heap.size ∧ z ≠ w.heap.size + 1)
    {I Ix : Nat → World → Prop} (hI : Steady w.heap.size I) (hIx : Steady w.heap.size Ix) (h0 : I 0 w)
    (hround : ∀ i x W, xs[i]? = some x → I i W → w.heap.size + 2 ≤ W.heap.size → x.length = ps.size ∧ roundS P A w.heap.size assign body T (I (i + 1)) (Ix i) (updL e ps.toList x) W)
    (hdone : ∀ W, I xs.length W → W.heap[w.heap.size]? = some (.deferred (some [])) → Q .normal { a with defers := markD w.heap.size } W)
    (hstop : ∀ i W, Ix i W → W.heap[w.heap.size]? = some (.deferred (some [])) → Q .ret { a with defers := markD w.heap.size } W) :
    (Code.rangeFunc g ps assign body).wpIn (FW none) 0 P Q a w := by
  simp only [Bool.and_eq_true] at hfit
  obtain ⟨⟨hfa, hfb⟩, hfp⟩ := hfit
  refine wpIn_rangeFunc ?_
  intro fn _
  obtain ⟨rec, hrec⟩ : ∃ rec : LoopState → Option Code → Loop, rec = fun st pe => { state := st, pending := pe, fn := fn, tmps := a.tmps, params := ps, assign := assign, body := body, defers := w.heap.size } := ⟨_, rfl⟩
  obtain ⟨W1, hW1⟩ : ∃ W1, (w.alloc (.deferred (some []))).alloc (.loop (rec .ready none)) = W1 := ⟨_, rfl⟩
  have hL1 : W1.heap[w.heap.size + 1]? = some (.loop (rec .ready none)) := by
    rw [← hW1]; have := World.alloc_heap_new (w.alloc (.deferred (some []))) (.loop (rec .ready none)); rwa [World.size_alloc] at this
  have hk1 : Kept No w W1 := by rw [← hW1]; exact (Kept.alloc No w _).no (Kept.alloc No _ _)
  have hD1 : W1.heap[w.heap.size]? = some (.deferred (some [])) := by
    rw [← hW1]
    exact ((Kept.alloc No (w.alloc (.deferred (some []))) (.loop (rec .ready none))).block w.heap.size (by simp) (fun e => e)).trans (World.alloc_heap_new w _)
  have hnb : ∀ {A B : World}, Kept No A B → Kept (fun z => z = w.heap.size ∨ z = w.heap.size + 1) A B := fun h => h.mono fun _ _ e => e.elim
  have blk : ∀ {A B : World} {k : Nat} {o : Obj} {S : Nat → Prop}, A.heap[k]? = some o → Kept S A B → ¬ S k → B.heap[k]? = some o := fun h k hn => (k.block _ (Array.getElem?_eq_some_iff.1 h).1 hn).trans h
  have heg : a.eval g = .func (.func gf) #[] lb := by rw [ha.eval]; exact hg
  refine ⟨w.heap.size + 1, markD w.heap.size, W1, { target := .fn (.func gf) lb, args := #[.func (.yield (w.heap.size + 1)) #[] #[]] }, W1, gf,
    #[.func (.yield (w.heap.size + 1)) #[] #[]] ++ lb, W1, ?_, ?_, fun _ _ => trivial, ?_, (fun e => by cases e), ?_⟩
  · rw [← hW1, hrec]; exact run_enterLoop_outer _ _ _ _ _
  · simp only [resolve, heg]
    simp [go_sem]
  · simp [invoke, go_sem, bodyB_run hb]
  · have hcall := hit (w.heap.size + 1)
      (fun i W => I i W ∧ W.heap[w.heap.size + 1]? = some (.loop (rec .ready none)) ∧ W.heap[w.heap.size]? = some (.deferred (some [])))
      (fun i W => Ix i W ∧ W.heap[w.heap.size + 1]? = some (.loop (rec .done (some .ret))) ∧ W.heap[w.heap.size]? = some (.deferred (some [])))
      W1 hk1 (fun i A B h k => ⟨hI i A B h.1 (hnb k), blk h.2.1 k (fun e => e), blk h.2.2 k (fun e => e)⟩) (fun i A B h k => ⟨hIx i A B h.1 (hnb k), blk h.2.1 k (fun e => e), blk h.2.2 k (fun e => e)⟩)
      ?_ ⟨hI 0 _ _ h0 (hnb hk1), hL1, hD1⟩
    · unfold CallR at hcall
      have e1 : (#[.func (.yield (w.heap.size + 1)) #[] #[]] ++ lb : Array Value) = (.func (.yield (w.heap.size + 1)) #[] #[] :: lb.toList).toArray := by simp
      rw [e1]
      refine (callsIn_FW.2 hcall).mono ?_
      rintro ex W2 ⟨v, rfl, ⟨hi, hl, hd⟩ | ⟨i, _, hi, hl, hd⟩⟩
      · have hk : Kept (fun z => z = w.heap.size + 1) W2 (W2.putObj (w.heap.size + 1) (.loop { rec .ready none with state := .exhausted })) := Kept.putObj _ _ _
        refine ⟨none, W2.putObj (w.heap.size + 1) (.loop { rec .ready none with state := .exhausted }), by have := run_endLoop (P := P) hl (by rw [hrec]; simp); rw [hrec] at this ⊢; exact this, ?_⟩
        have hq := hdone _ (hI _ _ _ hi (hk.mono fun z _ e => .inr e)) (blk hd hk (by omega))
        have hds : markD w.heap.size ++ a.defers = markD w.heap.size := by rw [ha.1]; simp
        show Q .normal { a with defers := markD w.heap.size ++ a.defers } _
        rw [hds]; exact hq
      · have hk : Kept (fun z => z = w.heap.size + 1) W2 (W2.putObj (w.heap.size + 1) (.loop { rec .done (some .ret) with state := .exhausted })) := Kept.putObj _ _ _
        refine ⟨some .ret, W2.putObj (w.heap.size + 1) (.loop { rec .done (some .ret) with state := .exhausted }), by have := run_endLoop (P := P) hl (by rw [hrec]; simp); rw [hrec] at this ⊢; exact this, wpIn_ret ?_⟩
        have hq := hstop i _ (hIx _ _ _ hi (hk.mono fun z _ e => .inr e)) (blk hd hk (by omega))
        have hds : markD w.heap.size ++ a.defers = markD w.heap.size := by rw [ha.1]; simp
        rw [hds]; exact hq
    · -- one round
      rintro i x W hx ⟨hi, hl, hd⟩
      have hlt : w.heap.size + 1 < W.heap.size := (Array.getElem?_eq_some_iff.1 hl).1
      obtain ⟨hxl, hr⟩ := hround i x W hx hi hlt
      have hy := run_yield (P := P) (args := x.toArray) hl (by rw [hrec]; simpa using hxl)
      rw [hrec] at hy
      refine ⟨fn, _, assign, body, hy, roundIn_of_wpIn trivial ?_⟩
      obtain ⟨hag, hsz⟩ := updL_agree ps.toList x a e ha (fun p hp => bltL (List.all_eq_true.1 hfp p hp))
      have etm : ((ps.zip x.toArray).foldl (fun tmps (t, a) => tmps.setIfInBounds t a) a.tmps) = ((ps.toList.zip x).foldl (fun t (pv : Nat × Value) => t.setIfInBounds pv.1 pv.2) a.tmps) := by
        rw [← Array.foldl_toList]; simp
      rw [FW_in]
      simp only [etm]
      refine wpIn_mono (semI_sound (ro := some (w.heap.size + 1)) (ds := []) assign _ _ W _ hag (by rw [hsz]; exact hfa) hr) ?_
      rintro ex a' w' ⟨_, e', ha', hs', _, hq⟩
      cases ex with
      | normal =>
        obtain ⟨rfl, hq⟩ := hq
        refine ⟨_, run_beginRound hl (by rw [hrec]), ?_⟩
        have hk2 : Kept (fun z => z = w.heap.size + 1) w' (w'.putObj (w.heap.size + 1) (.loop { rec .ready none with state := .busy })) := Kept.putObj _ _ _
        have hl2 : (w'.putObj (w.heap.size + 1) (.loop { rec .ready none with state := .busy })).heap[w.heap.size + 1]? = some (.loop { rec .ready none with state := .busy }) := World.putObj_heap_same hlt
        have hd2 := blk hd hk2 (by omega)
        refine wpIn_mono (semI_sound (ro := some (w.heap.size + 1)) (ds := []) body _ e' _ a' ha' (by rw [hs', hsz]; exact hfb) (hq _ hk2)) ?_
        rintro ex a3 W3 ⟨_, _, _, _, _, hp⟩
        have fin : ∀ (jump : Option Code), Kept T (w'.putObj (w.heap.size + 1) (.loop { rec .ready none with state := .busy })) W3 →
            (Instr.endRound (w.heap.size + 1) jump).run P W3 = .ok (.bool jump.isNone) (W3.putObj (w.heap.size + 1) (.loop (rec (if jump.isNone then .ready else .done) jump))) ∧
            (W3.putObj (w.heap.size + 1) (.loop (rec (if jump.isNone then .ready else .done) jump))).heap[w.heap.size + 1]? = some (.loop (rec (if jump.isNone then .ready else .done) jump)) ∧
            (W3.putObj (w.heap.size + 1) (.loop (rec (if jump.isNone then .ready else .done) jump))).heap[w.heap.size]? = some (.deferred (some [])) := fun jump hk3 => by
          have hl3 := blk hl2 hk3 (fun h => (hT _ h).2.2 rfl)
          have hd3 := blk hd2 hk3 (fun h => (hT _ h).2.1 rfl)
          have := run_endRound (P := P) jump hl3
          rw [hrec] at this ⊢
          exact ⟨this, World.putObj_heap_same (Array.getElem?_eq_some_iff.1 hl3).1, (World.putObj_heap_other (by omega)).trans hd3⟩
        cases ex with
        | normal =>
          obtain ⟨hk3, hn⟩ := hp
          obtain ⟨hrun, hl4, hd4⟩ := fin none hk3
          have hk4 : Kept (fun z => z = w.heap.size + 1) W3 (W3.putObj (w.heap.size + 1) (.loop (rec (if (none : Option Code).isNone then .ready else .done) none))) := Kept.putObj _ _ _
          refine ⟨_, _, hrun, true, rfl, ⟨hI _ _ _ hn (hk4.mono fun z _ e => .inr e), hl4, hd4⟩, ?_⟩
          refine ((hk2.mono (S' := fun z => ¬ Kp z) fun z _ e h => by have := hKp z h; omega).trans hk3 fun z _ h => (hT z h).1).trans hk4 fun z _ e h => by have := hKp z h; omega
        | ret =>
          obtain ⟨hk3, hn⟩ := hp
          obtain ⟨hrun, hl4, hd4⟩ := fin (some .ret) hk3
          have hk4 : Kept (fun z => z = w.heap.size + 1) W3 (W3.putObj (w.heap.size + 1) (.loop (rec (if (some Code.ret).isNone then .ready else .done) (some .ret)))) := Kept.putObj _ _ _
          exact ⟨_, _, hrun, false, rfl, hIx _ _ _ hn (hk4.mono fun z _ e => .inr e), hl4, hd4⟩
        | exit i => exact hp.elim
        | goto i => exact hp.elim
        | panic c => exact hp.elim
        | outgrown => exact hp.elim
      | exit i => exact hq.elim
      | goto i => exact hq.elim
      | ret => exact hq.elim
      | panic c => exact hq.elim
      | outgrown => exact hq.elim

end Go.Lw
