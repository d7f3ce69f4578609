/-
  The reading of code in a round of a range over a function, and in a frame that bears marks; code that draws nothing. Conditions: none; it speaks of whatever program.
  A range over a function: what an iterator is, and what a function does that ranges over one. Conditions: none; it speaks of whatever program.
  A function that ranges over a function. Conditions: none; it speaks of whatever program.
-/
import Derived.Test.YthddogeenimjcaaLm
import Derived.RangeFuncIn
import Derived.RangeFuncLeaves
import Derived.RangeFuncRecord
import Derived.TacticsIn
set_option linter.unusedVariables false
namespace Go.Lw

/-- No fence; in a round, or not. -/
def FW (ro : Option Nat) : Fence := { fn := fun _ => True, depth := none, alive := false, round := ro }
theorem FW_none : FW none = Fence.wide := rfl
theorem FW_in (l : Nat) : (FW none).inRound l = FW (some l) := rfl

theorem callsIn_FW {ro : Option Nat} {n : Nat} {P : Program} {f : FuncId} {args : Array Value} {w : World} {R : Ending → World → Prop} : CallsIn (FW ro) n P f args w R ↔ Calls P f args w R :=
  callsIn_wide (n := n)

def AgreeD (ds : List Deferred) (a : Act) (e : Env) : Prop := a.defers = ds ∧ ∀ t, a.tmps.getD t undef = e t

theorem AgreeD.eval {ds : List Deferred} {a : Act} {e : Env} (h : AgreeD ds a e) : a.eval = ev e := by
  funext x
  cases x with
  | tmp t => exact h.2 t
  | _ => rfl

theorem AgreeD.put {ds : List Deferred} {a : Act} {e : Env} (h : AgreeD ds a e) (d : Option Nat) (v : Value) (hd : ∀ k, d = some k → k < a.tmps.size) : AgreeD ds (a.put d v) (upd e d v) := by
  have h0 : Agree { a with defers := [] } e := ⟨rfl, h.2⟩
  have h1 := h0.put d v hd
  cases d with
  | none => exact ⟨h.1, h1.2⟩
  | some d => exact ⟨h.1, h1.2⟩

/-! ## A call of yield -/

/-- yield is called: a round. -/
def YieldR (P : Program) (l : Nat) (args : List Value) (W : World) (R : Bool → World → Prop) : Prop :=
  ∃ fn tmps assign body, (Instr.yield l args.toArray).run P W = .ok (.round l fn tmps assign body) W ∧ RoundIn (FW none) 0 P l fn tmps assign body W fun e W' => ∃ b, e = .returned (.bool b) ∧ R b W'

def opSI (P : Program) (r : Operand → Value) (o : Oper) (K : Value → World → Prop) (w : World) : Prop :=
  match o.op with
  | .call c =>
    match c.callee with
    | .value (.tmp t) => ∃ l : Nat, r (.tmp t) = .func (.yield l) #[] #[] ∧ YieldR P l (c.args.toList.map r) w fun b w' => K (.bool b) w'
    | _ => opS P r o K w
  | .load t x => match r x with | .pointer p => nn p fun a => loadS P t a w (fun v => K v w) | _ => False
  | .store t x y => match r x with | .pointer p => nn p fun a => storeS P t a (r y) w (fun w => K undef w) | _ => False
  | _ => opS P r o K w

section
variable {P : Program} {o : Oper} {a : Act} {w : World} {K' : Act → World → Prop} {Q : Exit → Act → World → Prop} {ro : Option Nat}

theorem opS_nodefer {r : Operand → Value} {K : Value → World → Prop} (h : opS P r o K w) : ∀ c, o.op ≠ .defer c := by
  intro c hc
  unfold opS at h
  rw [hc] at h
  exact h

theorem opIn_of_wp (hnd : ∀ c, o.op ≠ .defer c) (h : o.wp P a w K' Q) : o.wpIn (FW ro) 0 P a w K' Q := by
  refine ⟨fun _ _ => trivial, ?_⟩
  rw [Oper.semAt_eq _ _ _ hnd]
  unfold Oper.wp at h
  cases hr : (execOp a.eval o).run P w with
  | ok nx w' =>
    rw [hr] at h
    cases nx with
    | value v => exact h
    | skip => exact h
    | defer d => exact h
    | enter f args =>
      refine ⟨(fun e => by cases e), ?_⟩
      exact callsIn_FW.2 h
    | row row args =>
      refine ⟨(fun e => by cases e), ?_⟩
      intro c cs _
      obtain ⟨v, w'', h1, h2⟩ := h c cs
      exact ⟨v, w'', h1, stepsIn_wide.2 h2⟩
    | _ => exact h.elim
  | halt hh w' =>
    rw [hr] at h
    cases hh with
    | panic v => exact h
    | _ => exact h.elim

theorem opSI_sound {K : Value → World → Prop} (h : opSI P a.eval o K w) (hk : ∀ v w', K v w' → K' (a.put o.dst v) w') : o.wpIn (FW ro) 0 P a w K' Q := by
  unfold opSI at h
  split at h
  · rename_i c ho
    split at h
    · rename_i t hc
      obtain ⟨l, hl, fn, tmps, assign, body, hy, hR⟩ := h
      refine ⟨fun _ _ => trivial, ?_⟩
      rw [Oper.semAt_eq _ _ _ (by rw [ho]; intro c' e; cases e)]
      have hrun : (execOp a.eval o).run P w = .ok (.round l fn tmps assign body) w := by
        have e : (#[] ++ c.args.map a.eval : Array Value) = (c.args.toList.map a.eval).toArray := by simp [mapL]
        unfold execOp
        simp only [ho, resolve, hc, Deferred.ofValue, hl, Sem.run_bind, Sem.run_pure, Result.andThen_ok, invoke, e]
        simpa using hy
      rw [hrun]
      refine ⟨(fun e => by cases e), RoundIn.mono hR ?_⟩
      rintro e w' ⟨b, rfl, hb⟩
      exact hk _ _ hb
    · exact opIn_of_wp (opS_nodefer h) (opS_sound h hk)
  · rename_i t x ho
    split at h
    · rename_i p hx
      obtain ⟨q, rfl, h⟩ := nn_elim h
      have h' : opS P a.eval o K w := by
        unfold opS
        simp only [ho, hx]
        exact h
      exact opIn_of_wp (opS_nodefer h') (opS_sound h' hk)
    · exact h.elim
  · rename_i t x y ho
    split at h
    · rename_i p hx
      obtain ⟨q, rfl, h⟩ := nn_elim h
      have h' : opS P a.eval o K w := by
        unfold opS
        simp only [ho, hx]
        exact h
      exact opIn_of_wp (opS_nodefer h') (opS_sound h' hk)
    · exact h.elim
  · exact opIn_of_wp (opS_nodefer h) (opS_sound h hk)

end

def opsSI (P : Program) (ops : Array Oper) : List Oper → Env → World → (Env → World → Prop) → Prop
  | [], e, w, K => K e w
  | o :: r, e, w, K => guardS ops o e (fun e => opSI P (ev e) o (fun v w' => opsSI P ops r (upd e o.dst v) w' K) w) (fun e => opsSI P ops r (upd e o.dst undef) w K)

theorem opsSI_sound {P : Program} {ops : Array Oper} {Q : Exit → Act → World → Prop} {ro : Option Nat} {ds : List Deferred} : ∀ (l : List Oper) (e : Env) (w : World) (a : Act) (K : Env → World → Prop), AgreeD ds a e → fitsOps a.tmps.size l = true → opsSI P ops l e w K →
    (∀ a' e' w', AgreeD ds a' e' → a'.tmps.size = a.tmps.size → (∀ t, (∀ o ∈ l, o.dst ≠ some t) → e' t = e t) → K e' w' → Q .normal a' w') → wpListIn (FW ro) 0 P ops Q l a w
  | [], e, w, a, K, ha, _, h, hK => hK a e w ha rfl (fun _ _ => rfl) h
  | o :: r, e, w, a, K, ha, hf, h, hK => by
    simp only [fitsOps, List.all_cons, Bool.and_eq_true] at hf
    have hd : ∀ k, o.dst = some k → k < a.tmps.size := fun k hk => by
      have := hf.1; rw [hk] at this; exact bltL this
    have step : ∀ v w', opsSI P ops r (upd e o.dst v) w' K → wpListIn (FW ro) 0 P ops Q r (a.put o.dst v) w' := fun v w' h' => by
      refine opsSI_sound r _ _ _ K (ha.put _ _ hd) (by rw [put_size]; exact hf.2) h' fun a' e' w'' ha' hs hfr hk => ?_
      refine hK a' e' w'' ha' (by rw [hs, put_size]) (fun t ht => ?_) hk
      rw [hfr t (fun o' ho' => ht o' (by simp [ho']))]
      have hne := ht o (by simp)
      cases hdd : o.dst with
      | none => rfl
      | some d => rw [upd_eq, if_neg (fun e => hne (by rw [hdd, e]))]
    have hA : Agree { a with defers := [] } e := ⟨rfl, ha.2⟩
    rcases guardS_elim hA h with ⟨hw, h⟩ | ⟨hw, h⟩
    · unfold wpListIn
      have hw' : Region.wanted o (yielded ops a.tmps) = true := hw
      rw [if_pos hw']
      rw [← ha.eval] at h
      exact opSI_sound h step
    · unfold wpListIn
      have hw' : Region.wanted o (yielded ops a.tmps) = false := hw
      rw [if_neg (by rw [hw']; simp)]
      exact ⟨fun _ _ => trivial, step _ _ h⟩

/-- The reading of code that draws nothing. -/
def semI (P : Program) (A : Ann) : Code → (Exit → Env → World → Prop) → Env → World → Prop
  | .skip, Q, e, w => Q .normal e w
  | .region _ ops draw, Q, e, w => bif draw then False else opsSI P ops ops.toList e w (Q .normal)
  | .seq a b, Q, e, w => semI P A a (seqQ (fun e w => semI P A b Q e w) Q) e w
  | .cond c a b, Q, e, w => match ev e c with | .bool t => cond t (semI P A a Q e w) (semI P A b Q e w) | _ => False
  | .block id c, Q, e, w => semI P A c (blockQ id Q) e w
  | .loop c, Q, e, w =>
    match lk A.loops (firstId c) with
    | none => False
    | some ls => bif subB (ls.map (·.1)) (written c) && shsB (ls.map (·.2)) (ls.map fun s => e s.1) then
        ∃ (I : List Value → World → Prop) (μ : List Value → World → Nat), I (ls.map fun s => e s.1) w ∧
          ∀ d : Env, allShs (ls.map (·.2)) fun vs => ∀ w', I vs w' →
            semI P A c (seqQ (fun e' w'' => bif shsB (ls.map (·.2)) (ls.map fun s => e' s.1) then I (ls.map fun s => e' s.1) w'' ∧ μ (ls.map fun s => e' s.1) w'' < μ vs w' else False) Q) (havoc e d (written c) (ls.map (·.1)) vs) w'
      else False
  | .exit id, Q, e, w => Q (.exit id) e w
  | .ret, Q, e, w => Q .ret e w
  | _, _, _, _ => False

def liftD (ds : List Deferred) (n : Nat) (W : List Nat) (e0 : Env) (Q : Exit → Env → World → Prop) (ex : Exit) (a : Act) (w : World) : Prop :=
  okEx ex ∧ ∃ e, AgreeD ds a e ∧ a.tmps.size = n ∧ (∀ t, memB W t = false → e t = e0 t) ∧ Q ex e w

theorem semI_sound {P : Program} {A : Ann} {ro : Option Nat} {ds : List Deferred} : ∀ (c : Code) (Q : Exit → Env → World → Prop) (e : Env) (w : World) (a : Act), AgreeD ds a e → fits a.tmps.size c = true → semI P A c Q e w →
    c.wpIn (FW ro) 0 P (liftD ds a.tmps.size (written c) e Q) a w := by
  intro c
  induction c with
  | skip => intro Q e w a ha _ h; exact wpIn_skip ⟨trivial, e, ha, rfl, fun _ _ => rfl, h⟩
  | region id ops draw =>
    intro Q e w a ha hf h
    unfold semI at h
    cases draw with
    | true => exact h.elim
    | false =>
      rw [cond_false] at h
      exact wpIn_region_list (opsSI_sound _ _ _ _ _ ha hf h fun a' e' w' ha' hs hfr hk => ⟨trivial, e', ha', hs, fun t ht => hfr t (dsts_out ht), hk⟩)
  | seq x y ihx ihy =>
    intro Q e w a ha hf h
    unfold fits at hf
    simp only [Bool.and_eq_true] at hf
    unfold semI at h
    refine wpIn_seq (wpIn_mono (ihx _ e w a ha hf.1 h) ?_)
    intro ex a' w' ⟨hok, e', ha', hs, hfr, hq⟩
    have hother : Q ex e' w' → liftD ds a.tmps.size (written (.seq x y)) e Q ex a' w' := fun hq => ⟨hok, e', ha', hs, fun t ht => hfr t (memB_append ht).1, hq⟩
    cases ex with
    | normal =>
      refine wpIn_mono (ihy Q e' w' a' ha' (by rw [hs]; exact hf.2) hq) ?_
      intro ex a2 w2 ⟨hok2, e2, ha2, hs2, hfr2, hq2⟩
      exact ⟨hok2, e2, ha2, by rw [hs2, hs], fun t ht => by rw [hfr2 t (memB_append ht).2, hfr t (memB_append ht).1], hq2⟩
    | exit i => exact hother hq
    | goto i => exact hother hq
    | ret => exact hother hq
    | panic c => exact hok.elim
    | outgrown => exact hok.elim
  | cond c x y ihx ihy =>
    intro Q e w a ha hf h
    unfold fits at hf
    simp only [Bool.and_eq_true] at hf
    unfold semI at h
    split at h
    · rename_i t ht
      refine wpIn_cond (t := t) (by rw [ha.eval]; exact ht) ?_
      cases t with
      | true =>
        simp only [cond_true] at h
        refine wpIn_mono (ihx Q e w a ha hf.1 h) ?_
        intro ex a2 w2 ⟨hok2, e2, ha2, hs2, hfr2, hq2⟩
        exact ⟨hok2, e2, ha2, hs2, fun t ht => hfr2 t (memB_append ht).1, hq2⟩
      | false =>
        simp only [cond_false] at h
        refine wpIn_mono (ihy Q e w a ha hf.2 h) ?_
        intro ex a2 w2 ⟨hok2, e2, ha2, hs2, hfr2, hq2⟩
        exact ⟨hok2, e2, ha2, hs2, fun t ht => hfr2 t (memB_append ht).2, hq2⟩
    · exact h.elim
  | block id x ih =>
    intro Q e w a ha hf h
    unfold semI at h
    refine wpIn_block (wpIn_mono (ih _ e w a ha hf h) ?_)
    intro ex a2 w2 ⟨hok2, e2, ha2, hs2, hfr2, hq2⟩
    cases ex with
    | exit i =>
      simp only [blockQ] at hq2
      change (if i = id then _ else _)
      by_cases hi : i = id
      · subst hi
        simp only [Nat.beq_refl, cond_true] at hq2
        rw [if_pos rfl]
        exact ⟨trivial, e2, ha2, hs2, hfr2, hq2⟩
      · have : Nat.beq i id = false := by
          cases hb : Nat.beq i id with
          | false => rfl
          | true => exact absurd (Nat.eq_of_beq_eq_true hb) hi
        simp only [this, cond_false] at hq2
        rw [if_neg hi]
        exact ⟨trivial, e2, ha2, hs2, hfr2, hq2⟩
    | normal => exact ⟨hok2, e2, ha2, hs2, hfr2, hq2⟩
    | goto l => exact ⟨hok2, e2, ha2, hs2, hfr2, hq2⟩
    | ret => exact ⟨hok2, e2, ha2, hs2, hfr2, hq2⟩
    | panic ch => exact hok2.elim
    | outgrown => exact hok2.elim
  | loop x ih =>
    intro Q e w a ha hf h
    unfold semI at h
    split at h
    · exact h.elim
    · rename_i ls _
      cases hb : (subB (ls.map (·.1)) (written x) && shsB (ls.map (·.2)) (ls.map fun s => e s.1)) with
      | false => rw [hb, cond_false] at h; exact h.elim
      | true =>
        rw [hb, cond_true] at h
        simp only [Bool.and_eq_true] at hb
        obtain ⟨hsub, hsh⟩ := hb
        obtain ⟨I, μ, hI, hr⟩ := h
        have hread : ∀ {a' : Act} {e' : Env}, AgreeD ds a' e' → (ls.map fun s => a'.tmps.getD s.1 undef) = ls.map fun s => e' s.1 := fun ha' => by
          apply List.map_congr_left; intro s _; exact ha'.2 s.1
        refine wpIn_loop (fun a' w' => ∃ e', AgreeD ds a' e' ∧ a'.tmps.size = a.tmps.size ∧ (∀ t, memB (written x) t = false → e' t = e t) ∧ shsB (ls.map (·.2)) (ls.map fun s => e' s.1) = true ∧ I (ls.map fun s => e' s.1) w')
          (fun a' w' => μ (ls.map fun s => a'.tmps.getD s.1 undef) w') ⟨e, ha, rfl, fun _ _ => rfl, hsh, hI⟩ ?_
        intro a1 w1 ⟨e1, ha1, hs1, hfr1, hsh1, hI1⟩
        have h1 := allShs_elim (hr e1) hsh1 w1 hI1
        rw [map_fst, havoc_self hfr1] at h1
        refine wpIn_mono (ih _ e1 w1 a1 ha1 (by rw [hs1]; exact hf) h1) ?_
        intro ex a2 w2 ⟨hok2, e2, ha2, hs2, hfr2, hq2⟩
        have hfr : ∀ t, memB (written x) t = false → e2 t = e t := fun t ht => by rw [hfr2 t ht, hfr1 t ht]
        cases ex with
        | normal =>
          simp only [seqQ] at hq2
          cases hsh2 : shsB (ls.map (·.2)) (ls.map fun s => e2 s.1) with
          | false => rw [hsh2, cond_false] at hq2; exact hq2.elim
          | true =>
            rw [hsh2, cond_true] at hq2
            refine ⟨⟨e2, ha2, by rw [hs2, hs1], hfr, hsh2, hq2.1⟩, ?_⟩
            rw [hread ha2, hread ha1, map_fst ls e1]
            exact hq2.2
        | exit i => exact ⟨hok2, e2, ha2, by rw [hs2, hs1], hfr, hq2⟩
        | goto l => exact ⟨hok2, e2, ha2, by rw [hs2, hs1], hfr, hq2⟩
        | ret => exact ⟨hok2, e2, ha2, by rw [hs2, hs1], hfr, hq2⟩
        | panic ch => exact hok2.elim
        | outgrown => exact hok2.elim
  | exit id => intro Q e w a ha _ h; exact wpIn_exit ⟨trivial, e, ha, rfl, fun _ _ => rfl, h⟩
  | ret => intro Q e w a ha _ h; exact wpIn_ret ⟨trivial, e, ha, rfl, fun _ _ => rfl, h⟩
  | label l => intro Q e w a _ _ h; exact (h : False).elim
  | scope x _ => intro Q e w a _ _ h; exact (h : False).elim
  | rangeFunc _ _ _ _ => intro Q e w a _ _ h; exact (h : False).elim
  | goto _ => intro Q e w a _ _ h; exact (h : False).elim
  | refuse _ => intro Q e w a _ _ h; exact (h : False).elim

end Go.Lw

namespace Go.Lw

/-! ## An iterator -/

theorem funI_calls {P : Program} {A : Ann} {k : FuncId} {fn : Func} {c : Code} {args : List Value} {w : World} {Q : Value → World → Prop}
    (hf : P.funcs[k]? = some fn) (hb : fn.body = some c) (hn : (Nat.ble args.length fn.ntmps && fits fn.ntmps c) = true)
    (h : semI P A c (funQ P fn.results.toList Q) (env0 args) w) : CallR P k args w Q := by
  simp only [Bool.and_eq_true] at hn
  have hle := Nat.le_of_ble_eq_true hn.1
  have hsz : (args.toArray ++ Array.replicate (fn.ntmps - args.toArray.size) undef).size = fn.ntmps := by simp; omega
  have ha : AgreeD [] { tmps := args.toArray ++ Array.replicate (fn.ntmps - args.toArray.size) undef, defers := [] } (env0 args) := by
    refine ⟨rfl, fun t => ?_⟩
    unfold env0
    simp only [Array.getD_eq_getD_getElem?]
    by_cases ht : t < args.length
    · rw [Array.getElem?_append_left (by simpa using ht)]; simp
    · have h1 : args[t]? = none := by simp; omega
      rw [h1]
      rw [Array.getElem?_append_right (by simp; omega)]
      by_cases h2 : t - args.length < fn.ntmps - args.length
      · simp [h2]
      · simp [h2]
  unfold CallR
  rw [← callsIn_FW (ro := none) (n := 0)]
  refine callsIn_of_wp hf hb trivial ?_ rfl
  refine wpIn_mono (semI_sound c _ (env0 args) w _ ha (by simp only [hsz]; exact hn.2) h) ?_
  intro ex a' w' ⟨_, e', ha', _, _, hq⟩
  have fin : resS P fn.results.toList e' w' (fun vs => Q (retV vs) w') → a'.defers = [] ∧ ∃ v, (results fn a'.tmps).run P w' = .ok v w' ∧ ∃ v', Ending.returned v = .returned v' ∧ Q v' w' := fun hr => by
    obtain ⟨vs, hK, hrun⟩ := resS_run ha' _ _ hr
    exact ⟨ha'.1, retV vs, results_run hrun, _, rfl, hK⟩
  cases ex with
  | normal => exact fin hq
  | ret => exact fin hq
  | exit i => exact hq.elim
  | goto i => exact hq.elim
  | panic c => exact hq.elim
  | outgrown => exact hq.elim

/-- An iterator that yields these, one behind the other, and leans on the blocks Kp. -/
def IterOK (P : Program) (gf : FuncId) (lb : List Value) (xs : List (List Value)) (Kp : Nat → Prop) (w : World) : Prop :=
  ∀ (l : Nat) (J Jx : Nat → World → Prop) (W : World), Kept No w W → (∀ i A B, J i A → Kept No A B → J i B) → (∀ i A B, Jx i A → Kept No A B → Jx i B) →
    (∀ i x A, xs[i]? = some x → J i A → YieldR P l x A fun b B => cond b (J (i + 1) B ∧ Kept (fun z => ¬ Kp z) A B) (Jx i B)) → J 0 W →
    CallR P gf (.func (.yield l) #[] #[] :: lb) W fun _ W' => J xs.length W' ∨ ∃ i, i < xs.length ∧ Jx i W'

/-! ## The statement -/

def updL (e : Env) : List Nat → List Value → Env
  | p :: ps, v :: vs => updL (upd e (some p) v) ps vs
  | _, _ => e

theorem updL_agree : ∀ (ps : List Nat) (vs : List Value) (a : Act) (e : Env), AgreeD [] a e → (∀ p ∈ ps, p < a.tmps.size) →
    AgreeD [] { tmps := (ps.zip vs).foldl (fun t (pv : Nat × Value) => t.setIfInBounds pv.1 pv.2) a.tmps, defers := [] } (updL e ps vs) ∧ ((ps.zip vs).foldl (fun t (pv : Nat × Value) => t.setIfInBounds pv.1 pv.2) a.tmps).size = a.tmps.size
  | [], vs, a, e, ha, _ => ⟨⟨rfl, ha.2⟩, rfl⟩
  | p :: ps, [], a, e, ha, _ => ⟨⟨rfl, ha.2⟩, rfl⟩
  | p :: ps, v :: vs, a, e, ha, hp => by
    have h1 := ha.put (some p) v (fun k hk => by cases hk; exact hp p (by simp))
    have := updL_agree ps vs (a.put (some p) v) _ h1 (fun q hq => by rw [put_size]; exact hp q (by simp [hq]))
    simp only [List.zip_cons_cons, List.foldl_cons, updL]
    refine ⟨this.1, ?_⟩
    have h2 := this.2
    rw [put_size] at h2
    exact h2

def Steady (D : Nat) (I : Nat → World → Prop) : Prop := ∀ i A B, I i A → Kept (fun z => z = D ∨ z = D + 1) A B → I i B

/-- One round: the assignments turn no world; the body. -/
def roundS (P : Program) (A : Ann) (D : Nat) (assign body : Code) (T : Nat → Prop) (next stop : World → Prop) (e : Env) (W : World) : Prop :=
  semI P A assign (fun ex e' w' => match ex with
    | .normal => w' = W ∧ ∀ W', Kept (fun z => z = D + 1) W W' → semI P A body (fun ex _ W'' => match ex with
        | .normal => Kept T W' W'' ∧ next W''
        | .ret => Kept T W' W'' ∧ stop W''
        | _ => False) e' W'
    | _ => False) e W

def markD (D : Nat) : List Deferred := [{ target := .collected D, args := #[] }]

theorem Kept.putObj (w : World) (l : Nat) (o : Obj) : Kept (fun z => z = l) w (w.putObj l o) :=
  ⟨rfl, rfl, rfl, by simp, fun k _ hk => World.putObj_heap_other hk⟩

theorem rf_sound {P : Program} {A : Ann} {g : Operand} {ps : Array Tmp} {assign body : Code} {Q : Exit → Act → World → Prop} {a : Act} {e : Env} {w : World} (ha : AgreeD [] a e)
    (hfit : (fits a.tmps.size assign && fits a.tmps.size body && ps.toList.all (Nat.blt · a.tmps.size)) = true)
    {gf : FuncId} {lb : Array Value} (hg : ev e g = .func (.func gf) #[] lb) (hb : bodyB P gf = true)
    {xs : List (List Value)} {Kp T : Nat → Prop} (hit : IterOK P gf lb.toList xs Kp w) (hKp : ∀ z, Kp z → z < w.heap.size) (hT : ∀ z, T z → ¬ Kp z ∧ z ≠ w.heap.size ∧ z ≠ w.heap.size + 1)
    {I Ix : Nat → World → Prop} (hI : Steady w.heap.size I) (hIx : Steady w.heap.size Ix) (h0 : I 0 w)
    (hround : ∀ i x W, xs[i]? = some x → I i W → w.heap.size + 2 ≤ W.heap.size → x.length = ps.size ∧ roundS P A w.heap.size assign body T (I (i + 1)) (Ix i) (updL e ps.toList x) W)
    (hdone : ∀ W, I xs.length W → W.heap[w.heap.size]? = some (.deferred (some [])) → Q .normal { a with defers := markD w.heap.size } W)
    (hstop : ∀ i W, Ix i W → W.heap[w.heap.size]? = some (.deferred (some [])) → Q .ret { a with defers := markD w.heap.size } W) :
    (Code.rangeFunc g ps assign body).wpIn (FW none) 0 P Q a w := by
  simp only [Bool.and_eq_true] at hfit
  obtain ⟨⟨hfa, hfb⟩, hfp⟩ := hfit
  refine wpIn_rangeFunc ?_
  intro fn _
  obtain ⟨rec, hrec⟩ : ∃ rec : LoopState → Option Code → Loop, rec = fun st pe => { state := st, pending := pe, fn := fn, tmps := a.tmps, params := ps, assign := assign, body := body, defers := w.heap.size } := ⟨_, rfl⟩
  obtain ⟨W1, hW1⟩ : ∃ W1, (w.alloc (.deferred (some []))).alloc (.loop (rec .ready none)) = W1 := ⟨_, rfl⟩
  have hL1 : W1.heap[w.heap.size + 1]? = some (.loop (rec .ready none)) := by
    rw [← hW1]; have := World.alloc_heap_new (w.alloc (.deferred (some []))) (.loop (rec .ready none)); rwa [World.size_alloc] at this
  have hk1 : Kept No w W1 := by rw [← hW1]; exact (Kept.alloc No w _).no (Kept.alloc No _ _)
  have hD1 : W1.heap[w.heap.size]? = some (.deferred (some [])) := by
    rw [← hW1]
    exact ((Kept.alloc No (w.alloc (.deferred (some []))) (.loop (rec .ready none))).block w.heap.size (by simp) (fun e => e)).trans (World.alloc_heap_new w _)
  have hnb : ∀ {A B : World}, Kept No A B → Kept (fun z => z = w.heap.size ∨ z = w.heap.size + 1) A B := fun h => h.mono fun _ _ e => e.elim
  have blk : ∀ {A B : World} {k : Nat} {o : Obj} {S : Nat → Prop}, A.heap[k]? = some o → Kept S A B → ¬ S k → B.heap[k]? = some o := fun h k hn => (k.block _ (Array.getElem?_eq_some_iff.1 h).1 hn).trans h
  have heg : a.eval g = .func (.func gf) #[] lb := by rw [ha.eval]; exact hg
  refine ⟨w.heap.size + 1, markD w.heap.size, W1, { target := .fn (.func gf) lb, args := #[.func (.yield (w.heap.size + 1)) #[] #[]] }, W1, gf,
    #[.func (.yield (w.heap.size + 1)) #[] #[]] ++ lb, W1, ?_, ?_, fun _ _ => trivial, ?_, (fun e => by cases e), ?_⟩
  · rw [← hW1, hrec]; exact run_enterLoop_outer _ _ _ _ _
  · simp only [resolve, heg]
    simp [go_sem]
  · simp [invoke, go_sem, bodyB_run hb]
  · have hcall := hit (w.heap.size + 1)
      (fun i W => I i W ∧ W.heap[w.heap.size + 1]? = some (.loop (rec .ready none)) ∧ W.heap[w.heap.size]? = some (.deferred (some [])))
      (fun i W => Ix i W ∧ W.heap[w.heap.size + 1]? = some (.loop (rec .done (some .ret))) ∧ W.heap[w.heap.size]? = some (.deferred (some [])))
      W1 hk1 (fun i A B h k => ⟨hI i A B h.1 (hnb k), blk h.2.1 k (fun e => e), blk h.2.2 k (fun e => e)⟩) (fun i A B h k => ⟨hIx i A B h.1 (hnb k), blk h.2.1 k (fun e => e), blk h.2.2 k (fun e => e)⟩)
      ?_ ⟨hI 0 _ _ h0 (hnb hk1), hL1, hD1⟩
    · unfold CallR at hcall
      have e1 : (#[.func (.yield (w.heap.size + 1)) #[] #[]] ++ lb : Array Value) = (.func (.yield (w.heap.size + 1)) #[] #[] :: lb.toList).toArray := by simp
      rw [e1]
      refine (callsIn_FW.2 hcall).mono ?_
      rintro ex W2 ⟨v, rfl, ⟨hi, hl, hd⟩ | ⟨i, _, hi, hl, hd⟩⟩
      · have hk : Kept (fun z => z = w.heap.size + 1) W2 (W2.putObj (w.heap.size + 1) (.loop { rec .ready none with state := .exhausted })) := Kept.putObj _ _ _
        refine ⟨none, W2.putObj (w.heap.size + 1) (.loop { rec .ready none with state := .exhausted }), by have := run_endLoop (P := P) hl (by rw [hrec]; simp); rw [hrec] at this ⊢; exact this, ?_⟩
        have hq := hdone _ (hI _ _ _ hi (hk.mono fun z _ e => .inr e)) (blk hd hk (by omega))
        have hds : markD w.heap.size ++ a.defers = markD w.heap.size := by rw [ha.1]; simp
        show Q .normal { a with defers := markD w.heap.size ++ a.defers } _
        rw [hds]; exact hq
      · have hk : Kept (fun z => z = w.heap.size + 1) W2 (W2.putObj (w.heap.size + 1) (.loop { rec .done (some .ret) with state := .exhausted })) := Kept.putObj _ _ _
        refine ⟨some .ret, W2.putObj (w.heap.size + 1) (.loop { rec .done (some .ret) with state := .exhausted }), by have := run_endLoop (P := P) hl (by rw [hrec]; simp); rw [hrec] at this ⊢; exact this, wpIn_ret ?_⟩
        have hq := hstop i _ (hIx _ _ _ hi (hk.mono fun z _ e => .inr e)) (blk hd hk (by omega))
        have hds : markD w.heap.size ++ a.defers = markD w.heap.size := by rw [ha.1]; simp
        rw [hds]; exact hq
    · -- one round
      rintro i x W hx ⟨hi, hl, hd⟩
      have hlt : w.heap.size + 1 < W.heap.size := (Array.getElem?_eq_some_iff.1 hl).1
      obtain ⟨hxl, hr⟩ := hround i x W hx hi hlt
      have hy := run_yield (P := P) (args := x.toArray) hl (by rw [hrec]; simpa using hxl)
      rw [hrec] at hy
      refine ⟨fn, _, assign, body, hy, roundIn_of_wpIn trivial ?_⟩
      obtain ⟨hag, hsz⟩ := updL_agree ps.toList x a e ha (fun p hp => bltL (List.all_eq_true.1 hfp p hp))
      have etm : ((ps.zip x.toArray).foldl (fun tmps (t, a) => tmps.setIfInBounds t a) a.tmps) = ((ps.toList.zip x).foldl (fun t (pv : Nat × Value) => t.setIfInBounds pv.1 pv.2) a.tmps) := by
        rw [← Array.foldl_toList]; simp
      rw [FW_in]
      simp only [etm]
      refine wpIn_mono (semI_sound (ro := some (w.heap.size + 1)) (ds := []) assign _ _ W _ hag (by rw [hsz]; exact hfa) hr) ?_
      rintro ex a' w' ⟨_, e', ha', hs', _, hq⟩
      cases ex with
      | normal =>
        obtain ⟨rfl, hq⟩ := hq
        refine ⟨_, run_beginRound hl (by rw [hrec]), ?_⟩
        have hk2 : Kept (fun z => z = w.heap.size + 1) w' (w'.putObj (w.heap.size + 1) (.loop { rec .ready none with state := .busy })) := Kept.putObj _ _ _
        have hl2 : (w'.putObj (w.heap.size + 1) (.loop { rec .ready none with state := .busy })).heap[w.heap.size + 1]? = some (.loop { rec .ready none with state := .busy }) := World.putObj_heap_same hlt
        have hd2 := blk hd hk2 (by omega)
        refine wpIn_mono (semI_sound (ro := some (w.heap.size + 1)) (ds := []) body _ e' _ a' ha' (by rw [hs', hsz]; exact hfb) (hq _ hk2)) ?_
        rintro ex a3 W3 ⟨_, _, _, _, _, hp⟩
        have fin : ∀ (jump : Option Code), Kept T (w'.putObj (w.heap.size + 1) (.loop { rec .ready none with state := .busy })) W3 →
            (Instr.endRound (w.heap.size + 1) jump).run P W3 = .ok (.bool jump.isNone) (W3.putObj (w.heap.size + 1) (.loop (rec (if jump.isNone then .ready else .done) jump))) ∧
            (W3.putObj (w.heap.size + 1) (.loop (rec (if jump.isNone then .ready else .done) jump))).heap[w.heap.size + 1]? = some (.loop (rec (if jump.isNone then .ready else .done) jump)) ∧
            (W3.putObj (w.heap.size + 1) (.loop (rec (if jump.isNone then .ready else .done) jump))).heap[w.heap.size]? = some (.deferred (some [])) := fun jump hk3 => by
          have hl3 := blk hl2 hk3 (fun h => (hT _ h).2.2 rfl)
          have hd3 := blk hd2 hk3 (fun h => (hT _ h).2.1 rfl)
          have := run_endRound (P := P) jump hl3
          rw [hrec] at this ⊢
          exact ⟨this, World.putObj_heap_same (Array.getElem?_eq_some_iff.1 hl3).1, (World.putObj_heap_other (by omega)).trans hd3⟩
        cases ex with
        | normal =>
          obtain ⟨hk3, hn⟩ := hp
          obtain ⟨hrun, hl4, hd4⟩ := fin none hk3
          have hk4 : Kept (fun z => z = w.heap.size + 1) W3 (W3.putObj (w.heap.size + 1) (.loop (rec (if (none : Option Code).isNone then .ready else .done) none))) := Kept.putObj _ _ _
          refine ⟨_, _, hrun, true, rfl, ⟨hI _ _ _ hn (hk4.mono fun z _ e => .inr e), hl4, hd4⟩, ?_⟩
          refine ((hk2.mono (S' := fun z => ¬ Kp z) fun z _ e h => by have := hKp z h; omega).trans hk3 fun z _ h => (hT z h).1).trans hk4 fun z _ e h => by have := hKp z h; omega
        | ret =>
          obtain ⟨hk3, hn⟩ := hp
          obtain ⟨hrun, hl4, hd4⟩ := fin (some .ret) hk3
          have hk4 : Kept (fun z => z = w.heap.size + 1) W3 (W3.putObj (w.heap.size + 1) (.loop (rec (if (some Code.ret).isNone then .ready else .done) (some .ret)))) := Kept.putObj _ _ _
          exact ⟨_, _, hrun, false, rfl, hIx _ _ _ hn (hk4.mono fun z _ e => .inr e), hl4, hd4⟩
        | exit i => exact hp.elim
        | goto i => exact hp.elim
        | panic c => exact hp.elim
        | outgrown => exact hp.elim
      | exit i => exact hq.elim
      | goto i => exact hq.elim
      | ret => exact hq.elim
      | panic c => exact hq.elim
      | outgrown => exact hq.elim

end Go.Lw

namespace Go.Lw

def chainC : List Code → Code → Code
  | [], z => z
  | c :: cs, z => .seq c (chainC cs z)

def fitsL (n : Nat) : List Code → Bool
  | [] => true
  | c :: cs => fits n c && fitsL n cs

def semPre (P : Program) (A : Ann) (K R : Env → World → Prop) : List Code → Env → World → Prop
  | [], e, w => K e w
  | c :: cs, e, w => sem P A c (fun ex e w => match ex with
    | .normal => semPre P A K R cs e w
    | .ret => R e w
    | _ => False) e w

theorem semPre_sound {P : Program} {A : Ann} (hm : P.follows .mixedOrders = true) {z : Code} {QQ : Exit → Act → World → Prop} {K R : Env → World → Prop} {n : Nat}
    (hz : ∀ a e w, Agree a e → a.tmps.size = n → K e w → z.wpIn (FW none) 0 P QQ a w) (hr : ∀ a e w, Agree a e → a.tmps.size = n → R e w → QQ .ret a w) :
    ∀ (cs : List Code) (a : Act) (e : Env) (w : World), Agree a e → a.tmps.size = n → fitsL n cs = true → semPre P A K R cs e w → (chainC cs z).wpIn (FW none) 0 P QQ a w
  | [], a, e, w, ha, hs, _, h => hz a e w ha hs h
  | c :: cs, a, e, w, ha, hs, hf, h => by
    unfold fitsL at hf
    simp only [Bool.and_eq_true] at hf
    have hw := sem_sound hm c _ e w a ha (by rw [hs]; exact hf.1) h
    refine wpIn_seq (wpIn_mono (wpIn_wide.2 hw) ?_)
    rintro ex a' w' ⟨_, e', ha', hs', _, hq⟩
    cases ex with
    | normal => exact semPre_sound hm hz hr cs a' e' w' ha' (by rw [hs', hs]) hf.2 hq
    | ret => exact hr a' e' w' ha' (by rw [hs', hs]) hq
    | exit i => exact hq.elim
    | goto i => exact hq.elim
    | panic c => exact hq.elim
    | outgrown => exact hq.elim

/-- The range, and what stands behind it. -/
def rfS (P : Program) (A : Ann) (rs : List ResultVar) (g : Operand) (ps : Array Tmp) (shs : List Sh) (assign bd post : Code) (Q : Value → World → Prop) (e : Env) (w : World) : Prop :=
  ∃ (gf : FuncId) (lb : Array Value) (xs : List (List Value)) (Kp T : Nat → Prop) (I Ix : Nat → World → Prop),
    ev e g = .func (.func gf) #[] lb ∧ bodyB P gf = true ∧ IterOK P gf lb.toList xs Kp w ∧ (∀ z, Kp z → z < w.heap.size) ∧ (∀ z, T z → ¬ Kp z ∧ z ≠ w.heap.size ∧ z ≠ w.heap.size + 1) ∧
    Steady w.heap.size I ∧ Steady w.heap.size Ix ∧ I 0 w ∧
    (∀ (i : Nat) (x : List Value) (W : World), xs[i]? = some x → I i W → w.heap.size + 2 ≤ W.heap.size → x.length = ps.size ∧ exShs shs fun vs => x = vs ∧ roundS P A w.heap.size assign bd T (I (i + 1)) (Ix i) (updL e ps.toList vs) W) ∧
    (∀ W, I xs.length W → semI P A post (fun ex e' W' => match ex with
      | .normal | .ret => Kept (fun z => z ≠ w.heap.size) W W' ∧ ∀ W'', Kept (fun z => z = w.heap.size) W' W'' → resS P rs e' W'' fun vs => Q (retV vs) W''
      | _ => False) e W) ∧
    (∀ i W, Ix i W → ∀ W'', Kept (fun z => z = w.heap.size) W W'' → resS P rs e W'' fun vs => Q (retV vs) W'')

theorem funRF_calls {P : Program} {A : Ann} {k : FuncId} {fn : Func} {pre : List Code} {id : Nat} {g : Operand} {ps : Array Tmp} {shs : List Sh} {c assign bd post : Code} {args : List Value} {w : World} {Q : Value → World → Prop} (hm : P.follows .mixedOrders = true)
    (hf : P.funcs[k]? = some fn) (hb : fn.body = some (chainC pre (.seq (.seq c (.block id (.rangeFunc g ps assign bd))) post)))
    (hn : (Nat.ble args.length fn.ntmps && fitsL fn.ntmps (pre ++ [c]) && (fits fn.ntmps assign && fits fn.ntmps bd && ps.toList.all (Nat.blt · fn.ntmps)) && fits fn.ntmps post) = true)
    (h : semPre P A (fun e w => sem P A c (fun ex e w => match ex with | .normal => rfS P A fn.results.toList g ps shs assign bd post Q e w | _ => False) e w) (fun e w => resS P fn.results.toList e w fun vs => Q (retV vs) w) pre (env0 args) w) : CallR P k args w Q := by
  simp only [Bool.and_eq_true] at hn
  obtain ⟨⟨⟨hlen, hfl⟩, hfr⟩, hfpost⟩ := hn
  have hle := Nat.le_of_ble_eq_true hlen
  have hfl' : fitsL fn.ntmps pre = true ∧ fits fn.ntmps c = true := by
    have key : ∀ l : List Code, fitsL fn.ntmps (l ++ [c]) = true → fitsL fn.ntmps l = true ∧ fits fn.ntmps c = true := by
      intro l
      induction l with
      | nil =>
        intro h
        have h' : (fits fn.ntmps c && fitsL fn.ntmps []) = true := h
        simp only [Bool.and_eq_true] at h'
        exact ⟨rfl, h'.1⟩
      | cons x l ih =>
        intro h
        have h : (fits fn.ntmps x && fitsL fn.ntmps (l ++ [c])) = true := h
        simp only [Bool.and_eq_true] at h
        exact ⟨by unfold fitsL; simp only [Bool.and_eq_true]; exact ⟨h.1, (ih h.2).1⟩, (ih h.2).2⟩
    exact key pre hfl
  have hsz : (args.toArray ++ Array.replicate (fn.ntmps - args.toArray.size) undef).size = fn.ntmps := by simp; omega
  have ha : Agree { tmps := args.toArray ++ Array.replicate (fn.ntmps - args.toArray.size) undef, defers := [] } (env0 args) := by
    refine ⟨rfl, fun t => ?_⟩
    unfold env0
    simp only [Array.getD_eq_getD_getElem?]
    by_cases ht : t < args.length
    · rw [Array.getElem?_append_left (by simpa using ht)]; simp
    · have h1 : args[t]? = none := by simp; omega
      rw [h1]
      rw [Array.getElem?_append_right (by simp; omega)]
      by_cases h2 : t - args.length < fn.ntmps - args.length
      · simp [h2]
      · simp [h2]
  unfold CallR
  rw [← callsIn_FW (ro := none) (n := 0)]
  refine callsIn_of_wp_marks hf hb trivial ?_ rfl
  -- leaving, without and with the mark
  have out : ∀ (a : Act) (e : Env) (w : World), Agree a e → resS P fn.results.toList e w (fun vs => Q (retV vs) w) → LeavesInM (FW none) 0 P fn a.tmps (fun e w' => ∃ v, e = .returned v ∧ Q v w') a.defers .returning w := by
    intro a e w ha hr
    rw [ha.1]
    obtain ⟨vs, hK, hrun⟩ := resS_run ha _ _ hr
    exact ⟨retV vs, results_run hrun, _, rfl, hK⟩
  have outM : ∀ (D : Nat) (a : Act) (e : Env) (w : World), AgreeD (markD D) a e → w.heap[D]? = some (.deferred (some [])) → (∀ W'', Kept (fun z => z = D) w W'' → resS P fn.results.toList e W'' fun vs => Q (retV vs) W'') →
      LeavesInM (FW none) 0 P fn a.tmps (fun e w' => ∃ v, e = .returned v ∧ Q v w') a.defers .returning w := by
    intro D a e w ha hD hr
    rw [ha.1]
    refine ⟨by simp, .inl ⟨D, _, rfl, run_takeDeferred hD, ?_⟩⟩
    have hr' := hr _ (Kept.putObj w D (.deferred none))
    have ha0 : Agree { a with defers := [] } e := ⟨rfl, ha.2⟩
    obtain ⟨vs, hK, hrun⟩ := resS_run ha0 _ _ hr'
    exact ⟨retV vs, results_run hrun, _, rfl, hK⟩
  refine semPre_sound hm (n := fn.ntmps) ?_ (fun a e w ha _ hr => out a e w ha hr) pre _ (env0 args) w ha hsz hfl'.1 h
  intro a e w ha hs hK
  have hw := sem_sound hm c _ e w a ha (by rw [hs]; exact hfl'.2) hK
  refine wpIn_seq (wpIn_seq (wpIn_mono (wpIn_wide.2 hw) ?_))
  rintro ex a1 w1 ⟨_, e1, ha1, hs1, _, hq⟩
  cases ex with
  | normal =>
    obtain ⟨gf, lb, xs, Kp, T, I, Ix, hg, hbd, hit, hKp, hT, hI, hIx, h0, hround, hdone, hstop⟩ := hq
    refine wpIn_block ?_
    refine rf_sound (P := P) (A := A) (e := e1) ha1 (by rw [hs1, hs]; simpa only [Bool.and_eq_true] using hfr) hg hbd hit hKp hT hI hIx h0 ?_ ?_ ?_
    · intro i x W hx hi hz
      obtain ⟨hl, hr⟩ := hround i x W hx hi hz
      obtain ⟨vs, rfl, hr⟩ := exShs_elim hr
      exact ⟨hl, hr⟩
    · intro W hi hD
      have hp := hdone W hi
      have hag : AgreeD (markD w1.heap.size) { a1 with defers := markD w1.heap.size } e1 := ⟨rfl, ha1.2⟩
      -- the mark's block lies as it lay
      refine wpIn_mono (semI_sound (ro := none) post _ e1 W { a1 with defers := markD w1.heap.size } hag (by show fits a1.tmps.size post = true; rw [hs1, hs]; exact hfpost) hp) ?_
      rintro ex a2 w2 ⟨_, e2, ha2, hs2, _, hq⟩
      have hD2 : Kept (fun z => z ≠ w1.heap.size) W w2 → w2.heap[w1.heap.size]? = some (.deferred (some [])) := fun k =>
        (k.block _ (Array.getElem?_eq_some_iff.1 hD).1 (fun h => h rfl)).trans hD
      cases ex with
      | normal => exact outM _ _ _ _ ha2 (hD2 hq.1) hq.2
      | ret => exact outM _ _ _ _ ha2 (hD2 hq.1) hq.2
      | exit i => exact hq.elim
      | goto i => exact hq.elim
      | panic c => exact hq.elim
      | outgrown => exact hq.elim
    · intro i W hi hD
      have hag : AgreeD (markD w1.heap.size) { a1 with defers := markD w1.heap.size } e1 := ⟨rfl, ha1.2⟩
      exact outM _ _ _ _ hag hD (hstop i W hi)
  | exit i => exact hq.elim
  | goto i => exact hq.elim
  | ret => exact hq.elim
  | panic c => exact hq.elim
  | outgrown => exact hq.elim


structure RfP where
  c : Code
  id : Nat
  g : Operand
  ps : Array Tmp
  assign : Code
  bd : Code
  post : Code

def RfP.code (p : RfP) : Code := .seq (.seq p.c (.block p.id (.rangeFunc p.g p.ps p.assign p.bd))) p.post

/-- The parts of a body that ranges over a function. -/
def rfParts : Code → List Code × Option RfP
  | .seq x y =>
    match x with
    | .seq c (.block id (.rangeFunc g ps as bd)) => ([], some ⟨c, id, g, ps, as, bd, y⟩)
    | _ => (x :: (rfParts y).1, (rfParts y).2)
  | _ => ([], none)

theorem rfParts_eq : ∀ (c : Code) (pre : List Code) (p : RfP), rfParts c = (pre, some p) → c = chainC pre p.code
  | .seq x y, pre, p, h => by
    unfold rfParts at h
    split at h
    · cases h; rfl
    · have h1 : pre = x :: (rfParts y).1 := (congrArg Prod.fst h).symm
      have h2 : (rfParts y).2 = some p := congrArg Prod.snd h
      subst h1
      have := rfParts_eq y (rfParts y).1 p (by rw [← h2])
      show Code.seq x y = .seq x (chainC (rfParts y).1 p.code)
      rw [← this]
  | .skip, _, _, h | .region _ _ _, _, _, h | .cond _ _ _, _, _, h | .block _ _, _, _, h | .loop _, _, _, h | .rangeFunc _ _ _ _, _, _, h | .exit _, _, _, h | .scope _, _, _, h | .label _, _, _, h | .goto _, _, _, h | .ret, _, _, h | .refuse _, _, _, h => by
    unfold rfParts at h; cases h

def fitsRF (n : Nat) (c : Code) : Bool :=
  match rfParts c with
  | (pre, some p) => fitsL n (pre ++ [p.c]) && (fits n p.assign && fits n p.bd && p.ps.toList.all (Nat.blt · n)) && fits n p.post
  | _ => false

def semRF (P : Program) (A : Ann) (rs : List ResultVar) (shs : List Sh) (Q : Value → World → Prop) (c : Code) (e : Env) (w : World) : Prop :=
  match rfParts c with
  | (pre, some p) => semPre P A (fun e w => sem P A p.c (fun ex e w => match ex with | .normal => rfS P A rs p.g p.ps shs p.assign p.bd p.post Q e w | _ => False) e w) (fun e w => resS P rs e w fun vs => Q (retV vs) w) pre e w
  | _ => False

theorem funRF {P : Program} {A : Ann} {k : FuncId} {fn : Func} {c : Code} {shs : List Sh} {args : List Value} {w : World} {Q : Value → World → Prop} (hm : P.follows .mixedOrders = true)
    (hf : P.funcs[k]? = some fn) (hb : fn.body = some c) (hn : (Nat.ble args.length fn.ntmps && fitsRF fn.ntmps c) = true)
    (h : semRF P A fn.results.toList shs Q c (env0 args) w) : CallR P k args w Q := by
  unfold semRF at h
  unfold fitsRF at hn
  split at h
  · rename_i pre p hp
    rw [hp] at hn
    have := rfParts_eq c pre p hp
    refine funRF_calls (A := A) (pre := pre) (c := p.c) (id := p.id) (g := p.g) (ps := p.ps) (shs := shs) (assign := p.assign) (bd := p.bd) (post := p.post) hm hf (by rw [hb, this]; rfl) ?_ h
    simp only [Bool.and_eq_true] at hn ⊢
    exact ⟨⟨⟨hn.1, hn.2.1.1⟩, hn.2.1.2⟩, hn.2.2⟩
  · exact h.elim

end Go.Lw
