/-
  The reading of code in a round of a range over a function, and in a frame that bears marks; code that draws nothing. Conditions: none; it speaks of whatever program.
-/
import Derived.Test.YtkjmlbplmffekaaGreatLm
import Derived.RangeFuncIn
import Derived.RangeFuncLeaves
import Derived.RangeFuncRecord
import Derived.TacticsIn
namespace Go.Lw

/-- No fence; in a round, or not. -/
def FW (ro : Option Nat) : Fence := { fn := fun _ => True, depth := none, alive := false, round := ro }
theorem FW_none : FW none = Fence.wide := rfl
theorem FW_in (l : Nat) : (FW none).inRound l = FW (some l) := rfl

theorem callsIn_FW {ro : Option Nat} {n : Nat} {P : Program} {f : FuncId} {args : Array Value} {w : World} {R : Ending → World → Prop} : CallsIn (FW ro) n P f args w R ↔ Calls P f args w R :=
  callsIn_wide (n := n)

def AgreeD (ds : List Deferred) (a : Act) (e : Env) : Prop := a.defers = ds ∧ ∀ t, a.tmps.getD t undef = e t

theorem AgreeD.eval {ds : List Deferred} {a : Act} {e : Env} (h : AgreeD ds a e) : a.eval = ev e := by
  funext x
  cases x with
  | tmp t => exact h.2 t
  | _ => rfl

theorem AgreeD.put {ds : List Deferred} {a : Act} {e : Env} (h : AgreeD ds a e) (d : Option Nat) (v : Value) (hd : ∀ k, d = some k → k < a.tmps.size) : AgreeD ds (a.put d v) (upd e d v) := by
  have h0 : Agree { a with defers := [] } e := ⟨rfl, h.2⟩
  have h1 := h0.put d v hd
  cases d with
  | none => exact ⟨h.1, h1.2⟩
  | some d => exact ⟨h.1, h1.2⟩

/-! ## A call of yield -/

/-- yield is called: a round. -/
def YieldR (P : Program) (l : Nat) (args : List Value) (W : World) (R : Bool → World → Prop) : Prop :=
  ∃ fn tmps assign body, (Instr.yield l args.toArray).run P W = .ok (.round l fn tmps assign body) W ∧ RoundIn (FW none) 0 P l fn tmps assign body W fun e W' => ∃ b, e = .returned (.bool b) ∧ R b W'

def opSI (P : Program) (r : Operand → Value) (o : Oper) (K : Value → World → Prop) (w : World) : Prop :=
  match o.op with
  | .call c =>
    match c.callee with
    | .value (.tmp t) => ∃ l : Nat, r (.tmp t) = .func (.yield l) #[] #[] ∧ YieldR P l (c.args.toList.map r) w fun b w' => K (.bool b) w'
    | _ => opS P r o K w
  | .load t x => match r x with | .pointer p => nn p fun a => loadS P t a w (fun v => K v w) | _ => False
  | .store t x y => match r x with | .pointer p => nn p fun a => storeS P t a (r y) w (fun w => K undef w) | _ => False
  | _ => opS P r o K w

section
variable {P : Program} {o : Oper} {a : Act} {w : World} {K' : Act → World → Prop} {Q : Exit → Act → World → Prop} {ro : Option Nat}

theorem opS_nodefer {r : Operand → Value} {K : Value → World → Prop} (h : opS P r o K w) : ∀ c, o.op ≠ .defer c := by
  intro c hc
  unfold opS at h
  rw [hc] at h
  exact h

theorem opIn_of_wp (hnd : ∀ c, o.op ≠ .defer c) (h : o.wp P a w K' Q) : o.wpIn (FW ro) 0 P a w K' Q := by
  refine ⟨fun _ _ => trivial, ?_⟩
  rw [Oper.semAt_eq _ _ _ hnd]
  unfold Oper.wp at h
  cases hr : (execOp a.eval o).run P w with
  | ok nx w' =>
    rw [hr] at h
    cases nx with
    | value v => exact h
    | skip => exact h
    | defer d => exact h
    | enter f args =>
      refine ⟨(fun e => by cases e), ?_⟩
      exact callsIn_FW.2 h
    | row row args =>
      refine ⟨(fun e => by cases e), ?_⟩
      intro c cs _
      obtain ⟨v, w'', h1, h2⟩ := h c cs
      exact ⟨v, w'', h1, stepsIn_wide.2 h2⟩
    | _ => exact h.elim
  | halt hh w' =>
    rw [hr] at h
    cases hh with
    | panic v => exact h
    | _ => exact h.elim

theorem opSI_sound {K : Value → World → Prop} (h : opSI P a.eval o K w) (hk : ∀ v w', K v w' → K' (a.put o.dst v) w') : o.wpIn (FW ro) 0 P a w K' Q := by
  unfold opSI at h
  split at h
  · rename_i c ho
    split at h
    · rename_i t hc
      obtain ⟨l, hl, fn, tmps, assign, body, hy, hR⟩ := h
      refine ⟨fun _ _ => trivial, ?_⟩
      rw [Oper.semAt_eq _ _ _ (by rw [ho]; intro c' e; cases e)]
      have hrun : (execOp a.eval o).run P w = .ok (.round l fn tmps assign body) w := by
        have e : (#[] ++ c.args.map a.eval : Array Value) = (c.args.toList.map a.eval).toArray := by simp [mapL]
        unfold execOp
        simp only [ho, resolve, hc, Deferred.ofValue, hl, Sem.run_bind, Sem.run_pure, Result.andThen_ok, invoke, e]
        simpa using hy
      rw [hrun]
      refine ⟨(fun e => by cases e), RoundIn.mono hR ?_⟩
      rintro e w' ⟨b, rfl, hb⟩
      exact hk _ _ hb
    · exact opIn_of_wp (opS_nodefer h) (opS_sound h hk)
  · rename_i t x ho
    split at h
    · rename_i p hx
      obtain ⟨q, rfl, h⟩ := nn_elim h
      have h' : opS P a.eval o K w := by
        unfold opS
        simp only [ho, hx]
        exact h
      exact opIn_of_wp (opS_nodefer h') (opS_sound h' hk)
    · exact h.elim
  · rename_i t x y ho
    split at h
    · rename_i p hx
      obtain ⟨q, rfl, h⟩ := nn_elim h
      have h' : opS P a.eval o K w := by
        unfold opS
        simp only [ho, hx]
        exact h
      exact opIn_of_wp (opS_nodefer h') (opS_sound h' hk)
    · exact h.elim
  · exact opIn_of_wp (opS_nodefer h) (opS_sound h hk)

end

def opsSI (P : Program) (ops : Array Oper) : List Oper → Env → World → (Env → World → Prop) → Prop
  | [], e, w, K => K e w
  | o :: r, e, w, K => guardS ops o e (fun e => opSI P (ev e) o (fun v w' => opsSI P ops r (upd e o.dst v) w' K) w) (fun e => opsSI P ops r (upd e o.dst undef) w K)

theorem opsSI_sound {P : Program} {ops : Array Oper} {Q : Exit → Act → World → Prop} {ro : Option Nat} {ds : List Deferred} : ∀ (l : List Oper) (e : Env) (w : World) (a : Act) (K : Env → World → Prop), AgreeD ds a e → fitsOps a.tmps.size l = true → opsSI P ops l e w K →
    (∀ a' e' w', AgreeD ds a' e' → a'.tmps.size = a.tmps.size → (∀ t, (∀ o ∈ l, o.dst ≠ some t) → e' t = e t) → K e' w' → Q .normal a' w') → wpListIn (FW ro) 0 P ops Q l a w
  | [], e, w, a, K, ha, _, h, hK => hK a e w ha rfl (fun _ _ => rfl) h
  | o :: r, e, w, a, K, ha, hf, h, hK => by
    simp only [fitsOps, List.all_cons, Bool.and_eq_true] at hf
    have hd : ∀ k, o.dst = some k → k < a.tmps.size := fun k hk => by
      have := hf.1; rw [hk] at this; exact bltL this
    have step : ∀ v w', opsSI P ops r (upd e o.dst v) w' K → wpListIn (FW ro) 0 P ops Q r (a.put o.dst v) w' := fun v w' h' => by
      refine opsSI_sound r _ _ _ K (ha.put _ _ hd) (by rw [put_size]; exact hf.2) h' fun a' e' w'' ha' hs hfr hk => ?_
      refine hK a' e' w'' ha' (by rw [hs, put_size]) (fun t ht => ?_) hk
      rw [hfr t (fun o' ho' => ht o' (by simp [ho']))]
      have hne := ht o (by simp)
      cases hdd : o.dst with
      | none => rfl
      | some d => rw [upd_eq, if_neg (fun e => hne (by rw [hdd, e]))]
    have hA : Agree { a with defers := [] } e := ⟨rfl, ha.2⟩
    rcases guardS_elim hA h with ⟨hw, h⟩ | ⟨hw, h⟩
    · unfold wpListIn
      have hw' : Region.wanted o (yielded ops a.tmps) = true := hw
      rw [if_pos hw']
      rw [← ha.eval] at h
      exact opSI_sound h step
    · unfold wpListIn
      have hw' : Region.wanted o (yielded ops a.tmps) = false := hw
      rw [if_neg (by rw [hw']; simp)]
      exact ⟨fun _ _ => trivial, step _ _ h⟩

/-- The reading of code that draws nothing. -/
def semI (P : Program) (A : Ann) : Code → (Exit → Env → World → Prop) → Env → World → Prop
  | .skip, Q, e, w => Q .normal e w
  | .region _ ops draw, Q, e, w => bif draw then False else opsSI P ops ops.toList e w (Q .normal)
  | .seq a b, Q, e, w => semI P A a (seqQ (fun e w => semI P A b Q e w) Q) e w
  | .cond c a b, Q, e, w => match ev e c with | .bool t => cond t (semI P A a Q e w) (semI P A b Q e w) | _ => False
  | .block id c, Q, e, w => semI P A c (blockQ id Q) e w
  | .loop c, Q, e, w =>
    match lk A.loops (firstId c) with
    | none => False
    | some ls => bif subB (ls.map (·.1)) (written c) && shsB (ls.map (·.2)) (ls.map fun s => e s.1) then
        ∃ (I : List Value → World → Prop) (μ : List Value → World → Nat), I (ls.map fun s => e s.1) w ∧
          ∀ d : Env, allShs (ls.map (·.2)) fun vs => ∀ w', I vs w' →
            semI P A c (seqQ (fun e' w'' => bif shsB (ls.map (·.2)) (ls.map fun s => e' s.1) then I (ls.map fun s => e' s.1) w'' ∧ μ (ls.map fun s => e' s.1) w'' < μ vs w' else False) Q) (havoc e d (written c) (ls.map (·.1)) vs) w'
      else False
  | .exit id, Q, e, w => Q (.exit id) e w
  | .ret, Q, e, w => Q .ret e w
  | _, _, _, _ => False

def liftD (ds : List Deferred) (n : Nat) (W : List Nat) (e0 : Env) (Q : Exit → Env → World → Prop) (ex : Exit) (a : Act) (w : World) : Prop :=
  okEx ex ∧ ∃ e, AgreeD ds a e ∧ a.tmps.size = n ∧ (∀ t, memB W t = false → e t = e0 t) ∧ Q ex e w

theorem semI_sound {P : Program} {A : Ann} {ro : Option Nat} {ds : List Deferred} : ∀ (c : Code) (Q : Exit → Env → World → Prop) (e : Env) (w : World) (a : Act), AgreeD ds a e → fits a.tmps.size c = true → semI P A c Q e w →
    c.wpIn (FW ro) 0 P (liftD ds a.tmps.size (written c) e Q) a w := by
  intro c
  induction c with
  | skip => intro Q e w a ha _ h; exact wpIn_skip ⟨trivial, e, ha, rfl, fun _ _ => rfl, h⟩
  | region id ops draw =>
    intro Q e w a ha hf h
    unfold semI at h
    cases draw with
    | true => exact h.elim
    | false =>
      rw [cond_false] at h
      exact wpIn_region_list (opsSI_sound _ _ _ _ _ ha hf h fun a' e' w' ha' hs hfr hk => ⟨trivial, e', ha', hs, fun t ht => hfr t (dsts_out ht), hk⟩)
  | seq x y ihx ihy =>
    intro Q e w a ha hf h
    unfold fits at hf
    simp only [Bool.and_eq_true] at hf
    unfold semI at h
    refine wpIn_seq (wpIn_mono (ihx _ e w a ha hf.1 h) ?_)
    intro ex a' w' ⟨hok, e', ha', hs, hfr, hq⟩
    have hother : Q ex e' w' → liftD ds a.tmps.size (written (.seq x y)) e Q ex a' w' := fun hq => ⟨hok, e', ha', hs, fun t ht => hfr t (memB_append ht).1, hq⟩
    cases ex with
    | normal =>
      refine wpIn_mono (ihy Q e' w' a' ha' (by rw [hs]; exact hf.2) hq) ?_
      intro ex a2 w2 ⟨hok2, e2, ha2, hs2, hfr2, hq2⟩
      exact ⟨hok2, e2, ha2, by rw [hs2, hs], fun t ht => by rw [hfr2 t (memB_append ht).2, hfr t (memB_append ht).1], hq2⟩
    | exit i => exact hother hq
    | goto i => exact hother hq
    | ret => exact hother hq
    | panic c => exact hok.elim
    | outgrown => exact hok.elim
  | cond c x y ihx ihy =>
    intro Q e w a ha hf h
    unfold fits at hf
    simp only [Bool.and_eq_true] at hf
    unfold semI at h
    split at h
    · rename_i t ht
      refine wpIn_cond (t := t) (by rw [ha.eval]; exact ht) ?_
      cases t with
      | true =>
        simp only [cond_true] at h
        refine wpIn_mono (ihx Q e w a ha hf.1 h) ?_
        intro ex a2 w2 ⟨hok2, e2, ha2, hs2, hfr2, hq2⟩
        exact ⟨hok2, e2, ha2, hs2, fun t ht => hfr2 t (memB_append ht).1, hq2⟩
      | false =>
        simp only [cond_false] at h
        refine wpIn_mono (ihy Q e w a ha hf.2 h) ?_
        intro ex a2 w2 ⟨hok2, e2, ha2, hs2, hfr2, hq2⟩
        exact ⟨hok2, e2, ha2, hs2, fun t ht => hfr2 t (memB_append ht).2, hq2⟩
    · exact h.elim
  | block id x ih =>
    intro Q e w a ha hf h
    unfold semI at h
    refine wpIn_block (wpIn_mono (ih _ e w a ha hf h) ?_)
    intro ex a2 w2 ⟨hok2, e2, ha2, hs2, hfr2, hq2⟩
    cases ex with
    | exit i =>
      simp only [blockQ] at hq2
      change (if i = id then _ else _)
      by_cases hi : i = id
      · subst hi
        simp only [Nat.beq_refl, cond_true] at hq2
        rw [if_pos rfl]
        exact ⟨trivial, e2, ha2, hs2, hfr2, hq2⟩
      · have : Nat.beq i id = false := by
          cases hb : Nat.beq i id with
          | false => rfl
          | true => exact absurd (Nat.eq_of_beq_eq_true hb) hi
        simp only [this, cond_false] at hq2
        rw [if_neg hi]
        exact ⟨trivial, e2, ha2, hs2, hfr2, hq2⟩
    | normal => exact ⟨hok2, e2, ha2, hs2, hfr2, hq2⟩
    | goto l => exact ⟨hok2, e2, ha2, hs2, hfr2, hq2⟩
    | ret => exact ⟨hok2, e2, ha2, hs2, hfr2, hq2⟩
    | panic ch => exact hok2.elim
    | outgrown => exact hok2.elim
  | loop x ih =>
    intro Q e w a ha hf h
    unfold semI at h
    split at h
    · exact h.elim
    · rename_i ls _
      cases hb : (subB (ls.map (·.1)) (written x) && shsB (ls.map (·.2)) (ls.map fun s => e s.1)) with
      | false => rw [hb, cond_false] at h; exact h.elim
      | true =>
        rw [hb, cond_true] at h
        simp only [Bool.and_eq_true] at hb
        obtain ⟨hsub, hsh⟩ := hb
        obtain ⟨I, μ, hI, hr⟩ := h
        have hread : ∀ {a' : Act} {e' : Env}, AgreeD ds a' e' → (ls.map fun s => a'.tmps.getD s.1 undef) = ls.map fun s => e' s.1 := fun ha' => by
          apply List.map_congr_left; intro s _; exact ha'.2 s.1
        refine wpIn_loop (fun a' w' => ∃ e', AgreeD ds a' e' ∧ a'.tmps.size = a.tmps.size ∧ (∀ t, memB (written x) t = false → e' t = e t) ∧ shsB (ls.map (·.2)) (ls.map fun s => e' s.1) = true ∧ I (ls.map fun s => e' s.1) w')
          (fun a' w' => μ (ls.map fun s => a'.tmps.getD s.1 undef) w') ⟨e, ha, rfl, fun _ _ => rfl, hsh, hI⟩ ?_
        intro a1 w1 ⟨e1, ha1, hs1, hfr1, hsh1, hI1⟩
        have h1 := allShs_elim (hr e1) hsh1 w1 hI1
        rw [map_fst, havoc_self hfr1] at h1
        refine wpIn_mono (ih _ e1 w1 a1 ha1 (by rw [hs1]; exact hf) h1) ?_
        intro ex a2 w2 ⟨hok2, e2, ha2, hs2, hfr2, hq2⟩
        have hfr : ∀ t, memB (written x) t = false → e2 t = e t := fun t ht => by rw [hfr2 t ht, hfr1 t ht]
        cases ex with
        | normal =>
          simp only [seqQ] at hq2
          cases hsh2 : shsB (ls.map (·.2)) (ls.map fun s => e2 s.1) with
          | false => rw [hsh2, cond_false] at hq2; exact hq2.elim
          | true =>
            rw [hsh2, cond_true] at hq2
            refine ⟨⟨e2, ha2, by rw [hs2, hs1], hfr, hsh2, hq2.1⟩, ?_⟩
            rw [hread ha2, hread ha1, map_fst ls e1]
            exact hq2.2
        | exit i => exact ⟨hok2, e2, ha2, by rw [hs2, hs1], hfr, hq2⟩
        | goto l => exact ⟨hok2, e2, ha2, by rw [hs2, hs1], hfr, hq2⟩
        | ret => exact ⟨hok2, e2, ha2, by rw [hs2, hs1], hfr, hq2⟩
        | panic ch => exact hok2.elim
        | outgrown => exact hok2.elim
  | exit id => intro Q e w a ha _ h; exact wpIn_exit ⟨trivial, e, ha, rfl, fun _ _ => rfl, h⟩
  | ret => intro Q e w a ha _ h; exact wpIn_ret ⟨trivial, e, ha, rfl, fun _ _ => rfl, h⟩
  | label l => intro Q e w a _ _ h; exact (h : False).elim
  | scope x _ => intro Q e w a _ _ h; exact (h : False).elim
  | rangeFunc _ _ _ _ => intro Q e w a _ _ h; exact (h : False).elim
  | goto _ => intro Q e w a _ _ h; exact (h : False).elim
  | refuse _ => intro Q e w a _ _ h; exact (h : False).elim

end Go.Lw
