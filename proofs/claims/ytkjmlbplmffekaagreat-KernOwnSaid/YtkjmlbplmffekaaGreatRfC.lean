/-
  A function that ranges over a function. Conditions: none; it speaks of whatever program.
-/
import Derived.Test.YtkjmlbplmffekaaGreatRfB
namespace Go.Lw

def chainC : List Code → Code → Code
  | [], z => z
  | c :: cs, z => .seq c (chainC cs z)

def fitsL (n : Nat) : List Code → Bool
  | [] => true
  | c :: cs => fits n c && fitsL n cs

def semPre (P : Program) (A : Ann) (K R : Env → World → Prop) : List Code → Env → World → Prop
  | [], e, w => K e w
  | c :: cs, e, w => sem P A c (fun ex e w => match ex with
    | .normal => semPre P A K R cs e w
    | .ret => R e w
    | _ => False) e w

theorem semPre_sound {P : Program} {A : Ann} (hm : P.follows .mixedOrders = true) {z : Code} {QQ : Exit → Act → World → Prop} {K R : Env → World → Prop} {n : Nat}
    (hz : ∀ a e w, Agree a e → a.tmps.size = n → K e w → z.wpIn (FW none) 0 P QQ a w) (hr : ∀ a e w, Agree a e → a.tmps.size = n → R e w → QQ .ret a w) :
    ∀ (cs : List Code) (a : Act) (e : Env) (w : World), Agree a e → a.tmps.size = n → fitsL n cs = true → semPre P A K R cs e w → (chainC cs z).wpIn (FW none) 0 P QQ a w
  | [], a, e, w, ha, hs, _, h => hz a e w ha hs h
  | c :: cs, a, e, w, ha, hs, hf, h => by
    unfold fitsL at hf
    simp only [Bool.and_eq_true] at hf
    have hw := sem_sound hm c _ e w a ha (by rw [hs]; exact hf.1) h
    refine wpIn_seq (wpIn_mono (wpIn_wide.2 hw) ?_)
    rintro ex a' w' ⟨_, e', ha', hs', _, hq⟩
    cases ex with
    | normal => exact semPre_sound hm hz hr cs a' e' w' ha' (by rw [hs', hs]) hf.2 hq
    | ret => exact hr a' e' w' ha' (by rw [hs', hs]) hq
    | exit i => exact hq.elim
    | goto i => exact hq.elim
    | panic c => exact hq.elim
    | outgrown => exact hq.elim

/-- The range, and what stands behind it. -/
def rfS (P : Program) (A : Ann) (rs : List ResultVar) (g : Operand) (ps : Array Tmp) (shs : List Sh) (assign bd post : Code) (Q : Value → World → Prop) (e : Env) (w : World) : Prop :=
  ∃ (gf : FuncId) (lb : Array Value) (xs : List (List Value)) (Kp T : Nat → Prop) (I Ix : Nat → World → Prop),
    ev e g = .func (.func gf) #[] lb ∧ bodyB P gf = true ∧ IterOK P gf lb.toList xs Kp w ∧ (∀ z, Kp z → z < w.heap.size) ∧ (∀ z, T z → ¬ Kp z ∧ z ≠ w.heap.size ∧ z ≠ w.heap.size + 1) ∧
    Steady w.heap.size I ∧ Steady w.heap.size Ix ∧ I 0 w ∧
    (∀ (i : Nat) (x : List Value) (W : World), xs[i]? = some x → I i W → w.heap.size + 2 ≤ W.heap.size → x.length = ps.size ∧ exShs shs fun vs => x = vs ∧ roundS P A w.heap.size assign bd T (I (i + 1)) (Ix i) (updL e ps.toList vs) W) ∧
    (∀ W, I xs.length W → semI P A post (fun ex e' W' => match ex with
      | .normal | .ret => Kept (fun z => z ≠ w.heap.size) W W' ∧ ∀ W'', Kept (fun z => z = w.heap.size) W' W'' → resS P rs e' W'' fun vs => Q (retV vs) W''
      | _ => False) e W) ∧
    (∀ i W, Ix i W → ∀ W'', Kept (fun z => z = w.heap.size) W W'' → resS P rs e W'' fun vs => Q (retV vs) W'')

theorem funRF_calls {P : Program} {A : Ann} {k : FuncId} {fn : Func} {pre : List Code} {id : Nat} {g : Operand} {ps : Array Tmp} {shs : List Sh} {c assign bd post : Code} {args : List Value} {w : World} {Q : Value → World → Prop} (hm : P.follows .mixedOrders = true)
    (hf : P.funcs[k]? = some fn) (hb : fn.body = some (chainC pre (.seq (.seq c (.block id (.rangeFunc g ps assign bd))) post)))
    (hn : (Nat.ble args.length fn.ntmps && fitsL fn.ntmps (pre ++ [c]) && (fits fn.ntmps assign && fits fn.ntmps bd && ps.toList.all (Nat.blt · fn.ntmps)) && fits fn.ntmps post) = true)
    (h : semPre P A (fun e w => sem P A c (fun ex e w => match ex with | .normal => rfS P A fn.results.toList g ps shs assign bd post Q e w | _ => False) e w) (fun e w => resS P fn.results.toList e w fun vs => Q (retV vs) w) pre (env0 args) w) : CallR P k args w Q := by
  simp only [Bool.and_eq_true] at hn
  obtain ⟨⟨⟨hlen, hfl⟩, hfr⟩, hfpost⟩ := hn
  have hle := Nat.le_of_ble_eq_true hlen
  have hfl' : fitsL fn.ntmps pre = true ∧ fits fn.ntmps c = true := by
    have key : ∀ l : List Code, fitsL fn.ntmps (l ++ [c]) = true → fitsL fn.ntmps l = true ∧ fits fn.ntmps c = true := by
      intro l
      induction l with
      | nil =>
        intro h
        have h' : (fits fn.ntmps c && fitsL fn.ntmps []) = true := h
        simp only [Bool.and_eq_true] at h'
        exact ⟨rfl, h'.1⟩
      | cons x l ih =>
        intro h
        have h : (fits fn.ntmps x && fitsL fn.ntmps (l ++ [c])) = true := h
        simp only [Bool.and_eq_true] at h
        exact ⟨by unfold fitsL; simp only [Bool.and_eq_true]; exact ⟨h.1, (ih h.2).1⟩, (ih h.2).2⟩
    exact key pre hfl
  have hsz : (args.toArray ++ Array.replicate (fn.ntmps - args.toArray.size) undef).size = fn.ntmps := by simp; omega
  have ha : Agree { tmps := args.toArray ++ Array.replicate (fn.ntmps - args.toArray.size) undef, defers := [] } (env0 args) := by
    refine ⟨rfl, fun t => ?_⟩
    unfold env0
    simp only [Array.getD_eq_getD_getElem?]
    by_cases ht : t < args.length
    · rw [Array.getElem?_append_left (by simpa using ht)]; simp
    · have h1 : args[t]? = none := by simp; omega
      rw [h1]
      rw [Array.getElem?_append_right (by simp; omega)]
      by_cases h2 : t - args.length < fn.ntmps - args.length
      · simp [h2]
      · simp [h2]
  unfold CallR
  rw [← callsIn_FW (ro := none) (n := 0)]
  refine callsIn_of_wp_marks hf hb trivial ?_ rfl
  -- leaving, without and with the mark
  have out : ∀ (a : Act) (e : Env) (w : World), Agree a e → resS P fn.results.toList e w (fun vs => Q (retV vs) w) → LeavesInM (FW none) 0 P fn a.tmps (fun e w' => ∃ v, e = .returned v ∧ Q v w') a.defers .returning w := by
    intro a e w ha hr
    rw [ha.1]
    obtain ⟨vs, hK, hrun⟩ := resS_run ha _ _ hr
    exact ⟨retV vs, results_run hrun, _, rfl, hK⟩
  have outM : ∀ (D : Nat) (a : Act) (e : Env) (w : World), AgreeD (markD D) a e → w.heap[D]? = some (.deferred (some [])) → (∀ W'', Kept (fun z => z = D) w W'' → resS P fn.results.toList e W'' fun vs => Q (retV vs) W'') →
      LeavesInM (FW none) 0 P fn a.tmps (fun e w' => ∃ v, e = .returned v ∧ Q v w') a.defers .returning w := by
    intro D a e w ha hD hr
    rw [ha.1]
    refine ⟨by simp, .inl ⟨D, _, rfl, run_takeDeferred hD, ?_⟩⟩
    have hr' := hr _ (Kept.putObj w D (.deferred none))
    have ha0 : Agree { a with defers := [] } e := ⟨rfl, ha.2⟩
    obtain ⟨vs, hK, hrun⟩ := resS_run ha0 _ _ hr'
    exact ⟨retV vs, results_run hrun, _, rfl, hK⟩
  refine semPre_sound hm (n := fn.ntmps) ?_ (fun a e w ha _ hr => out a e w ha hr) pre _ (env0 args) w ha hsz hfl'.1 h
  intro a e w ha hs hK
  have hw := sem_sound hm c _ e w a ha (by rw [hs]; exact hfl'.2) hK
  refine wpIn_seq (wpIn_seq (wpIn_mono (wpIn_wide.2 hw) ?_))
  rintro ex a1 w1 ⟨_, e1, ha1, hs1, _, hq⟩
  cases ex with
  | normal =>
    obtain ⟨gf, lb, xs, Kp, T, I, Ix, hg, hbd, hit, hKp, hT, hI, hIx, h0, hround, hdone, hstop⟩ := hq
    refine wpIn_block ?_
    refine rf_sound (P := P) (A := A) (e := e1) ha1 (by rw [hs1, hs]; simpa only [Bool.and_eq_true] using hfr) hg hbd hit hKp hT hI hIx h0 ?_ ?_ ?_
    · intro i x W hx hi hz
      obtain ⟨hl, hr⟩ := hround i x W hx hi hz
      obtain ⟨vs, rfl, hr⟩ := exShs_elim hr
      exact ⟨hl, hr⟩
    · intro W hi hD
      have hp := hdone W hi
      have hag : AgreeD (markD w1.heap.size) { a1 with defers := markD w1.heap.size } e1 := ⟨rfl, ha1.2⟩
      -- the mark's block lies as it lay
      refine wpIn_mono (semI_sound (ro := none) post _ e1 W { a1 with defers := markD w1.heap.size } hag (by show fits a1.tmps.size post = true; rw [hs1, hs]; exact hfpost) hp) ?_
      rintro ex a2 w2 ⟨_, e2, ha2, hs2, _, hq⟩
      have hD2 : Kept (fun z => z ≠ w1.heap.size) W w2 → w2.heap[w1.heap.size]? = some (.deferred (some [])) := fun k =>
        (k.block _ (Array.getElem?_eq_some_iff.1 hD).1 (fun h => h rfl)).trans hD
      cases ex with
      | normal => exact outM _ _ _ _ ha2 (hD2 hq.1) hq.2
      | ret => exact outM _ _ _ _ ha2 (hD2 hq.1) hq.2
      | exit i => exact hq.elim
      | goto i => exact hq.elim
      | panic c => exact hq.elim
      | outgrown => exact hq.elim
    · intro i W hi hD
      have hag : AgreeD (markD w1.heap.size) { a1 with defers := markD w1.heap.size } e1 := ⟨rfl, ha1.2⟩
      exact outM _ _ _ _ hag hD (hstop i W hi)
  | exit i => exact hq.elim
  | goto i => exact hq.elim
  | ret => exact hq.elim
  | panic c => exact hq.elim
  | outgrown => exact hq.elim


structure RfP where
  c : Code
  id : Nat
  g : Operand
  ps : Array Tmp
  assign : Code
  bd : Code
  post : Code

def RfP.code (p : RfP) : Code := .seq (.seq p.c (.block p.id (.rangeFunc p.g p.ps p.assign p.bd))) p.post

/-- The parts of a body that ranges over a function. -/
def rfParts : Code → List Code × Option RfP
  | .seq x y =>
    match x with
    | .seq c (.block id (.rangeFunc g ps as bd)) => ([], some ⟨c, id, g, ps, as, bd, y⟩)
    | _ => (x :: (rfParts y).1, (rfParts y).2)
  | _ => ([], none)

theorem rfParts_eq : ∀ (c : Code) (pre : List Code) (p : RfP), rfParts c = (pre, some p) → c = chainC pre p.code
  | .seq x y, pre, p, h => by
    unfold rfParts at h
    split at h
    · cases h; rfl
    · have h1 : pre = x :: (rfParts y).1 := (congrArg Prod.fst h).symm
      have h2 : (rfParts y).2 = some p := congrArg Prod.snd h
      subst h1
      have := rfParts_eq y (rfParts y).1 p (by rw [← h2])
      show Code.seq x y = .seq x (chainC (rfParts y).1 p.code)
      rw [← this]
  | .skip, _, _, h | .region _ _ _, _, _, h | .cond _ _ _, _, _, h | .block _ _, _, _, h | .loop _, _, _, h | .rangeFunc _ _ _ _, _, _, h | .exit _, _, _, h | .scope _, _, _, h | .label _, _, _, h | .goto _, _, _, h | .ret, _, _, h | .refuse _, _, _, h => by
    unfold rfParts at h; cases h

def fitsRF (n : Nat) (c : Code) : Bool :=
  match rfParts c with
  | (pre, some p) => fitsL n (pre ++ [p.c]) && (fits n p.assign && fits n p.bd && p.ps.toList.all (Nat.blt · n)) && fits n p.post
  | _ => false

def semRF (P : Program) (A : Ann) (rs : List ResultVar) (shs : List Sh) (Q : Value → World → Prop) (c : Code) (e : Env) (w : World) : Prop :=
  match rfParts c with
  | (pre, some p) => semPre P A (fun e w => sem P A p.c (fun ex e w => match ex with | .normal => rfS P A rs p.g p.ps shs p.assign p.bd p.post Q e w | _ => False) e w) (fun e w => resS P rs e w fun vs => Q (retV vs) w) pre e w
  | _ => False

theorem funRF {P : Program} {A : Ann} {k : FuncId} {fn : Func} {c : Code} {shs : List Sh} {args : List Value} {w : World} {Q : Value → World → Prop} (hm : P.follows .mixedOrders = true)
    (hf : P.funcs[k]? = some fn) (hb : fn.body = some c) (hn : (Nat.ble args.length fn.ntmps && fitsRF fn.ntmps c) = true)
    (h : semRF P A fn.results.toList shs Q c (env0 args) w) : CallR P k args w Q := by
  unfold semRF at h
  unfold fitsRF at hn
  split at h
  · rename_i pre p hp
    rw [hp] at hn
    have := rfParts_eq c pre p hp
    refine funRF_calls (A := A) (pre := pre) (c := p.c) (id := p.id) (g := p.g) (ps := p.ps) (shs := shs) (assign := p.assign) (bd := p.bd) (post := p.post) hm hf (by rw [hb, this]; rfl) ?_ h
    simp only [Bool.and_eq_true] at hn ⊢
    exact ⟨⟨⟨hn.1, hn.2.1.1⟩, hn.2.1.2⟩, hn.2.2⟩
  · exact h.elim

end Go.Lw
