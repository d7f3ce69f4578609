/-
  Part 2 of 7 of the proof of MemoryPlays (the last part has its theorem): the program's functions as they are read, what each does, the law. Conditions: as each says; the theorem's: none.
-/
import Derived.Test.YtpoaacnnhgebfaaGreatRows
import Derived.JoinedOf
import Derived.WalkKit
import Derived.Deep.Quiet
import Derived.OrdersHeld
import Derived.ProofKit
import Derived.SizedLaws
import Derived.Carry
import Derived.OpenShut
import Derived.ChangeSame
import Derived.ChangeArms
import Derived.Deep.Slices
import Derived.Laws.BytesArg
import Derived.Lib.SlBytesConst
import Derived.Deep.CondSized
import Derived.Test.YtpoaacnnhgebfaaGreatProg
import Derived.Defers
import Derived.RangeFuncIn
import Derived.RangeFuncLeaves
import Derived.RangeFuncRecord
import Derived.TacticsIn
import Derived.MapKept
import Derived.Laws.RangeAny
import Derived.Lib.OthersKept
import Derived.FollowTie
import Derived.Test.YtpoaacnnhgebfaaGreatChecked
import Derived.Shelf.Sort.AssemblysIn
import Derived.Sort.EveryDepth
import Derived.Maps.RangeRun
import Derived.Sort.KeysCollected
import Derived.Sort.OwnSorted
import Derived.Laws.StructEq
import Derived.LaidEql
import Derived.Test.YtpoaacnnhgebfaaGreatKMemoryPlays1
set_option linter.unusedVariables false
set_option maxRecDepth 512
namespace Go.Proofs.YtpoaacnnhgebfaaGreat
open Go.Lw
def Grew (F : Nat → Prop) (w : World) (F' : Nat → Prop) : Prop := ∀ k, F' k → F k ∨ w.heap.size ≤ k
theorem Grew.same {F : Nat → Prop} {w : World} : Grew F w F := fun _ h => .inl h
def grown (bs : List Int) (n : Nat) : List Int := bs ++ List.replicate (n - bs.length) 0
def piece (bs : List Int) (off n : Int) : List Int := (bs.drop off.toNat).take n.toNat
def lay (bs : List Int) (off : Nat) (ds : List Int) : List Int := over (grown bs (off + ds.length)) ds off
theorem over_get {α : Type} (xs ys : List α) (i k : Nat) (h : i + ys.length ≤ xs.length) : (over xs ys i)[k]? = if k < i then xs[k]? else if k < i + ys.length then ys[k - i]? else xs[k]? := by
  unfold over
  have hl : (xs.take i).length = i := by rw [List.length_take]; omega
  by_cases h1 : k < i
  · rw [if_pos h1, List.getElem?_append_left (by omega), List.getElem?_take, if_pos h1]
  · rw [if_neg h1, List.getElem?_append_right (by omega), hl]
    by_cases h2 : k < i + ys.length
    · rw [if_pos h2, List.getElem?_append_left (by omega)]
    · rw [if_neg h2, List.getElem?_append_right (by omega), List.getElem?_drop]
      congr 1; omega
theorem over_window {α : Type} (xs ys : List α) (o l i : Nat) (h : o + l ≤ xs.length) (hy : i + ys.length ≤ l) : ((over xs ys (o + i)).drop o).take l = over ((xs.drop o).take l) ys i := by
  apply List.ext_getElem?
  intro k
  rw [over_get _ _ _ _ (by rw [List.length_take, List.length_drop]; omega), List.getElem?_take, List.getElem?_take, List.getElem?_drop, List.getElem?_drop, over_get _ _ _ _ (by omega)]
  by_cases hk : k < l
  · rw [if_pos hk, if_pos hk]
    by_cases h1 : k < i
    · rw [if_pos h1, if_pos (by omega)]
    · rw [if_neg h1, if_neg (by omega)]
      by_cases h2 : k < i + ys.length
      · rw [if_pos h2, if_pos (by omega)]; congr 1; omega
      · rw [if_neg h2, if_neg (by omega)]
  · rw [if_neg hk, if_neg hk, if_neg (by omega), if_neg (by omega)]
theorem By_over (a b : List Int) (i : Nat) : By (over a b i) = over (By a) (By b) i := by
  unfold over; rw [By_append, By_append, By_take, By_drop, By_length]
theorem grown_len (bs : List Int) (n : Nat) : (grown bs n).length = max bs.length n := by simp [grown]; omega
theorem grown_getD (bs : List Int) (n k : Nat) : (grown bs n).getD k 0 = bs.getD k 0 := by
  unfold grown
  simp only [List.getD_eq_getElem?_getD, List.getElem?_append, List.getElem?_replicate]
  by_cases h : k < bs.length
  · rw [if_pos h]
  · rw [if_neg h, List.getElem?_eq_none (by omega)]
    split <;> rfl
theorem lay_len (bs : List Int) (o : Nat) (ds : List Int) : (lay bs o ds).length = max bs.length (o + ds.length) := by
  unfold lay; rw [over_length _ _ _ (by rw [grown_len]; omega), grown_len]
theorem lay_getD (bs : List Int) (o : Nat) (ds : List Int) (k : Nat) : (lay bs o ds).getD k 0 = if o ≤ k ∧ k < o + ds.length then ds.getD (k - o) 0 else bs.getD k 0 := by
  unfold lay
  rw [List.getD_eq_getElem?_getD, over_get _ _ _ _ (by rw [grown_len]; omega)]
  by_cases h1 : k < o
  · rw [if_pos h1, if_neg (by omega), ← List.getD_eq_getElem?_getD, grown_getD]
  · rw [if_neg h1]
    by_cases h2 : k < o + ds.length
    · rw [if_pos h2, if_pos ⟨by omega, h2⟩, ← List.getD_eq_getElem?_getD]
    · rw [if_neg h2, if_neg (by omega), ← List.getD_eq_getElem?_getD, grown_getD]
theorem Grew.trans {F F' F'' : Nat → Prop} {w w' : World} (h : Grew F w F') (k : Grew F' w' F'') (hs : w.heap.size ≤ w'.heap.size) : Grew F w F'' := fun x hx => by
  rcases k x hx with h1 | h1
  · exact h x h1
  · right; omega
theorem Kept.grew {F F' : Nat → Prop} {a b c : World} (h : Kept F a b) (g : Grew F a F') (k : Kept F' b c) : Kept F a c :=
  h.trans k fun x hx hf => by
    rcases g x hf with h1 | h1
    · exact h1
    · omega
theorem copy_at {w : World} {a : Option Addr} {l c : Nat} {bs : List Int} (ho : OB w a l c bs) {off : Nat} {a2 : Option Addr} {l2 c2 : Nat} {ds : List Int} (hd : RdB w a2 l2 c2 ds) (hle : off + l2 ≤ l) :
    ∃ w', (Builtin.copy_ #[40, 40] 3 #[.slice (adv a off c 1) (l - off) (c - off), .slice a2 l2 c2]).run Tryz.prog w = .ok (.int .i64 (l2 : Int)) w' ∧ OB w' a l c (over bs ds off) ∧ Kept (inA a) w w' ∧ w'.heap.size = w.heap.size := by
  have hlen := ho.len
  have hlen2 := hd.len
  have hsub : SlO 1 w (adv a off c 1) (l - off) (c - off) (By (bs.drop off)) := OB.from ho off (by omega)
  obtain ⟨w4, hrun, hs4, hk4, hsz4, hcur⟩ := run_copy_own (P := Tryz.prog) (t := 40) (t2 := 40) (ty := 3) (by kernel_rfl : slTyB Tryz.prog 40 1 1 = true) hsub hd (By_one ds)
  have hmin : min l2 (l - off) = l2 := by omega
  rw [hmin] at hrun hcur
  refine ⟨w4, hrun, ?_, hk4.mono (fun x _ e => inA_adv.1 e), hsz4⟩
  by_cases hl0 : l2 = 0
  · have hd0 : ds = [] := List.eq_nil_of_length_eq_zero (by omega)
    subst hd0
    have hov : over bs [] off = bs := by simp [over]
    rw [hov]
    rw [hmin, hl0] at hs4
    simp only [Nat.zero_mul, List.take_zero] at hs4
    rcases ho.2 with ⟨rfl, rfl, rfl⟩ | ⟨g, o, cur, rfl, hgb, hlc, hcs, htk⟩
    · exact ⟨ho.1, .inl ⟨rfl, rfl, rfl⟩⟩
    · by_cases hc : c = off
      · subst hc
        have hadv : adv (some ⟨g, o, none⟩) c c 1 = some ⟨g, o, none⟩ := by simp [adv]
        have hb4 := hcur g o cur hadv hgb
        have e : (over cur.toList ((By []).take (l2 * 1)) o).toArray = cur := by apply Array.ext'; simp [over, By]
        rw [e] at hb4
        exact ⟨ho.1, .inr ⟨g, o, cur, rfl, hb4, hlc, hcs, htk⟩⟩
      · have hadv : adv (some ⟨g, o, none⟩) off c 1 = some ⟨g, o + off, none⟩ := by
          rw [adv_map _ _ _ _ (by omega)]; simp [add_none]
        have hb4 := hcur g (o + off) cur hadv hgb
        have e : (over cur.toList ((By []).take (l2 * 1)) (o + off)).toArray = cur := by apply Array.ext'; simp [over, By]
        rw [e] at hb4
        exact ⟨ho.1, .inr ⟨g, o, cur, rfl, hb4, hlc, hcs, htk⟩⟩
  · rcases ho.2 with ⟨rfl, rfl, rfl⟩ | ⟨g, o, cur, rfl, hgb, hlc, hcs, htk⟩
    · exfalso; omega
    · have hadv : adv (some ⟨g, o, none⟩) off c 1 = some ⟨g, o + off, none⟩ := by
        rw [adv_map _ _ _ _ (by omega)]; simp [add_none]
      have hb4 := hcur g (o + off) cur hadv hgb
      rw [Nat.mul_one, List.take_of_length_le (by simp; omega)] at hb4
      refine ⟨?_, .inr ⟨g, o, _, rfl, hb4, hlc, ?_, ?_⟩⟩
      · rw [By_length, Nat.mul_one, over_length _ _ _ (by omega)]; omega
      · simp only [List.size_toArray]
        rw [over_length _ _ _ (by simp; omega)]
        simpa using hcs
      · rw [By_over, ← htk, Nat.mul_one]
        exact over_window _ _ o l off (by simp; omega) (by simp; omega)
end Go.Proofs.YtpoaacnnhgebfaaGreat
namespace Go.Lw
open Go
abbrev PutOff := FuncId × List Value × List Value
def dfr (d : PutOff) : Deferred := { target := .fn (.func d.1) d.2.1.toArray, args := d.2.2.toArray }
def DefR (P : Program) (k : FuncId) (args : List Value) (w : World) (K : World → Prop) : Prop :=
  bodyB P k = true ∧ CallsD P k args.toArray .returning w fun e u' w' => u' = .returning ∧ (∃ v, e = .returned v) ∧ K w'
def defB (o : Oper) : Bool := match o.op with | .defer _ => true | _ => false
def defS (o : Oper) (e : Env) (K : PutOff → Prop) : Prop :=
  match o.guard with
  | some _ => False
  | none => match o.op with
    | .defer c => match c.callee with
      | .value f => match ev e f with
        | .func (.func k) first cap => K (k, cap.toList, first.toList ++ c.args.toList.map (ev e))
        | _ => False
      | _ => False
    | _ => False
def opsF (P : Program) (ops : Array Oper) : List Oper → List PutOff → Env → World → (List PutOff → Env → World → Prop) → Prop
  | [], D, e, w, K => K D e w
  | o :: r, D, e, w, K => bif defB o then defS o e (fun d => opsF P ops r (d :: D) (upd e o.dst undef) w K)
      else guardS ops o e (fun e => opS P (ev e) o (fun v w' => opsF P ops r D (upd e o.dst v) w' K) w) (fun e => opsF P ops r D (upd e o.dst undef) w K)
theorem dfr_ofValue {k : FuncId} {first cap : Array Value} (xs : Array Value) (e : Env) {args : Array Operand} (w : World) (P : Program) : Sem.run P (Deferred.ofValue (.func (.func k) first cap) (args.map (ev e))) w = .ok (dfr (k, cap.toList, first.toList ++ args.toList.map (ev e))) w := by
  have : first ++ Array.map (ev e) args = (first.toList ++ List.map (ev e) args.toList).toArray := by
    apply Array.ext'
    simp
  simp [Deferred.ofValue, dfr, this]
theorem opsF_sound {P : Program} {ops : Array Oper} {Q : Exit → Act → World → Prop} : ∀ (l : List Oper) (D : List PutOff) (e : Env) (w : World) (a : Act) (K : List PutOff → Env → World → Prop), AgreeX (D.map dfr) a e → fitsOps a.tmps.size l = true → opsF P ops l D e w K →
    (∀ D' a' e' w', AgreeX (D'.map dfr) a' e' → a'.tmps.size = a.tmps.size → K D' e' w' → Q .normal a' w') → wpList P ops Q l a w
  | [], D, e, w, a, K, ha, _, h, hK => hK D a e w ha rfl h
  | o :: r, D, e, w, a, K, ha, hf, h, hK => by
    simp only [fitsOps, List.all_cons, Bool.and_eq_true] at hf
    have hd : ∀ k, o.dst = some k → k < a.tmps.size := fun k hk => by
      have := hf.1; rw [hk] at this; exact bltL this
    unfold opsF at h
    cases hb : defB o with
    | true =>
      rw [hb, cond_true] at h
      unfold defS at h
      split at h
      · exact h.elim
      · rename_i hg
        split at h
        · rename_i c hc
          split at h
          · rename_i f hf'
            split at h
            · rename_i k first cap hfv
              unfold wpList
              rw [if_pos (by unfold Region.wanted; simp [hg])]
              refine .inl ?_
              unfold Oper.wp
              have hex : (execOp a.eval o).run P w = .ok (.defer (dfr (k, cap.toList, first.toList ++ c.args.toList.map (ev e)))) w := by
                unfold execOp
                rw [hc]
                simp only [Sem.run_bind]
                unfold resolve
                rw [ha.eval, hf']
                dsimp only
                rw [hfv, dfr_ofValue #[] e w P]
                rfl
              rw [hex, Oper.upon_defer]
              have ha' : AgreeX (((k, cap.toList, first.toList ++ c.args.toList.map (ev e)) :: D).map dfr) ({ a with defers := dfr (k, cap.toList, first.toList ++ c.args.toList.map (ev e)) :: a.defers } : Act) e := ⟨by rw [List.map_cons, ha.1], ha.2⟩
              refine opsF_sound r _ _ _ _ K (ha'.put _ _ hd) (by rw [put_size]; exact hf.2) h fun D' a' e' w' hA hs hk => hK D' a' e' w' hA (by rw [hs, put_size]) hk
            · exact h.elim
          · exact h.elim
        · exact h.elim
    | false =>
      rw [hb, cond_false] at h
      have step : ∀ v w', opsF P ops r D (upd e o.dst v) w' K → wpList P ops Q r (a.put o.dst v) w' := fun v w' h' =>
        opsF_sound r D _ _ _ K (ha.put _ _ hd) (by rw [put_size]; exact hf.2) h' fun D' a' e' w'' ha' hs hk => hK D' a' e' w'' ha' (by rw [hs, put_size]) hk
      rcases guardS_elim ha h with ⟨hw, h⟩ | ⟨hw, h⟩
      · unfold wpList
        rw [if_pos hw]
        rw [← ha.eval] at h
        exact .inl (opS_sound h step)
      · unfold wpList
        rw [if_neg (by rw [hw]; simp)]
        exact step _ _ h
def seqF (next : List PutOff → Env → World → Prop) (Q : Exit → List PutOff → Env → World → Prop) : Exit → List PutOff → Env → World → Prop
  | .normal, D, e, w => next D e w
  | .exit i, D, e, w => Q (.exit i) D e w
  | .goto i, D, e, w => Q (.goto i) D e w
  | .ret, D, e, w => Q .ret D e w
  | .panic c, D, e, w => Q (.panic c) D e w
  | .outgrown, D, e, w => Q .outgrown D e w
def semF (P : Program) (A : Ann) : Code → (Exit → List PutOff → Env → World → Prop) → List PutOff → Env → World → Prop
  | .seq a b, Q, D, e, w => semF P A a (seqF (fun D' e' w' => semF P A b Q D' e' w') Q) D e w
  | .cond c a b, Q, D, e, w => match ev e c with | .bool t => cond t (semF P A a Q D e w) (semF P A b Q D e w) | _ => False
  | .region id ops draw, Q, D, e, w => bif !draw && ops.toList.any defB then opsF P ops ops.toList D e w (Q .normal) else sem P A (.region id ops draw) (fun ex e w => Q ex D e w) e w
  | .block id c, Q, D, e, w => sem P A (.block id c) (fun ex e w => Q ex D e w) e w
  | .ret, Q, D, e, w => Q .ret D e w
  | .skip, Q, D, e, w => Q .normal D e w
  | _, _, _, _, _ => False
def liftF (n : Nat) (Q : Exit → List PutOff → Env → World → Prop) (ex : Exit) (a : Act) (w : World) : Prop :=
  okEx ex ∧ ∃ D e, AgreeX (D.map dfr) a e ∧ a.tmps.size = n ∧ Q ex D e w
theorem liftF_of {n : Nat} {W : List Nat} {e0 : Env} {D : List PutOff} {Q : Exit → List PutOff → Env → World → Prop} {ex : Exit} {a : Act} {w : World} (h : liftQ (D.map dfr) n W e0 (fun ex e w => Q ex D e w) ex a w) : liftF n Q ex a w := by
  obtain ⟨h1, e, h2, h3, _, h4⟩ := h
  exact ⟨h1, D, e, h2, h3, h4⟩
theorem semF_sound {P : Program} {A : Ann} (hm : P.follows .mixedOrders = true) : ∀ (c : Code) (Q : Exit → List PutOff → Env → World → Prop) (D : List PutOff) (e : Env) (w : World) (a : Act), AgreeX (D.map dfr) a e → fits a.tmps.size c = true → semF P A c Q D e w →
    c.wp P (liftF a.tmps.size Q) a w := by
  intro c
  induction c with
  | skip => intro Q D e w a ha _ h; exact wp_skip ⟨trivial, D, e, ha, rfl, h⟩
  | region id ops draw =>
    intro Q D e w a ha hf h
    unfold semF at h
    cases hb : (!draw && ops.toList.any defB) with
    | false =>
      rw [hb, cond_false] at h
      exact Code.wp_mono (fun ex a' w' hq => liftF_of hq) (sem_sound hm _ _ e w a ha hf h)
    | true =>
      rw [hb, cond_true] at h
      simp only [Bool.and_eq_true, Bool.not_eq_true'] at hb
      obtain ⟨hdr, _⟩ := hb
      subst hdr
      refine wp_region_list (opsF_sound _ D e w a _ ha hf h fun D' a' e' w' ha' hs hk => ⟨trivial, D', e', ha', hs, hk⟩)
  | seq x y ihx ihy =>
    intro Q D e w a ha hf h
    unfold fits at hf
    simp only [Bool.and_eq_true] at hf
    unfold semF at h
    refine wp_seq (Code.wp_mono ?_ (ihx _ D e w a ha hf.1 h))
    rintro ex a' w' ⟨hok, D', e', ha', hs, hq⟩
    cases ex with
    | normal =>
      have := ihy Q D' e' w' a' ha' (by rw [hs]; exact hf.2) hq
      rw [hs] at this
      exact this
    | ret => exact ⟨trivial, D', e', ha', hs, hq⟩
    | exit i => exact ⟨trivial, D', e', ha', hs, hq⟩
    | goto i => exact ⟨trivial, D', e', ha', hs, hq⟩
    | panic c => exact hok.elim
    | outgrown => exact hok.elim
  | cond c x y ihx ihy =>
    intro Q D e w a ha hf h
    unfold fits at hf
    simp only [Bool.and_eq_true] at hf
    unfold semF at h
    split at h
    · rename_i t ht
      rw [← ha.eval] at ht
      cases t with
      | true => exact wp_cond_true ht (ihx Q D e w a ha hf.1 h)
      | false => exact wp_cond_false ht (ihy Q D e w a ha hf.2 h)
    · exact h.elim
  | block id c _ =>
    intro Q D e w a ha hf h
    unfold semF at h
    exact Code.wp_mono (fun ex a' w' hq => liftF_of hq) (sem_sound hm _ _ e w a ha hf h)
  | ret => intro Q D e w a ha _ h; exact wp_ret ⟨trivial, D, e, ha, rfl, h⟩
  | _ => intro Q D e w a ha hf h; exact absurd h (by unfold semF; exact fun h => h)
def runOff (P : Program) : List PutOff → (World → Prop) → World → Prop
  | [], K, w => K w
  | d :: D, K, w => DefR P d.1 (d.2.2 ++ d.2.1) w (fun w' => runOff P D K w')
def funF (P : Program) (rs : List ResultVar) (Q : Value → World → Prop) : Exit → List PutOff → Env → World → Prop
  | .normal, D, e, w => runOff P D (fun w' => resS P rs e w' fun vs => Q (retV vs) w') w
  | .ret, D, e, w => runOff P D (fun w' => resS P rs e w' fun vs => Q (retV vs) w') w
  | _, _, _, _ => False
theorem leaves_of {P : Program} {fn : Func} {tmps : Array Value} {R : Ending → World → Prop} {K : World → Prop} (hk : ∀ w, K w → ∃ v, (results fn tmps).run P w = .ok v w ∧ R (.returned v) w) : ∀ (D : List PutOff) (w : World), runOff P D K w → Leaves P fn tmps R (D.map dfr) .returning w
  | [], w, h => hk w h
  | d :: D, w, ⟨hb, hc⟩ => by
    refine ⟨by simp, _, _, d.1, (d.2.2 ++ d.2.1).toArray, rfl, ?_, ?_⟩
    · show (invoke (.fn (.func d.1) d.2.1.toArray) d.2.2.toArray).run P w = _
      have e1 : (d.2.2 ++ d.2.1).toArray = d.2.2.toArray ++ d.2.1.toArray := by simp
      rw [e1]
      exact bodyB_run hb _ _
    · refine CallsD.mono hc ?_
      rintro e u' w' ⟨rfl, ⟨v, rfl⟩, h⟩
      exact leaves_of hk D w' h
theorem fun_callsF {P : Program} {A : Ann} {k : FuncId} {fn : Func} {c : Code} {args : List Value} {w : World} {Q : Value → World → Prop} (hm : P.follows .mixedOrders = true)
    (hf : P.funcs[k]? = some fn) (hb : fn.body = some c) (hn : (Nat.ble args.length fn.ntmps && fits fn.ntmps c) = true)
    (h : semF P A c (funF P fn.results.toList Q) [] (env0 args) w) : CallR P k args w Q := by
  simp only [Bool.and_eq_true] at hn
  have hle := Nat.le_of_ble_eq_true hn.1
  have hsz : (args.toArray ++ Array.replicate (fn.ntmps - args.toArray.size) undef).size = fn.ntmps := by simp; omega
  have ha : AgreeX (([] : List PutOff).map dfr) { tmps := args.toArray ++ Array.replicate (fn.ntmps - args.toArray.size) undef, defers := [] } (env0 args) := by
    refine ⟨rfl, fun t => ?_⟩
    unfold env0
    simp only [Array.getD_eq_getD_getElem?]
    by_cases ht : t < args.length
    · rw [Array.getElem?_append_left (by simpa using ht)]; simp
    · have h1 : args[t]? = none := by simp; omega
      rw [h1]
      rw [Array.getElem?_append_right (by simp; omega)]
      by_cases h2 : t - args.length < fn.ntmps - args.length
      · simp [h2]
      · simp [h2]
  refine calls_of_wp_defers hf hb ?_
  refine Code.wp_mono ?_ (semF_sound hm c _ [] (env0 args) w _ ha (by simp only [hsz]; exact hn.2) h)
  intro ex a' w' ⟨_, D, e', ha', _, hq⟩
  have fin : runOff P D (fun w' => resS P fn.results.toList e' w' fun vs => Q (retV vs) w') w' → Leaves P fn a'.tmps (fun e w' => ∃ v', e = .returned v' ∧ Q v' w') a'.defers .returning w' := fun hr => by
    rw [ha'.1]
    refine leaves_of (fun w hk => ?_) D w' hr
    obtain ⟨vs, hK, hrun⟩ := resS_run ha' _ _ hk
    exact ⟨retV vs, results_run hrun, _, rfl, hK⟩
  cases ex with
  | normal => exact fin hq
  | ret => exact fin hq
  | exit i => exact hq.elim
  | goto i => exact hq.elim
  | panic c => exact hq.elim
  | outgrown => exact hq.elim
theorem fun_callsD {P : Program} {A : Ann} {k : FuncId} {fn : Func} {c : Code} {args : List Value} {w : World} {K : World → Prop} (hm : P.follows .mixedOrders = true)
    (hf : P.funcs[k]? = some fn) (hb : fn.body = some c) (hn : (Nat.ble args.length fn.ntmps && fits fn.ntmps c && bodyB P k) = true)
    (h : sem P A c (funQ P fn.results.toList fun _ w' => K w') (env0 args) w) : DefR P k args w K := by
  simp only [Bool.and_eq_true] at hn
  have hle := Nat.le_of_ble_eq_true hn.1.1
  have hsz : (args.toArray ++ Array.replicate (fn.ntmps - args.toArray.size) undef).size = fn.ntmps := by simp; omega
  have ha : Agree { tmps := args.toArray ++ Array.replicate (fn.ntmps - args.toArray.size) undef, defers := [] } (env0 args) := by
    refine ⟨rfl, fun t => ?_⟩
    unfold env0
    simp only [Array.getD_eq_getD_getElem?]
    by_cases ht : t < args.length
    · rw [Array.getElem?_append_left (by simpa using ht)]; simp
    · have h1 : args[t]? = none := by simp; omega
      rw [h1]
      rw [Array.getElem?_append_right (by simp; omega)]
      by_cases h2 : t - args.length < fn.ntmps - args.length
      · simp [h2]
      · simp [h2]
  refine ⟨hn.2, ?_⟩
  refine CallsD.mono (callsD_of_wp (R := fun e w' => (∃ v, e = .returned v) ∧ K w') hf hb ?_) (fun e u' w' ⟨h1, h2, h3⟩ => ⟨h1, h2, h3⟩)
  refine Code.wp_mono ?_ (sem_sound hm c _ (env0 args) w _ ha (by simp only [hsz]; exact hn.1.2) h)
  intro ex a' w' ⟨_, e', ha', _, _, hq⟩
  have fin : resS P fn.results.toList e' w' (fun vs => K w') → a'.defers = [] ∧ ∃ v, (results fn a'.tmps).run P w' = .ok v w' ∧ (∃ v', Ending.returned v = .returned v') ∧ K w' := fun hr => by
    obtain ⟨vs, hK, hrun⟩ := resS_run ha' _ _ hr
    exact ⟨ha'.1, retV vs, results_run hrun, ⟨_, rfl⟩, hK⟩
  cases ex with
  | normal => exact fin hq
  | ret => exact fin hq
  | exit i => exact hq.elim
  | goto i => exact hq.elim
  | panic c => exact hq.elim
  | outgrown => exact hq.elim
end Go.Lw
set_option maxRecDepth 100000
namespace Go.Proofs.YtpoaacnnhgebfaaGreat
open Go.Lw
def A198 : Ann := ⟨[], [], [], [], [], []⟩
def L198 (a1 : Option Addr) (l1 : Nat) (c1 : Nat) (n2 : Int) (Q : Value → World → Prop) (w : World) : Prop :=
  let w1 := World.alloc w (Obj.cells #[.bool false, .slice none 0 0, .int .i64 0, .int .i64 0] 299);
  CallR Tryz.prog 157 [.slice a1 l1 c1] w1 (fun (r4 : Value) (w2 : World) =>
  ∃ (a3 : Option Addr) (l3 : Nat) (c3 : Nat), r4 = .slice a3 l3 c3 ∧
  stC (Addr.mk w.heap.size 0 none) (.bool true) w2 (fun (w3 : World) =>
  stC (Addr.mk w.heap.size 1 none) (.slice a3 l3 c3) w3 (fun (w4 : World) =>
  stC (Addr.mk w.heap.size 2 none) (.int .i64 n2) w4 (fun (w5 : World) =>
  stC (Addr.mk w.heap.size 3 none) (.int .i64 0) w5 (fun (w6 : World) =>
  ∃ (b5 : Bool) (a6 : Option Addr) (l6 : Nat) (c6 : Nat) (n7 : Int) (n8 : Int), w6.cell? (Addr.mk w.heap.size 0 none) = some ((.bool b5 : Value)) ∧ w6.cell? (Addr.mk w.heap.size 1 none) = some ((.slice a6 l6 c6 : Value)) ∧ w6.cell? (Addr.mk w.heap.size 2 none) = some ((.int .i64 n7 : Value)) ∧ w6.cell? (Addr.mk w.heap.size 3 none) = some ((.int .i64 n8 : Value)) ∧ 
  Q (.agg #[.bool b5, .slice a6 l6 c6, .int .i64 n7, .int .i64 n8]) w6)))))
theorem C198 {a1 : Option Addr} {l1 : Nat} {c1 : Nat} {n2 : Int} {Q : Value → World → Prop} {w : World} (h : L198 a1 l1 c1 n2 Q w) : CallR Tryz.prog 198 [.slice a1 l1 c1, .int .i64 n2] w Q :=
  fun_calls (A := A198) mixed Tryz.func198 (c := (Tryz.f198.body).getD .skip) rfl (by kernel_rfl) (Eq.mp (by kernel_rfl) h)
def A133 : Ann := ⟨[], [], [], [], [], []⟩
def L133 (n1 : Int) (a2 : Option Addr) (l2 : Nat) (c2 : Nat) (Q : Value → World → Prop) (w : World) : Prop :=
  cond (decide (n1 < 0))
  (Q (.tuple #[.pointer none, .int .i64 4]) w)
  (cond (decide (n1 > 1048576))
  (Q (.tuple #[.pointer none, .int .i64 4]) w)
  (cond (decide ((((l2 : Nat) : Int)) > n1))
  (Q (.tuple #[.pointer none, .int .i64 5]) w)
  (CallR Tryz.prog 198 [.slice a2 l2 c2, .int .i64 n1] w (fun (r7 : Value) (w1 : World) =>
  ∃ (b3 : Bool) (a4 : Option Addr) (l4 : Nat) (c4 : Nat) (n5 : Int) (n6 : Int), r7 = .agg #[.bool b3, .slice a4 l4 c4, .int .i64 n5, .int .i64 n6] ∧
  let w2 := World.alloc w1 (Obj.cells #[.bool b3, .slice a4 l4 c4, .int .i64 n5, .int .i64 n6] 302);
  Q (.tuple #[.pointer (some (Addr.mk w1.heap.size 0 none)), .int .i64 0]) w2))))
theorem C133 {n1 : Int} {a2 : Option Addr} {l2 : Nat} {c2 : Nat} {Q : Value → World → Prop} {w : World} (h : L133 n1 a2 l2 c2 Q w) : CallR Tryz.prog 133 [.int .i64 n1, .slice a2 l2 c2] w Q :=
  fun_calls (A := A133) mixed Tryz.func133 (c := (Tryz.f133.body).getD .skip) rfl (by kernel_rfl) (Eq.mp (by kernel_rfl) h)
def A135 : Ann := ⟨[], [], [], [], [], []⟩
def L135 (a1 : Option Addr) (l1 : Nat) (c1 : Nat) (Q : Value → World → Prop) (w : World) : Prop :=
  cond (decide ((((l1 : Nat) : Int)) > 1048576))
  (Q (.tuple #[.pointer none, .int .i64 5]) w)
  (CallR Tryz.prog 198 [.slice a1 l1 c1, .int .i64 1048576] w (fun (r6 : Value) (w1 : World) =>
  ∃ (b2 : Bool) (a3 : Option Addr) (l3 : Nat) (c3 : Nat) (n4 : Int) (n5 : Int), r6 = .agg #[.bool b2, .slice a3 l3 c3, .int .i64 n4, .int .i64 n5] ∧
  let w2 := World.alloc w1 (Obj.cells #[.bool b2, .slice a3 l3 c3, .int .i64 n4, .int .i64 n5] 303);
  Q (.tuple #[.pointer (some (Addr.mk w1.heap.size 0 none)), .int .i64 0]) w2))
theorem C135 {a1 : Option Addr} {l1 : Nat} {c1 : Nat} {Q : Value → World → Prop} {w : World} (h : L135 a1 l1 c1 Q w) : CallR Tryz.prog 135 [.slice a1 l1 c1] w Q :=
  fun_calls (A := A135) mixed Tryz.func135 (c := (Tryz.f135.body).getD .skip) rfl (by kernel_rfl) (Eq.mp (by kernel_rfl) h)
def A137 : Ann := ⟨[], [], [], [], [], []⟩
def L137 (a1 : Option Addr) (l1 : Nat) (c1 : Nat) (Q : Value → World → Prop) (w : World) : Prop :=
  cond (decide ((((l1 : Nat) : Int)) > 1048576))
  (Q (.tuple #[.pointer none, .int .i64 5]) w)
  (CallR Tryz.prog 198 [.slice a1 l1 c1, .int .i64 (((l1 : Nat) : Int))] w (fun (r6 : Value) (w1 : World) =>
  ∃ (b2 : Bool) (a3 : Option Addr) (l3 : Nat) (c3 : Nat) (n4 : Int) (n5 : Int), r6 = .agg #[.bool b2, .slice a3 l3 c3, .int .i64 n4, .int .i64 n5] ∧
  let w2 := World.alloc w1 (Obj.cells #[.bool b2, .slice a3 l3 c3, .int .i64 n4, .int .i64 n5] 304);
  Q (.tuple #[.pointer (some (Addr.mk w1.heap.size 0 none)), .int .i64 0]) w2))
theorem C137 {a1 : Option Addr} {l1 : Nat} {c1 : Nat} {Q : Value → World → Prop} {w : World} (h : L137 a1 l1 c1 Q w) : CallR Tryz.prog 137 [.slice a1 l1 c1] w Q :=
  fun_calls (A := A137) mixed Tryz.func137 (c := (Tryz.f137.body).getD .skip) rfl (by kernel_rfl) (Eq.mp (by kernel_rfl) h)
def A139 : Ann := ⟨[(5, [(24, .one (.int .i64))])], [], [], [], [(9, [0, 1, 2, 3, 4, 5, 6, 8, 9, 7, 10, 11], 12, [13, 14, 15])], []⟩
def L139 (a1 : Option Addr) (l1 : Nat) (c1 : Nat) (a2 : Option Addr) (l2 : Nat) (c2 : Nat) (Q : Value → World → Prop) (w : World) : Prop :=
  cond (decide ((((l1 : Nat) : Int)) > 4096))
  (Q (.tuple #[.pointer none, .int .i64 3]) w)
  (cond (decide ((((l2 : Nat) : Int)) > 4096))
  (Q (.tuple #[.pointer none, .int .i64 3]) w)
  (let w1 := World.alloc w (Obj.cells #[] 3);
  ∃ (a3 : Option Addr) (l3 : Nat) (c3 : Nat) (w2 : World), Sem.run Tryz.prog (Builtin.append_ #[57, 57] 57 #[.slice (some (Addr.mk w.heap.size 0 none)) 0 0, .slice a2 l2 c2]) w1 = .ok ((.slice a3 l3 c3 : Value)) w2 ∧
  let w3 := World.alloc w2 (Obj.cells #[.bool true, .slice none 0 0, .slice a3 l3 c3, .slice none 0 0] 307);
  ∃ (I4 : List Value → World → Prop) (mu5 : List Value → World → Nat),
  I4 [.int .i64 0] w3 ∧
  ∀ (_ : Env) (n6 : Int) (w4 : World), I4 [.int .i64 n6] w4 →
  cond (decide (n6 < (((l1 : Nat) : Int))))
  ((0 ≤ (n6 : Int) ∧ (n6 : Int) < ((l1 : Nat) : Int)) ∧
  nn a1 (fun (q7 : Addr) =>
  ∃ (a8 : Option Addr) (l8 : Nat) (c8 : Nat) (n9 : Int), w4.cell? (Addr.add q7 (Int.toNat n6 * 2)) = some ((.slice a8 l8 c8 : Value)) ∧ w4.cell? (Addr.add (Addr.add q7 (Int.toNat n6 * 2)) 1) = some ((.int .i64 n9 : Value)) ∧ 
  let w5 := World.alloc w4 (Obj.cells #[.slice none 0 0, .int .i64 0] 237);
  stC (Addr.mk w4.heap.size 0 none) (.slice a8 l8 c8) w5 (fun (w6 : World) =>
  stC (Addr.mk w4.heap.size 1 none) (.int .i64 n9) w6 (fun (w7 : World) =>
  ∃ (a10 : Option Addr) (l10 : Nat) (c10 : Nat), w7.cell? (Addr.mk w4.heap.size 0 none) = some ((.slice a10 l10 c10 : Value)) ∧
  cond (decide ((((l10 : Nat) : Int)) > 1048576))
  (Q (.tuple #[.pointer none, .int .i64 5]) w7)
  (∃ (S11 : World → Prop), S11 (World.drew w7) ∧
  let w8 := World.drew w7;
  ∃ (a12 : Option Addr) (l12 : Nat) (c12 : Nat), (∀ wS : World, S11 wS → wS.cell? (Addr.mk w2.heap.size 1 none) = some ((.slice a12 l12 c12 : Value))) ∧
  ∃ (a13 : Option Addr) (l13 : Nat) (c13 : Nat), (∀ wS : World, S11 wS → wS.cell? (Addr.mk w4.heap.size 0 none) = some ((.slice a13 l13 c13 : Value))) ∧
  ∃ (n14 : Int), (∀ wS : World, S11 wS → wS.cell? (Addr.mk w4.heap.size 1 none) = some ((.int .i64 n14 : Value))) ∧
  CallR Tryz.prog 157 [.slice a13 l13 c13] w8 (fun (r16 : Value) (w9 : World) =>
  ∃ (a15 : Option Addr) (l15 : Nat) (c15 : Nat), r16 = .slice a15 l15 c15 ∧
  S11 w9 ∧
  let w10 := World.alloc w9 (Obj.cells #[.slice a15 l15 c15, .int .i64 n14] 237);
  S11 w10 ∧
  ∃ (a17 : Option Addr) (l17 : Nat) (c17 : Nat) (w11 : World), Sem.run Tryz.prog (Builtin.append_ #[233, 233] 233 #[.slice a12 l12 c12, .slice (some (Addr.mk w9.heap.size 0 none)) 1 1]) w10 = .ok ((.slice a17 l17 c17 : Value)) w11 ∧
  stC (Addr.mk w2.heap.size 1 none) (.slice a17 l17 c17) w11 (fun (w12 : World) =>
  inI (n6 + 1) ∧
  I4 [.int .i64 (n6 + 1)] w12 ∧ mu5 [.int .i64 (n6 + 1)] w12 < mu5 [.int .i64 n6] w4)))))))
  (Q (.tuple #[.pointer (some (Addr.mk w2.heap.size 0 none)), .int .i64 0]) w4)))
theorem C139 {a1 : Option Addr} {l1 : Nat} {c1 : Nat} {a2 : Option Addr} {l2 : Nat} {c2 : Nat} {Q : Value → World → Prop} {w : World} (h : L139 a1 l1 c1 a2 l2 c2 Q w) : CallR Tryz.prog 139 [.slice a1 l1 c1, .slice a2 l2 c2] w Q :=
  fun_calls (A := A139) mixed Tryz.func139 (c := (Tryz.f139.body).getD .skip) rfl (by kernel_rfl) (Eq.mp (by kernel_rfl) h)
def A201 : Ann := ⟨[], [], [], [(6, [0, 1, 2, 3, 4, 5, 6, 7, 8, 9, 10, 11, 12, 13, 14, 15, 16])], [], []⟩
def L201 (p1 : Option Addr) (n2 : Int) (Q : Value → World → Prop) (w : World) : Prop :=
  nn p1 (fun (q3 : Addr) =>
  ∃ (b4 : Bool), w.cell? q3 = some ((.bool b4 : Value)) ∧
  cond (!b4)
  (Q (.tuple #[.slice none 0 0, .int .i64 2]) w)
  (cond (decide (n2 < 0))
  (Q (.tuple #[.slice none 0 0, .int .i64 4]) w)
  (cond (decide (n2 > 1048576))
  (Q (.tuple #[.slice none 0 0, .int .i64 4]) w)
  (nn p1 (fun (q6 : Addr) =>
  ∃ (n7 : Int), w.cell? (Addr.add q6 3) = some ((.int .i64 n7 : Value)) ∧
  nn p1 (fun (q8 : Addr) =>
  ∃ (a9 : Option Addr) (l9 : Nat) (c9 : Nat), w.cell? (Addr.add q8 1) = some ((.slice a9 l9 c9 : Value)) ∧
  ∀ nd5 : Nat, let w1 := World.drewN w nd5;
  let w2 := World.drew w1;
  nn p1 (fun (q10 : Addr) =>
  ∃ (a11 : Option Addr) (l11 : Nat) (c11 : Nat), w2.cell? (Addr.add q10 1) = some ((.slice a11 l11 c11 : Value)) ∧
  inI ((mn n7 (((l9 : Nat) : Int))) + n2) ∧
  nn p1 (fun (q12 : Addr) =>
  ∃ (a13 : Option Addr) (l13 : Nat) (c13 : Nat), w2.cell? (Addr.add q12 1) = some ((.slice a13 l13 c13 : Value)) ∧
  (0 ≤ (mn ((mn n7 (((l9 : Nat) : Int))) + n2) (((l13 : Nat) : Int)) : Int) ∧ (mn ((mn n7 (((l9 : Nat) : Int))) + n2) (((l13 : Nat) : Int)) : Int) ≤ ((c11 : Nat) : Int)) ∧
  (0 ≤ (mn n7 (((l9 : Nat) : Int)) : Int) ∧ (mn n7 (((l9 : Nat) : Int)) : Int) ≤ ((Int.toNat (mn ((mn n7 (((l9 : Nat) : Int))) + n2) (((l13 : Nat) : Int))) : Nat) : Int)) ∧
  CallR Tryz.prog 157 [.slice (adv a11 (Int.toNat (mn n7 (((l9 : Nat) : Int)))) c11 1) (Int.toNat (mn ((mn n7 (((l9 : Nat) : Int))) + n2) (((l13 : Nat) : Int))) - Int.toNat (mn n7 (((l9 : Nat) : Int)))) (c11 - Int.toNat (mn n7 (((l9 : Nat) : Int))))] w2 (fun (r15 : Value) (w3 : World) =>
  ∃ (a14 : Option Addr) (l14 : Nat) (c14 : Nat), r15 = .slice a14 l14 c14 ∧
  nn p1 (fun (q16 : Addr) =>
  ∃ (n17 : Int), w3.cell? (Addr.add q16 3) = some ((.int .i64 n17 : Value)) ∧
  inI (n17 + (((l14 : Nat) : Int))) ∧
  nn p1 (fun (q18 : Addr) =>
  stC (Addr.add q18 3) (.int .i64 (n17 + (((l14 : Nat) : Int)))) w3 (fun (w4 : World) =>
  Q (.tuple #[.slice a14 l14 c14, .int .i64 0]) w4))))))))))))
theorem C201 {p1 : Option Addr} {n2 : Int} {Q : Value → World → Prop} {w : World} (h : L201 p1 n2 Q w) : CallR Tryz.prog 201 [.pointer p1, .int .i64 n2] w Q :=
  fun_calls (A := A201) mixed Tryz.func201 (c := (Tryz.f201.body).getD .skip) rfl (by kernel_rfl) (Eq.mp (by kernel_rfl) h)
def A199 : Ann := ⟨[], [(13, [])], [], [(12, [0, 1, 2, 3, 4, 5, 6, 7, 8, 9, 10, 11, 12, 13, 14, 15])], [(13, [0, 1, 2, 3, 4, 5, 6, 7, 8, 9, 10, 11, 12, 13, 14, 15, 16, 17, 18, 19], 20, [])], []⟩
def L199 (p1 : Option Addr) (a2 : Option Addr) (l2 : Nat) (c2 : Nat) (Q : Value → World → Prop) (w : World) : Prop :=
  nn p1 (fun (q3 : Addr) =>
  ∃ (b4 : Bool), w.cell? q3 = some ((.bool b4 : Value)) ∧
  cond (!b4)
  (Q (.tuple #[.int .i64 0, .int .i64 2]) w)
  (cond (decide ((((l2 : Nat) : Int)) > 1048576))
  (Q (.tuple #[.int .i64 0, .int .i64 5]) w)
  (cond ((((l2 : Nat) : Int)) == 0)
  (Q (.tuple #[.int .i64 0, .int .i64 0]) w)
  (nn p1 (fun (q6 : Addr) =>
  ∃ (n7 : Int), w.cell? (Addr.add q6 3) = some ((.int .i64 n7 : Value)) ∧
  nn p1 (fun (q8 : Addr) =>
  ∃ (n9 : Int), w.cell? (Addr.add q8 2) = some ((.int .i64 n9 : Value)) ∧
  ∀ nd5 : Nat, let w1 := World.drewN w nd5;
  cond (decide (n7 ≥ n9))
  (Q (.tuple #[.int .i64 0, .int .i64 31]) w1)
  (nn p1 (fun (q11 : Addr) =>
  ∃ (n12 : Int), w1.cell? (Addr.add q11 2) = some ((.int .i64 n12 : Value)) ∧
  nn p1 (fun (q13 : Addr) =>
  ∃ (n14 : Int), w1.cell? (Addr.add q13 3) = some ((.int .i64 n14 : Value)) ∧
  inI (n12 - n14) ∧
  ∀ nd10 : Nat, let w2 := World.drewN w1 nd10;
  ∃ (J15 : List Value → World → Prop),
  (nn p1 (fun (q16 : Addr) =>
  ∃ (n17 : Int), w2.cell? (Addr.add q16 3) = some ((.int .i64 n17 : Value)) ∧
  inI (n17 + (mn (((l2 : Nat) : Int)) (n12 - n14))) ∧
  nn p1 (fun (q18 : Addr) =>
  ∃ (a19 : Option Addr) (l19 : Nat) (c19 : Nat), w2.cell? (Addr.add q18 1) = some ((.slice a19 l19 c19 : Value)) ∧
  cond (decide ((n17 + (mn (((l2 : Nat) : Int)) (n12 - n14))) > (((l19 : Nat) : Int))))
  (let w3 := World.drew w2;
  nn p1 (fun (q20 : Addr) =>
  ∃ (a21 : Option Addr) (l21 : Nat) (c21 : Nat), w3.cell? (Addr.add q20 1) = some ((.slice a21 l21 c21 : Value)) ∧
  nn p1 (fun (q22 : Addr) =>
  ∃ (a23 : Option Addr) (l23 : Nat) (c23 : Nat), w3.cell? (Addr.add q22 1) = some ((.slice a23 l23 c23 : Value)) ∧
  inI ((n17 + (mn (((l2 : Nat) : Int)) (n12 - n14))) - (((l23 : Nat) : Int))) ∧
  ∃ (a24 : Option Addr) (l24 : Nat) (c24 : Nat) (w4 : World), Sem.run Tryz.prog (Builtin.append_ #[40, 3] 40 #[.slice a21 l21 c21, .int .i64 ((n17 + (mn (((l2 : Nat) : Int)) (n12 - n14))) - (((l23 : Nat) : Int)))]) w3 = .ok ((.slice a24 l24 c24 : Value)) w4 ∧
  nn p1 (fun (q25 : Addr) =>
  stC (Addr.add q25 1) (.slice a24 l24 c24) w4 (fun (w5 : World) =>
  J15 [] w5)))))
  (J15 [] w2)))) ∧
  (∀ (_ : Env) (w6 : World), J15 [] w6 →
  ∃ (S26 : World → Prop), S26 (World.drew w6) ∧
  let w7 := World.drew w6;
  nn p1 (fun (q27 : Addr) =>
  ∃ (n28 : Int), (∀ wS : World, S26 wS → wS.cell? (Addr.add q27 3) = some ((.int .i64 n28 : Value))) ∧
  nn p1 (fun (q29 : Addr) =>
  ∃ (a30 : Option Addr) (l30 : Nat) (c30 : Nat), (∀ wS : World, S26 wS → wS.cell? (Addr.add q29 1) = some ((.slice a30 l30 c30 : Value))) ∧
  nn p1 (fun (q31 : Addr) =>
  ∃ (n32 : Int), (∀ wS : World, S26 wS → wS.cell? (Addr.add q31 3) = some ((.int .i64 n32 : Value))) ∧
  (0 ≤ (n32 : Int) ∧ (n32 : Int) ≤ ((l30 : Nat) : Int)) ∧
  (0 ≤ (mn (((l2 : Nat) : Int)) (n12 - n14) : Int) ∧ (mn (((l2 : Nat) : Int)) (n12 - n14) : Int) ≤ ((c2 : Nat) : Int)) ∧
  ∃ (n33 : Int) (w8 : World), Sem.run Tryz.prog (Builtin.copy_ #[40, 40] 3 #[.slice (adv a30 (Int.toNat n32) c30 1) (l30 - Int.toNat n32) (c30 - Int.toNat n32), .slice a2 (Int.toNat (mn (((l2 : Nat) : Int)) (n12 - n14))) c2]) w7 = .ok ((.int .i64 n33 : Value)) w8 ∧
  S26 w8 ∧
  inI (n28 + n33) ∧
  nn p1 (fun (q34 : Addr) =>
  stC (Addr.add q34 3) (.int .i64 (n28 + n33)) w8 (fun (w9 : World) =>
  Q (.tuple #[.int .i64 (mn (((l2 : Nat) : Int)) (n12 - n14)), .int .i64 0]) w9)))))))))))))))
theorem C199 {p1 : Option Addr} {a2 : Option Addr} {l2 : Nat} {c2 : Nat} {Q : Value → World → Prop} {w : World} (h : L199 p1 a2 l2 c2 Q w) : CallR Tryz.prog 199 [.pointer p1, .slice a2 l2 c2] w Q :=
  fun_calls (A := A199) mixed Tryz.func199 (c := (Tryz.f199.body).getD .skip) rfl (by kernel_rfl) (Eq.mp (by kernel_rfl) h)
def A200 : Ann := ⟨[], [], [], [], [], []⟩
def L200 (p1 : Option Addr) (n2 : Int) (n3 : Int) (Q : Value → World → Prop) (w : World) : Prop :=
  nn p1 (fun (q4 : Addr) =>
  ∃ (b5 : Bool), w.cell? q4 = some ((.bool b5 : Value)) ∧
  cond (!b5)
  (Q (.tuple #[.int .i64 0, .int .i64 2]) w)
  (cond (decide (n3 < 0))
  (Q (.tuple #[.int .i64 0, .int .i64 1]) w)
  (cond (decide (n3 > 2))
  (Q (.tuple #[.int .i64 0, .int .i64 1]) w)
  (nn p1 (fun (q7 : Addr) =>
  ∃ (n8 : Int), w.cell? (Addr.add q7 3) = some ((.int .i64 n8 : Value)) ∧
  nn p1 (fun (q9 : Addr) =>
  ∃ (a10 : Option Addr) (l10 : Nat) (c10 : Nat), w.cell? (Addr.add q9 1) = some ((.slice a10 l10 c10 : Value)) ∧
  (0 ≤ (n3 : Int) ∧ (n3 : Int) < ((3 : Nat) : Int)) ∧
  ∃ (n11 : Int), (#[.int .i64 0, .int .i64 n8, .int .i64 (((l10 : Nat) : Int))] : Array Value)[Int.toNat n3]? = some (.int .i64 n11) ∧
  ∀ nd6 : Nat, let w1 := World.drewN w nd6;
  inI ((0 : Int) - n11) ∧
  cond (decide (n2 < ((0 : Int) - n11)))
  (Q (.tuple #[.int .i64 0, .int .i64 4]) w1)
  (nn p1 (fun (q12 : Addr) =>
  ∃ (n13 : Int), w1.cell? (Addr.add q12 2) = some ((.int .i64 n13 : Value)) ∧
  inI (n13 - n11) ∧
  cond (decide (n2 > (n13 - n11)))
  (Q (.tuple #[.int .i64 0, .int .i64 4]) w1)
  (inI (n11 + n2) ∧
  nn p1 (fun (q14 : Addr) =>
  stC (Addr.add q14 3) (.int .i64 (n11 + n2)) w1 (fun (w2 : World) =>
  nn p1 (fun (q15 : Addr) =>
  ∃ (n16 : Int), w2.cell? (Addr.add q15 3) = some ((.int .i64 n16 : Value)) ∧
  Q (.tuple #[.int .i64 n16, .int .i64 0]) w2))))))))))))
theorem C200 {p1 : Option Addr} {n2 : Int} {n3 : Int} {Q : Value → World → Prop} {w : World} (h : L200 p1 n2 n3 Q w) : CallR Tryz.prog 200 [.pointer p1, .int .i64 n2, .int .i64 n3] w Q :=
  fun_calls (A := A200) mixed Tryz.func200 (c := (Tryz.f200.body).getD .skip) rfl (by kernel_rfl) (Eq.mp (by kernel_rfl) h)
def A144 : Ann := ⟨[], [], [], [], [], []⟩
def L144 (p1 : Option Addr) (n2 : Int) (Q : Value → World → Prop) (w : World) : Prop :=
  cond (Option.isNone p1)
  (Q (.tuple #[.slice none 0 0, .int .i64 2]) w)
  (nn p1 (fun (q3 : Addr) =>
  CallR Tryz.prog 201 [.pointer (some q3), .int .i64 n2] w (fun (r6 : Value) (w1 : World) =>
  ∃ (a4 : Option Addr) (l4 : Nat) (c4 : Nat) (n5 : Int), r6 = .tuple #[.slice a4 l4 c4, .int .i64 n5] ∧
  Q (.tuple #[.slice a4 l4 c4, .int .i64 n5]) w1)))
theorem C144 {p1 : Option Addr} {n2 : Int} {Q : Value → World → Prop} {w : World} (h : L144 p1 n2 Q w) : CallR Tryz.prog 144 [.pointer p1, .int .i64 n2] w Q :=
  fun_calls (A := A144) mixed Tryz.func144 (c := (Tryz.f144.body).getD .skip) rfl (by kernel_rfl) (Eq.mp (by kernel_rfl) h)
def A142 : Ann := ⟨[], [], [], [], [], []⟩
def L142 (p1 : Option Addr) (a2 : Option Addr) (l2 : Nat) (c2 : Nat) (Q : Value → World → Prop) (w : World) : Prop :=
  cond (Option.isNone p1)
  (Q (.tuple #[.int .i64 0, .int .i64 2]) w)
  (nn p1 (fun (q3 : Addr) =>
  CallR Tryz.prog 199 [.pointer (some q3), .slice a2 l2 c2] w (fun (r6 : Value) (w1 : World) =>
  ∃ (n4 : Int) (n5 : Int), r6 = .tuple #[.int .i64 n4, .int .i64 n5] ∧
  Q (.tuple #[.int .i64 n4, .int .i64 n5]) w1)))
theorem C142 {p1 : Option Addr} {a2 : Option Addr} {l2 : Nat} {c2 : Nat} {Q : Value → World → Prop} {w : World} (h : L142 p1 a2 l2 c2 Q w) : CallR Tryz.prog 142 [.pointer p1, .slice a2 l2 c2] w Q :=
  fun_calls (A := A142) mixed Tryz.func142 (c := (Tryz.f142.body).getD .skip) rfl (by kernel_rfl) (Eq.mp (by kernel_rfl) h)
def A143 : Ann := ⟨[], [], [], [], [], []⟩
def L143 (p1 : Option Addr) (n2 : Int) (n3 : Int) (Q : Value → World → Prop) (w : World) : Prop :=
  cond (Option.isNone p1)
  (Q (.tuple #[.int .i64 0, .int .i64 2]) w)
  (nn p1 (fun (q4 : Addr) =>
  CallR Tryz.prog 200 [.pointer (some q4), .int .i64 n2, .int .i64 n3] w (fun (r7 : Value) (w1 : World) =>
  ∃ (n5 : Int) (n6 : Int), r7 = .tuple #[.int .i64 n5, .int .i64 n6] ∧
  Q (.tuple #[.int .i64 n5, .int .i64 n6]) w1)))
theorem C143 {p1 : Option Addr} {n2 : Int} {n3 : Int} {Q : Value → World → Prop} {w : World} (h : L143 p1 n2 n3 Q w) : CallR Tryz.prog 143 [.pointer p1, .int .i64 n2, .int .i64 n3] w Q :=
  fun_calls (A := A143) mixed Tryz.func143 (c := (Tryz.f143.body).getD .skip) rfl (by kernel_rfl) (Eq.mp (by kernel_rfl) h)
def A152 : Ann := ⟨[], [], [], [], [], []⟩
def L152 (p1 : Option Addr) (Q : Value → World → Prop) (w : World) : Prop :=
  cond (Option.isNone p1)
  (Q (.slice none 0 0) w)
  (nn p1 (fun (q2 : Addr) =>
  ∃ (a3 : Option Addr) (l3 : Nat) (c3 : Nat), w.cell? (Addr.add q2 1) = some ((.slice a3 l3 c3 : Value)) ∧
  CallR Tryz.prog 157 [.slice a3 l3 c3] w (fun (r5 : Value) (w1 : World) =>
  ∃ (a4 : Option Addr) (l4 : Nat) (c4 : Nat), r5 = .slice a4 l4 c4 ∧
  Q (.slice a4 l4 c4) w1)))
theorem C152 {p1 : Option Addr} {Q : Value → World → Prop} {w : World} (h : L152 p1 Q w) : CallR Tryz.prog 152 [.pointer p1] w Q :=
  fun_calls (A := A152) mixed Tryz.func152 (c := (Tryz.f152.body).getD .skip) rfl (by kernel_rfl) (Eq.mp (by kernel_rfl) h)
def A245 : Ann := ⟨[], [], [], [], [], []⟩
def L245 (p1 : Option Addr) (n2 : Int) (Q : Value → World → Prop) (w : World) : Prop :=
  cond (Option.isNone p1)
  (Q (.tuple #[.slice none 0 0, .int .i64 2]) w)
  (nn p1 (fun (q3 : Addr) =>
  CallR Tryz.prog 201 [.pointer (some q3), .int .i64 n2] w (fun (r6 : Value) (w1 : World) =>
  ∃ (a4 : Option Addr) (l4 : Nat) (c4 : Nat) (n5 : Int), r6 = .tuple #[.slice a4 l4 c4, .int .i64 n5] ∧
  Q (.tuple #[.slice a4 l4 c4, .int .i64 n5]) w1)))
theorem C245 {p1 : Option Addr} {n2 : Int} {Q : Value → World → Prop} {w : World} (h : L245 p1 n2 Q w) : CallR Tryz.prog 245 [.pointer p1, .int .i64 n2] w Q :=
  fun_calls (A := A245) mixed Tryz.func245 (c := (Tryz.f245.body).getD .skip) rfl (by kernel_rfl) (Eq.mp (by kernel_rfl) h)
def A247 : Ann := ⟨[], [], [], [], [], []⟩
def L247 (p1 : Option Addr) (a2 : Option Addr) (l2 : Nat) (c2 : Nat) (Q : Value → World → Prop) (w : World) : Prop :=
  cond (Option.isNone p1)
  (Q (.tuple #[.int .i64 0, .int .i64 2]) w)
  (nn p1 (fun (q3 : Addr) =>
  CallR Tryz.prog 199 [.pointer (some q3), .slice a2 l2 c2] w (fun (r6 : Value) (w1 : World) =>
  ∃ (n4 : Int) (n5 : Int), r6 = .tuple #[.int .i64 n4, .int .i64 n5] ∧
  Q (.tuple #[.int .i64 n4, .int .i64 n5]) w1)))
theorem C247 {p1 : Option Addr} {a2 : Option Addr} {l2 : Nat} {c2 : Nat} {Q : Value → World → Prop} {w : World} (h : L247 p1 a2 l2 c2 Q w) : CallR Tryz.prog 247 [.pointer p1, .slice a2 l2 c2] w Q :=
  fun_calls (A := A247) mixed Tryz.func247 (c := (Tryz.f247.body).getD .skip) rfl (by kernel_rfl) (Eq.mp (by kernel_rfl) h)
def A246 : Ann := ⟨[], [], [], [], [], []⟩
def L246 (p1 : Option Addr) (n2 : Int) (n3 : Int) (Q : Value → World → Prop) (w : World) : Prop :=
  cond (Option.isNone p1)
  (Q (.tuple #[.int .i64 0, .int .i64 2]) w)
  (nn p1 (fun (q4 : Addr) =>
  CallR Tryz.prog 200 [.pointer (some q4), .int .i64 n2, .int .i64 n3] w (fun (r7 : Value) (w1 : World) =>
  ∃ (n5 : Int) (n6 : Int), r7 = .tuple #[.int .i64 n5, .int .i64 n6] ∧
  Q (.tuple #[.int .i64 n5, .int .i64 n6]) w1)))
theorem C246 {p1 : Option Addr} {n2 : Int} {n3 : Int} {Q : Value → World → Prop} {w : World} (h : L246 p1 n2 n3 Q w) : CallR Tryz.prog 246 [.pointer p1, .int .i64 n2, .int .i64 n3] w Q :=
  fun_calls (A := A246) mixed Tryz.func246 (c := (Tryz.f246.body).getD .skip) rfl (by kernel_rfl) (Eq.mp (by kernel_rfl) h)
def A153 : Ann := ⟨[], [], [], [], [], []⟩
def L153 (p1 : Option Addr) (Q : Value → World → Prop) (w : World) : Prop :=
  cond (Option.isNone p1)
  (Q (.slice none 0 0) w)
  (nn p1 (fun (q2 : Addr) =>
  ∃ (a3 : Option Addr) (l3 : Nat) (c3 : Nat), w.cell? (Addr.add q2 1) = some ((.slice a3 l3 c3 : Value)) ∧
  CallR Tryz.prog 157 [.slice a3 l3 c3] w (fun (r5 : Value) (w1 : World) =>
  ∃ (a4 : Option Addr) (l4 : Nat) (c4 : Nat), r5 = .slice a4 l4 c4 ∧
  Q (.slice a4 l4 c4) w1)))
theorem C153 {p1 : Option Addr} {Q : Value → World → Prop} {w : World} (h : L153 p1 Q w) : CallR Tryz.prog 153 [.pointer p1] w Q :=
  fun_calls (A := A153) mixed Tryz.func153 (c := (Tryz.f153.body).getD .skip) rfl (by kernel_rfl) (Eq.mp (by kernel_rfl) h)
def A281 : Ann := ⟨[], [], [], [], [], []⟩
def L281 (p1 : Option Addr) (n2 : Int) (Q : Value → World → Prop) (w : World) : Prop :=
  cond (Option.isNone p1)
  (Q (.tuple #[.slice none 0 0, .int .i64 2]) w)
  (nn p1 (fun (q3 : Addr) =>
  CallR Tryz.prog 201 [.pointer (some q3), .int .i64 n2] w (fun (r6 : Value) (w1 : World) =>
  ∃ (a4 : Option Addr) (l4 : Nat) (c4 : Nat) (n5 : Int), r6 = .tuple #[.slice a4 l4 c4, .int .i64 n5] ∧
  Q (.tuple #[.slice a4 l4 c4, .int .i64 n5]) w1)))
theorem C281 {p1 : Option Addr} {n2 : Int} {Q : Value → World → Prop} {w : World} (h : L281 p1 n2 Q w) : CallR Tryz.prog 281 [.pointer p1, .int .i64 n2] w Q :=
  fun_calls (A := A281) mixed Tryz.func281 (c := (Tryz.f281.body).getD .skip) rfl (by kernel_rfl) (Eq.mp (by kernel_rfl) h)
def A283 : Ann := ⟨[], [], [], [], [], []⟩
def L283 (p1 : Option Addr) (a2 : Option Addr) (l2 : Nat) (c2 : Nat) (Q : Value → World → Prop) (w : World) : Prop :=
  cond (Option.isNone p1)
  (Q (.tuple #[.int .i64 0, .int .i64 2]) w)
  (nn p1 (fun (q3 : Addr) =>
  ∃ (b4 : Bool), w.cell? q3 = some ((.bool b4 : Value)) ∧
  cond (!b4)
  (Q (.tuple #[.int .i64 0, .int .i64 2]) w)
  (Q (.tuple #[.int .i64 0, .int .i64 65]) w)))
theorem C283 {p1 : Option Addr} {a2 : Option Addr} {l2 : Nat} {c2 : Nat} {Q : Value → World → Prop} {w : World} (h : L283 p1 a2 l2 c2 Q w) : CallR Tryz.prog 283 [.pointer p1, .slice a2 l2 c2] w Q :=
  fun_calls (A := A283) mixed Tryz.func283 (c := (Tryz.f283.body).getD .skip) rfl (by kernel_rfl) (Eq.mp (by kernel_rfl) h)
def A282 : Ann := ⟨[], [], [], [], [], []⟩
def L282 (p1 : Option Addr) (n2 : Int) (n3 : Int) (Q : Value → World → Prop) (w : World) : Prop :=
  cond (Option.isNone p1)
  (Q (.tuple #[.int .i64 0, .int .i64 2]) w)
  (nn p1 (fun (q4 : Addr) =>
  CallR Tryz.prog 200 [.pointer (some q4), .int .i64 n2, .int .i64 n3] w (fun (r7 : Value) (w1 : World) =>
  ∃ (n5 : Int) (n6 : Int), r7 = .tuple #[.int .i64 n5, .int .i64 n6] ∧
  Q (.tuple #[.int .i64 n5, .int .i64 n6]) w1)))
theorem C282 {p1 : Option Addr} {n2 : Int} {n3 : Int} {Q : Value → World → Prop} {w : World} (h : L282 p1 n2 n3 Q w) : CallR Tryz.prog 282 [.pointer p1, .int .i64 n2, .int .i64 n3] w Q :=
  fun_calls (A := A282) mixed Tryz.func282 (c := (Tryz.f282.body).getD .skip) rfl (by kernel_rfl) (Eq.mp (by kernel_rfl) h)
def A202 : Ann := ⟨[], [], [], [(0, [0, 1, 2, 3, 4, 5, 6, 7, 8])], [], []⟩
def L202 (q1 : Addr) (Q : Value → World → Prop) (w : World) : Prop :=
  let w1 := World.drew w;
  ∃ (p2 : Option Addr), w1.cell? q1 = some ((.pointer p2 : Value)) ∧
  ∃ (p3 : Option Addr), w1.cell? q1 = some ((.pointer p3 : Value)) ∧
  nn p3 (fun (q4 : Addr) =>
  ∃ (a5 : Option Addr) (l5 : Nat) (c5 : Nat), w1.cell? (Addr.add q4 1) = some ((.slice a5 l5 c5 : Value)) ∧
  (0 ≤ (1 : Int) ∧ (1 : Int) ≤ ((l5 : Nat) : Int)) ∧
  nn p2 (fun (q6 : Addr) =>
  stC (Addr.add q6 1) (.slice (adv a5 (Int.toNat 1) c5 2) (l5 - Int.toNat 1) (c5 - Int.toNat 1)) w1 (fun (w2 : World) =>
  Q (.tuple #[]) w2)))
def A145 : Ann := ⟨[], [], [], [(11, [0, 1, 2, 3, 4, 5, 6, 7, 8, 9, 10, 11, 12, 13]), (14, [0, 1, 2, 3, 4, 5, 6, 7, 8])], [], []⟩
def L145 (p1 : Option Addr) (n2 : Int) (Q : Value → World → Prop) (w : World) : Prop :=
  let w1 := World.alloc w (Obj.cells #[.pointer p1] 97);
  ∃ (p3 : Option Addr), w1.cell? (Addr.mk w.heap.size 0 none) = some ((.pointer p3 : Value)) ∧
  cond (Option.isNone p3)
  (Q (.tuple #[.slice none 0 0, .int .i64 2]) w1)
  (∃ (p4 : Option Addr), w1.cell? (Addr.mk w.heap.size 0 none) = some ((.pointer p4 : Value)) ∧
  nn p4 (fun (q5 : Addr) =>
  ∃ (b6 : Bool), w1.cell? q5 = some ((.bool b6 : Value)) ∧
  cond (!b6)
  (Q (.tuple #[.slice none 0 0, .int .i64 2]) w1)
  (cond (decide (n2 < 0))
  (Q (.tuple #[.slice none 0 0, .int .i64 4]) w1)
  (cond (decide (n2 > 1048576))
  (Q (.tuple #[.slice none 0 0, .int .i64 4]) w1)
  (cond (n2 == 0)
  (Q (.tuple #[.slice none 0 0, .int .i64 0]) w1)
  (∃ (p7 : Option Addr), w1.cell? (Addr.mk w.heap.size 0 none) = some ((.pointer p7 : Value)) ∧
  nn p7 (fun (q8 : Addr) =>
  ∃ (a9 : Option Addr) (l9 : Nat) (c9 : Nat), w1.cell? (Addr.add q8 1) = some ((.slice a9 l9 c9 : Value)) ∧
  cond ((((l9 : Nat) : Int)) == 0)
  (Q (.tuple #[.slice none 0 0, .int .i64 0]) w1)
  (∃ (p10 : Option Addr), w1.cell? (Addr.mk w.heap.size 0 none) = some ((.pointer p10 : Value)) ∧
  nn p10 (fun (q11 : Addr) =>
  ∃ (a12 : Option Addr) (l12 : Nat) (c12 : Nat), w1.cell? (Addr.add q11 1) = some ((.slice a12 l12 c12 : Value)) ∧
  (0 ≤ (0 : Int) ∧ (0 : Int) < ((l12 : Nat) : Int)) ∧
  nn a12 (fun (q13 : Addr) =>
  ∃ (n14 : Int), w1.cell? (Addr.add (Addr.add q13 (Int.toNat 0 * 2)) 1) = some ((.int .i64 n14 : Value)) ∧
  cond (n14 != 0)
  (∃ (n16 : Int), w1.cell? (Addr.add (Addr.add q13 (Int.toNat 0 * 2)) 1) = some ((.int .i64 n16 : Value)) ∧
  ∀ nd15 : Nat, let w2 := World.drewN w1 nd15;
  DefR Tryz.prog 202 [.pointer (some (Addr.mk w.heap.size 0 none))] w2 (fun (w3 : World) =>
  Q (.tuple #[.slice none 0 0, .int .i64 n16]) w3))
  (let w4 := World.drew w1;
  ∃ (a17 : Option Addr) (l17 : Nat) (c17 : Nat), w4.cell? (Addr.add q13 (Int.toNat 0 * 2)) = some ((.slice a17 l17 c17 : Value)) ∧
  ∃ (a18 : Option Addr) (l18 : Nat) (c18 : Nat), w4.cell? (Addr.add q13 (Int.toNat 0 * 2)) = some ((.slice a18 l18 c18 : Value)) ∧
  (0 ≤ (mn n2 (((l18 : Nat) : Int)) : Int) ∧ (mn n2 (((l18 : Nat) : Int)) : Int) ≤ ((c17 : Nat) : Int)) ∧
  CallR Tryz.prog 157 [.slice a17 (Int.toNat (mn n2 (((l18 : Nat) : Int)))) c17] w4 (fun (r20 : Value) (w5 : World) =>
  ∃ (a19 : Option Addr) (l19 : Nat) (c19 : Nat), r20 = .slice a19 l19 c19 ∧
  ∃ (a21 : Option Addr) (l21 : Nat) (c21 : Nat), w5.cell? (Addr.add q13 (Int.toNat 0 * 2)) = some ((.slice a21 l21 c21 : Value)) ∧
  (0 ≤ (((l19 : Nat) : Int) : Int) ∧ (((l19 : Nat) : Int) : Int) ≤ ((l21 : Nat) : Int)) ∧
  stC (Addr.add q13 (Int.toNat 0 * 2)) (.slice (adv a21 (Int.toNat (((l19 : Nat) : Int))) c21 1) (l21 - Int.toNat (((l19 : Nat) : Int))) (c21 - Int.toNat (((l19 : Nat) : Int)))) w5 (fun (w6 : World) =>
  ∃ (a22 : Option Addr) (l22 : Nat) (c22 : Nat), w6.cell? (Addr.add q13 (Int.toNat 0 * 2)) = some ((.slice a22 l22 c22 : Value)) ∧
  cond ((((l22 : Nat) : Int)) == 0)
  (let w7 := World.drew w6;
  ∃ (p23 : Option Addr), w7.cell? (Addr.mk w.heap.size 0 none) = some ((.pointer p23 : Value)) ∧
  ∃ (p24 : Option Addr), w7.cell? (Addr.mk w.heap.size 0 none) = some ((.pointer p24 : Value)) ∧
  nn p24 (fun (q25 : Addr) =>
  ∃ (a26 : Option Addr) (l26 : Nat) (c26 : Nat), w7.cell? (Addr.add q25 1) = some ((.slice a26 l26 c26 : Value)) ∧
  (0 ≤ (1 : Int) ∧ (1 : Int) ≤ ((l26 : Nat) : Int)) ∧
  nn p23 (fun (q27 : Addr) =>
  stC (Addr.add q27 1) (.slice (adv a26 (Int.toNat 1) c26 2) (l26 - Int.toNat 1) (c26 - Int.toNat 1)) w7 (fun (w8 : World) =>
  Q (.tuple #[.slice a19 l19 c19, .int .i64 0]) w8))))
  (Q (.tuple #[.slice a19 l19 c19, .int .i64 0]) w6))))))))))))))
theorem C145 {p1 : Option Addr} {n2 : Int} {Q : Value → World → Prop} {w : World} (h : L145 p1 n2 Q w) : CallR Tryz.prog 145 [.pointer p1, .int .i64 n2] w Q :=
  fun_callsF (A := A145) mixed Tryz.func145 (c := (Tryz.f145.body).getD .skip) rfl (by kernel_rfl) (Eq.mp (by kernel_rfl) h)
def A146 : Ann := ⟨[], [(10, [(6, .one (.int .i64))])], [], [(9, [0, 1, 2, 3, 4, 5, 6, 7, 8, 9, 10, 11, 12, 13, 14, 15]), (15, [0, 1, 2, 3, 4, 5, 6, 7, 8, 9, 10, 11])], [], []⟩
def L146 (p1 : Option Addr) (a2 : Option Addr) (l2 : Nat) (c2 : Nat) (Q : Value → World → Prop) (w : World) : Prop :=
  cond (Option.isNone p1)
  (Q (.tuple #[.int .i64 0, .int .i64 2]) w)
  (nn p1 (fun (q3 : Addr) =>
  ∃ (b4 : Bool), w.cell? q3 = some ((.bool b4 : Value)) ∧
  cond (!b4)
  (Q (.tuple #[.int .i64 0, .int .i64 2]) w)
  (cond (decide ((((l2 : Nat) : Int)) > 1048576))
  (Q (.tuple #[.int .i64 0, .int .i64 5]) w)
  (cond ((((l2 : Nat) : Int)) == 0)
  (Q (.tuple #[.int .i64 0, .int .i64 0]) w)
  (∃ (J5 : List Value → World → Prop),
  (nn p1 (fun (q6 : Addr) =>
  ∃ (a7 : Option Addr) (l7 : Nat) (c7 : Nat), w.cell? (Addr.add q6 2) = some ((.slice a7 l7 c7 : Value)) ∧
  cond (decide ((((l7 : Nat) : Int)) > 0))
  (let w1 := World.drew w;
  nn p1 (fun (q8 : Addr) =>
  ∃ (a9 : Option Addr) (l9 : Nat) (c9 : Nat), w1.cell? (Addr.add q8 2) = some ((.slice a9 l9 c9 : Value)) ∧
  (0 ≤ (0 : Int) ∧ (0 : Int) < ((l9 : Nat) : Int)) ∧
  nn a9 (fun (q10 : Addr) =>
  ∃ (n11 : Int), w1.cell? (Addr.add q10 (Int.toNat 0)) = some ((.int .i64 n11 : Value)) ∧
  nn p1 (fun (q12 : Addr) =>
  ∃ (a13 : Option Addr) (l13 : Nat) (c13 : Nat), w1.cell? (Addr.add q12 2) = some ((.slice a13 l13 c13 : Value)) ∧
  (0 ≤ (1 : Int) ∧ (1 : Int) ≤ ((l13 : Nat) : Int)) ∧
  nn p1 (fun (q14 : Addr) =>
  stC (Addr.add q14 2) (.slice (adv a13 (Int.toNat 1) c13 1) (l13 - Int.toNat 1) (c13 - Int.toNat 1)) w1 (fun (w2 : World) =>
  J5 [.int .i64 n11] w2))))))
  (J5 [.int .i64 (((l2 : Nat) : Int))] w))) ∧
  (∀ (_ : Env) (n15 : Int) (w3 : World), J5 [.int .i64 n15] w3 →
  cond (n15 == ((-1)))
  (Q (.tuple #[.int .i64 0, .int .i64 101]) w3)
  (cond (decide (n15 < 0))
  (False)
  (let w4 := World.drew w3;
  nn p1 (fun (q16 : Addr) =>
  ∃ (a17 : Option Addr) (l17 : Nat) (c17 : Nat), w4.cell? (Addr.add q16 3) = some ((.slice a17 l17 c17 : Value)) ∧
  (0 ≤ (mn n15 (((l2 : Nat) : Int)) : Int) ∧ (mn n15 (((l2 : Nat) : Int)) : Int) ≤ ((c2 : Nat) : Int)) ∧
  ∃ (a18 : Option Addr) (l18 : Nat) (c18 : Nat) (w5 : World), Sem.run Tryz.prog (Builtin.append_ #[40, 40] 40 #[.slice a17 l17 c17, .slice a2 (Int.toNat (mn n15 (((l2 : Nat) : Int)))) c2]) w4 = .ok ((.slice a18 l18 c18 : Value)) w5 ∧
  nn p1 (fun (q19 : Addr) =>
  stC (Addr.add q19 3) (.slice a18 l18 c18) w5 (fun (w6 : World) =>
  Q (.tuple #[.int .i64 (mn n15 (((l2 : Nat) : Int))), .int .i64 0]) w6)))))))))))
theorem C146 {p1 : Option Addr} {a2 : Option Addr} {l2 : Nat} {c2 : Nat} {Q : Value → World → Prop} {w : World} (h : L146 p1 a2 l2 c2 Q w) : CallR Tryz.prog 146 [.pointer p1, .slice a2 l2 c2] w Q :=
  fun_calls (A := A146) mixed Tryz.func146 (c := (Tryz.f146.body).getD .skip) rfl (by kernel_rfl) (Eq.mp (by kernel_rfl) h)
def A248 : Ann := ⟨[], [], [], [], [], []⟩
def L248 (p1 : Option Addr) (n2 : Int) (n3 : Int) (Q : Value → World → Prop) (w : World) : Prop :=
  cond (Option.isNone p1)
  (Q (.tuple #[.int .i64 0, .int .i64 2]) w)
  (nn p1 (fun (q4 : Addr) =>
  ∃ (b5 : Bool), w.cell? q4 = some ((.bool b5 : Value)) ∧
  cond (!b5)
  (Q (.tuple #[.int .i64 0, .int .i64 2]) w)
  (Q (.tuple #[.int .i64 0, .int .i64 66]) w)))
theorem C248 {p1 : Option Addr} {n2 : Int} {n3 : Int} {Q : Value → World → Prop} {w : World} (h : L248 p1 n2 n3 Q w) : CallR Tryz.prog 248 [.pointer p1, .int .i64 n2, .int .i64 n3] w Q :=
  fun_calls (A := A248) mixed Tryz.func248 (c := (Tryz.f248.body).getD .skip) rfl (by kernel_rfl) (Eq.mp (by kernel_rfl) h)
def A154 : Ann := ⟨[], [], [], [], [], []⟩
def L154 (p1 : Option Addr) (Q : Value → World → Prop) (w : World) : Prop :=
  cond (Option.isNone p1)
  (Q (.slice none 0 0) w)
  (nn p1 (fun (q2 : Addr) =>
  ∃ (a3 : Option Addr) (l3 : Nat) (c3 : Nat), w.cell? (Addr.add q2 3) = some ((.slice a3 l3 c3 : Value)) ∧
  CallR Tryz.prog 157 [.slice a3 l3 c3] w (fun (r5 : Value) (w1 : World) =>
  ∃ (a4 : Option Addr) (l4 : Nat) (c4 : Nat), r5 = .slice a4 l4 c4 ∧
  Q (.slice a4 l4 c4) w1)))
theorem C154 {p1 : Option Addr} {Q : Value → World → Prop} {w : World} (h : L154 p1 Q w) : CallR Tryz.prog 154 [.pointer p1] w Q :=
  fun_calls (A := A154) mixed Tryz.func154 (c := (Tryz.f154.body).getD .skip) rfl (by kernel_rfl) (Eq.mp (by kernel_rfl) h)
def A197 : Ann := ⟨[], [], [], [], [], []⟩
def L197 (a1 : Option Addr) (l1 : Nat) (c1 : Nat) (Q : Value → World → Prop) (w : World) : Prop :=
  ∃ (a2 : Option Addr) (l2 : Nat) (c2 : Nat) (w1 : World), Sem.run Tryz.prog (Builtin.append_ #[40, 40] 40 #[.slice none 0 0, .slice a1 l1 c1]) w = .ok ((.slice a2 l2 c2 : Value)) w1 ∧
  Q (.slice a2 l2 c2) w1
theorem C197 {a1 : Option Addr} {l1 : Nat} {c1 : Nat} {Q : Value → World → Prop} {w : World} (h : L197 a1 l1 c1 Q w) : CallR Tryz.prog 197 [.slice a1 l1 c1] w Q :=
  fun_calls (A := A197) mixed Tryz.func197 (c := (Tryz.f197.body).getD .skip) rfl (by kernel_rfl) (Eq.mp (by kernel_rfl) h)
def A132 : Ann := ⟨[], [], [], [], [], []⟩
def L132 (n1 : Int) (a2 : Option Addr) (l2 : Nat) (c2 : Nat) (Q : Value → World → Prop) (w : World) : Prop :=
  cond (decide (n1 < 0))
  (Q (.tuple #[.pointer none, .int .i64 4]) w)
  (cond (decide (n1 > 1048576))
  (Q (.tuple #[.pointer none, .int .i64 4]) w)
  (cond (decide ((((l2 : Nat) : Int)) > n1))
  (Q (.tuple #[.pointer none, .int .i64 5]) w)
  (CallR Tryz.prog 197 [.slice a2 l2 c2] w (fun (r4 : Value) (w1 : World) =>
  ∃ (a3 : Option Addr) (l3 : Nat) (c3 : Nat), r4 = .slice a3 l3 c3 ∧
  let w2 := World.alloc w1 (Obj.cells #[.int .i64 1, .slice a3 l3 c3, .int .i64 n1, .int .i64 0, .slice none 0 0, .slice none 0 0, .pointer none, .int .i64 0, .int .i64 0] 217);
  Q (.tuple #[.pointer (some (Addr.mk w1.heap.size 0 none)), .int .i64 0]) w2))))
theorem C132 {n1 : Int} {a2 : Option Addr} {l2 : Nat} {c2 : Nat} {Q : Value → World → Prop} {w : World} (h : L132 n1 a2 l2 c2 Q w) : CallR Tryz.prog 132 [.int .i64 n1, .slice a2 l2 c2] w Q :=
  fun_calls (A := A132) mixed Tryz.func132 (c := (Tryz.f132.body).getD .skip) rfl (by kernel_rfl) (Eq.mp (by kernel_rfl) h)
def A134 : Ann := ⟨[], [], [], [], [], []⟩
def L134 (a1 : Option Addr) (l1 : Nat) (c1 : Nat) (Q : Value → World → Prop) (w : World) : Prop :=
  cond (decide ((((l1 : Nat) : Int)) > 1048576))
  (Q (.tuple #[.pointer none, .int .i64 5]) w)
  (CallR Tryz.prog 197 [.slice a1 l1 c1] w (fun (r3 : Value) (w1 : World) =>
  ∃ (a2 : Option Addr) (l2 : Nat) (c2 : Nat), r3 = .slice a2 l2 c2 ∧
  let w2 := World.alloc w1 (Obj.cells #[.int .i64 2, .slice a2 l2 c2, .int .i64 1048576, .int .i64 0, .slice none 0 0, .slice none 0 0, .pointer none, .int .i64 0, .int .i64 0] 217);
  Q (.tuple #[.pointer (some (Addr.mk w1.heap.size 0 none)), .int .i64 0]) w2))
theorem C134 {a1 : Option Addr} {l1 : Nat} {c1 : Nat} {Q : Value → World → Prop} {w : World} (h : L134 a1 l1 c1 Q w) : CallR Tryz.prog 134 [.slice a1 l1 c1] w Q :=
  fun_calls (A := A134) mixed Tryz.func134 (c := (Tryz.f134.body).getD .skip) rfl (by kernel_rfl) (Eq.mp (by kernel_rfl) h)
def A136 : Ann := ⟨[], [], [], [], [], []⟩
def L136 (a1 : Option Addr) (l1 : Nat) (c1 : Nat) (Q : Value → World → Prop) (w : World) : Prop :=
  cond (decide ((((l1 : Nat) : Int)) > 1048576))
  (Q (.tuple #[.pointer none, .int .i64 5]) w)
  (CallR Tryz.prog 197 [.slice a1 l1 c1] w (fun (r3 : Value) (w1 : World) =>
  ∃ (a2 : Option Addr) (l2 : Nat) (c2 : Nat), r3 = .slice a2 l2 c2 ∧
  let w2 := World.alloc w1 (Obj.cells #[.int .i64 3, .slice a2 l2 c2, .int .i64 (((l1 : Nat) : Int)), .int .i64 0, .slice none 0 0, .slice none 0 0, .pointer none, .int .i64 0, .int .i64 0] 217);
  Q (.tuple #[.pointer (some (Addr.mk w1.heap.size 0 none)), .int .i64 0]) w2))
theorem C136 {a1 : Option Addr} {l1 : Nat} {c1 : Nat} {Q : Value → World → Prop} {w : World} (h : L136 a1 l1 c1 Q w) : CallR Tryz.prog 136 [.slice a1 l1 c1] w Q :=
  fun_calls (A := A136) mixed Tryz.func136 (c := (Tryz.f136.body).getD .skip) rfl (by kernel_rfl) (Eq.mp (by kernel_rfl) h)
def A138 : Ann := ⟨[(5, [(7, .one (.int .i64))])], [], [], [], [(9, [0, 1, 2, 3, 4, 5, 6, 7, 8, 9, 11, 12, 13, 14, 15, 10, 16, 17], 18, [19, 20, 21])], []⟩
def L138 (a1 : Option Addr) (l1 : Nat) (c1 : Nat) (a2 : Option Addr) (l2 : Nat) (c2 : Nat) (Q : Value → World → Prop) (w : World) : Prop :=
  cond (decide ((((l1 : Nat) : Int)) > 4096))
  (Q (.tuple #[.pointer none, .int .i64 3]) w)
  (cond (decide ((((l2 : Nat) : Int)) > 4096))
  (Q (.tuple #[.pointer none, .int .i64 3]) w)
  (let w1 := World.alloc w (Obj.cells #[.int .i64 4, .slice none 0 0, .int .i64 0, .int .i64 0, .slice none 0 0, .slice none 0 0, .pointer none, .int .i64 0, .int .i64 0] 217);
  ∃ (I3 : List Value → World → Prop) (mu4 : List Value → World → Nat),
  I3 [.int .i64 0] w1 ∧
  ∀ (_ : Env) (n5 : Int) (w2 : World), I3 [.int .i64 n5] w2 →
  cond (decide (n5 < (((l1 : Nat) : Int))))
  ((0 ≤ (n5 : Int) ∧ (n5 : Int) < ((l1 : Nat) : Int)) ∧
  nn a1 (fun (q6 : Addr) =>
  ∃ (a7 : Option Addr) (l7 : Nat) (c7 : Nat), w2.cell? (Addr.add q6 (Int.toNat n5 * 2)) = some ((.slice a7 l7 c7 : Value)) ∧
  cond (decide ((((l7 : Nat) : Int)) > 1048576))
  (Q (.tuple #[.pointer none, .int .i64 5]) w2)
  (∃ (S8 : World → Prop), S8 (World.drew w2) ∧
  let w3 := World.drew w2;
  ∃ (a9 : Option Addr) (l9 : Nat) (c9 : Nat), (∀ wS : World, S8 wS → wS.cell? (Addr.mk w.heap.size 4 none) = some ((.slice a9 l9 c9 : Value))) ∧
  (0 ≤ (n5 : Int) ∧ (n5 : Int) < ((l1 : Nat) : Int)) ∧
  nn a1 (fun (q10 : Addr) =>
  ∃ (a11 : Option Addr) (l11 : Nat) (c11 : Nat), (∀ wS : World, S8 wS → wS.cell? (Addr.add q10 (Int.toNat n5 * 2)) = some ((.slice a11 l11 c11 : Value))) ∧
  (0 ≤ (n5 : Int) ∧ (n5 : Int) < ((l1 : Nat) : Int)) ∧
  nn a1 (fun (q12 : Addr) =>
  ∃ (n13 : Int), (∀ wS : World, S8 wS → wS.cell? (Addr.add (Addr.add q12 (Int.toNat n5 * 2)) 1) = some ((.int .i64 n13 : Value))) ∧
  CallR Tryz.prog 197 [.slice a11 l11 c11] w3 (fun (r15 : Value) (w4 : World) =>
  ∃ (a14 : Option Addr) (l14 : Nat) (c14 : Nat), r15 = .slice a14 l14 c14 ∧
  S8 w4 ∧
  let w5 := World.alloc w4 (Obj.cells #[.slice a14 l14 c14, .int .i64 n13] 305);
  S8 w5 ∧
  ∃ (a16 : Option Addr) (l16 : Nat) (c16 : Nat) (w6 : World), Sem.run Tryz.prog (Builtin.append_ #[83, 83] 83 #[.slice a9 l9 c9, .slice (some (Addr.mk w4.heap.size 0 none)) 1 1]) w5 = .ok ((.slice a16 l16 c16 : Value)) w6 ∧
  stC (Addr.mk w.heap.size 4 none) (.slice a16 l16 c16) w6 (fun (w7 : World) =>
  inI (n5 + 1) ∧
  I3 [.int .i64 (n5 + 1)] w7 ∧ mu4 [.int .i64 (n5 + 1)] w7 < mu4 [.int .i64 n5] w2)))))))
  (∃ (a17 : Option Addr) (l17 : Nat) (c17 : Nat), w2.cell? (Addr.mk w.heap.size 5 none) = some ((.slice a17 l17 c17 : Value)) ∧
  ∃ (a18 : Option Addr) (l18 : Nat) (c18 : Nat) (w8 : World), Sem.run Tryz.prog (Builtin.append_ #[57, 57] 57 #[.slice a17 l17 c17, .slice a2 l2 c2]) w2 = .ok ((.slice a18 l18 c18 : Value)) w8 ∧
  stC (Addr.mk w.heap.size 5 none) (.slice a18 l18 c18) w8 (fun (w9 : World) =>
  Q (.tuple #[.pointer (some (Addr.mk w.heap.size 0 none)), .int .i64 0]) w9))))
theorem C138 {a1 : Option Addr} {l1 : Nat} {c1 : Nat} {a2 : Option Addr} {l2 : Nat} {c2 : Nat} {Q : Value → World → Prop} {w : World} (h : L138 a1 l1 c1 a2 l2 c2 Q w) : CallR Tryz.prog 138 [.slice a1 l1 c1, .slice a2 l2 c2] w Q :=
  fun_calls (A := A138) mixed Tryz.func138 (c := (Tryz.f138.body).getD .skip) rfl (by kernel_rfl) (Eq.mp (by kernel_rfl) h)
end Go.Proofs.YtpoaacnnhgebfaaGreat
set_option maxRecDepth 512
namespace Go.Proofs.YtpoaacnnhgebfaaGreat
open Go.Lw
def StO (F : Nat → Prop) (w : World) (b : Nat) (bs : List Int) (room pl : Nat) : Prop :=
  ∃ a l c, Blk w b #[.bool true, .slice a l c, .int .i64 (room : Int), .int .i64 (pl : Int)] ∧ OB w a l c bs ∧ ¬ inA a b ∧ bs.length ≤ room ∧ pl ≤ room ∧ room ≤ 1048576 ∧ ∀ k, F k ↔ k = b ∨ inA a k
theorem StO.keep {F S : Nat → Prop} {w w' : World} {b : Nat} {bs : List Int} {room pl : Nat} (h : StO F w b bs room pl) (k : Kept S w w') (hn : ∀ k, F k → ¬ S k) : StO F w' b bs room pl := by
  obtain ⟨a, l, c, hb, ho, hna, h1, h2, h3, hF⟩ := h
  exact ⟨a, l, c, hb.keep k (hn b ((hF b).2 (.inl rfl))), ho.keep k fun x hx => hn x ((hF x).2 (.inr hx)), hna, h1, h2, h3, hF⟩
theorem StO.lt {F : Nat → Prop} {w : World} {b : Nat} {bs : List Int} {room pl : Nat} (h : StO F w b bs room pl) : ∀ k, F k → k < w.heap.size := by
  obtain ⟨a, l, c, hb, ho, hna, h1, h2, h3, hF⟩ := h
  intro k hk
  rcases (hF k).1 hk with rfl | hk
  · exact hb.lt
  · exact SlO.lt ho k hk
theorem StO.is {F : Nat → Prop} {w : World} {b : Nat} {bs : List Int} {room pl : Nat} (h : StO F w b bs room pl) : bs.length ≤ room ∧ pl ≤ room ∧ room ≤ 1048576 ∧ F b := by
  obtain ⟨a, l, c, hb, ho, hna, h1, h2, h3, hF⟩ := h; exact ⟨h1, h2, h3, (hF b).2 (.inl rfl)⟩
def readM (n : Int) (bs : List Int) (pl : Nat) : List Int × Int × Nat :=
  if n < 0 ∨ n > 1048576 then ([], 4, pl) else ((bs.drop pl).take n.toNat, 0, pl + ((bs.drop pl).take n.toNat).length)
def writeM (ds bs : List Int) (room pl : Nat) : Int × Int × List Int × Nat :=
  if ds.length > 1048576 then (0, 5, bs, pl) else if ds = [] then (0, 0, bs, pl) else if pl ≥ room then (0, 31, bs, pl) else
    (((min ds.length (room - pl) : Nat) : Int), 0, lay bs pl (ds.take (min ds.length (room - pl))), pl + min ds.length (room - pl))
def baseM (whence : Int) (bs : List Int) (pl : Nat) : Int := if whence = 0 then 0 else if whence = 1 then (pl : Int) else (bs.length : Int)
def seekM (off whence : Int) (bs : List Int) (room pl : Nat) : Int × Int × Nat :=
  if whence < 0 ∨ whence > 2 then (0, 1, pl) else if off < -(baseM whence bs pl) ∨ off > (room : Int) - baseM whence bs pl then (0, 4, pl) else (baseM whence bs pl + off, 0, (baseM whence bs pl + off).toNat)
theorem mkept_ok {w : World} {a : Option Addr} {l c : Nat} {bs : List Int} (h : RdB w a l c bs) (hl : l ≤ 140737488355328) (room : Int) :
    CallR Tryz.prog 198 [.slice a l c, .int .i64 room] w fun v w' => ∃ a' c', v = .agg #[.bool true, .slice a' l c', .int .i64 room, .int .i64 0] ∧ OB w' a' l c' bs ∧ Kept No w w' ∧ Fresh w a' := by
  refine C198 ?_
  unfold L198
  intro w1
  have hb1 : Blk w1 w.heap.size #[.bool false, .slice none 0 0, .int .i64 0, .int .i64 0] := Blk.alloc w _ _
  have hk1 : Kept No w w1 := Kept.alloc _ w _
  have hs1 : w1.heap.size = w.heap.size + 1 := by simp [w1]
  clear_value w1
  have hlen := h.len
  refine (clone_ok (h.keep hk1 (fun _ _ _ e => e)) hl).mono fun v w2 ⟨a', c', hv, ho, hk2, hf, hn⟩ => ⟨a', _, c', hv, ?_⟩
  have hb2 := hb1.keep hk2 (fun e => e)
  rw [hlen] at ho
  have hs2 := hk2.size
  generalize hg : w.heap.size = g at *
  refine stC_blk hb2 (by simp) fun w3 hb3 hk3 _ => stC_blk hb3 (by simp) fun w4 hb4 hk4 _ => stC_blk hb4 (by simp) fun w5 hb5 hk5 _ => stC_blk hb5 (by simp) fun w6 hb6 hk6 _ => ?_
  have hb6 : Blk w6 g #[.bool true, .slice a' l c', .int .i64 room, .int .i64 0] := by simpa using hb6
  have hga : ¬ inA a' g := fun e => by have := hf _ e; omega
  refine ⟨true, a', l, c', room, 0, hb6.cell 0, hb6.cell 1, hb6.cell 2, hb6.cell 3, a', c', rfl, ?_, ?_, ?_⟩
  · exact (((ho.keep hk3 (fun x hx e => hga (e ▸ hx))).keep hk4 (fun x hx e => hga (e ▸ hx))).keep hk5 (fun x hx e => hga (e ▸ hx))).keep hk6 (fun x hx e => hga (e ▸ hx))
  · have h2 := hk1.no hk2
    exact (((h2.fresh hk3 (by intro x e; omega)).fresh hk4 (by intro x e; omega)).fresh hk5 (by intro x e; omega)).fresh hk6 (by intro x e; omega)
  · intro x hx; have := hf x hx; omega
theorem mnew_of {w w1 : World} {a' : Option Addr} {l c' : Nat} {bs : List Int} {room : Nat} (ho : OB w1 a' l c' bs) (hk : Kept No w w1) (hf : Fresh w a') (h1 : bs.length ≤ room) (h2 : room ≤ 1048576) (t : TypeId) :
    ∃ F', StO F' (w1.alloc (.cells #[.bool true, .slice a' l c', .int .i64 (room : Int), .int .i64 0] t)) w1.heap.size bs room 0 ∧ Kept No w (w1.alloc (.cells #[.bool true, .slice a' l c', .int .i64 (room : Int), .int .i64 0] t)) ∧ (∀ x, F' x → w.heap.size ≤ x) := by
  have hs := hk.size
  refine ⟨fun x => x = w1.heap.size ∨ inA a' x, ⟨a', l, c', Blk.alloc w1 _ _, ho.keep (Kept.alloc No w1 _) (fun _ _ e => e), fun e => by have := SlO.lt ho _ e; omega, h1, by omega, h2, fun k => Iff.rfl⟩, hk.no (Kept.alloc No w1 _), ?_⟩
  rintro x (rfl | hx)
  · exact hs
  · exact hf x hx
def MNew (w : World) (e : Int) (bs : List Int) (room : Nat) (v : Value) (w' : World) : Prop :=
  (e ≠ 0 ∧ v = .tuple #[.pointer none, .int .i64 e] ∧ Kept No w w') ∨ (e = 0 ∧ ∃ b F', v = .tuple #[pt b, .int .i64 0] ∧ StO F' w' b bs room 0 ∧ Kept No w w' ∧ ∀ x, F' x → w.heap.size ≤ x)
def newFE (size : Int) (n : Nat) : Int := if size < 0 ∨ size > 1048576 then 4 else if (n : Int) > size then 5 else 0
theorem mnewF_ok {w : World} (size : Int) {a : Option Addr} {l c : Nat} {bs : List Int} (h : RdB w a l c bs) :
    CallR Tryz.prog 133 [.int .i64 size, .slice a l c] w fun v w' => MNew w (newFE size bs.length) bs size.toNat v w' := by
  refine C133 ?_
  unfold L133
  have hlen := h.len
  refine condP (fun g => .inl ⟨?_, ?_, Kept.refl _ _⟩) fun g => condP (fun g2 => .inl ⟨?_, ?_, Kept.refl _ _⟩) fun g2 => condP (fun g3 => .inl ⟨?_, ?_, Kept.refl _ _⟩) fun g3 => ?_
  · unfold newFE; rw [if_pos (by omega)]; decide
  · unfold newFE; rw [if_pos (by omega)]
  · unfold newFE; rw [if_pos (by omega)]; decide
  · unfold newFE; rw [if_pos (by omega)]
  · unfold newFE; rw [if_neg (by omega), if_pos (by omega)]; decide
  · unfold newFE; rw [if_neg (by omega), if_pos (by omega)]
  · refine (mkept_ok h (by omega) size).mono fun v w1 ⟨a', c', hv, ho, hk, hf⟩ => ⟨_, _, _, _, _, _, hv, ?_⟩
    have he : newFE size bs.length = 0 := by unfold newFE; rw [if_neg (by omega), if_neg (by omega)]
    have hsz : size = ((size.toNat : Nat) : Int) := by omega
    intro w2
    refine .inr ⟨he, ?_⟩
    have := mnew_of (w := w) (room := size.toNat) ho hk hf (by omega) (by omega)
    rw [← hsz] at this
    obtain ⟨F', h1, h2, h3⟩ := this _
    exact ⟨_, F', rfl, h1, h2, h3⟩
theorem mnewG_ok {w : World} {a : Option Addr} {l c : Nat} {bs : List Int} (h : RdB w a l c bs) :
    CallR Tryz.prog 135 [.slice a l c] w fun v w' => MNew w (if bs.length > 1048576 then 5 else 0) bs 1048576 v w' := by
  refine C135 ?_
  unfold L135
  have hlen := h.len
  refine condP (fun g => .inl ⟨?_, ?_, Kept.refl _ _⟩) fun g => ?_
  · rw [if_pos (by omega)]; decide
  · rw [if_pos (by omega)]
  · refine (mkept_ok h (by omega) 1048576).mono fun v w1 ⟨a', c', hv, ho, hk, hf⟩ => ⟨_, _, _, _, _, _, hv, ?_⟩
    intro w2
    refine .inr ⟨if_neg (by omega), ?_⟩
    obtain ⟨F', h1, h2, h3⟩ := mnew_of (w := w) (room := 1048576) ho hk hf (by omega) (by omega) _
    exact ⟨_, F', rfl, h1, h2, h3⟩
theorem mnewR_ok {w : World} {a : Option Addr} {l c : Nat} {bs : List Int} (h : RdB w a l c bs) :
    CallR Tryz.prog 137 [.slice a l c] w fun v w' => MNew w (if bs.length > 1048576 then 5 else 0) bs bs.length v w' := by
  refine C137 ?_
  unfold L137
  have hlen := h.len
  refine condP (fun g => .inl ⟨?_, ?_, Kept.refl _ _⟩) fun g => ?_
  · rw [if_pos (by omega)]; decide
  · rw [if_pos (by omega)]
  · refine (mkept_ok h (by omega) _).mono fun v w1 ⟨a', c', hv, ho, hk, hf⟩ => ⟨_, _, _, _, _, _, hv, ?_⟩
    intro w2
    refine .inr ⟨if_neg (by omega), ?_⟩
    rw [hlen]
    obtain ⟨F', h1, h2, h3⟩ := mnew_of (w := w) (room := l) ho hk hf (by omega) (by omega) _
    exact ⟨_, F', rfl, h1, h2, h3⟩
theorem mread_ok {F : Nat → Prop} {w : World} {b : Nat} {bs : List Int} {room pl : Nat} (h : StO F w b bs room pl) (n : Int) :
    CallR Tryz.prog 201 [pt b, .int .i64 n] w fun v w' => ∃ a l c, v = .tuple #[.slice a l c, .int .i64 (readM n bs pl).2.1] ∧ OB w' a l c (readM n bs pl).1 ∧ Fresh w a ∧ StO F w' b bs room (readM n bs pl).2.2 ∧ Kept F w w' := by
  have h' := h
  obtain ⟨a, l, c, hb, ho, hna, h1, h2, h3, hF⟩ := h'
  have hlen := ho.len
  refine C201 ?_
  unfold L201
  have hbad : readM n bs pl = ([], 4, pl) → ∃ a l c, Value.tuple #[.slice none 0 0, .int .i64 4] = .tuple #[.slice a l c, .int .i64 (readM n bs pl).2.1] ∧ OB w a l c (readM n bs pl).1 ∧ Fresh w a ∧ StO F w b bs room (readM n bs pl).2.2 ∧ Kept F w w := by
    intro e; rw [e]; exact ⟨none, 0, 0, rfl, OB.nil w, Fresh.none w, h, Kept.refl _ _⟩
  refine nnI ⟨true, hb.at0 rfl, condF rfl (condP (fun g => hbad ?_) fun g => condP (fun g2 => hbad ?_) fun g2 => ?_)⟩
  · unfold readM; rw [if_pos (by omega)]
  · unfold readM; rw [if_pos (by omega)]
  refine nnI ⟨_, hb.at (i := 3) rfl, nnI ⟨a, l, c, hb.at (i := 1) rfl, ?_⟩⟩
  intro nd w1 w2
  have hk2 : Kept No w w2 := (Kept.drewN No w nd).no (Kept.drew _ _)
  have hb2 : Blk w2 b _ := hb
  have ho2 : OB w2 a l c bs := ho
  have hs2 : w2.heap.size = w.heap.size := rfl
  clear_value w2
  have e : readM n bs pl = ((bs.drop pl).take n.toNat, 0, pl + ((bs.drop pl).take n.toNat).length) := by unfold readM; rw [if_neg (by omega)]
  rw [e]
  have hfrom : mn (pl : Int) (l : Int) = ((min pl l : Nat) : Int) := by rw [mn_eq]; omega
  have hto : mn (((min pl l : Nat) : Int) + n) (l : Int) = ((min (min pl l + n.toNat) l : Nat) : Int) := by rw [mn_eq]; omega
  rw [hfrom]
  refine nnI ⟨a, l, c, hb2.at (i := 1) rfl, by unfold inI; omega, nnI ⟨a, l, c, hb2.at (i := 1) rfl, ?_⟩⟩
  rw [hto, Int.toNat_natCast, Int.toNat_natCast]
  have hlc : l ≤ c := ho.rd.2.1
  have hpc : RdB w2 (adv a (min pl l) c 1) (min (min pl l + n.toNat) l - min pl l) (c - min pl l) ((bs.drop pl).take n.toNat) := by
    have h5 := RdB.to (RdB.from ho2.rd (min pl l) (by omega)) (min (min pl l + n.toNat) l - min pl l) (by omega)
    have e5 : ((bs.drop (min pl l)).take (min (min pl l + n.toNat) l - min pl l)) = (bs.drop pl).take n.toNat := by
      by_cases hpl : pl ≤ l
      · rw [Nat.min_eq_left hpl, List.take_eq_take_iff, List.length_drop]; omega
      · rw [Nat.min_eq_right (by omega), List.drop_of_length_le (by omega), List.drop_of_length_le (by omega)]; simp
    rw [e5] at h5; exact h5
  have hpl := hpc.len
  refine ⟨⟨by omega, by omega⟩, ⟨by omega, by omega⟩, (clone_ok hpc (by omega)).mono fun v w3 ⟨a4, c4, hv, ho4, hk4, hf4, hn4⟩ => ⟨a4, _, c4, hv, ?_⟩⟩
  have hb3 := hb2.keep hk4 (fun e => e)
  have hFb : F b := (hF b).2 (.inl rfl)
  have hlt := hb2.lt
  have hdl : ((bs.drop pl).take n.toNat).length ≤ l - pl := by rw [List.length_take, List.length_drop]; omega
  have hpr : pl + ((bs.drop pl).take n.toNat).length ≤ room := by
    rcases Nat.le_total pl l with hx | hx <;> omega
  refine nnI ⟨_, hb3.at (i := 3) rfl, by unfold inI; omega, nnI (stC_at hb3 (by simp) fun w4 hb4 hk5 _ => ⟨a4, _, c4, rfl, ?_, ?_, ?_, ?_⟩)⟩
  · rw [← hpl]; exact ho4.keep hk5 (fun x hx e => by have := hf4 x hx; omega)
  · intro x hx; have := hf4 x hx; omega
  · rw [← hpl] at hb4
    refine ⟨a, l, c, by simpa using hb4, ((ho2.keep hk4 (fun _ _ e => e)).keep hk5 (fun x hx e => hna (e ▸ hx))), hna, h1, hpr, h3, hF⟩
  · exact ((hk2.trans hk4 fun _ _ e => e).mono fun _ _ e => e.elim).trans hk5 (fun x _ e => e ▸ hFb)
end Go.Proofs.YtpoaacnnhgebfaaGreat
namespace Go.Proofs.YtpoaacnnhgebfaaGreat
open Go.Lw
theorem mwrite_ok {F : Nat → Prop} {w : World} {b : Nat} {bs : List Int} {room pl : Nat} (h : StO F w b bs room pl) {a2 : Option Addr} {l2 c2 : Nat} {ds : List Int} (hd : RdB w a2 l2 c2 ds) (hap : ds ≠ [] → ∀ k, inA a2 k → ¬ F k) :
    CallR Tryz.prog 199 [pt b, .slice a2 l2 c2] w fun v w' => v = .tuple #[.int .i64 (writeM ds bs room pl).1, .int .i64 (writeM ds bs room pl).2.1] ∧ ∃ F', StO F' w' b (writeM ds bs room pl).2.2.1 room (writeM ds bs room pl).2.2.2 ∧ Grew F w F' ∧ Kept F w w' := by
  have h' := h
  obtain ⟨a, l, c, hb, ho, hna, h1, h2, h3, hF⟩ := h'
  have hlen := ho.len
  have hlen2 := hd.len
  have hlc2 : l2 ≤ c2 := hd.2.1
  refine C199 ?_
  unfold L199
  have hbad : ∀ {k : Int} {w' : World}, writeM ds bs room pl = (0, k, bs, pl) → Kept No w w' → Value.tuple #[.int .i64 0, .int .i64 k] = .tuple #[.int .i64 (writeM ds bs room pl).1, .int .i64 (writeM ds bs room pl).2.1] ∧ ∃ F', StO F' w' b (writeM ds bs room pl).2.2.1 room (writeM ds bs room pl).2.2.2 ∧ Grew F w F' ∧ Kept F w w' := by
    intro k w' e hk; rw [e]; exact ⟨rfl, F, h.keep hk (fun _ _ e => e), .same, hk.mono fun _ _ e => e.elim⟩
  refine nnI ⟨true, hb.at0 rfl, condF rfl (condP (fun g => hbad ?_ (Kept.refl _ _)) fun g => condI (fun g2 => hbad ?_ (Kept.refl _ _)) fun g2 => ?_)⟩
  · unfold writeM; rw [if_pos (by omega)]
  · simp only [beq_iff_eq] at g2
    have : ds = [] := List.eq_nil_of_length_eq_zero (by omega)
    unfold writeM; rw [if_neg (by omega), if_pos this]
  simp only [beq_eq_false_iff_ne] at g2
  have hne : ds ≠ [] := by rintro rfl; simp at hlen2; omega
  refine nnI ⟨_, hb.at (i := 3) rfl, nnI ⟨_, hb.at (i := 2) rfl, ?_⟩⟩
  intro nd w1
  have hk1 : Kept No w w1 := Kept.drewN No w nd
  have hb1 : Blk w1 b #[.bool true, .slice a l c, .int .i64 (room : Int), .int .i64 (pl : Int)] := hb
  have ho1 : OB w1 a l c bs := ho
  have hd1 : RdB w1 a2 l2 c2 ds := hd
  have hs1 : w1.heap.size = w.heap.size := rfl
  clear_value w1
  refine condP (fun g3 => hbad ?_ hk1) fun g3 => ?_
  · unfold writeM; rw [if_neg (by omega), if_neg hne, if_pos (by omega)]
  refine nnI ⟨_, hb1.at (i := 2) rfl, nnI ⟨_, hb1.at (i := 3) rfl, by unfold inI; omega, ?_⟩⟩
  intro nd w2
  have hk2 : Kept No w w2 := hk1.no (Kept.drewN No w1 nd)
  have hb2 : Blk w2 b #[.bool true, .slice a l c, .int .i64 (room : Int), .int .i64 (pl : Int)] := hb1
  have ho2 : OB w2 a l c bs := ho1
  have hd2 : RdB w2 a2 l2 c2 ds := hd1
  have hs2 : w2.heap.size = w.heap.size := hs1
  clear_value w2
  have hmn : mn (l2 : Int) ((room : Int) - (pl : Int)) = ((min l2 (room - pl) : Nat) : Int) := by rw [mn_eq]; omega
  rw [hmn]
  obtain ⟨m, hm⟩ : ∃ m, min l2 (room - pl) = m := ⟨_, rfl⟩
  rw [hm]
  have hm1 : m ≤ l2 ∧ pl + m ≤ room ∧ 1 ≤ m := by omega
  have hFb : F b := (hF b).2 (.inl rfl)
  have e : writeM ds bs room pl = ((m : Int), 0, lay bs pl (ds.take m), pl + m) := by
    unfold writeM; rw [if_neg (by omega), if_neg hne, if_neg (by omega), hlen2, hm]
  rw [e]
  have hdm : (ds.take m).length = m := by rw [List.length_take]; omega
  refine ⟨fun vs w' => vs = [] ∧ ∃ a' l' c', Blk w' b #[.bool true, .slice a' l' c', .int .i64 (room : Int), .int .i64 (pl : Int)] ∧ OB w' a' l' c' (grown bs (pl + m)) ∧ ¬ inA a' b ∧ (∀ x, inA a' x → inA a x ∨ w.heap.size ≤ x) ∧ Kept F w w',
    nnI ⟨_, hb2.at (i := 3) rfl, by unfold inI; omega, nnI ⟨a, l, c, hb2.at (i := 1) rfl, condP (fun g4 => ?_) (fun g4 => ⟨rfl, a, l, c, hb2, ?_, hna, fun x hx => .inl hx, hk2.mono fun _ _ e => e.elim⟩)⟩⟩, ?_⟩
  · intro w3
    have hk3 : Kept No w w3 := hk2.no (Kept.drew No w2)
    have hb3 : Blk w3 b #[.bool true, .slice a l c, .int .i64 (room : Int), .int .i64 (pl : Int)] := hb2
    have ho3 : OB w3 a l c bs := ho2
    have hs3 : w3.heap.size = w.heap.size := hs2
    clear_value w3
    have hsub : (pl : Int) + (m : Int) - (l : Int) = ((pl + m - l : Nat) : Int) := by omega
    obtain ⟨a', c', w4, hrun, hs, hk4, hat, hnn⟩ := run_app_zeros (P := Tryz.prog) (t := 40) (t2 := 3) (ty := 40) tyB (by kernel_rfl) (w := w3) ho3 (k := .i64) (m := pl + m - l) (by intro u hu; simp [Value.cells] at hu; subst hu; rfl) (by omega) (by omega)
    have hb4 := hb3.keep hk4 hna
    refine nnI ⟨a, l, c, hb3.at (i := 1) rfl, nnI ⟨a, l, c, hb3.at (i := 1) rfl, by unfold inI; omega, a', _, c', w4, by rw [hsub]; exact hrun, nnI (stC_at hb4 (by simp) fun w5 hb5 hk5 _ => ⟨rfl, a', l + (pl + m - l), c', by simpa using hb5, ?_, ?_, ?_, ?_⟩)⟩⟩
    · have hs' : OB w4 a' (l + (pl + m - l)) c' (grown bs (pl + m)) := by
        unfold OB grown
        rw [By_append, ← By_zeros, hlen]
        exact hs
      refine hs'.keep hk5 (fun x hx e => ?_)
      rcases hat.in hx with e' | e'
      · exact hna (e ▸ e')
      · have := hb3.lt; omega
    · intro hx
      rcases hat.in hx with e' | e'
      · exact hna e'
      · have := hb3.lt; omega
    · intro x hx
      rcases hat.in hx with e' | e'
      · exact .inl e'
      · right; omega
    · exact ((hk3.mono fun _ _ e => e.elim).trans hk4 fun x _ e => (hF x).2 (.inr e)).trans hk5 fun x _ e => e ▸ hFb
  · have : grown bs (pl + m) = bs := by unfold grown; rw [show pl + m - bs.length = 0 by omega]; simp
    rw [this]; exact ho2
  · rintro _ w6 ⟨_, a', l', c', hb6, ho6, hna6, hin6, hk6⟩
    have hl6 := ho6.len
    rw [grown_len, hlen] at hl6
    refine ⟨fun w' => Blk w' b #[.bool true, .slice a' l' c', .int .i64 (room : Int), .int .i64 (pl : Int)], hb6, ?_⟩
    intro w7
    have hk7 : Kept F w w7 := hk6.trans (Kept.drew No w6) (fun _ _ e => e.elim)
    have hb7 : Blk w7 b #[.bool true, .slice a' l' c', .int .i64 (room : Int), .int .i64 (pl : Int)] := hb6
    have ho7 : OB w7 a' l' c' (grown bs (pl + m)) := ho6
    clear_value w7
    have hd7 : RdB w7 a2 l2 c2 ds := hd.keep hk7 (fun x _ hx hf => hap hne x hx hf)
    have hdt : RdB w7 a2 m c2 (ds.take m) := hd7.to m hm1.1
    obtain ⟨w8, hrun8, ho8, hk8, hs8⟩ := copy_at ho7 (off := pl) hdt (by omega)
    have hb8 := hb7.keep hk8 hna6
    refine nnI ⟨_, fun wS h => h.at (i := 3) rfl, nnI ⟨a', l', c', fun wS h => h.at (i := 1) rfl, nnI ⟨_, fun wS h => h.at (i := 3) rfl, ⟨by omega, by omega⟩, ⟨by omega, by omega⟩, (m : Int), w8, ?_, hb8, by unfold inI; omega, nnI (stC_at hb8 (by simp) fun w9 hb9 hk9 _ => ⟨rfl, fun x => x = b ∨ inA a' x, ⟨a', l', c', by simpa using hb9, ?_, hna6, ?_, hm1.2.1, h3, fun k => Iff.rfl⟩, ?_, ?_⟩)⟩⟩⟩
    · rw [Int.toNat_natCast, Int.toNat_natCast]; exact hrun8
    · have : lay bs pl (ds.take m) = over (grown bs (pl + m)) (ds.take m) pl := by unfold lay; rw [hdm]
      rw [this]
      exact ho8.keep hk9 (fun x hx e => hna6 (e ▸ hx))
    · rw [lay_len, hdm]; omega
    · rintro x (rfl | hx)
      · exact .inl hFb
      · rcases hin6 x hx with h5 | h5
        · exact .inl ((hF x).2 (.inr h5))
        · exact .inr h5
    · refine (hk7.trans hk8 fun x hx e => ?_).trans hk9 fun x _ e => e ▸ hFb
      rcases hin6 x e with h5 | h5
      · exact (hF x).2 (.inr h5)
      · omega
theorem mseek_ok {F : Nat → Prop} {w : World} {b : Nat} {bs : List Int} {room pl : Nat} (h : StO F w b bs room pl) (off whence : Int) :
    CallR Tryz.prog 200 [pt b, .int .i64 off, .int .i64 whence] w fun v w' => v = .tuple #[.int .i64 (seekM off whence bs room pl).1, .int .i64 (seekM off whence bs room pl).2.1] ∧ StO F w' b bs room (seekM off whence bs room pl).2.2 ∧ Kept F w w' := by
  have h' := h
  obtain ⟨a, l, c, hb, ho, hna, h1, h2, h3, hF⟩ := h'
  have hlen := ho.len
  refine C200 ?_
  unfold L200
  have hbad : ∀ {k : Int} {w' : World}, seekM off whence bs room pl = (0, k, pl) → Kept No w w' → Value.tuple #[.int .i64 0, .int .i64 k] = .tuple #[.int .i64 (seekM off whence bs room pl).1, .int .i64 (seekM off whence bs room pl).2.1] ∧ StO F w' b bs room (seekM off whence bs room pl).2.2 ∧ Kept F w w' := by
    intro k w' e hk; rw [e]; exact ⟨rfl, h.keep hk (fun _ _ e => e), hk.mono fun _ _ e => e.elim⟩
  refine nnI ⟨true, hb.at0 rfl, condF rfl (condP (fun g => hbad ?_ (Kept.refl _ _)) fun g => condP (fun g2 => hbad ?_ (Kept.refl _ _)) fun g2 => ?_)⟩
  · unfold seekM; rw [if_pos (by omega)]
  · unfold seekM; rw [if_pos (by omega)]
  refine nnI ⟨_, hb.at (i := 3) rfl, nnI ⟨a, l, c, hb.at (i := 1) rfl, ⟨by omega, by omega⟩, baseM whence bs pl, ?_, ?_⟩⟩
  · have : whence = 0 ∨ whence = 1 ∨ whence = 2 := by omega
    rcases this with rfl | rfl | rfl <;> simp [baseM, hlen]
  have hbase : 0 ≤ baseM whence bs pl ∧ baseM whence bs pl ≤ room := by unfold baseM; split <;> (try split) <;> omega
  intro nd w1
  have hk1 : Kept No w w1 := Kept.drewN No w nd
  have hb1 : Blk w1 b #[.bool true, .slice a l c, .int .i64 (room : Int), .int .i64 (pl : Int)] := hb
  clear_value w1
  refine ⟨by unfold inI; omega, condP (fun g3 => hbad ?_ hk1) (fun g3 => nnI ⟨_, hb1.at (i := 2) rfl, by unfold inI; omega, condP (fun g4 => hbad ?_ hk1) (fun g4 => ⟨by unfold inI; omega, nnI (stC_at hb1 (by simp) fun w2 hb2 hk2 _ => nnI ⟨_, hb2.at (by simp; rfl), ?_⟩)⟩)⟩)⟩
  · unfold seekM; rw [if_neg (by omega), if_pos (by omega)]
  · unfold seekM; rw [if_neg (by omega), if_pos (by omega)]
  · have e : seekM off whence bs room pl = (baseM whence bs pl + off, 0, (baseM whence bs pl + off).toNat) := by unfold seekM; rw [if_neg (by omega), if_neg (by omega)]
    rw [e]
    have hnat : baseM whence bs pl + off = (((baseM whence bs pl + off).toNat : Nat) : Int) := by omega
    refine ⟨rfl, ⟨a, l, c, ?_, (ho.keep hk1 (fun _ _ e => e)).keep hk2 (fun x hx e => hna (e ▸ hx)), hna, h1, by dsimp only; omega, h3, hF⟩, (hk1.mono fun _ _ e => e.elim).trans hk2 fun x _ e => e ▸ (hF b).2 (.inl rfl)⟩
    rw [← hnat]; simpa using hb2
theorem fread_ok {F : Nat → Prop} {w : World} {b : Nat} {bs : List Int} {room pl : Nat} (h : StO F w b bs room pl) (n : Int) :
    CallR Tryz.prog 144 [pt b, .int .i64 n] w fun v w' => ∃ a l c, v = .tuple #[.slice a l c, .int .i64 (readM n bs pl).2.1] ∧ OB w' a l c (readM n bs pl).1 ∧ Fresh w a ∧ StO F w' b bs room (readM n bs pl).2.2 ∧ Kept F w w' := by
  refine C144 ?_
  unfold L144
  exact condF rfl (nnI ((mread_ok h n).mono fun v w' ⟨a, l, c, hv, r⟩ => ⟨a, l, c, _, hv, a, l, c, rfl, r⟩))
theorem gread_ok {F : Nat → Prop} {w : World} {b : Nat} {bs : List Int} {room pl : Nat} (h : StO F w b bs room pl) (n : Int) :
    CallR Tryz.prog 245 [pt b, .int .i64 n] w fun v w' => ∃ a l c, v = .tuple #[.slice a l c, .int .i64 (readM n bs pl).2.1] ∧ OB w' a l c (readM n bs pl).1 ∧ Fresh w a ∧ StO F w' b bs room (readM n bs pl).2.2 ∧ Kept F w w' := by
  refine C245 ?_
  unfold L245
  exact condF rfl (nnI ((mread_ok h n).mono fun v w' ⟨a, l, c, hv, r⟩ => ⟨a, l, c, _, hv, a, l, c, rfl, r⟩))
theorem rdread_ok {F : Nat → Prop} {w : World} {b : Nat} {bs : List Int} {room pl : Nat} (h : StO F w b bs room pl) (n : Int) :
    CallR Tryz.prog 281 [pt b, .int .i64 n] w fun v w' => ∃ a l c, v = .tuple #[.slice a l c, .int .i64 (readM n bs pl).2.1] ∧ OB w' a l c (readM n bs pl).1 ∧ Fresh w a ∧ StO F w' b bs room (readM n bs pl).2.2 ∧ Kept F w w' := by
  refine C281 ?_
  unfold L281
  exact condF rfl (nnI ((mread_ok h n).mono fun v w' ⟨a, l, c, hv, r⟩ => ⟨a, l, c, _, hv, a, l, c, rfl, r⟩))
theorem fwrite_ok {F : Nat → Prop} {w : World} {b : Nat} {bs : List Int} {room pl : Nat} (h : StO F w b bs room pl) {a2 : Option Addr} {l2 c2 : Nat} {ds : List Int} (hd : RdB w a2 l2 c2 ds) (hap : ds ≠ [] → ∀ k, inA a2 k → ¬ F k) :
    CallR Tryz.prog 142 [pt b, .slice a2 l2 c2] w fun v w' => v = .tuple #[.int .i64 (writeM ds bs room pl).1, .int .i64 (writeM ds bs room pl).2.1] ∧ ∃ F', StO F' w' b (writeM ds bs room pl).2.2.1 room (writeM ds bs room pl).2.2.2 ∧ Grew F w F' ∧ Kept F w w' := by
  refine C142 ?_
  unfold L142
  exact condF rfl (nnI ((mwrite_ok h hd hap).mono fun v w' ⟨hv, r⟩ => ⟨_, _, hv, rfl, r⟩))
theorem gwrite_ok {F : Nat → Prop} {w : World} {b : Nat} {bs : List Int} {room pl : Nat} (h : StO F w b bs room pl) {a2 : Option Addr} {l2 c2 : Nat} {ds : List Int} (hd : RdB w a2 l2 c2 ds) (hap : ds ≠ [] → ∀ k, inA a2 k → ¬ F k) :
    CallR Tryz.prog 247 [pt b, .slice a2 l2 c2] w fun v w' => v = .tuple #[.int .i64 (writeM ds bs room pl).1, .int .i64 (writeM ds bs room pl).2.1] ∧ ∃ F', StO F' w' b (writeM ds bs room pl).2.2.1 room (writeM ds bs room pl).2.2.2 ∧ Grew F w F' ∧ Kept F w w' := by
  refine C247 ?_
  unfold L247
  exact condF rfl (nnI ((mwrite_ok h hd hap).mono fun v w' ⟨hv, r⟩ => ⟨_, _, hv, rfl, r⟩))
theorem fseek_ok {F : Nat → Prop} {w : World} {b : Nat} {bs : List Int} {room pl : Nat} (h : StO F w b bs room pl) (off whence : Int) :
    CallR Tryz.prog 143 [pt b, .int .i64 off, .int .i64 whence] w fun v w' => v = .tuple #[.int .i64 (seekM off whence bs room pl).1, .int .i64 (seekM off whence bs room pl).2.1] ∧ StO F w' b bs room (seekM off whence bs room pl).2.2 ∧ Kept F w w' := by
  refine C143 ?_
  unfold L143
  exact condF rfl (nnI ((mseek_ok h off whence).mono fun v w' ⟨hv, r⟩ => ⟨_, _, hv, rfl, r⟩))
theorem gseek_ok {F : Nat → Prop} {w : World} {b : Nat} {bs : List Int} {room pl : Nat} (h : StO F w b bs room pl) (off whence : Int) :
    CallR Tryz.prog 246 [pt b, .int .i64 off, .int .i64 whence] w fun v w' => v = .tuple #[.int .i64 (seekM off whence bs room pl).1, .int .i64 (seekM off whence bs room pl).2.1] ∧ StO F w' b bs room (seekM off whence bs room pl).2.2 ∧ Kept F w w' := by
  refine C246 ?_
  unfold L246
  exact condF rfl (nnI ((mseek_ok h off whence).mono fun v w' ⟨hv, r⟩ => ⟨_, _, hv, rfl, r⟩))
theorem rdseek_ok {F : Nat → Prop} {w : World} {b : Nat} {bs : List Int} {room pl : Nat} (h : StO F w b bs room pl) (off whence : Int) :
    CallR Tryz.prog 282 [pt b, .int .i64 off, .int .i64 whence] w fun v w' => v = .tuple #[.int .i64 (seekM off whence bs room pl).1, .int .i64 (seekM off whence bs room pl).2.1] ∧ StO F w' b bs room (seekM off whence bs room pl).2.2 ∧ Kept F w w' := by
  refine C282 ?_
  unfold L282
  exact condF rfl (nnI ((mseek_ok h off whence).mono fun v w' ⟨hv, r⟩ => ⟨_, _, hv, rfl, r⟩))
theorem rdwrite_to {F : Nat → Prop} {w : World} {b : Nat} {bs : List Int} {room pl : Nat} (h : StO F w b bs room pl) {a2 : Option Addr} {l2 c2 : Nat} {Q : Value → World → Prop} (hq : Q (.tuple #[.int .i64 0, .int .i64 65]) w) :
    CallR Tryz.prog 283 [pt b, .slice a2 l2 c2] w Q := by
  obtain ⟨a, l, c, hb, ho, hna, h1, h2, h3, hF⟩ := h
  refine C283 ?_
  unfold L283
  exact condF rfl (nnI ⟨true, hb.at0 rfl, condF rfl hq⟩)
theorem fbytes_ok {F : Nat → Prop} {w : World} {b : Nat} {bs : List Int} {room pl : Nat} (h : StO F w b bs room pl) :
    CallR Tryz.prog 152 [pt b] w fun v w' => ∃ a c, v = .slice a bs.length c ∧ OB w' a bs.length c bs ∧ Fresh w a ∧ Kept No w w' := by
  obtain ⟨a, l, c, hb, ho, hna, h1, h2, h3, hF⟩ := h
  have hlen := ho.len
  refine C152 ?_
  unfold L152
  refine condF rfl (nnI ⟨a, l, c, hb.at (i := 1) rfl, (clone_ok ho.rd (by omega)).mono fun v w' ⟨a', c', hv, ho', hk, hf, _⟩ => ⟨a', l, c', hv, a', c', by rw [hlen], ho', hf, hk⟩⟩)
theorem gbytes_ok {F : Nat → Prop} {w : World} {b : Nat} {bs : List Int} {room pl : Nat} (h : StO F w b bs room pl) :
    CallR Tryz.prog 153 [pt b] w fun v w' => ∃ a c, v = .slice a bs.length c ∧ OB w' a bs.length c bs ∧ Fresh w a ∧ Kept No w w' := by
  obtain ⟨a, l, c, hb, ho, hna, h1, h2, h3, hF⟩ := h
  have hlen := ho.len
  refine C153 ?_
  unfold L153
  refine condF rfl (nnI ⟨a, l, c, hb.at (i := 1) rfl, (clone_ok ho.rd (by omega)).mono fun v w' ⟨a', c', hv, ho', hk, hf, _⟩ => ⟨a', l, c', hv, a', c', by rw [hlen], ho', hf, hk⟩⟩)
end Go.Proofs.YtpoaacnnhgebfaaGreat
namespace Go.Proofs.YtpoaacnnhgebfaaGreat
open Go.Lw
theorem stC_sloN {sz : Nat} {w : World} {a : Option Addr} {l c : Nat} {xs : List Value} (hs : SlO sz w a l c xs) {q : Addr} (hq : a = some q) {j : Nat} (hj : j < l * sz) {v : Value} {K : World → Prop}
    (hk : ∀ w', SlO sz w' a l c (xs.set j v) → Kept (inA a) w w' → w'.heap.size = w.heap.size → K w') : stC (q.add j) v w K := by
  rcases hs.2 with ⟨rfl, _, _⟩ | ⟨g, off, cur, rfl, hb, hlc, hcs, htk⟩
  · cases hq
  · cases hq
    rw [add_none]
    have hcl : l * sz ≤ c * sz := Nat.mul_le_mul_right _ hlc
    refine stC_blk hb (by omega) fun w' hb' hk' hsz => hk w' ⟨by rw [List.length_set, hs.1], .inr ⟨g, off, _, rfl, hb', hlc, by simpa using hcs, ?_⟩⟩ (hk'.mono fun b _ h => (inA_some _ _ _ _).2 h) hsz
    rw [← htk]
    apply List.ext_getElem?
    intro k
    simp only [Array.toList_setIfInBounds, List.getElem?_take, List.getElem?_drop, List.getElem?_set, List.length_take, List.length_drop, Array.length_toList]
    have hm : min (l * sz) (cur.size - off) = l * sz := by omega
    by_cases hkl : k < l * sz
    · by_cases hjk : j = k
      · subst hjk
        simp [hkl, hm, show off + j < cur.size by omega]
      · simp [hjk]
    · have : ¬ j = k := by omega
      simp [hkl, this]
def ansC : List (Slc × Int) → List Value
  | [] => []
  | e :: es => slv e.1 :: .int .i64 e.2 :: ansC es
theorem ansC_len (es : List (Slc × Int)) : (ansC es).length = es.length * 2 := by
  induction es with
  | nil => rfl
  | cons e es ih => simp only [ansC, List.length_cons, ih]; omega
theorem ansC_app (es fs : List (Slc × Int)) : ansC (es ++ fs) = ansC es ++ ansC fs := by
  induction es with
  | nil => rfl
  | cons e es ih => simp only [ansC, List.cons_append, ih]
theorem ansC_one (es : List (Slc × Int)) : ∀ u ∈ ansC es, u.oneCell' = true := by
  induction es with
  | nil => intro u hu; cases hu
  | cons e es ih =>
    intro u hu
    simp only [ansC, List.mem_cons] at hu
    rcases hu with rfl | rfl | hu
    · rfl
    · rfl
    · exact ih u hu
theorem ansC_drop (es : List (Slc × Int)) (i : Nat) : ansC (es.drop i) = (ansC es).drop (i * 2) := by
  induction es generalizing i with
  | nil => simp [ansC]
  | cons e es ih =>
    cases i with
    | zero => simp
    | succ i => rw [List.drop_succ_cons, ih, show (i + 1) * 2 = i * 2 + 2 by omega]; simp [ansC]
theorem ansC_get (es : List (Slc × Int)) (i : Nat) (e : Slc × Int) (h : es[i]? = some e) : (ansC es)[i * 2]? = some (slv e.1) ∧ (ansC es)[i * 2 + 1]? = some (.int .i64 e.2) := by
  induction es generalizing i with
  | nil => simp at h
  | cons f es ih =>
    cases i with
    | zero => simp at h; subst h; simp [ansC]
    | succ i =>
      simp at h
      have := ih i h
      rw [show (i + 1) * 2 = i * 2 + 2 by omega]
      simpa [ansC] using this
theorem ansC_set (es : List (Slc × Int)) (e : Slc × Int) (s : Slc) : (ansC (e :: es)).set 0 (slv s) = ansC ((s, e.2) :: es) := by simp [ansC]
def AnsR (R : Nat → Prop) (w : World) (es : List (Slc × Int)) (rs : List (List Int × Int)) : Prop :=
  es.length = rs.length ∧ ∀ (i : Nat) (e : Slc × Int) (r : List Int × Int), es[i]? = some e → rs[i]? = some r → RdB w e.1.1 e.1.2.1 e.1.2.2 r.1 ∧ e.2 = r.2 ∧ (r.1 ≠ [] → ∀ k, inA e.1.1 k → R k)
theorem AnsR.keep {R S : Nat → Prop} {w w' : World} {es : List (Slc × Int)} {rs : List (List Int × Int)} (h : AnsR R w es rs) (k : Kept S w w') (hn : ∀ x, R x → ¬ S x) : AnsR R w' es rs :=
  ⟨h.1, fun i e r he hr => by
    obtain ⟨h1, h2, h3⟩ := h.2 i e r he hr
    exact ⟨h1.keep0 k (fun hne b hb => hn b (h3 hne b hb)), h2, h3⟩⟩
theorem AnsR.mono {R R' : Nat → Prop} {w : World} {es : List (Slc × Int)} {rs : List (List Int × Int)} (h : AnsR R w es rs) (hr : ∀ x, R x → R' x) : AnsR R' w es rs :=
  ⟨h.1, fun i e r he hr' => ⟨(h.2 i e r he hr').1, (h.2 i e r he hr').2.1, fun hne k hk => hr k ((h.2 i e r he hr').2.2 hne k hk)⟩⟩
theorem AnsR.nil (R : Nat → Prop) (w : World) : AnsR R w [] [] := ⟨rfl, fun i e r he => by simp at he⟩
theorem AnsR.tail {R : Nat → Prop} {w : World} {e : Slc × Int} {es : List (Slc × Int)} {r : List Int × Int} {rs : List (List Int × Int)} (h : AnsR R w (e :: es) (r :: rs)) : AnsR R w es rs :=
  ⟨by simpa using h.1, fun i x y hx hy => h.2 (i + 1) x y (by simpa using hx) (by simpa using hy)⟩
theorem AnsR.cons {R : Nat → Prop} {w : World} {e : Slc × Int} {es : List (Slc × Int)} {r : List Int × Int} {rs : List (List Int × Int)} (h : AnsR R w es rs) (h1 : RdB w e.1.1 e.1.2.1 e.1.2.2 r.1) (h2 : e.2 = r.2) (h3 : r.1 ≠ [] → ∀ k, inA e.1.1 k → R k) : AnsR R w (e :: es) (r :: rs) :=
  ⟨by simp [h.1], fun i x y hx hy => by
    cases i with
    | zero => simp at hx hy; subst hx hy; exact ⟨h1, h2, h3⟩
    | succ i => exact h.2 i x y (by simpa using hx) (by simpa using hy)⟩
theorem AnsR.snoc {R : Nat → Prop} {w : World} {e : Slc × Int} {es : List (Slc × Int)} {r : List Int × Int} {rs : List (List Int × Int)} (h : AnsR R w es rs) (h1 : RdB w e.1.1 e.1.2.1 e.1.2.2 r.1) (h2 : e.2 = r.2) (h3 : r.1 ≠ [] → ∀ k, inA e.1.1 k → R k) : AnsR R w (es ++ [e]) (rs ++ [r]) :=
  ⟨by simp [h.1], fun i x y hx hy => by
    by_cases hi : i < es.length
    · rw [List.getElem?_append_left hi] at hx
      rw [List.getElem?_append_left (by rw [← h.1]; exact hi)] at hy
      exact h.2 i x y hx hy
    · rw [List.getElem?_append_right (by omega)] at hx
      rw [List.getElem?_append_right (by have := h.1; omega)] at hy
      have e0 : i - es.length = 0 := by
        rcases Nat.eq_zero_or_pos (i - es.length) with h0 | h0
        · exact h0
        · rw [List.getElem?_eq_none (by simp; omega)] at hx; cases hx
      rw [e0] at hx
      rw [← h.1, e0] at hy
      simp at hx hy; subst hx hy; exact ⟨h1, h2, h3⟩⟩
def RdA (R : Nat → Prop) (w : World) (a : Option Addr) (l c : Nat) (rs : List (List Int × Int)) : Prop :=
  ∃ es, RdS 2 w a l c (ansC es) ∧ AnsR R w es rs ∧ (l ≠ 0 → ∀ k, inA a k → R k)
theorem RdA.len {R : Nat → Prop} {w : World} {a : Option Addr} {l c : Nat} {rs : List (List Int × Int)} (h : RdA R w a l c rs) : rs.length = l := by
  obtain ⟨es, h1, h2, _⟩ := h
  have := h1.1
  rw [ansC_len] at this
  have := h2.1; omega
theorem RdA.keep {R S : Nat → Prop} {w w' : World} {a : Option Addr} {l c : Nat} {rs : List (List Int × Int)} (h : RdA R w a l c rs) (k : Kept S w w') (hn : ∀ x, R x → ¬ S x) : RdA R w' a l c rs := by
  have hl := h.len
  obtain ⟨es, h1, h2, h3⟩ := h
  refine ⟨es, h1.keep0 k (fun hne b hb => hn b (h3 (fun e => hne ?_) b hb)), h2.keep k hn, h3⟩
  apply List.eq_nil_of_length_eq_zero
  rw [ansC_len]; have := h2.1; omega
theorem RdA.get {R : Nat → Prop} {w : World} {a : Option Addr} {l c : Nat} {rs : List (List Int × Int)} (h : RdA R w a l c rs) {i : Nat} (hi : i < rs.length) :
    ∃ (q : Addr) (e : Slc), a = some q ∧ w.cell? (q.add (i * 2)) = some (.slice e.1 e.2.1 e.2.2) ∧ w.cell? ((q.add (i * 2)).add 1) = some (.int .i64 rs[i].2) ∧ RdB w e.1 e.2.1 e.2.2 rs[i].1 ∧ (rs[i].1 ≠ [] → ∀ k, inA e.1 k → R k) := by
  have hl := h.len
  obtain ⟨es, h1, h2, h3⟩ := h
  have hie : i < es.length := by have := h2.1; omega
  cases a with
  | none =>
    have := (RdS.isNone h1 rfl).1
    omega
  | some q =>
    obtain ⟨g1, g2⟩ := ansC_get es i es[i] (by simp)
    obtain ⟨k1, k2, k3⟩ := h2.2 i es[i] rs[i] (by simp) (by simp)
    refine ⟨q, es[i].1, rfl, h1.2.2.2 q rfl _ _ g1, ?_, k1, k3⟩
    rw [Lw.add_add, ← k2]
    exact h1.2.2.2 q rfl _ _ g2
end Go.Proofs.YtpoaacnnhgebfaaGreat
namespace Go.Proofs.YtpoaacnnhgebfaaGreat
open Go.Lw
def CuO (F : Nat → Prop) (w : World) (b : Nat) (rs : List (List Int × Int)) (ws tk : List Int) : Prop :=
  ∃ ar lr cr aw lw cw ak lk ck es, Blk w b #[.bool true, .slice ar lr cr, .slice aw lw cw, .slice ak lk ck] ∧ SlO 2 w ar lr cr (ansC es) ∧ AnsR (fun x => F x ∧ x ≠ b ∧ ¬ inA ar x ∧ ¬ inA ak x) w es rs ∧ RdS 1 w aw lw cw (In ws) ∧ OB w ak lk ck tk ∧
    F b ∧ (∀ x, F x → x < w.heap.size) ∧ (∀ x, inA ar x → F x ∧ x ≠ b) ∧ (∀ x, inA aw x → F x ∧ x ≠ b ∧ ¬ inA ar x ∧ ¬ inA ak x) ∧ (∀ x, inA ak x → F x ∧ x ≠ b ∧ ¬ inA ar x) ∧ ∀ r ∈ rs, r.1.length ≤ 1048576
theorem CuO.keep {F S : Nat → Prop} {w w' : World} {b : Nat} {rs : List (List Int × Int)} {ws tk : List Int} (h : CuO F w b rs ws tk) (k : Kept S w w') (hn : ∀ x, F x → ¬ S x) : CuO F w' b rs ws tk := by
  obtain ⟨ar, lr, cr, aw, lw, cw, ak, lk, ck, es, hb, h1, h2, h3, h4, h5, h6, h7, h8, h9, h10⟩ := h
  exact ⟨ar, lr, cr, aw, lw, cw, ak, lk, ck, es, hb.keep k (hn _ h5), h1.keep k (fun x hx => hn _ (h7 x hx).1), h2.keep k (fun x hx => hn _ hx.1), h3.keep k (fun x _ hx => hn _ (h8 x hx).1), h4.keep k (fun x hx => hn _ (h9 x hx).1), h5,
    fun x hx => Nat.lt_of_lt_of_le (h6 x hx) k.size, h7, h8, h9, h10⟩
def newCE (rs : List (List Int × Int)) (ws : List Int) : Int := if rs.length > 4096 ∨ ws.length > 4096 then 3 else if rs.all (fun r => decide (r.1.length ≤ 1048576)) then 0 else 5
def CNew (w : World) (e : Int) (rs : List (List Int × Int)) (ws : List Int) (v : Value) (w' : World) : Prop :=
  (e ≠ 0 ∧ v = .tuple #[.pointer none, .int .i64 e] ∧ Kept No w w') ∨ (e = 0 ∧ ∃ b F', v = .tuple #[pt b, .int .i64 0] ∧ CuO F' w' b rs ws [] ∧ Kept No w w' ∧ ∀ x, F' x → w.heap.size ≤ x)
theorem cnew_ok {R : Nat → Prop} {w : World} {a : Option Addr} {l c : Nat} {rs : List (List Int × Int)} (h : RdA R w a l c rs) {a2 : Option Addr} {l2 c2 : Nat} {ws : List Int} (h2 : RdS 1 w a2 l2 c2 (In ws)) :
    CallR Tryz.prog 139 [.slice a l c, .slice a2 l2 c2] w fun v w' => CNew w (newCE rs ws) rs ws v w' := by
  refine C139 ?_
  unfold L139
  have hlen := h.len
  have hlen2 : ws.length = l2 := by have := h2.1; simpa using this
  refine condP (fun g => .inl ⟨?_, ?_, Kept.refl _ _⟩) fun g => condP (fun g2 => .inl ⟨?_, ?_, Kept.refl _ _⟩) fun g2 => ?_
  · unfold newCE; rw [if_pos (by omega)]; decide
  · unfold newCE; rw [if_pos (by omega)]
  · unfold newCE; rw [if_pos (by omega)]; decide
  · unfold newCE; rw [if_pos (by omega)]
  intro w1
  have hk1 : Kept No w w1 := Kept.alloc _ w _
  have hs1 : w1.heap.size = w.heap.size + 1 := by simp [w1]
  have hz : SlO 1 w1 (some ⟨w.heap.size, 0, none⟩) 0 0 (In []) := SlO.of_blk (Blk.alloc w #[] _) (by simp)
  clear_value w1
  obtain ⟨aw, cw, w2, hrun2, hsw, hk2, hat2, hnn2⟩ := run_app_sl (P := Tryz.prog) (t := 57) (t2 := 57) (ty := 57) (by kernel_rfl : slTyB Tryz.prog 57 1 8 = true) (by kernel_rfl) hz (h2.keep hk1 (fun _ _ _ e => e)) (In_one ws) (by omega) (by omega)
  simp only [Nat.zero_add] at hrun2 hsw
  rw [← In_append, List.nil_append] at hsw
  have hk02 : Kept No w w2 := hk1.fresh hk2 (fun x hx => by rw [inA_some] at hx; omega)
  have hs2 := hk2.size
  have hfw : ∀ x, inA aw x → w.heap.size ≤ x ∧ x < w2.heap.size := fun x hx => by
    refine ⟨?_, SlO.lt hsw x hx⟩
    rcases hat2.in hx with e | e
    · rw [inA_some] at e; omega
    · omega
  refine ⟨aw, l2, cw, w2, hrun2, ?_⟩
  intro w3
  have hb3 : Blk w3 w2.heap.size #[.bool true, .slice none 0 0, .slice aw l2 cw, .slice none 0 0] := Blk.alloc w2 _ _
  have hk3 : Kept No w2 w3 := Kept.alloc _ w2 _
  have hs3 : w3.heap.size = w2.heap.size + 1 := by simp [w3]
  clear_value w3
  generalize hxb : w2.heap.size = xb at *
  have hk03 := hk02.no hk3
  have hsw3 := SlO.rd (hsw.keep hk3 (fun _ _ e => e))
  have hbad : ∀ {w' : World} {r}, r ∈ rs → r.1.length > 1048576 → Kept No w w' → CNew w (newCE rs ws) rs ws (.tuple #[.pointer none, .int .i64 5]) w' := by
    intro w' r hr hgt hk
    have e : newCE rs ws = 5 := by
      unfold newCE
      rw [if_neg (by omega), if_neg]
      intro hall
      rw [List.all_eq_true] at hall
      have := hall r hr
      simp at this; omega
    exact .inl ⟨by rw [e]; decide, by rw [e], hk⟩
  refine ⟨fun vs w' => ∃ i : Nat, vs = [.int .i64 (i : Int)] ∧ i ≤ l ∧ Kept No w w' ∧ ∃ ar cr es, Blk w' xb #[.bool true, .slice ar i cr, .slice aw l2 cw, .slice none 0 0] ∧ SlO 2 w' ar i cr (ansC es) ∧
      AnsR (fun x => w.heap.size ≤ x ∧ x ≠ xb ∧ ¬ inA ar x ∧ x < w'.heap.size) w' es (rs.take i) ∧ RdS 1 w' aw l2 cw (In ws) ∧ (∀ x, inA ar x → w.heap.size ≤ x ∧ x ≠ xb ∧ ¬ inA aw x) ∧ ∀ r ∈ rs.take i, r.1.length ≤ 1048576,
    fun vs _ => l - ix vs, ⟨0, rfl, Nat.zero_le _, hk03, none, 0, [], hb3, SlO.nil 2 w3, AnsR.nil _ _, hsw3, fun x hx => absurd hx (inA_none x), by simp⟩, ?_⟩
  intro _ n6 w4 hI
  obtain ⟨i, hvs, hi, h04, ar, cr, es, hb4, hs4, ha4, hw4, hr4, hl4⟩ := hI
  simp only [List.cons.injEq, Value.int.injEq, true_and, and_true] at hvs
  subst hvs
  have h04s := h04.size
  have hx4 := hb4.lt
  refine condP (fun hlt => ?_) (fun hge => ?_)
  · have hil : i < rs.length := by omega
    obtain ⟨q, e, rfl, he1, he2, hrd, hrin⟩ := (h.keep h04 (fun _ _ e => e)).get hil
    refine ⟨by omega, nnI ⟨e.1, e.2.1, e.2.2, rs[i].2, by rw [Int.toNat_natCast]; exact he1, by rw [Int.toNat_natCast]; exact he2, ?_⟩⟩
    intro w5
    have hk5 : Kept No w4 w5 := Kept.alloc _ w4 _
    have hb5 : Blk w5 w4.heap.size #[.slice none 0 0, .int .i64 0] := Blk.alloc w4 _ _
    have hs5 : w5.heap.size = w4.heap.size + 1 := by simp [w5]
    clear_value w5
    generalize hg : w4.heap.size = g at *
    refine stC_blk hb5 (by simp) fun w6 hb6 hk6 hs6 => stC_blk hb6 (by simp) fun w7 hb7 hk7 hs7 => ?_
    have hb7 : Blk w7 g #[.slice e.1 e.2.1 e.2.2, .int .i64 rs[i].2] := by simpa using hb7
    have h47 : Kept No w4 w7 := (hk5.fresh hk6 (by intro x e; omega)).fresh hk7 (by intro x e; omega)
    have h07 := h04.no h47
    have hrl := hrd.len
    refine ⟨e.1, e.2.1, e.2.2, hb7.cell 0, condP (fun g3 => hbad (r := rs[i]) (by simp) (by omega) h07) (fun g3 => ?_)⟩
    have hx7 := hb4.keep h47 (fun e => e)
    refine ⟨fun wS => Blk wS xb #[.bool true, .slice ar i cr, .slice aw l2 cw, .slice none 0 0] ∧ Blk wS g #[.slice e.1 e.2.1 e.2.2, .int .i64 rs[i].2], ⟨hx7, hb7⟩, ?_⟩
    intro w8
    have h48 : Kept No w4 w8 := h47.no (Kept.drew No w7)
    have hb8 : Blk w8 g #[.slice e.1 e.2.1 e.2.2, .int .i64 rs[i].2] := hb7
    have hx8 : Blk w8 xb #[.bool true, .slice ar i cr, .slice aw l2 cw, .slice none 0 0] := hb4.keep h48 (fun e => e)
    have hs8 : w8.heap.size = g + 1 := by show w7.heap.size = _; omega
    clear_value w8
    refine ⟨ar, i, cr, fun wS h => h.1.cell 1, e.1, e.2.1, e.2.2, fun wS h => h.2.cell 0, rs[i].2, fun wS h => h.2.cell 1, (clone_ok (hrd.keep h48 (fun _ _ _ e => e)) (by omega)).mono fun v w9 ⟨a15, c15, hv9, ho9, hk9, hf9, _⟩ => ⟨a15, _, c15, hv9, ⟨hx8.keep hk9 (fun e => e), hb8.keep hk9 (fun e => e)⟩, ?_⟩⟩
    intro w10
    have hk10 : Kept No w9 w10 := Kept.alloc _ w9 _
    have hb10 : Blk w10 w9.heap.size #[.slice a15 e.2.1 c15, .int .i64 rs[i].2] := Blk.alloc w9 _ _
    have hs10 : w10.heap.size = w9.heap.size + 1 := by simp [w10]
    clear_value w10
    have hs9 := hk9.size
    have h410 := (h48.no hk9).no hk10
    have hx10 := hb4.keep h410 (fun e => e)
    refine ⟨⟨hx10, (hb8.keep hk9 (fun e => e)).keep hk10 (fun e => e)⟩, ?_⟩
    rw [hrl] at ho9
    have ho10 := ho9.keep hk10 (fun _ _ e => e)
    have hy : RdS 2 w10 (some ⟨w9.heap.size, 0, none⟩) 1 1 (ansC [((a15, e.2.1, c15), rs[i].2)]) := (SlO.of_blk (sz := 2) (n := 1) hb10 (by simp)).rd
    obtain ⟨a17, c17, w11, hrun, hs11, hk11, hat, hnn⟩ := run_app_sl (P := Tryz.prog) (t := 233) (t2 := 233) (ty := 233) (by kernel_rfl : slTyB Tryz.prog 233 2 32 = true) (by kernel_rfl) (hs4.keep h410 (fun _ _ e => e)) hy (ansC_one _) (by omega) (by omega)
    rw [← ansC_app] at hs11
    have arlt : ∀ x, inA ar x → x < g := fun x hx => by have := SlO.lt hs4 x hx; omega
    have hx11 := hx10.keep hk11 (fun e => (hr4 _ e).2.1 rfl)
    have hs11' := hk11.size
    refine ⟨a17, i + 1, c17, w11, hrun, stC_blk hx11 (by simp) fun w12 hb12 hk12 hs12 => ⟨by unfold inI; omega, ⟨i + 1, by simp, by omega, ?_, a17, c17, es ++ [((a15, e.2.1, c15), rs[i].2)], by simpa using hb12, ?_, ?_, ?_, ?_, ?_⟩, by simp only [ix]; omega⟩⟩
    · exact ((h04.no h410).fresh hk11 (fun x hx => (hr4 x hx).1)).fresh hk12 (by intro x e; omega)
    · refine hs11.keep hk12 (fun x hx e => ?_)
      rcases hat.in hx with e' | e'
      · exact (hr4 x e').2.1 e
      · omega
    · have hT : rs.take (i + 1) = rs.take i ++ [rs[i]] := by rw [List.take_add_one, List.getElem?_eq_getElem hil]; rfl
      rw [hT]
      have hnew : ∀ x, (w.heap.size ≤ x ∧ x ≠ xb ∧ ¬ inA ar x ∧ x < g) ∨ (g < x ∧ x < w9.heap.size) → w.heap.size ≤ x ∧ x ≠ xb ∧ ¬ inA a17 x ∧ x < w12.heap.size := by
        rintro x (⟨k1, k2, k3, k4⟩ | ⟨k1, k2⟩)
        · refine ⟨k1, k2, fun e' => ?_, by omega⟩
          rcases hat.in e' with e' | e'
          · exact k3 e'
          · omega
        · refine ⟨by omega, by omega, fun e' => ?_, by omega⟩
          rcases hat.in e' with e' | e'
          · have := arlt x e'; omega
          · omega
      have hkeep : ∀ x, (w.heap.size ≤ x ∧ x ≠ xb ∧ ¬ inA ar x ∧ x < g) ∨ (g < x ∧ x < w9.heap.size) → ¬ inA ar x ∧ x ≠ xb := by
        rintro x (⟨k1, k2, k3, k4⟩ | ⟨k1, k2⟩)
        · exact ⟨k3, k2⟩
        · exact ⟨fun e' => by have := arlt x e'; omega, by omega⟩
      have hA := (((ha4.mono (R' := fun x => (w.heap.size ≤ x ∧ x ≠ xb ∧ ¬ inA ar x ∧ x < g) ∨ (g < x ∧ x < w9.heap.size)) (fun x hx => .inl hx)).keep h410 (fun _ _ e => e)).keep hk11 (fun x hx => (hkeep x hx).1)).keep hk12 (fun x hx => (hkeep x hx).2)
      have hin15 : ∀ x, inA a15 x → g < x ∧ x < w9.heap.size := fun x hx => ⟨by have := hf9 x hx; omega, SlO.lt ho9 x hx⟩
      refine AnsR.mono (AnsR.snoc hA ?_ rfl (fun _ x hx => .inr (hin15 x hx))) hnew
      exact (OB.rd ((ho10.keep hk11 (fun x hx => (hkeep x (.inr (hin15 x hx))).1)).keep hk12 (fun x hx e' => (hkeep x (.inr (hin15 x hx))).2 e')))
    · exact ((hw4.keep h410 (fun _ _ _ e => e)).keep hk11 (fun x _ hx e' => (hr4 x e').2.2 hx)).keep hk12 (fun x _ hx e' => by have := hfw x hx; omega)
    · intro x hx
      rcases hat.in hx with e' | e'
      · exact hr4 x e'
      · refine ⟨by omega, by omega, fun e'' => by have := hfw x e''; omega⟩
    · intro r hr
      rw [List.take_add_one, List.getElem?_eq_getElem hil, List.mem_append] at hr
      rcases hr with hr | hr
      · exact hl4 r hr
      · have : r = rs[i] := by simpa using hr
        subst this; omega
  · have hil : i = l := by omega
    subst hil
    rw [List.take_of_length_le (by omega)] at ha4 hl4
    have e : newCE rs ws = 0 := by
      unfold newCE
      rw [if_neg (by omega), if_pos]
      rw [List.all_eq_true]
      intro r hr
      simpa using hl4 r hr
    refine .inr ⟨e, xb, fun x => w.heap.size ≤ x ∧ x < w4.heap.size, rfl, ⟨ar, i, cr, aw, l2, cw, none, 0, 0, es, hb4, hs4, ha4.mono fun x hx => ⟨⟨hx.1, hx.2.2.2⟩, hx.2.1, hx.2.2.1, inA_none x⟩, hw4, OB.nil w4, ⟨by omega, hx4⟩, fun x hx => hx.2, fun x hx => ⟨⟨(hr4 x hx).1, SlO.lt hs4 x hx⟩, (hr4 x hx).2.1⟩,
      fun x hx => ⟨⟨(hfw x hx).1, by have := hfw x hx; omega⟩, by have := hfw x hx; omega, fun e' => (hr4 x e').2.2 hx, inA_none x⟩, fun x hx => absurd hx (inA_none x), hl4⟩, h04, fun x hx => hx.1⟩
end Go.Proofs.YtpoaacnnhgebfaaGreat
namespace Go.Proofs.YtpoaacnnhgebfaaGreat
open Go.Lw
def readC (n : Int) (rs : List (List Int × Int)) : List Int × Int × List (List Int × Int) :=
  if n < 0 ∨ n > 1048576 then ([], 4, rs) else if n = 0 then ([], 0, rs) else
    match rs with
    | [] => ([], 0, [])
    | r :: t => if r.2 ≠ 0 then ([], r.2, t) else (r.1.take n.toNat, 0, if (r.1.length : Int) ≤ n then t else (r.1.drop n.toNat, 0) :: t)
theorem cread_ok {F : Nat → Prop} {w : World} {b : Nat} {rs : List (List Int × Int)} {ws tk : List Int} (h : CuO F w b rs ws tk) (hz : ∀ r t, rs = r :: t → r.2 = 0) (n : Int) :
    CallR Tryz.prog 145 [pt b, .int .i64 n] w fun v w' => ∃ a l c, v = .tuple #[.slice a l c, .int .i64 (readC n rs).2.1] ∧ OB w' a l c (readC n rs).1 ∧ Fresh w a ∧ CuO F w' b (readC n rs).2.2 ws tk ∧ Kept F w w' := by
  have hC := h
  refine C145 ?_
  unfold L145
  intro w1
  have hk1 : Kept No w w1 := Kept.alloc _ w _
  have hx1 : Blk w1 w.heap.size #[pt b] := Blk.alloc w _ _
  have hs1 : w1.heap.size = w.heap.size + 1 := by simp [w1]
  clear_value w1
  generalize hg : w.heap.size = g at *
  have hC1 := hC.keep hk1 (fun _ _ e => e)
  obtain ⟨ar, lr, cr, aw, lw, cw, ak, lk, ck, es, hb, h1, h2, h3, h4, h5, h6, h7, h8, h9, h10⟩ := hC1
  have hbg : b < g := by obtain ⟨_, _, _, _, _, _, _, _, _, _, hb', _⟩ := hC; have := hb'.lt; omega
  have hFg : ∀ x, F x → x < g := by
    obtain ⟨_, _, _, _, _, _, _, _, _, _, _, _, _, _, _, _, h6', _⟩ := hC
    intro x hx; have := h6' x hx; omega
  have hbad : ∀ {k : Int}, readC n rs = ([], k, rs) → ∃ a l c, Value.tuple #[.slice none 0 0, .int .i64 k] = .tuple #[.slice a l c, .int .i64 (readC n rs).2.1] ∧ OB w1 a l c (readC n rs).1 ∧ Fresh w a ∧ CuO F w1 b (readC n rs).2.2 ws tk ∧ Kept F w w1 := by
    intro k e; rw [e]; exact ⟨none, 0, 0, rfl, OB.nil _, Fresh.none _, hC.keep hk1 (fun _ _ e => e), hk1.mono fun _ _ e => e.elim⟩
  have hlr : rs.length = lr := by
    have := h1.1
    rw [ansC_len] at this
    have := h2.1; omega
  refine ⟨_, hx1.cell 0, condF rfl ⟨_, hx1.cell 0, nnI ⟨true, hb.at0 rfl, condF rfl (condP (fun g1 => hbad ?_) fun g1 => condP (fun g2 => hbad ?_) fun g2 => condI (fun g3 => hbad ?_) (fun g3 => ⟨_, hx1.cell 0, nnI ⟨ar, lr, cr, hb.at (i := 1) rfl, condI (fun g4 => hbad ?_) (fun g4 => ?_)⟩⟩))⟩⟩⟩
  · unfold readC; rw [if_pos (by omega)]
  · unfold readC; rw [if_pos (by omega)]
  · simp only [beq_iff_eq] at g3
    unfold readC; rw [if_neg (by omega), if_pos g3]
  all_goals simp only [beq_eq_false_iff_ne] at g3
  · simp only [beq_iff_eq] at g4
    have : rs = [] := List.eq_nil_of_length_eq_zero (by omega)
    subst this
    unfold readC; rw [if_neg (by omega), if_neg g3]
  simp only [beq_eq_false_iff_ne] at g4
  obtain ⟨r, t, rfl⟩ : ∃ r t, rs = r :: t := by
    cases rs with
    | nil => simp at hlr; omega
    | cons r t => exact ⟨r, t, rfl⟩
  obtain ⟨e, es', rfl⟩ : ∃ e t, es = e :: t := by
    cases es with
    | nil => have := h2.1; simp at this
    | cons e t => exact ⟨e, t, rfl⟩
  have hr0 := hz r t rfl
  obtain ⟨k1, k2, k3⟩ := h2.2 0 e r rfl rfl
  have har : ∃ q, ar = some q := by
    cases ar with
    | none => have := (RdS.isNone h1.rd rfl).1; omega
    | some q => exact ⟨q, rfl⟩
  obtain ⟨q, rfl⟩ := har
  have hc0 : w1.cell? (q.add (Int.toNat 0 * 2)) = some (slv e.1) := h1.rd.2.2.2 q rfl 0 _ (by simp [ansC])
  have hc1 : w1.cell? ((q.add (Int.toNat 0 * 2)).add 1) = some (.int .i64 e.2) := by
    rw [Lw.add_add]; exact h1.rd.2.2.2 q rfl 1 _ (by simp [ansC])
  refine ⟨_, hx1.cell 0, nnI ⟨some q, lr, cr, hb.at (i := 1) rfl, ⟨by omega, by omega⟩, nnI ⟨e.2, hc1, condF (by rw [k2, hr0]; rfl) ?_⟩⟩⟩
  intro w2
  have hk2 : Kept No w1 w2 := Kept.drew No w1
  have hs2 : w2.heap.size = w1.heap.size := rfl
  clear_value w2
  have hrl := k1.len
  have hlc : e.1.2.1 ≤ e.1.2.2 := k1.2.1
  have hmn : mn n (e.1.2.1 : Int) = ((min n.toNat e.1.2.1 : Nat) : Int) := by rw [mn_eq]; omega
  have he : readC n (r :: t) = (r.1.take n.toNat, 0, if (r.1.length : Int) ≤ n then t else (r.1.drop n.toNat, 0) :: t) := by
    unfold readC; rw [if_neg (by omega), if_neg g3]; simp only [hr0]; rfl
  rw [he]
  obtain ⟨m, hm⟩ : ∃ m, min n.toNat e.1.2.1 = m := ⟨_, rfl⟩
  rw [hm] at hmn
  have e1 : r.1.take n.toNat = r.1.take m := by rw [List.take_eq_take_iff]; omega
  have hpc : RdB w2 e.1.1 m e.1.2.2 (r.1.take m) := (k1.keep hk2 (fun _ _ _ e => e)).to m (by omega)
  have hc02 : w2.cell? (q.add (Int.toNat 0 * 2)) = some (slv e.1) := hk2.cell hc0 (fun e => e)
  have hll := h10 r (by simp)
  have hml : (r.1.take m).length = m := by rw [List.length_take]; omega
  refine ⟨e.1.1, e.1.2.1, e.1.2.2, hc02, e.1.1, e.1.2.1, e.1.2.2, hc02, by rw [hmn]; exact ⟨by omega, by omega⟩, ?_⟩
  rw [hmn, Int.toNat_natCast]
  refine (clone_ok hpc (by omega)).mono fun v w3 ⟨a17, c17, hv3, ho3, hk3, hf3, _⟩ => ⟨a17, m, c17, hv3, ?_⟩
  rw [hml] at ho3
  have hk13 := hk2.no hk3
  have hs3 := hk3.size
  have hc03 : w3.cell? (q.add (Int.toNat 0 * 2)) = some (slv e.1) := hk3.cell hc02 (fun e => e)
  refine ⟨e.1.1, e.1.2.1, e.1.2.2, hc03, ⟨by omega, by omega⟩, ?_⟩
  rw [Int.toNat_natCast]
  have hq0 : q.add (Int.toNat 0 * 2) = q.add 0 := rfl
  rw [hq0] at *
  refine stC_sloN (h1.keep hk13 (fun _ _ e => e)) rfl (by omega) fun w4 hs4 hk4 hsz4 => ?_
  rw [show Value.slice (adv e.1.1 m e.1.2.2 1) (e.1.2.1 - m) (e.1.2.2 - m) = slv (adv e.1.1 m e.1.2.2 1, e.1.2.1 - m, e.1.2.2 - m) from rfl, ansC_set] at hs4
  have hne : ∀ x, inA (some q) x → x ≠ g := fun x hx e => by have := hFg x (h7 x hx).1; omega
  have hx4 := (hx1.keep hk13 (fun e => e)).keep hk4 (fun e => hne _ e rfl)
  have hb4 := (hb.keep hk13 (fun e => e)).keep hk4 (fun e => (h7 _ e).2 rfl)
  have ho4 := ho3.keep hk4 (fun x hx e => by have := hf3 x hx; have := hFg x (h7 x e).1; omega)
  have hC4 : CuO F w4 b ((r.1.drop m, 0) :: t) ws tk := by
    refine ⟨some q, lr, cr, aw, lw, cw, ak, lk, ck, _, hb4, hs4, ?_, ?_, ?_, h5, fun x hx => by have := hFg x hx; omega, h7, h8, h9, ?_⟩
    · refine AnsR.cons (((AnsR.tail h2).keep hk13 (fun _ _ e => e)).keep hk4 (fun x hx => hx.2.2.1)) ?_ (by rw [k2, hr0]) ?_
      · refine RdB.keep0 ((k1.keep hk13 (fun _ _ _ e => e)).from m (by omega)) hk4 (fun hne' x hx e' => ?_)
        have : r.1 ≠ [] := by rintro h0; rw [h0] at hne'; simp at hne'
        exact (k3 this x (inA_adv.1 hx)).2.2.1 e'
      · intro hne' x hx
        have : r.1 ≠ [] := by rintro h0; rw [h0] at hne'; simp at hne'
        exact k3 this x (inA_adv.1 hx)
    · exact (h3.keep hk13 (fun _ _ _ e => e)).keep hk4 (fun x _ hx => (h8 x hx).2.2.1)
    · exact (h4.keep hk13 (fun _ _ e => e)).keep hk4 (fun x hx => (h9 x hx).2.2)
    · intro y hy
      rcases List.mem_cons.1 hy with rfl | hy
      · simp only [List.length_drop]; omega
      · exact h10 y (by simp [hy])
  have hk04 : Kept F w w4 := ((hk1.no hk13).mono fun _ _ e => e.elim).trans hk4 fun x _ hx => (h7 x hx).1
  have hc04 : w4.cell? (q.add 0) = some (.slice (adv e.1.1 m e.1.2.2 1) (e.1.2.1 - m) (e.1.2.2 - m)) := hs4.rd.2.2.2 q rfl 0 _ (by simp [ansC, slv])
  refine ⟨_, _, _, hc04, condI (fun g5 => ?_) (fun g5 => ?_)⟩
  · simp only [beq_iff_eq] at g5
    intro w5
    have hk5 : Kept No w4 w5 := Kept.drew No w4
    have hs5 : w5.heap.size = w4.heap.size := rfl
    clear_value w5
    have hx5 := hx4.keep hk5 (fun e => e)
    have hb5 := hb4.keep hk5 (fun e => e)
    obtain ⟨_, _, _, _, _, _, _, _, _, es4, hbx, q1, q2, q3, q4, q5, q6, q7, q8, q9, q10⟩ := hC4.keep hk5 (fun _ _ e => e)
    have huq := hbx.uniq hb5
    simp only [Array.mk.injEq, List.cons.injEq, Value.slice.injEq, and_true, true_and] at huq
    obtain ⟨⟨rfl, rfl, rfl⟩, ⟨rfl, rfl, rfl⟩, rfl, rfl, rfl⟩ := huq
    refine ⟨_, hx5.cell 0, _, hx5.cell 0, nnI ⟨_, _, _, hb5.at (i := 1) rfl, ⟨by omega, by omega⟩, nnI (stC_at hb5 (by simp) fun w6 hb6 hk6 hs6 => ⟨a17, m, c17, rfl, ?_, ?_, ?_, ?_⟩)⟩⟩
    · rw [e1]; exact (ho4.keep hk5 (fun _ _ e => e)).keep hk6 (fun x hx e => by have := hf3 x hx; omega)
    · intro x hx; have := hf3 x hx; omega
    · rw [if_pos (by omega)]
      obtain ⟨e', es'', rfl⟩ : ∃ e t, es4 = e :: t := by
        cases es4 with
        | nil => have := q2.1; simp at this
        | cons e t => exact ⟨e, t, rfl⟩
      have hfr := SlO.from q1 1 (by omega)
      rw [← ansC_drop] at hfr
      refine ⟨_, _, _, _, _, _, _, _, _, es'', by simpa using hb6, hfr.keep hk6 (fun x hx e => (q7 x (inA_adv.1 hx)).2 e), ?_, q3.keep hk6 (fun x _ hx e => (q8 x hx).2.1 e), q4.keep hk6 (fun x hx e => (q9 x hx).2.1 e), q5, fun x hx => by have := q6 x hx; omega, fun x hx => q7 x (inA_adv.1 hx), fun x hx => ⟨(q8 x hx).1, (q8 x hx).2.1, fun e => (q8 x hx).2.2.1 (inA_adv.1 e), (q8 x hx).2.2.2⟩,
        fun x hx => ⟨(q9 x hx).1, (q9 x hx).2.1, fun e => (q9 x hx).2.2 (inA_adv.1 e)⟩, fun y hy => q10 y (by simp [hy])⟩
      exact ((AnsR.tail q2).mono (fun x hx => ⟨hx.1, hx.2.1, fun e => hx.2.2.1 (inA_adv.1 e), hx.2.2.2⟩)).keep hk6 (fun x hx e => hx.2.1 e)
    · exact (hk04.trans hk5 fun _ _ e => e.elim).trans hk6 fun x _ e => e ▸ h5
  · simp only [beq_eq_false_iff_ne] at g5
    refine ⟨a17, m, c17, rfl, by rw [e1]; exact ho4, fun x hx => by have := hf3 x hx; omega, ?_, hk04⟩
    rw [if_neg (by omega)]
    have : m = n.toNat := by omega
    rw [← this]; exact hC4
def writeC (ds ws tk : List Int) : Int × Int × List Int × List Int :=
  if ds.length > 1048576 then (0, 5, ws, tk) else if ds = [] then (0, 0, ws, tk) else
    if (ws.headD ds.length) = -1 then (0, 101, ws.tail, tk) else ((min (ws.headD ds.length) ds.length), 0, ws.tail, tk ++ ds.take (min (ws.headD ds.length) ds.length).toNat)
theorem cwrite_ok {F : Nat → Prop} {w : World} {b : Nat} {rs : List (List Int × Int)} {ws tk : List Int} (h : CuO F w b rs ws tk) {a2 : Option Addr} {l2 c2 : Nat} {ds : List Int} (hd : RdB w a2 l2 c2 ds) (hap : ds ≠ [] → ∀ k, inA a2 k → ¬ F k)
    (hw : ∀ n ∈ ws, -1 ≤ n) (hlk : tk.length ≤ 70368744177664) :
    CallR Tryz.prog 146 [pt b, .slice a2 l2 c2] w fun v w' => v = .tuple #[.int .i64 (writeC ds ws tk).1, .int .i64 (writeC ds ws tk).2.1] ∧ ∃ F', CuO F' w' b rs (writeC ds ws tk).2.2.1 (writeC ds ws tk).2.2.2 ∧ Grew F w F' ∧ Kept F w w' := by
  have hC := h
  obtain ⟨ar, lr, cr, aw, lw, cw, ak, lk, ck, es, hb, h1, h2, h3, h4, h5, h6, h7, h8, h9, h10⟩ := hC
  refine C146 ?_
  unfold L146
  have hbad : ∀ {k : Int}, writeC ds ws tk = (0, k, ws, tk) → Value.tuple #[.int .i64 0, .int .i64 k] = .tuple #[.int .i64 (writeC ds ws tk).1, .int .i64 (writeC ds ws tk).2.1] ∧ ∃ F', CuO F' w b rs (writeC ds ws tk).2.2.1 (writeC ds ws tk).2.2.2 ∧ Grew F w F' ∧ Kept F w w := by
    intro k e; rw [e]; exact ⟨rfl, F, h, .same, Kept.refl _ _⟩
  have hlen2 := hd.len
  have hlc2 : l2 ≤ c2 := hd.2.1
  have hlw : ws.length = lw := by have := h3.1; simpa using this
  have hlkk := h4.len
  refine condF rfl (nnI ⟨true, hb.at0 rfl, condF rfl (condP (fun g => hbad ?_) fun g => condI (fun g2 => hbad ?_) fun g2 => ?_)⟩)
  · unfold writeC; rw [if_pos (by omega)]
  · simp only [beq_iff_eq] at g2
    have : ds = [] := List.eq_nil_of_length_eq_zero (by omega)
    unfold writeC; rw [if_neg (by omega), if_pos this]
  simp only [beq_eq_false_iff_ne] at g2
  have hne : ds ≠ [] := by rintro rfl; simp at hlen2; omega
  refine ⟨fun vs w' => vs = [.int .i64 (ws.headD l2)] ∧ CuO F w' b rs ws.tail tk ∧ Kept F w w' ∧ w'.heap.size = w.heap.size, nnI ⟨aw, lw, cw, hb.at (i := 2) rfl, condP (fun g3 => ?_) (fun g3 => ?_)⟩, ?_⟩
  · intro w1
    have hk1 : Kept No w w1 := Kept.drew No w
    have hs1 : w1.heap.size = w.heap.size := rfl
    clear_value w1
    obtain ⟨x, ws', rfl⟩ : ∃ x t, ws = x :: t := by
      cases ws with
      | nil => simp at hlw; omega
      | cons x t => exact ⟨x, t, rfl⟩
    obtain ⟨q, rfl⟩ : ∃ q, aw = some q := by
      cases aw with
      | none => have := (RdS.isNone h3 rfl).1; omega
      | some q => exact ⟨q, rfl⟩
    have hb1 := hb.keep hk1 (fun e => e)
    have h31 := h3.keep hk1 (fun _ _ _ e => e)
    refine nnI ⟨some q, lw, cw, hb1.at (i := 2) rfl, ⟨by omega, by omega⟩, nnI ⟨x, h31.2.2.2 q rfl 0 _ (by simp [In]), nnI ⟨some q, lw, cw, hb1.at (i := 2) rfl, ⟨by omega, by omega⟩, nnI (stC_at hb1 (by simp) fun w2 hb2 hk2 hs2 => ⟨rfl, ?_, (hk1.mono fun _ _ e => e.elim).trans hk2 fun y _ e => e ▸ h5, by omega⟩)⟩⟩⟩
    have hfr := RdS.from h31 1 (by omega)
    refine ⟨ar, lr, cr, _, _, _, ak, lk, ck, es, by simpa using hb2, (h1.keep hk1 (fun _ _ e => e)).keep hk2 (fun x hx e => (h7 x hx).2 e), (h2.keep hk1 (fun _ _ e => e)).keep hk2 (fun x hx e => hx.2.1 e), ?_, (h4.keep hk1 (fun _ _ e => e)).keep hk2 (fun x hx e => (h9 x hx).2.1 e), h5,
      fun y hy => by have := h6 y hy; omega, h7, fun y hy => h8 y (inA_adv.1 hy), h9, h10⟩
    exact hfr.keep hk2 (fun y _ hy e => (h8 y (inA_adv.1 hy)).2.1 e)
  · have : ws = [] := List.eq_nil_of_length_eq_zero (by omega)
    subst this
    exact ⟨rfl, h, Kept.refl _ _, rfl⟩
  · rintro _ n15 w3 ⟨hvs, hC3, hk3, hs3⟩
    simp only [List.cons.injEq, Value.int.injEq, true_and, and_true] at hvs
    subst hvs
    have hge : -1 ≤ ws.headD l2 := by
      cases ws with
      | nil => simp only [List.headD_nil]; omega
      | cons x t => exact hw x (by simp)
    subst hlen2
    have e0 : ws.headD ↑ds.length = -1 → writeC ds ws tk = (0, 101, ws.tail, tk) := fun e => by unfold writeC; rw [if_neg (by omega), if_neg hne, if_pos e]
    have e1 : ws.headD ↑ds.length ≠ -1 → writeC ds ws tk = ((min (ws.headD ds.length) ds.length), 0, ws.tail, tk ++ ds.take (min (ws.headD ds.length) ds.length).toNat) := fun e => by unfold writeC; rw [if_neg (by omega), if_neg hne, if_neg e]
    refine condI (fun g4 => ?_) (fun g4 => condP (fun g5 => ?_) (fun g5 => ?_))
    · simp only [beq_iff_eq] at g4
      rw [e0 g4]
      exact ⟨rfl, F, hC3, .same, hk3⟩
    · simp only [beq_eq_false_iff_ne] at g4
      omega
    · simp only [beq_eq_false_iff_ne] at g4
      rw [e1 g4]
      intro w4
      have hk4 : Kept No w3 w4 := Kept.drew No w3
      have hs4 : w4.heap.size = w3.heap.size := rfl
      clear_value w4
      have h04 : Kept F w w4 := hk3.trans hk4 fun _ _ e => e.elim
      obtain ⟨ar, lr, cr, aw, lw, cw, ak, lk, ck, es, hb, h1, h2, h3, h4, h5, h6, h7, h8, h9, h10⟩ := hC3.keep hk4 (fun _ _ e => e)
      have hlkk := h4.len
      obtain ⟨m, hm⟩ : ∃ m : Nat, mn (ws.headD ds.length) (ds.length : Int) = (m : Int) := ⟨(mn (ws.headD ds.length) (ds.length : Int)).toNat, by rw [mn_eq]; omega⟩
      have hm' : min (ws.headD ds.length) (ds.length : Int) = (m : Int) := by rw [← mn_eq]; exact hm
      rw [hm, hm', Int.toNat_natCast]
      have hml : m ≤ ds.length := by omega
      have hd4 := (hd.keep h04 (fun x _ hx hf => hap hne x hx hf)).to m (by omega)
      obtain ⟨a18, c18, w5, hrun, hs5, hk5, hat, hnn⟩ := run_app_sl (P := Tryz.prog) (t := 40) (t2 := 40) (ty := 40) (by kernel_rfl : slTyB Tryz.prog 40 1 1 = true) (by kernel_rfl) h4 hd4 (By_one _) (by omega) (by omega)
      rw [← By_append] at hs5
      have hb5 := hb.keep hk5 (fun e => (h9 _ e).2.1 rfl)
      have hsz5 := hk5.size
      refine nnI ⟨ak, lk, ck, hb.at (i := 3) rfl, ⟨by omega, by omega⟩, a18, lk + m, c18, w5, hrun, nnI (stC_at hb5 (by simp) fun w6 hb6 hk6 hs6 => ⟨rfl, fun x => F x ∨ inA a18 x, ?_, ?_, ?_⟩)⟩
      · have hin : ∀ x, inA a18 x → (inA ak x ∨ x = w4.heap.size) := fun x hx => hat.in hx
        have hbx := hb.lt
        refine ⟨ar, lr, cr, aw, lw, cw, a18, _, c18, es, by simpa using hb6, (h1.keep hk5 (fun x hx e => (h9 x e).2.2 hx)).keep hk6 (fun x hx e => (h7 x hx).2 e), ?_, (h3.keep hk5 (fun x _ hx e => (h8 x hx).2.2.2 e)).keep hk6 (fun x _ hx e => (h8 x hx).2.1 e), ?_, .inl h5, ?_, fun x hx => ⟨.inl (h7 x hx).1, (h7 x hx).2⟩, ?_, ?_, h10⟩
        · refine ((h2.mono (R' := fun x => F x ∧ x ≠ b ∧ ¬ inA ar x ∧ ¬ inA ak x) fun x hx => hx).keep hk5 (fun x hx => hx.2.2.2)).keep hk6 (fun x hx e => hx.2.1 e) |>.mono fun x hx => ⟨.inl hx.1, hx.2.1, hx.2.2.1, fun e => ?_⟩
          rcases hin x e with e | e
          · exact hx.2.2.2 e
          · have := h6 x hx.1; omega
        · refine OB.keep hs5 hk6 (fun x hx e => ?_)
          rcases hin x hx with e' | e'
          · exact (h9 x e').2.1 e
          · omega
        · rintro x (hx | hx)
          · have := h6 x hx; omega
          · have := SlO.lt hs5 x hx; omega
        · intro x hx
          refine ⟨.inl (h8 x hx).1, (h8 x hx).2.1, (h8 x hx).2.2.1, fun e => ?_⟩
          rcases hin x e with e | e
          · exact (h8 x hx).2.2.2 e
          · have := h6 x (h8 x hx).1; omega
        · intro x hx
          rcases hin x hx with e | e
          · exact ⟨.inr hx, (h9 x e).2.1, (h9 x e).2.2⟩
          · refine ⟨.inr hx, by omega, fun e' => ?_⟩
            have := h6 x (h7 x e').1; omega
      · rintro x (hx | hx)
        · exact .inl hx
        · rcases hat.in hx with e | e
          · exact .inl (h9 x e).1
          · right; omega
      · exact (h04.trans hk5 fun x _ hx => (h9 x hx).1).trans hk6 fun x _ e => e ▸ h5
theorem ctaken_ok {F : Nat → Prop} {w : World} {b : Nat} {rs : List (List Int × Int)} {ws tk : List Int} (h : CuO F w b rs ws tk) (hlk : tk.length ≤ 140737488355328) :
    CallR Tryz.prog 154 [pt b] w fun v w' => ∃ a c, v = .slice a tk.length c ∧ OB w' a tk.length c tk ∧ Fresh w a ∧ Kept No w w' := by
  obtain ⟨ar, lr, cr, aw, lw, cw, ak, lk, ck, es, hb, h1, h2, h3, h4, h5, h6, h7, h8, h9, h10⟩ := h
  have hlen := h4.len
  refine C154 ?_
  unfold L154
  refine condF rfl (nnI ⟨ak, lk, ck, hb.at (i := 3) rfl, (clone_ok h4.rd (by omega)).mono fun v w' ⟨a', c', hv, ho', hk, hf, _⟩ => ⟨a', lk, c', hv, a', c', by rw [hlen], ho', hf, hk⟩⟩)
end Go.Proofs.YtpoaacnnhgebfaaGreat
set_option maxRecDepth 100000
namespace Go.Proofs.YtpoaacnnhgebfaaGreat
open Go.Lw
def A44 : Ann := ⟨[], [], [], [], [], []⟩
def L44 (n1 : Int) (Q : Value → World → Prop) (w : World) : Prop :=
  Q (.int .i64 n1) w
theorem C44 {n1 : Int} {Q : Value → World → Prop} {w : World} (h : L44 n1 Q w) : CallR Tryz.prog 44 [.int .i64 n1] w Q :=
  fun_calls (A := A44) mixed Tryz.func44 (c := (Tryz.f44.body).getD .skip) rfl (by kernel_rfl) (Eq.mp (by kernel_rfl) h)
def A42 : Ann := ⟨[], [], [], [], [], []⟩
def L42 (Q : Value → World → Prop) (w : World) : Prop :=
  CallR Tryz.prog 133 [.int .i64 3, .slice none 0 0] w (fun (r3 : Value) (w1 : World) =>
  ∃ (p1 : Option Addr) (n2 : Int), r3 = .tuple #[.pointer p1, .int .i64 n2] ∧
  let w2 := World.alloc w1 (Obj.cells #[.int .u8 97, .int .u8 98] 5);
  ∃ (a4 : Option Addr) (l4 : Nat) (c4 : Nat) (w3 : World), Sem.run Tryz.prog (convert 40 40 (.slice (some (Addr.mk w1.heap.size 0 none)) 2 2)) w2 = .ok ((.slice a4 l4 c4 : Value)) w3 ∧
  let w4 := World.alloc w3 (Obj.cells #[.slice a4 l4 c4, .int .i64 0] 237);
  let w5 := World.alloc w4 (Obj.cells #[.int .i64 1, .int .i64 ((-1))] 3);
  CallR Tryz.prog 139 [.slice (some (Addr.mk w3.heap.size 0 none)) 1 1, .slice (some (Addr.mk w4.heap.size 0 none)) 2 2] w5 (fun (r7 : Value) (w6 : World) =>
  ∃ (p5 : Option Addr) (n6 : Int), r7 = .tuple #[.pointer p5, .int .i64 n6] ∧
  CallR Tryz.prog 44 [.int .i64 n2] w6 (fun (r9 : Value) (w7 : World) =>
  ∃ (n8 : Int), r9 = .int .i64 n8 ∧
  CallR Tryz.prog 44 [.int .i64 n6] w7 (fun (r11 : Value) (w8 : World) =>
  ∃ (n10 : Int), r11 = .int .i64 n10 ∧
  inI (n8 + n10) ∧
  cond ((n8 + n10) != 0)
  (Q (.bool false) w8)
  (cond (Option.isNone p1)
  (Q (.bool false) w8)
  (cond (Option.isNone p5)
  (Q (.bool false) w8)
  (let w9 := World.alloc w8 (Obj.cells #[.int .u8 97, .int .u8 98, .int .u8 99, .int .u8 100] 5);
  ∃ (a12 : Option Addr) (l12 : Nat) (c12 : Nat) (w10 : World), Sem.run Tryz.prog (convert 40 40 (.slice (some (Addr.mk w8.heap.size 0 none)) 4 4)) w9 = .ok ((.slice a12 l12 c12 : Value)) w10 ∧
  CallR Tryz.prog 142 [.pointer p1, .slice a12 l12 c12] w10 (fun (r15 : Value) (w11 : World) =>
  ∃ (n13 : Int) (n14 : Int), r15 = .tuple #[.int .i64 n13, .int .i64 n14] ∧
  let w12 := World.alloc w11 (Obj.cells #[.int .u8 101] 5);
  ∃ (a16 : Option Addr) (l16 : Nat) (c16 : Nat) (w13 : World), Sem.run Tryz.prog (convert 40 40 (.slice (some (Addr.mk w11.heap.size 0 none)) 1 1)) w12 = .ok ((.slice a16 l16 c16 : Value)) w13 ∧
  CallR Tryz.prog 142 [.pointer p1, .slice a16 l16 c16] w13 (fun (r19 : Value) (w14 : World) =>
  ∃ (n17 : Int) (n18 : Int), r19 = .tuple #[.int .i64 n17, .int .i64 n18] ∧
  CallR Tryz.prog 143 [.pointer p1, .int .i64 1, .int .i64 0] w14 (fun (r22 : Value) (w15 : World) =>
  ∃ (n20 : Int) (n21 : Int), r22 = .tuple #[.int .i64 n20, .int .i64 n21] ∧
  CallR Tryz.prog 144 [.pointer p1, .int .i64 9] w15 (fun (r25 : Value) (w16 : World) =>
  ∃ (a23 : Option Addr) (l23 : Nat) (c23 : Nat) (n24 : Int), r25 = .tuple #[.slice a23 l23 c23, .int .i64 n24] ∧
  CallR Tryz.prog 145 [.pointer p5, .int .i64 1] w16 (fun (r28 : Value) (w17 : World) =>
  ∃ (a26 : Option Addr) (l26 : Nat) (c26 : Nat) (n27 : Int), r28 = .tuple #[.slice a26 l26 c26, .int .i64 n27] ∧
  let w18 := World.alloc w17 (Obj.cells #[.int .u8 120, .int .u8 121, .int .u8 122] 5);
  ∃ (a29 : Option Addr) (l29 : Nat) (c29 : Nat) (w19 : World), Sem.run Tryz.prog (convert 40 40 (.slice (some (Addr.mk w17.heap.size 0 none)) 3 3)) w18 = .ok ((.slice a29 l29 c29 : Value)) w19 ∧
  CallR Tryz.prog 146 [.pointer p5, .slice a29 l29 c29] w19 (fun (r32 : Value) (w20 : World) =>
  ∃ (n30 : Int) (n31 : Int), r32 = .tuple #[.int .i64 n30, .int .i64 n31] ∧
  let w21 := World.alloc w20 (Obj.cells #[.int .u8 122] 5);
  ∃ (a33 : Option Addr) (l33 : Nat) (c33 : Nat) (w22 : World), Sem.run Tryz.prog (convert 40 40 (.slice (some (Addr.mk w20.heap.size 0 none)) 1 1)) w21 = .ok ((.slice a33 l33 c33 : Value)) w22 ∧
  CallR Tryz.prog 146 [.pointer p5, .slice a33 l33 c33] w22 (fun (r36 : Value) (w23 : World) =>
  ∃ (n34 : Int) (n35 : Int), r36 = .tuple #[.int .i64 n34, .int .i64 n35] ∧
  CallR Tryz.prog 44 [.int .i64 n14] w23 (fun (r38 : Value) (w24 : World) =>
  ∃ (n37 : Int), r38 = .int .i64 n37 ∧
  CallR Tryz.prog 44 [.int .i64 n21] w24 (fun (r40 : Value) (w25 : World) =>
  ∃ (n39 : Int), r40 = .int .i64 n39 ∧
  inI (n37 + n39) ∧
  CallR Tryz.prog 44 [.int .i64 n24] w25 (fun (r42 : Value) (w26 : World) =>
  ∃ (n41 : Int), r42 = .int .i64 n41 ∧
  inI ((n37 + n39) + n41) ∧
  CallR Tryz.prog 44 [.int .i64 n27] w26 (fun (r44 : Value) (w27 : World) =>
  ∃ (n43 : Int), r44 = .int .i64 n43 ∧
  inI (((n37 + n39) + n41) + n43) ∧
  CallR Tryz.prog 44 [.int .i64 n31] w27 (fun (r46 : Value) (w28 : World) =>
  ∃ (n45 : Int), r46 = .int .i64 n45 ∧
  inI ((((n37 + n39) + n41) + n43) + n45) ∧
  cond (((((n37 + n39) + n41) + n43) + n45) == 0)
  (cond (n13 == 3)
  (CallR Tryz.prog 44 [.int .i64 n18] w28 (fun (r48 : Value) (w29 : World) =>
  ∃ (n47 : Int), r48 = .int .i64 n47 ∧
  cond (n47 == 31)
  (cond (n20 == 1)
  (∃ (s49 : ByteArray) (w30 : World), Sem.run Tryz.prog (convert 40 9 (.slice a23 l23 c23)) w29 = .ok ((.string s49 : Value)) w30 ∧
  cond (ByteArray.toList s49 == ByteArray.toList (ByteArray.mk #[98, 99]))
  (∃ (s50 : ByteArray) (w31 : World), Sem.run Tryz.prog (convert 40 9 (.slice a26 l26 c26)) w30 = .ok ((.string s50 : Value)) w31 ∧
  cond (ByteArray.toList s50 == ByteArray.toList (ByteArray.mk #[97]))
  (cond (n30 == 1)
  (CallR Tryz.prog 44 [.int .i64 n35] w31 (fun (r52 : Value) (w32 : World) =>
  ∃ (n51 : Int), r52 = .int .i64 n51 ∧
  Q (.bool (n51 == 101)) w32))
  (Q (.bool false) w31))
  (Q (.bool false) w31))
  (Q (.bool false) w30))
  (Q (.bool false) w29))
  (Q (.bool false) w29)))
  (Q (.bool false) w28))
  (Q (.bool false) w28))))))))))))))))))))
theorem C42 {Q : Value → World → Prop} {w : World} (h : L42 Q w) : CallR Tryz.prog 42 [] w Q :=
  fun_calls (A := A42) mixed Tryz.func42 (c := (Tryz.f42.body).getD .skip) rfl (by kernel_rfl) (Eq.mp (by kernel_rfl) h)
def A140 : Ann := ⟨[(3, [(3, .one (.slice)), (4, .one (.int .i64))])], [], [], [(5, [0, 1, 2, 3, 4, 5, 6, 7, 8, 9, 10, 11, 12, 13, 14])], [], []⟩
def L140 (a1 : Option Addr) (l1 : Nat) (c1 : Nat) (Q : Value → World → Prop) (w : World) : Prop :=
  ∃ (I2 : List Value → World → Prop) (mu3 : List Value → World → Nat),
  I2 [.slice none 0 0, .int .i64 0] w ∧
  ∀ (_ : Env) (a4 : Option Addr) (l4 : Nat) (c4 : Nat) (n5 : Int) (w1 : World), I2 [.slice a4 l4 c4, .int .i64 n5] w1 →
  cond (decide (n5 < (((l1 : Nat) : Int))))
  (let w2 := World.drew w1;
  (0 ≤ (n5 : Int) ∧ (n5 : Int) < ((l1 : Nat) : Int)) ∧
  nn a1 (fun (q6 : Addr) =>
  ∃ (a7 : Option Addr) (l7 : Nat) (c7 : Nat), w2.cell? (Addr.add q6 (Int.toNat n5 * 2)) = some ((.slice a7 l7 c7 : Value)) ∧
  (0 ≤ (n5 : Int) ∧ (n5 : Int) < ((l1 : Nat) : Int)) ∧
  nn a1 (fun (q8 : Addr) =>
  ∃ (n9 : Int), w2.cell? (Addr.add (Addr.add q8 (Int.toNat n5 * 2)) 1) = some ((.int .i64 n9 : Value)) ∧
  let w3 := World.alloc w2 (Obj.cells #[.slice a7 l7 c7, .int .i64 n9] 237);
  ∃ (a10 : Option Addr) (l10 : Nat) (c10 : Nat) (w4 : World), Sem.run Tryz.prog (Builtin.append_ #[233, 233] 233 #[.slice a4 l4 c4, .slice (some (Addr.mk w2.heap.size 0 none)) 1 1]) w3 = .ok ((.slice a10 l10 c10 : Value)) w4 ∧
  inI (n5 + 1) ∧
  I2 [.slice a10 l10 c10, .int .i64 (n5 + 1)] w4 ∧ mu3 [.slice a10 l10 c10, .int .i64 (n5 + 1)] w4 < mu3 [.slice a4 l4 c4, .int .i64 n5] w1)))
  (Q (.slice a4 l4 c4) w1)
theorem C140 {a1 : Option Addr} {l1 : Nat} {c1 : Nat} {Q : Value → World → Prop} {w : World} (h : L140 a1 l1 c1 Q w) : CallR Tryz.prog 140 [.slice a1 l1 c1] w Q :=
  fun_calls (A := A140) mixed Tryz.func140 (c := (Tryz.f140.body).getD .skip) rfl (by kernel_rfl) (Eq.mp (by kernel_rfl) h)
end Go.Proofs.YtpoaacnnhgebfaaGreat
set_option maxRecDepth 512
namespace Go.Proofs.YtpoaacnnhgebfaaGreat
open Go.Lw
theorem nnum_to {w : World} {n : Int} {Q : Value → World → Prop} (h : Q (.int .i64 n) w) : CallR Tryz.prog 44 [.int .i64 n] w Q := C44 h
theorem str_is {s : ByteArray} {bs : List Int} (h : strOfNums bs = s) : (ByteArray.toList (strOfNums bs) == ByteArray.toList s) = true := by rw [h]; exact beq_self_eq_true _
theorem In_rd (w : World) (ns : List Int) (e : TypeId) : RdS 1 (w.alloc (.cells (In ns).toArray e)) (some ⟨w.heap.size, 0, none⟩) ns.length ns.length (In ns) := by
  have := (SlO.of_blk (sz := 1) (n := ns.length) (Blk.alloc w (In ns).toArray e) (by simp)).rd
  simpa using this
theorem MNew.one {w w' : World} {e : Int} {bs : List Int} {room : Nat} {v : Value} (h : MNew w e bs room v w') (he : e = 0) : ∃ b F', v = .tuple #[pt b, .int .i64 0] ∧ StO F' w' b bs room 0 ∧ Kept No w w' ∧ ∀ x, F' x → w.heap.size ≤ x := by
  rcases h with ⟨h, _⟩ | ⟨_, h⟩
  · exact absurd he h
  · exact h
theorem CNew.one {w w' : World} {e : Int} {rs : List (List Int × Int)} {ws : List Int} {v : Value} (h : CNew w e rs ws v w') (he : e = 0) : ∃ b F', v = .tuple #[pt b, .int .i64 0] ∧ CuO F' w' b rs ws [] ∧ Kept No w w' ∧ ∀ x, F' x → w.heap.size ≤ x := by
  rcases h with ⟨h, _⟩ | ⟨_, h⟩
  · exact absurd he h
  · exact h
theorem CuO.lt {F : Nat → Prop} {w : World} {b : Nat} {rs : List (List Int × Int)} {ws tk : List Int} (h : CuO F w b rs ws tk) : ∀ x, F x → x < w.heap.size := by
  obtain ⟨_, _, _, _, _, _, _, _, _, _, _, _, _, _, _, _, h6, _⟩ := h; exact h6
theorem nalive_ok {w : World} : CallR Tryz.prog 42 [] w fun v w' => v = .bool true ∧ Kept No w w' := by
  refine C42 ?_
  unfold L42
  refine (mnewF_ok 3 (RdB.nil w)).mono fun v w1 hm => ?_
  obtain ⟨b1, F1, hv1, hx1, hk1, hf1⟩ := hm.one (by decide)
  refine ⟨_, _, hv1, ?_⟩
  intro w2
  obtain ⟨w3, hr3, hrd3, hk3, hz3⟩ := run_const (P := Tryz.prog) w1 (t := 40) (e := 5) (by kernel_rfl) [97, 98]
  refine ⟨_, _, _, w3, hr3, ?_⟩
  intro w4
  have hk4 : Kept No w3 w4 := Kept.alloc _ w3 _
  have hb4 : Blk w4 w3.heap.size #[.slice (some ⟨w1.heap.size, 0, none⟩) 2 2, .int .i64 0] := Blk.alloc w3 _ _
  have hs4 : w4.heap.size = w3.heap.size + 1 := by simp [w4]
  clear_value w4
  intro w5
  have hk5 : Kept No w4 w5 := Kept.alloc _ w4 _
  have hi5 : RdS 1 w5 (some ⟨w4.heap.size, 0, none⟩) 2 2 (In [1, -1]) := In_rd w4 [1, -1] _
  clear_value w5
  have hA5 : RdA (fun _ => True) w5 (some ⟨w3.heap.size, 0, none⟩) 1 1 [([97, 98], 0)] := by
    refine ⟨[((some ⟨w1.heap.size, 0, none⟩, 2, 2), 0)], (SlO.of_blk (sz := 2) (n := 1) (hb4.keep hk5 (fun e => e)) rfl).rd, ?_, fun _ _ _ => trivial⟩
    exact AnsR.cons (AnsR.nil _ _) ((hrd3.keep hk4 (fun _ _ _ e => e)).keep hk5 (fun _ _ _ e => e)) rfl (fun _ _ _ => trivial)
  have h15 := (hk3.no hk4).no hk5
  have h05 := hk1.no h15
  refine (cnew_ok hA5 hi5).mono fun v w6 hm => ?_
  obtain ⟨b2, F2, hv6, hc6, hk6, hf6⟩ := hm.one (by decide)
  refine ⟨_, _, hv6, nnum_to ⟨_, rfl, nnum_to ⟨_, rfl, by unfold inI; omega, condF rfl (condF rfl (condF rfl ?_))⟩⟩⟩
  have hx6 := hx1.keep (h15.no hk6) (fun _ _ e => e)
  have h06 := h05.no hk6
  have hs15 := h15.size
  have hs05 := h05.size
  have hs06 := h06.size
  have hd6 : ∀ x, F1 x → ¬ F2 x := fun x hx hy => by have := hx1.lt x hx; have := hf6 x hy; omega
  have hw1 : ∀ x, F1 x → w.heap.size ≤ x := hf1
  have hw2 : ∀ x, F2 x → w.heap.size ≤ x := fun x hx => by have := hf6 x hx; omega
  clear hd6
  intro w9
  obtain ⟨w10, hr10, hrd10, hk10, hz10⟩ := run_const (P := Tryz.prog) w6 (t := 40) (e := 5) (by kernel_rfl) [97, 98, 99, 100]
  refine ⟨_, _, _, w10, hr10, ?_⟩
  have hl1 : ∀ x, F1 x → x < w6.heap.size := hx6.lt
  have hl2 : ∀ x, F2 x → x < w6.heap.size := hc6.lt
  refine (fwrite_ok (hx6.keep hk10 (fun _ _ e => e)) hrd10 (fun _ k hk hF => by rw [inA_some] at hk; have := hl1 k hF; omega)).mono fun v w11 ⟨hv11, F3, hx11, hg11, hk11⟩ => ⟨_, _, hv11, ?_⟩
  rw [show writeM [97, 98, 99, 100] [] (Int.toNat 3) 0 = (3, 0, [97, 98, 99], 3) by decide] at *
  have hd11 : ∀ x, F2 x → ¬ F1 x := fun x hx hy => by have := hx1.lt x hy; have := hf6 x hx; omega
  have hc11 := (hc6.keep hk10 (fun _ _ e => e)).keep hk11 hd11
  have hd3 : ∀ x, F2 x → ¬ F3 x := fun x hx hy => by
    rcases hg11 x hy with h | h
    · exact hd11 x hx h
    · have := hl2 x hx; omega
  have hw3 : ∀ x, F3 x → w.heap.size ≤ x := fun x hx => by
    rcases hg11 x hx with h | h
    · exact hw1 x h
    · have := hk10.size; omega
  have h011 := (h06.no hk10).fresh hk11 hw1
  intro w12
  obtain ⟨w13, hr13, hrd13, hk13, hz13⟩ := run_const (P := Tryz.prog) w11 (t := 40) (e := 5) (by kernel_rfl) [101]
  refine ⟨_, _, _, w13, hr13, ?_⟩
  refine (fwrite_ok (hx11.keep hk13 (fun _ _ e => e)) hrd13 (fun _ k hk hF => by rw [inA_some] at hk; have := hx11.lt k hF; omega)).mono fun v w14 ⟨hv14, F4, hx14, hg14, hk14⟩ => ⟨_, _, hv14, ?_⟩
  rw [show writeM [101] [97, 98, 99] (Int.toNat 3) 3 = (0, 31, [97, 98, 99], 3) by decide] at *
  have hc13 := hc11.keep hk13 (fun _ _ e => e)
  have hc14 := hc13.keep hk14 hd3
  have hd4 : ∀ x, F2 x → ¬ F4 x := fun x hx hy => by
    rcases hg14 x hy with h | h
    · exact hd3 x hx h
    · have := hc13.lt x hx; omega
  have hw4 : ∀ x, F4 x → w.heap.size ≤ x := fun x hx => by
    rcases hg14 x hx with h | h
    · exact hw3 x h
    · have := hk13.size; have := h011.size; omega
  have h014 := (h011.no hk13).fresh hk14 hw3
  refine (fseek_ok hx14 1 0).mono fun v w15 ⟨hv15, hx15, hk15⟩ => ⟨_, _, hv15, ?_⟩
  rw [show seekM 1 0 [97, 98, 99] (Int.toNat 3) 3 = (1, 0, 1) by decide] at *
  refine (fread_ok hx15 9).mono fun v w16 ⟨a16, l16, c16, hv16, ho16, hf16, hx16, hk16⟩ => ⟨_, _, _, _, hv16, ?_⟩
  rw [show readM 9 [97, 98, 99] 1 = ([98, 99], 0, 3) by decide] at *
  have hc16 := (hc14.keep hk15 hd4).keep hk16 hd4
  have h016 := (h014.fresh hk15 hw4).fresh hk16 hw4
  refine (cread_ok hc16 (by rintro r t h; cases h; rfl) 1).mono fun v w17 ⟨a17, l17, c17, hv17, ho17, hf17, hc17, hk17⟩ => ⟨_, _, _, _, hv17, ?_⟩
  rw [show readC 1 [([97, 98], 0)] = ([97], 0, [([98], 0)]) by decide] at *
  have hs15' := hk15.size
  have ho16' := ho16.keep hk17 (fun x hx hF => by have := hf16 x hx; have := hc14.lt x hF; omega)
  have h017 := h016.fresh hk17 hw2
  intro w18
  obtain ⟨w19, hr19, hrd19, hk19, hz19⟩ := run_const (P := Tryz.prog) w17 (t := 40) (e := 5) (by kernel_rfl) [120, 121, 122]
  refine ⟨_, _, _, w19, hr19, ?_⟩
  refine (cwrite_ok (hc17.keep hk19 (fun _ _ e => e)) hrd19 (fun _ k hk hF => by rw [inA_some] at hk; have := hc17.lt k hF; omega) (by decide) (by decide)).mono fun v w20 ⟨hv20, F5, hc20, hg20, hk20⟩ => ⟨_, _, hv20, ?_⟩
  rw [show writeC [120, 121, 122] [1, -1] [] = (1, 0, [-1], [120]) by decide] at *
  have hw5 : ∀ x, F5 x → w.heap.size ≤ x := fun x hx => by
    rcases hg20 x hx with h | h
    · exact hw2 x h
    · have := hk19.size; have := h017.size; omega
  have h020 := (h017.no hk19).fresh hk20 hw2
  have hF2lt : ∀ x, F2 x → x < w16.heap.size := hc16.lt
  have hF16 : ∀ x, F2 x → x < w14.heap.size := hc14.lt
  have ho16'' := (ho16'.keep hk19 (fun _ _ e => e)).keep hk20 (fun x hx hF => by have := hf16 x hx; have := hF16 x hF; omega)
  have ho17' := (ho17.keep hk19 (fun _ _ e => e)).keep hk20 (fun x hx hF => by have := hf17 x hx; have := hF2lt x hF; omega)
  intro w21
  obtain ⟨w22, hr22, hrd22, hk22, hz22⟩ := run_const (P := Tryz.prog) w20 (t := 40) (e := 5) (by kernel_rfl) [122]
  refine ⟨_, _, _, w22, hr22, ?_⟩
  refine (cwrite_ok (hc20.keep hk22 (fun _ _ e => e)) hrd22 (fun _ k hk hF => by rw [inA_some] at hk; have := hc20.lt k hF; omega) (by decide) (by decide)).mono fun v w23 ⟨hv23, F6, hc23, hg23, hk23⟩ => ⟨_, _, hv23, ?_⟩
  rw [show writeC [122] [-1] [120] = (0, 101, [], [120]) by decide] at *
  have h023 := (h020.no hk22).fresh hk23 hw5
  have hlt16 : ∀ x, inA a16 x → x < w16.heap.size := fun x hx => SlO.lt ho16 x hx
  have hlt17 : ∀ x, inA a17 x → x < w17.heap.size := fun x hx => SlO.lt ho17 x hx
  have hs17' := hk17.size
  have hs19' := hk19.size
  have hF5 : ∀ x, F5 x → F2 x ∨ w19.heap.size ≤ x := hg20
  have ho16f := (ho16''.keep hk22 (fun _ _ e => e)).keep hk23 (fun x hx hF => by
    rcases hF5 x hF with h | h
    · have := hf16 x hx; have := hF16 x h; omega
    · have := hlt16 x hx; omega)
  have ho17f := (ho17'.keep hk22 (fun _ _ e => e)).keep hk23 (fun x hx hF => by
    rcases hF5 x hF with h | h
    · have := hf17 x hx; have := hF2lt x h; omega
    · have := hlt17 x hx; omega)
  refine nnum_to ⟨_, rfl, nnum_to ⟨_, rfl, ⟨by decide, by decide⟩, nnum_to ⟨_, rfl, ⟨by decide, by decide⟩, nnum_to ⟨_, rfl, ⟨by decide, by decide⟩, nnum_to ⟨_, rfl, ⟨by decide, by decide⟩, condT rfl (condT rfl (nnum_to ⟨_, rfl, condT rfl (condT rfl ?_)⟩))⟩⟩⟩⟩⟩
  refine ⟨_, _, run_str (P := Tryz.prog) w23 (t := 40) (ts := 9) (by kernel_rfl) (by kernel_rfl) ho16f.rd, condT (str_is rfl) ?_⟩
  exact ⟨_, _, run_str (P := Tryz.prog) w23 (t := 40) (ts := 9) (by kernel_rfl) (by kernel_rfl) ho17f.rd, condT (str_is rfl) (condT rfl (nnum_to ⟨_, rfl, rfl, h023⟩))⟩
end Go.Proofs.YtpoaacnnhgebfaaGreat
namespace Go.Proofs.YtpoaacnnhgebfaaGreat
open Go.Lw
theorem MNew.eq {w w' : World} {e : Int} {bs : List Int} {room : Nat} {v : Value} (h : MNew w e bs room v w') : ∃ p, v = .tuple #[.pointer p, .int .i64 e] ∧ Kept No w w' := by
  rcases h with ⟨_, h, hk⟩ | ⟨he, b, F, h, _, hk, _⟩
  · exact ⟨_, h, hk⟩
  · subst he; exact ⟨_, h, hk⟩
theorem CNew.eq {w w' : World} {e : Int} {rs : List (List Int × Int)} {ws : List Int} {v : Value} (h : CNew w e rs ws v w') : ∃ p, v = .tuple #[.pointer p, .int .i64 e] ∧ Kept No w w' := by
  rcases h with ⟨_, h, hk⟩ | ⟨he, b, F, h, _, hk, _⟩
  · exact ⟨_, h, hk⟩
  · subst he; exact ⟨_, h, hk⟩
end Go.Proofs.YtpoaacnnhgebfaaGreat
namespace Go.Proofs.YtpoaacnnhgebfaaGreat
open Go.Lw
def RawO (F : Nat → Prop) (w : World) (b : Nat) (kind : Int) (bs : List Int) (room pl calls : Nat) : Prop :=
  ∃ a l c, Blk w b #[.int .i64 kind, .slice a l c, .int .i64 (room : Int), .int .i64 (pl : Int), .slice none 0 0, .slice none 0 0, .pointer none, .int .i64 0, .int .i64 (calls : Int)] ∧ OB w a l c bs ∧ ¬ inA a b ∧ bs.length ≤ room ∧ pl ≤ room ∧ room ≤ 1048576 ∧ ∀ k, F k ↔ k = b ∨ inA a k
theorem RawO.keep {F S : Nat → Prop} {w w' : World} {b : Nat} {kind : Int} {bs : List Int} {room pl calls : Nat} (h : RawO F w b kind bs room pl calls) (k : Kept S w w') (hn : ∀ k, F k → ¬ S k) : RawO F w' b kind bs room pl calls := by
  obtain ⟨a, l, c, hb, ho, hna, h1, h2, h3, hF⟩ := h
  exact ⟨a, l, c, hb.keep k (hn b ((hF b).2 (.inl rfl))), ho.keep k fun x hx => hn x ((hF x).2 (.inr hx)), hna, h1, h2, h3, hF⟩
def RawC (F : Nat → Prop) (w : World) (b : Nat) (rs : List (List Int × Int)) (ws tk : List Int) (calls : Nat) : Prop :=
  ∃ ar lr cr aw lw cw ak lk ck es, Blk w b #[.int .i64 4, .slice ak lk ck, .int .i64 0, .int .i64 0, .slice ar lr cr, .slice aw lw cw, .pointer none, .int .i64 0, .int .i64 (calls : Int)] ∧ SlO 2 w ar lr cr (ansC es) ∧ AnsR (fun x => F x ∧ x ≠ b ∧ ¬ inA ar x ∧ ¬ inA ak x) w es rs ∧ RdS 1 w aw lw cw (In ws) ∧ OB w ak lk ck tk ∧
    F b ∧ (∀ x, F x → x < w.heap.size) ∧ (∀ x, inA ar x → F x ∧ x ≠ b) ∧ (∀ x, inA aw x → F x ∧ x ≠ b ∧ ¬ inA ar x ∧ ¬ inA ak x) ∧ (∀ x, inA ak x → F x ∧ x ≠ b ∧ ¬ inA ar x) ∧ ∀ r ∈ rs, r.1.length ≤ 1048576
theorem RawC.keep {F S : Nat → Prop} {w w' : World} {b : Nat} {rs : List (List Int × Int)} {ws tk : List Int} {calls : Nat} (h : RawC F w b rs ws tk calls) (k : Kept S w w') (hn : ∀ x, F x → ¬ S x) : RawC F w' b rs ws tk calls := by
  obtain ⟨ar, lr, cr, aw, lw, cw, ak, lk, ck, es, hb, h1, h2, h3, h4, h5, h6, h7, h8, h9, h10⟩ := h
  exact ⟨ar, lr, cr, aw, lw, cw, ak, lk, ck, es, hb.keep k (hn _ h5), h1.keep k (fun x hx => hn _ (h7 x hx).1), h2.keep k (fun x hx => hn _ hx.1), h3.keep k (fun x _ hx => hn _ (h8 x hx).1), h4.keep k (fun x hx => hn _ (h9 x hx).1), h5,
    fun x hx => Nat.lt_of_lt_of_le (h6 x hx) k.size, h7, h8, h9, h10⟩
theorem rcopied_ok {w : World} {a : Option Addr} {l c : Nat} {bs : List Int} (h : RdB w a l c bs) (hl : l ≤ 140737488355328) :
    CallR Tryz.prog 197 [.slice a l c] w fun v w' => ∃ a' c', v = .slice a' l c' ∧ OB w' a' l c' bs ∧ Kept No w w' ∧ Fresh w a' := by
  refine C197 ?_
  unfold L197
  obtain ⟨a', c', w2, hrun, hs, hk, hat, hnn⟩ := run_app_sl (P := Tryz.prog) (t := 40) (t2 := 40) (ty := 40) (by kernel_rfl : slTyB Tryz.prog 40 1 1 = true) (by kernel_rfl) (SlO.nil 1 w) h (By_one bs) (by omega) (by omega)
  simp only [Nat.zero_add, List.nil_append] at hrun hs
  exact ⟨a', l, c', w2, hrun, a', c', rfl, hs, hk.mono (fun b _ hb => inA_none b hb), hat.fresh (Fresh.none w) (Nat.le_refl _)⟩
def RNew (w : World) (e : Int) (kind : Int) (bs : List Int) (room : Nat) (v : Value) (w' : World) : Prop :=
  (e ≠ 0 ∧ v = .tuple #[.pointer none, .int .i64 e] ∧ Kept No w w') ∨ (e = 0 ∧ ∃ b F', v = .tuple #[pt b, .int .i64 0] ∧ RawO F' w' b kind bs room 0 0 ∧ Kept No w w' ∧ ∀ x, F' x → w.heap.size ≤ x)
theorem RNew.eq {w w' : World} {e kind : Int} {bs : List Int} {room : Nat} {v : Value} (h : RNew w e kind bs room v w') : ∃ p, v = .tuple #[.pointer p, .int .i64 e] ∧ Kept No w w' := by
  rcases h with ⟨_, h, hk⟩ | ⟨he, b, F, h, _, hk, _⟩
  · exact ⟨_, h, hk⟩
  · subst he; exact ⟨_, h, hk⟩
theorem rnew_of {w w1 : World} {a' : Option Addr} {l c' : Nat} {bs : List Int} {room : Nat} (kind : Int) (ho : OB w1 a' l c' bs) (hk : Kept No w w1) (hf : Fresh w a') (h1 : bs.length ≤ room) (h2 : room ≤ 1048576) (t : TypeId) :
    ∃ F', RawO F' (w1.alloc (.cells #[.int .i64 kind, .slice a' l c', .int .i64 (room : Int), .int .i64 0, .slice none 0 0, .slice none 0 0, .pointer none, .int .i64 0, .int .i64 0] t)) w1.heap.size kind bs room 0 0 ∧
      Kept No w (w1.alloc (.cells #[.int .i64 kind, .slice a' l c', .int .i64 (room : Int), .int .i64 0, .slice none 0 0, .slice none 0 0, .pointer none, .int .i64 0, .int .i64 0] t)) ∧ (∀ x, F' x → w.heap.size ≤ x) := by
  have hs := hk.size
  refine ⟨fun x => x = w1.heap.size ∨ inA a' x, ⟨a', l, c', Blk.alloc w1 _ _, ho.keep (Kept.alloc No w1 _) (fun _ _ e => e), fun e => by have := SlO.lt ho _ e; omega, h1, by omega, h2, fun k => Iff.rfl⟩, hk.no (Kept.alloc No w1 _), ?_⟩
  rintro x (rfl | hx)
  · exact hs
  · exact hf x hx
theorem rnewF_ok {w : World} (size : Int) {a : Option Addr} {l c : Nat} {bs : List Int} (h : RdB w a l c bs) :
    CallR Tryz.prog 132 [.int .i64 size, .slice a l c] w fun v w' => RNew w (newFE size bs.length) 1 bs size.toNat v w' := by
  refine C132 ?_
  unfold L132
  have hlen := h.len
  refine condP (fun g => .inl ⟨?_, ?_, Kept.refl _ _⟩) fun g => condP (fun g2 => .inl ⟨?_, ?_, Kept.refl _ _⟩) fun g2 => condP (fun g3 => .inl ⟨?_, ?_, Kept.refl _ _⟩) fun g3 => ?_
  · unfold newFE; rw [if_pos (by omega)]; decide
  · unfold newFE; rw [if_pos (by omega)]
  · unfold newFE; rw [if_pos (by omega)]; decide
  · unfold newFE; rw [if_pos (by omega)]
  · unfold newFE; rw [if_neg (by omega), if_pos (by omega)]; decide
  · unfold newFE; rw [if_neg (by omega), if_pos (by omega)]
  · refine (rcopied_ok h (by omega)).mono fun v w1 ⟨a', c', hv, ho, hk, hf⟩ => ⟨_, _, _, hv, ?_⟩
    have he : newFE size bs.length = 0 := by unfold newFE; rw [if_neg (by omega), if_neg (by omega)]
    have hsz : size = ((size.toNat : Nat) : Int) := by omega
    intro w2
    refine .inr ⟨he, ?_⟩
    have := rnew_of (w := w) (room := size.toNat) 1 ho hk hf (by omega) (by omega)
    rw [← hsz] at this
    obtain ⟨F', h1, h2, h3⟩ := this _
    exact ⟨_, F', rfl, h1, h2, h3⟩
theorem rnewG_ok {w : World} {a : Option Addr} {l c : Nat} {bs : List Int} (h : RdB w a l c bs) :
    CallR Tryz.prog 134 [.slice a l c] w fun v w' => RNew w (if bs.length > 1048576 then 5 else 0) 2 bs 1048576 v w' := by
  refine C134 ?_
  unfold L134
  have hlen := h.len
  refine condP (fun g => .inl ⟨?_, ?_, Kept.refl _ _⟩) fun g => ?_
  · rw [if_pos (by omega)]; decide
  · rw [if_pos (by omega)]
  · refine (rcopied_ok h (by omega)).mono fun v w1 ⟨a', c', hv, ho, hk, hf⟩ => ⟨_, _, _, hv, ?_⟩
    intro w2
    refine .inr ⟨if_neg (by omega), ?_⟩
    obtain ⟨F', h1, h2, h3⟩ := rnew_of (w := w) (room := 1048576) 2 ho hk hf (by omega) (by omega) _
    exact ⟨_, F', rfl, h1, h2, h3⟩
theorem rnewR_ok {w : World} {a : Option Addr} {l c : Nat} {bs : List Int} (h : RdB w a l c bs) :
    CallR Tryz.prog 136 [.slice a l c] w fun v w' => RNew w (if bs.length > 1048576 then 5 else 0) 3 bs bs.length v w' := by
  refine C136 ?_
  unfold L136
  have hlen := h.len
  refine condP (fun g => .inl ⟨?_, ?_, Kept.refl _ _⟩) fun g => ?_
  · rw [if_pos (by omega)]; decide
  · rw [if_pos (by omega)]
  · refine (rcopied_ok h (by omega)).mono fun v w1 ⟨a', c', hv, ho, hk, hf⟩ => ⟨_, _, _, hv, ?_⟩
    intro w2
    refine .inr ⟨if_neg (by omega), ?_⟩
    rw [hlen]
    obtain ⟨F', h1, h2, h3⟩ := rnew_of (w := w) (room := l) 3 ho hk hf (by omega) (by omega) _
    exact ⟨_, F', rfl, h1, h2, h3⟩
def RCNew (w : World) (e : Int) (rs : List (List Int × Int)) (ws : List Int) (v : Value) (w' : World) : Prop :=
  (e ≠ 0 ∧ v = .tuple #[.pointer none, .int .i64 e] ∧ Kept No w w') ∨ (e = 0 ∧ ∃ b F', v = .tuple #[pt b, .int .i64 0] ∧ RawC F' w' b rs ws [] 0 ∧ Kept No w w' ∧ ∀ x, F' x → w.heap.size ≤ x)
theorem RCNew.eq {w w' : World} {e : Int} {rs : List (List Int × Int)} {ws : List Int} {v : Value} (h : RCNew w e rs ws v w') : ∃ p, v = .tuple #[.pointer p, .int .i64 e] ∧ Kept No w w' := by
  rcases h with ⟨_, h, hk⟩ | ⟨he, b, F, h, _, hk, _⟩
  · exact ⟨_, h, hk⟩
  · subst he; exact ⟨_, h, hk⟩
theorem rcnew_ok {R : Nat → Prop} {w : World} {a : Option Addr} {l c : Nat} {rs : List (List Int × Int)} (h : RdA R w a l c rs) {a2 : Option Addr} {l2 c2 : Nat} {ws : List Int} (h2 : RdS 1 w a2 l2 c2 (In ws)) :
    CallR Tryz.prog 138 [.slice a l c, .slice a2 l2 c2] w fun v w' => RCNew w (newCE rs ws) rs ws v w' := by
  refine C138 ?_
  unfold L138
  have hlen := h.len
  have hlen2 : ws.length = l2 := by have := h2.1; simpa using this
  refine condP (fun g => .inl ⟨?_, ?_, Kept.refl _ _⟩) fun g => condP (fun g2 => .inl ⟨?_, ?_, Kept.refl _ _⟩) fun g2 => ?_
  · unfold newCE; rw [if_pos (by omega)]; decide
  · unfold newCE; rw [if_pos (by omega)]
  · unfold newCE; rw [if_pos (by omega)]; decide
  · unfold newCE; rw [if_pos (by omega)]
  intro w1
  have hk1 : Kept No w w1 := Kept.alloc _ w _
  have hs1 : w1.heap.size = w.heap.size + 1 := by simp [w1]
  have hb1 : Blk w1 w.heap.size #[.int .i64 4, .slice none 0 0, .int .i64 0, .int .i64 0, .slice none 0 0, .slice none 0 0, .pointer none, .int .i64 0, .int .i64 0] := Blk.alloc w _ _
  clear_value w1
  generalize hxb : w.heap.size = xb at *
  have hbad : ∀ {w' : World} {r}, r ∈ rs → r.1.length > 1048576 → Kept No w w' → RCNew w (newCE rs ws) rs ws (.tuple #[.pointer none, .int .i64 5]) w' := by
    intro w' r hr hgt hk
    have e : newCE rs ws = 5 := by
      unfold newCE
      rw [if_neg (by omega), if_neg]
      intro hall
      rw [List.all_eq_true] at hall
      have := hall r hr
      simp at this; omega
    exact .inl ⟨by rw [e]; decide, by rw [e], hk⟩
  refine ⟨fun vs w' => ∃ i : Nat, vs = [.int .i64 (i : Int)] ∧ i ≤ l ∧ Kept No w w' ∧ ∃ ar cr es, Blk w' xb #[.int .i64 4, .slice none 0 0, .int .i64 0, .int .i64 0, .slice ar i cr, .slice none 0 0, .pointer none, .int .i64 0, .int .i64 0] ∧ SlO 2 w' ar i cr (ansC es) ∧
      AnsR (fun x => xb < x ∧ ¬ inA ar x ∧ x < w'.heap.size) w' es (rs.take i) ∧ (∀ x, inA ar x → xb < x) ∧ ∀ r ∈ rs.take i, r.1.length ≤ 1048576,
    fun vs _ => l - ix vs, ⟨0, rfl, Nat.zero_le _, hk1, none, 0, [], hb1, SlO.nil 2 w1, AnsR.nil _ _, fun x hx => absurd hx (inA_none x), by simp⟩, ?_⟩
  intro _ n6 w4 hI
  obtain ⟨i, hvs, hi, h04, ar, cr, es, hb4, hs4, ha4, hr4, hl4⟩ := hI
  simp only [List.cons.injEq, Value.int.injEq, true_and, and_true] at hvs
  subst hvs
  have h04s := h04.size
  have hx4 := hb4.lt
  have arlt : ∀ x, inA ar x → x < w4.heap.size := fun x hx => SlO.lt hs4 x hx
  refine condP (fun hlt => ?_) (fun hge => ?_)
  · have hil : i < rs.length := by omega
    obtain ⟨q, e, rfl, he1, he2, hrd, hrin⟩ := (h.keep h04 (fun _ _ e => e)).get hil
    have hr : (0 ≤ (i : Int) ∧ (i : Int) < ((l : Nat) : Int)) := by omega
    have hrl := hrd.len
    refine ⟨hr, nnI ⟨e.1, e.2.1, e.2.2, by rw [Int.toNat_natCast]; exact he1, condP (fun g3 => hbad (r := rs[i]) (by simp) (by omega) h04) (fun g3 => ?_)⟩⟩
    refine ⟨fun wS => Kept (fun x => False) w4 wS, Kept.drew _ w4, ?_⟩
    intro w8
    have h48 : Kept No w4 w8 := Kept.drew No w4
    have hx8 := hb4.keep h48 (fun e => e)
    have hs8 : w8.heap.size = w4.heap.size := rfl
    clear_value w8
    refine ⟨ar, i, cr, fun wS hS => (hb4.keep hS (fun e => e)).cell 4, hr, nnI ⟨e.1, e.2.1, e.2.2, fun wS hS => by rw [Int.toNat_natCast]; exact hS.cell he1 (fun e => e), hr, nnI ⟨rs[i].2, fun wS hS => by rw [Int.toNat_natCast]; exact hS.cell he2 (fun e => e), ?_⟩⟩⟩
    refine (rcopied_ok (hrd.keep h48 (fun _ _ _ e => e)) (by omega)).mono fun v w9 ⟨a15, c15, hv9, ho9, hk9, hf9⟩ => ⟨a15, _, c15, hv9, h48.no hk9, ?_⟩
    intro w10
    have hk10 : Kept No w9 w10 := Kept.alloc _ w9 _
    have hb10 : Blk w10 w9.heap.size #[.slice a15 e.2.1 c15, .int .i64 rs[i].2] := Blk.alloc w9 _ _
    have hs10 : w10.heap.size = w9.heap.size + 1 := by simp [w10]
    clear_value w10
    have hs9 := hk9.size
    have h410 := (h48.no hk9).no hk10
    have hx10 := hb4.keep h410 (fun e => e)
    refine ⟨h410, ?_⟩
    have ho10 := ho9.keep hk10 (fun _ _ e => e)
    have hy : RdS 2 w10 (some ⟨w9.heap.size, 0, none⟩) 1 1 (ansC [((a15, e.2.1, c15), rs[i].2)]) := (SlO.of_blk (sz := 2) (n := 1) hb10 (by simp)).rd
    obtain ⟨a17, c17, w11, hrun, hs11, hk11, hat, hnn⟩ := run_app_sl (P := Tryz.prog) (t := 83) (t2 := 83) (ty := 83) (by kernel_rfl : slTyB Tryz.prog 83 2 32 = true) (by kernel_rfl) (hs4.keep h410 (fun _ _ e => e)) hy (ansC_one _) (by omega) (by omega)
    rw [← ansC_app] at hs11
    have hx11 := hx10.keep hk11 (fun e => by have := hr4 _ e; omega)
    have hs11' := hk11.size
    refine ⟨a17, i + 1, c17, w11, hrun, stC_blk hx11 (by simp) fun w12 hb12 hk12 hs12 => ⟨by unfold inI; omega, ⟨i + 1, by simp, by omega, ?_, a17, c17, es ++ [((a15, e.2.1, c15), rs[i].2)], by simpa using hb12, ?_, ?_, ?_, ?_⟩, by simp only [ix]; omega⟩⟩
    · exact ((h04.no h410).fresh hk11 (fun x hx => by have := hr4 x hx; omega)).fresh hk12 (by intro x e; omega)
    · refine hs11.keep hk12 (fun x hx e => ?_)
      rcases hat.in hx with e' | e'
      · have := hr4 x e'; omega
      · omega
    · have hT : rs.take (i + 1) = rs.take i ++ [rs[i]] := by rw [List.take_add_one, List.getElem?_eq_getElem hil]; rfl
      rw [hT]
      have hnew : ∀ x, (xb < x ∧ ¬ inA ar x ∧ x < w4.heap.size) ∨ (w4.heap.size ≤ x ∧ x < w9.heap.size) → xb < x ∧ ¬ inA a17 x ∧ x < w12.heap.size := by
        rintro x (⟨k1, k3, k4⟩ | ⟨k1, k2⟩)
        · refine ⟨k1, fun e' => ?_, by omega⟩
          rcases hat.in e' with e' | e'
          · exact k3 e'
          · omega
        · refine ⟨by omega, fun e' => ?_, by omega⟩
          rcases hat.in e' with e' | e'
          · have := arlt x e'; omega
          · omega
      have hkeep : ∀ x, (xb < x ∧ ¬ inA ar x ∧ x < w4.heap.size) ∨ (w4.heap.size ≤ x ∧ x < w9.heap.size) → ¬ inA ar x ∧ x ≠ xb := by
        rintro x (⟨k1, k3, k4⟩ | ⟨k1, k2⟩)
        · exact ⟨k3, by omega⟩
        · exact ⟨fun e' => by have := arlt x e'; omega, by omega⟩
      have hA := (((ha4.mono (R' := fun x => (xb < x ∧ ¬ inA ar x ∧ x < w4.heap.size) ∨ (w4.heap.size ≤ x ∧ x < w9.heap.size)) (fun x hx => .inl hx)).keep h410 (fun _ _ e => e)).keep hk11 (fun x hx => (hkeep x hx).1)).keep hk12 (fun x hx => (hkeep x hx).2)
      have hin15 : ∀ x, inA a15 x → w4.heap.size ≤ x ∧ x < w9.heap.size := fun x hx => ⟨by have := hf9 x hx; omega, SlO.lt ho9 x hx⟩
      refine AnsR.mono (AnsR.snoc hA ?_ rfl (fun _ x hx => .inr (hin15 x hx))) hnew
      exact (OB.rd ((ho10.keep hk11 (fun x hx => (hkeep x (.inr (hin15 x hx))).1)).keep hk12 (fun x hx e' => (hkeep x (.inr (hin15 x hx))).2 e')))
    · intro x hx
      rcases hat.in hx with e' | e'
      · exact hr4 x e'
      · omega
    · intro r hr
      rw [List.take_add_one, List.getElem?_eq_getElem hil, List.mem_append] at hr
      rcases hr with hr | hr
      · exact hl4 r hr
      · have : r = rs[i] := by simpa using hr
        subst this; omega
  · have hil : i = l := by omega
    subst hil
    rw [List.take_of_length_le (by omega)] at ha4 hl4
    have e : newCE rs ws = 0 := by
      unfold newCE
      rw [if_neg (by omega), if_pos]
      rw [List.all_eq_true]
      intro r hr
      simpa using hl4 r hr
    obtain ⟨aw, cw, w8, hrun8, hsw, hk8, hat8, hnn8⟩ := run_app_sl (P := Tryz.prog) (t := 57) (t2 := 57) (ty := 57) (by kernel_rfl : slTyB Tryz.prog 57 1 8 = true) (by kernel_rfl) (SlO.nil 1 w4) (h2.keep h04 (fun _ _ _ e => e)) (In_one ws) (by omega) (by omega)
    simp only [Nat.zero_add, List.nil_append] at hrun8 hsw
    have hk8 : Kept No w4 w8 := hk8.mono fun b _ hb => inA_none b hb
    have hf8 : Fresh w4 aw := hat8.fresh (Fresh.none w4) (Nat.le_refl _)
    have hb8 := hb4.keep hk8 (fun e => e)
    have hs8 := hk8.size
    refine ⟨none, 0, 0, hb4.cell 5, aw, l2, cw, w8, hrun8, stC_blk hb8 (by simp) fun w9 hb9 hk9 hs9 => .inr ⟨e, xb, fun x => xb ≤ x ∧ x < w9.heap.size, rfl, ⟨ar, i, cr, aw, l2, cw, none, 0, 0, es, by simpa using hb9, (hs4.keep hk8 (fun _ _ e => e)).keep hk9 (fun x hx e => by have := hr4 x hx; omega), ?_, (SlO.rd hsw).keep hk9 (fun x _ hx e => by have := hf8 x hx; omega), OB.nil _, ⟨by omega, by omega⟩, fun x hx => hx.2, fun x hx => ⟨⟨by have := hr4 x hx; omega, by have := arlt x hx; omega⟩, by have := hr4 x hx; omega⟩, fun x hx => ⟨⟨by have := hf8 x hx; omega, by have := SlO.lt hsw x hx; omega⟩, by have := hf8 x hx; omega, fun e' => by have := arlt x e'; have := hf8 x hx; omega, inA_none x⟩, fun x hx => absurd hx (inA_none x), hl4⟩, ?_, fun x hx => by omega⟩⟩
    · exact ((ha4.keep hk8 (fun _ _ e => e)).keep hk9 (fun x hx e => by have := hx.1; omega)).mono fun x hx => ⟨⟨by have := hx.1; omega, by have := hx.2.2; omega⟩, by have := hx.1; omega, hx.2.1, inA_none x⟩
    · exact (h04.no hk8).fresh hk9 (fun x e => by omega)
theorem rdA_of_view {W : World} {a : Option Addr} {l c : Nat} (hlc : l ≤ c) (hz : a = none → c = 0)
    (h : ∀ q : Addr, a = some q → ∀ i : Nat, i < l → ∃ (a' : Option Addr) (l' c' : Nat) (ns : List Int) (n : Int), RdB W a' l' c' ns ∧ W.cell? (q.add (i * 2)) = some (.slice a' l' c') ∧ W.cell? ((q.add (i * 2)).add 1) = some (.int .i64 n)) :
    ∃ rs, RdA (· < W.heap.size) W a l c rs := by
  cases a with
  | none =>
    have := hz rfl
    obtain rfl : l = 0 := by omega
    subst this
    exact ⟨[], [], RdS.nil 2 W, AnsR.nil _ _, fun h => absurd rfl h⟩
  | some q =>
    obtain ⟨f, hf⟩ := Deep.choose_lt (α := (Slc × Int) × List Int) (n := l) (p := fun i x => RdB W x.1.1.1 x.1.1.2.1 x.1.1.2.2 x.2 ∧ W.cell? (q.add (i * 2)) = some (slv x.1.1) ∧ W.cell? ((q.add (i * 2)).add 1) = some (.int .i64 x.1.2)) (fun i hi => by
      obtain ⟨a', l', c', ns, n, h1, h2, h3⟩ := h q rfl i hi
      exact ⟨(((a', l', c'), n), ns), h1, h2, h3⟩)
    refine ⟨(List.range l).map fun i => ((f i).2, (f i).1.2), (List.range l).map fun i => (f i).1, ⟨by rw [ansC_len]; simp, hlc, (fun h => by cases h), fun ad had i v hi => ?_⟩, ⟨by simp, fun i e r he hr => ?_⟩, fun hl k hk => ?_⟩
    · cases had
      have hlt : i < l * 2 := by
        have := (List.getElem?_eq_some_iff.1 hi).1
        rw [ansC_len] at this; simpa using this
      have hil : i / 2 < l := by omega
      obtain ⟨g1, g2⟩ := ansC_get ((List.range l).map fun i => (f i).1) (i / 2) (f (i / 2)).1 (by simp [hil])
      rcases Nat.mod_two_eq_zero_or_one i with hm | hm
      · have e : i = i / 2 * 2 := by omega
        rw [e] at hi ⊢
        rw [g1] at hi; cases hi
        exact (hf _ hil).2.1
      · have e : i = i / 2 * 2 + 1 := by omega
        rw [e] at hi ⊢
        rw [g2] at hi; cases hi
        rw [← Lw.add_add]
        exact (hf _ hil).2.2
    · by_cases hil : i < l
      · simp [hil] at he hr; subst he hr
        exact ⟨(hf i hil).1, rfl, fun hne k hk => (hf i hil).1.old hne k hk⟩
      · simp [hil] at he
    · obtain ⟨ad, had, rfl⟩ := hk
      cases had
      have := World.block_lt_of_cell? W _ (hf 0 (by omega)).2.1
      have hbe : (q.add (0 * 2)).block = q.block := by unfold Addr.add; split <;> rfl
      omega
end Go.Proofs.YtpoaacnnhgebfaaGreat
namespace Go.Proofs.YtpoaacnnhgebfaaGreat
open Go.Lw
theorem cuDrop_ok {q1 : Addr} {K : World → Prop} {w : World} (h : L202 q1 (fun _ w' => K w') w) : DefR Tryz.prog 202 [.pointer (some q1)] w K :=
  fun_callsD (A := A202) mixed Tryz.func202 (c := (Tryz.f202.body).getD .skip) rfl (by kernel_rfl) (Eq.mp (by kernel_rfl) h)
theorem creadE_ok {F : Nat → Prop} {w : World} {b : Nat} {rs : List (List Int × Int)} {ws tk : List Int} (h : CuO F w b rs ws tk) (n : Int) :
    CallR Tryz.prog 145 [pt b, .int .i64 n] w fun v w' => ∃ a l c, v = .tuple #[.slice a l c, .int .i64 (readC n rs).2.1] ∧ OB w' a l c (readC n rs).1 ∧ Fresh w a ∧ CuO F w' b (readC n rs).2.2 ws tk ∧ Kept F w w' := by
  by_cases hz : ∀ r t, rs = r :: t → r.2 = 0
  · exact cread_ok h hz n
  obtain ⟨r, t, rfl, hr0⟩ : ∃ r t, rs = r :: t ∧ r.2 ≠ 0 := by
    cases rs with
    | nil => exact absurd (fun r t e => by cases e) hz
    | cons r t => exact ⟨r, t, rfl, fun e => hz fun r' t' e' => by cases e'; exact e⟩
  have hC := h
  refine C145 ?_
  unfold L145
  intro w1
  have hk1 : Kept No w w1 := Kept.alloc _ w _
  have hx1 : Blk w1 w.heap.size #[pt b] := Blk.alloc w _ _
  have hs1 : w1.heap.size = w.heap.size + 1 := by simp [w1]
  clear_value w1
  generalize hg : w.heap.size = g at *
  have hC1 := hC.keep hk1 (fun _ _ e => e)
  obtain ⟨ar, lr, cr, aw, lw, cw, ak, lk, ck, es, hb, h1, h2, h3, h4, h5, h6, h7, h8, h9, h10⟩ := hC1
  have hFg : ∀ x, F x → x < g := by
    obtain ⟨_, _, _, _, _, _, _, _, _, _, _, _, _, _, _, _, h6', _⟩ := hC
    intro x hx; have := h6' x hx; omega
  have hbad : ∀ {k : Int}, readC n (r :: t) = ([], k, r :: t) → ∃ a l c, Value.tuple #[.slice none 0 0, .int .i64 k] = .tuple #[.slice a l c, .int .i64 (readC n (r :: t)).2.1] ∧ OB w1 a l c (readC n (r :: t)).1 ∧ Fresh w a ∧ CuO F w1 b (readC n (r :: t)).2.2 ws tk ∧ Kept F w w1 := by
    intro k e; rw [e]; exact ⟨none, 0, 0, rfl, OB.nil _, Fresh.none _, hC.keep hk1 (fun _ _ e => e), hk1.mono fun _ _ e => e.elim⟩
  have hlr : (r :: t).length = lr := by
    have := h1.1
    rw [ansC_len] at this
    have := h2.1; omega
  have hlr1 : 1 ≤ lr := by simp at hlr; omega
  refine ⟨_, hx1.cell 0, condF rfl ⟨_, hx1.cell 0, nnI ⟨true, hb.at0 rfl, condF rfl (condP (fun g1 => hbad ?_) fun g1 => condP (fun g2 => hbad ?_) fun g2 => condI (fun g3 => hbad ?_) (fun g3 => ⟨_, hx1.cell 0, nnI ⟨ar, lr, cr, hb.at (i := 1) rfl, condF (by simp; omega) ?_⟩⟩))⟩⟩⟩
  · unfold readC; rw [if_pos (by omega)]
  · unfold readC; rw [if_pos (by omega)]
  · simp only [beq_iff_eq] at g3
    unfold readC; rw [if_neg (by omega), if_pos g3]
  simp only [beq_eq_false_iff_ne] at g3
  obtain ⟨e, es', rfl⟩ : ∃ e t, es = e :: t := by
    cases es with
    | nil => have := h2.1; simp at this
    | cons e t => exact ⟨e, t, rfl⟩
  obtain ⟨k1, k2, k3⟩ := h2.2 0 e r rfl rfl
  have har : ∃ q, ar = some q := by
    cases ar with
    | none => have := (RdS.isNone h1.rd rfl).1; omega
    | some q => exact ⟨q, rfl⟩
  obtain ⟨q, rfl⟩ := har
  have hc1 : w1.cell? ((q.add (Int.toNat 0 * 2)).add 1) = some (.int .i64 e.2) := by
    rw [Lw.add_add]; exact h1.rd.2.2.2 q rfl 1 _ (by simp [ansC])
  have he : readC n (r :: t) = ([], r.2, t) := by
    unfold readC; rw [if_neg (by omega), if_neg g3]; simp only [if_pos hr0]
  rw [he]
  refine ⟨_, hx1.cell 0, nnI ⟨some q, lr, cr, hb.at (i := 1) rfl, ⟨by omega, by omega⟩, nnI ⟨e.2, hc1, condT (by rw [k2]; simpa using hr0) ⟨e.2, hc1, fun nd => cuDrop_ok ?_⟩⟩⟩⟩
  unfold L202
  intro w3
  have hk3 : Kept No w1 w3 := (Kept.drewN No w1 nd).no (Kept.drew No _)
  have hs3 : w3.heap.size = w1.heap.size := rfl
  clear_value w3
  have hx3 := hx1.keep hk3 fun e => e
  have hb3 := hb.keep hk3 fun e => e
  refine ⟨_, hx3.cell 0, _, hx3.cell 0, nnI ⟨some q, lr, cr, hb3.at (i := 1) rfl, ⟨by omega, by omega⟩, nnI (stC_at hb3 (by simp) fun w6 hb6 hk6 hs6 => ⟨none, 0, 0, by rw [k2], OB.nil _, Fresh.none _, ?_, ?_⟩)⟩⟩
  · have q1 := h1.keep hk3 fun _ _ e => e
    have hfr := SlO.from q1 1 (by omega)
    rw [← ansC_drop] at hfr
    refine ⟨_, _, _, _, _, _, _, _, _, es', by simpa using hb6, hfr.keep hk6 (fun x hx e => (h7 x (inA_adv.1 hx)).2 e), ?_, (h3.keep hk3 fun _ _ _ e => e).keep hk6 (fun x _ hx e => (h8 x hx).2.1 e), (h4.keep hk3 fun _ _ e => e).keep hk6 (fun x hx e => (h9 x hx).2.1 e), h5, fun x hx => by have := h6 x hx; omega, fun x hx => h7 x (inA_adv.1 hx), fun x hx => ⟨(h8 x hx).1, (h8 x hx).2.1, fun e => (h8 x hx).2.2.1 (inA_adv.1 e), (h8 x hx).2.2.2⟩,
      fun x hx => ⟨(h9 x hx).1, (h9 x hx).2.1, fun e => (h9 x hx).2.2 (inA_adv.1 e)⟩, fun y hy => h10 y (by simp [hy])⟩
    exact (((AnsR.tail h2).keep hk3 fun _ _ e => e).mono (fun x hx => ⟨hx.1, hx.2.1, fun e => hx.2.2.1 (inA_adv.1 e), hx.2.2.2⟩)).keep hk6 (fun x hx e => hx.2.1 e)
  · exact ((hk1.no hk3).mono fun _ _ e => e.elim).trans hk6 fun x _ e => e ▸ h5
end Go.Proofs.YtpoaacnnhgebfaaGreat
namespace Go.Lw
def FW (ro : Option Nat) : Fence := { fn := fun _ => True, depth := none, alive := false, round := ro }
theorem callsIn_FW {ro : Option Nat} {n : Nat} {P : Program} {f : FuncId} {args : Array Value} {w : World} {R : Ending → World → Prop} : CallsIn (FW ro) n P f args w R ↔ Calls P f args w R :=
  callsIn_wide (n := n)
def AgreeD (ds : List Deferred) (a : Act) (e : Env) : Prop := a.defers = ds ∧ ∀ t, a.tmps.getD t undef = e t
theorem AgreeD.eval {ds : List Deferred} {a : Act} {e : Env} (h : AgreeD ds a e) : a.eval = ev e := by
  funext x
  cases x with
  | tmp t => exact h.2 t
  | _ => rfl
theorem AgreeD.put {ds : List Deferred} {a : Act} {e : Env} (h : AgreeD ds a e) (d : Option Nat) (v : Value) (hd : ∀ k, d = some k → k < a.tmps.size) : AgreeD ds (a.put d v) (upd e d v) := by
  have h0 : Agree { a with defers := [] } e := ⟨rfl, h.2⟩
  have h1 := h0.put d v hd
  cases d with
  | none => exact ⟨h.1, h1.2⟩
  | some d => exact ⟨h.1, h1.2⟩
def YieldR (P : Program) (l : Nat) (args : List Value) (W : World) (R : Bool → World → Prop) : Prop :=
  ∃ fn tmps assign body, (Instr.yield l args.toArray).run P W = .ok (.round l fn tmps assign body) W ∧ RoundIn (FW none) 0 P l fn tmps assign body W fun e W' => ∃ b, e = .returned (.bool b) ∧ R b W'
def opSI (P : Program) (r : Operand → Value) (o : Oper) (K : Value → World → Prop) (w : World) : Prop :=
  match o.op with
  | .call c =>
    match c.callee with
    | .value (.tmp t) => ∃ l : Nat, r (.tmp t) = .func (.yield l) #[] #[] ∧ YieldR P l (c.args.toList.map r) w fun b w' => K (.bool b) w'
    | _ => opS P r o K w
  | .load t x => match r x with | .pointer p => nn p fun a => loadS P t a w (fun v => K v w) | _ => False
  | .store t x y => match r x with | .pointer p => nn p fun a => storeS P t a (r y) w (fun w => K undef w) | _ => False
  | _ => opS P r o K w
section
variable {P : Program} {o : Oper} {a : Act} {w : World} {K' : Act → World → Prop} {Q : Exit → Act → World → Prop} {ro : Option Nat}
theorem opS_nodefer {r : Operand → Value} {K : Value → World → Prop} (h : opS P r o K w) : ∀ c, o.op ≠ .defer c := by
  intro c hc
  unfold opS at h
  rw [hc] at h
  exact h
theorem opIn_of_wp (hnd : ∀ c, o.op ≠ .defer c) (h : o.wp P a w K' Q) : o.wpIn (FW ro) 0 P a w K' Q := by
  refine ⟨fun _ _ => trivial, ?_⟩
  rw [Oper.semAt_eq _ _ _ hnd]
  unfold Oper.wp at h
  cases hr : (execOp a.eval o).run P w with
  | ok nx w' =>
    rw [hr] at h
    cases nx with
    | value v => exact h
    | skip => exact h
    | defer d => exact h
    | enter f args =>
      refine ⟨(fun e => by cases e), ?_⟩
      exact callsIn_FW.2 h
    | row row args =>
      refine ⟨(fun e => by cases e), ?_⟩
      intro c cs _
      obtain ⟨v, w'', h1, h2⟩ := h c cs
      exact ⟨v, w'', h1, stepsIn_wide.2 h2⟩
    | _ => exact h.elim
  | halt hh w' =>
    rw [hr] at h
    cases hh with
    | panic v => exact h
    | _ => exact h.elim
theorem opSI_sound {K : Value → World → Prop} (h : opSI P a.eval o K w) (hk : ∀ v w', K v w' → K' (a.put o.dst v) w') : o.wpIn (FW ro) 0 P a w K' Q := by
  unfold opSI at h
  split at h
  · rename_i c ho
    split at h
    · rename_i t hc
      obtain ⟨l, hl, fn, tmps, assign, body, hy, hR⟩ := h
      refine ⟨fun _ _ => trivial, ?_⟩
      rw [Oper.semAt_eq _ _ _ (by rw [ho]; intro c' e; cases e)]
      have hrun : (execOp a.eval o).run P w = .ok (.round l fn tmps assign body) w := by
        have e : (#[] ++ c.args.map a.eval : Array Value) = (c.args.toList.map a.eval).toArray := by simp [mapL]
        unfold execOp
        simp only [ho, resolve, hc, Deferred.ofValue, hl, Sem.run_bind, Sem.run_pure, Result.andThen_ok, invoke, e]
        simpa using hy
      rw [hrun]
      refine ⟨(fun e => by cases e), RoundIn.mono hR ?_⟩
      rintro e w' ⟨b, rfl, hb⟩
      exact hk _ _ hb
    · exact opIn_of_wp (opS_nodefer h) (opS_sound h hk)
  · rename_i t x ho
    split at h
    · rename_i p hx
      obtain ⟨q, rfl, h⟩ := nn_elim h
      have h' : opS P a.eval o K w := by
        unfold opS
        simp only [ho, hx]
        exact h
      exact opIn_of_wp (opS_nodefer h') (opS_sound h' hk)
    · exact h.elim
  · rename_i t x y ho
    split at h
    · rename_i p hx
      obtain ⟨q, rfl, h⟩ := nn_elim h
      have h' : opS P a.eval o K w := by
        unfold opS
        simp only [ho, hx]
        exact h
      exact opIn_of_wp (opS_nodefer h') (opS_sound h' hk)
    · exact h.elim
  · exact opIn_of_wp (opS_nodefer h) (opS_sound h hk)
end
def opsSI (P : Program) (ops : Array Oper) : List Oper → Env → World → (Env → World → Prop) → Prop
  | [], e, w, K => K e w
  | o :: r, e, w, K => guardS ops o e (fun e => opSI P (ev e) o (fun v w' => opsSI P ops r (upd e o.dst v) w' K) w) (fun e => opsSI P ops r (upd e o.dst undef) w K)
theorem opsSI_sound {P : Program} {ops : Array Oper} {Q : Exit → Act → World → Prop} {ro : Option Nat} {ds : List Deferred} : ∀ (l : List Oper) (e : Env) (w : World) (a : Act) (K : Env → World → Prop), AgreeD ds a e → fitsOps a.tmps.size l = true → opsSI P ops l e w K →
    (∀ a' e' w', AgreeD ds a' e' → a'.tmps.size = a.tmps.size → (∀ t, (∀ o ∈ l, o.dst ≠ some t) → e' t = e t) → K e' w' → Q .normal a' w') → wpListIn (FW ro) 0 P ops Q l a w
  | [], e, w, a, K, ha, _, h, hK => hK a e w ha rfl (fun _ _ => rfl) h
  | o :: r, e, w, a, K, ha, hf, h, hK => by
    simp only [fitsOps, List.all_cons, Bool.and_eq_true] at hf
    have hd : ∀ k, o.dst = some k → k < a.tmps.size := fun k hk => by
      have := hf.1; rw [hk] at this; exact bltL this
    have step : ∀ v w', opsSI P ops r (upd e o.dst v) w' K → wpListIn (FW ro) 0 P ops Q r (a.put o.dst v) w' := fun v w' h' => by
      refine opsSI_sound r _ _ _ K (ha.put _ _ hd) (by rw [put_size]; exact hf.2) h' fun a' e' w'' ha' hs hfr hk => ?_
      refine hK a' e' w'' ha' (by rw [hs, put_size]) (fun t ht => ?_) hk
      rw [hfr t (fun o' ho' => ht o' (by simp [ho']))]
      have hne := ht o (by simp)
      cases hdd : o.dst with
      | none => rfl
      | some d => rw [upd_eq, if_neg (fun e => hne (by rw [hdd, e]))]
    have hA : Agree { a with defers := [] } e := ⟨rfl, ha.2⟩
    rcases guardS_elim hA h with ⟨hw, h⟩ | ⟨hw, h⟩
    · unfold wpListIn
      have hw' : Region.wanted o (yielded ops a.tmps) = true := hw
      rw [if_pos hw']
      rw [← ha.eval] at h
      exact opSI_sound h step
    · unfold wpListIn
      have hw' : Region.wanted o (yielded ops a.tmps) = false := hw
      rw [if_neg (by rw [hw']; simp)]
      exact ⟨fun _ _ => trivial, step _ _ h⟩
def semI (P : Program) (A : Ann) : Code → (Exit → Env → World → Prop) → Env → World → Prop
  | .skip, Q, e, w => Q .normal e w
  | .region _ ops draw, Q, e, w => bif draw then False else opsSI P ops ops.toList e w (Q .normal)
  | .seq a b, Q, e, w => semI P A a (seqQ (fun e w => semI P A b Q e w) Q) e w
  | .cond c a b, Q, e, w => match ev e c with | .bool t => cond t (semI P A a Q e w) (semI P A b Q e w) | _ => False
  | .block id c, Q, e, w => semI P A c (blockQ id Q) e w
  | .loop c, Q, e, w =>
    match lk A.loops (firstId c) with
    | none => False
    | some ls => bif subB (ls.map (·.1)) (written c) && shsB (ls.map (·.2)) (ls.map fun s => e s.1) then
        ∃ (I : List Value → World → Prop) (μ : List Value → World → Nat), I (ls.map fun s => e s.1) w ∧
          ∀ d : Env, allShs (ls.map (·.2)) fun vs => ∀ w', I vs w' →
            semI P A c (seqQ (fun e' w'' => bif shsB (ls.map (·.2)) (ls.map fun s => e' s.1) then I (ls.map fun s => e' s.1) w'' ∧ μ (ls.map fun s => e' s.1) w'' < μ vs w' else False) Q) (havoc e d (written c) (ls.map (·.1)) vs) w'
      else False
  | .exit id, Q, e, w => Q (.exit id) e w
  | .ret, Q, e, w => Q .ret e w
  | _, _, _, _ => False
def liftD (ds : List Deferred) (n : Nat) (W : List Nat) (e0 : Env) (Q : Exit → Env → World → Prop) (ex : Exit) (a : Act) (w : World) : Prop :=
  okEx ex ∧ ∃ e, AgreeD ds a e ∧ a.tmps.size = n ∧ (∀ t, memB W t = false → e t = e0 t) ∧ Q ex e w
theorem semI_sound {P : Program} {A : Ann} {ro : Option Nat} {ds : List Deferred} : ∀ (c : Code) (Q : Exit → Env → World → Prop) (e : Env) (w : World) (a : Act), AgreeD ds a e → fits a.tmps.size c = true → semI P A c Q e w →
    c.wpIn (FW ro) 0 P (liftD ds a.tmps.size (written c) e Q) a w := by
  intro c
  induction c with
  | skip => intro Q e w a ha _ h; exact wpIn_skip ⟨trivial, e, ha, rfl, fun _ _ => rfl, h⟩
  | region id ops draw =>
    intro Q e w a ha hf h
    unfold semI at h
    cases draw with
    | true => exact h.elim
    | false =>
      rw [cond_false] at h
      exact wpIn_region_list (opsSI_sound _ _ _ _ _ ha hf h fun a' e' w' ha' hs hfr hk => ⟨trivial, e', ha', hs, fun t ht => hfr t (dsts_out ht), hk⟩)
  | seq x y ihx ihy =>
    intro Q e w a ha hf h
    unfold fits at hf
    simp only [Bool.and_eq_true] at hf
    unfold semI at h
    refine wpIn_seq (wpIn_mono (ihx _ e w a ha hf.1 h) ?_)
    intro ex a' w' ⟨hok, e', ha', hs, hfr, hq⟩
    have hother : Q ex e' w' → liftD ds a.tmps.size (written (.seq x y)) e Q ex a' w' := fun hq => ⟨hok, e', ha', hs, fun t ht => hfr t (memB_append ht).1, hq⟩
    cases ex with
    | normal =>
      refine wpIn_mono (ihy Q e' w' a' ha' (by rw [hs]; exact hf.2) hq) ?_
      intro ex a2 w2 ⟨hok2, e2, ha2, hs2, hfr2, hq2⟩
      exact ⟨hok2, e2, ha2, by rw [hs2, hs], fun t ht => by rw [hfr2 t (memB_append ht).2, hfr t (memB_append ht).1], hq2⟩
    | exit i => exact hother hq
    | goto i => exact hother hq
    | ret => exact hother hq
    | panic c => exact hok.elim
    | outgrown => exact hok.elim
  | cond c x y ihx ihy =>
    intro Q e w a ha hf h
    unfold fits at hf
    simp only [Bool.and_eq_true] at hf
    unfold semI at h
    split at h
    · rename_i t ht
      refine wpIn_cond (t := t) (by rw [ha.eval]; exact ht) ?_
      cases t with
      | true =>
        simp only [cond_true] at h
        refine wpIn_mono (ihx Q e w a ha hf.1 h) ?_
        intro ex a2 w2 ⟨hok2, e2, ha2, hs2, hfr2, hq2⟩
        exact ⟨hok2, e2, ha2, hs2, fun t ht => hfr2 t (memB_append ht).1, hq2⟩
      | false =>
        simp only [cond_false] at h
        refine wpIn_mono (ihy Q e w a ha hf.2 h) ?_
        intro ex a2 w2 ⟨hok2, e2, ha2, hs2, hfr2, hq2⟩
        exact ⟨hok2, e2, ha2, hs2, fun t ht => hfr2 t (memB_append ht).2, hq2⟩
    · exact h.elim
  | block id x ih =>
    intro Q e w a ha hf h
    unfold semI at h
    refine wpIn_block (wpIn_mono (ih _ e w a ha hf h) ?_)
    intro ex a2 w2 ⟨hok2, e2, ha2, hs2, hfr2, hq2⟩
    cases ex with
    | exit i =>
      simp only [blockQ] at hq2
      change (if i = id then _ else _)
      by_cases hi : i = id
      · subst hi
        simp only [Nat.beq_refl, cond_true] at hq2
        rw [if_pos rfl]
        exact ⟨trivial, e2, ha2, hs2, hfr2, hq2⟩
      · have : Nat.beq i id = false := by
          cases hb : Nat.beq i id with
          | false => rfl
          | true => exact absurd (Nat.eq_of_beq_eq_true hb) hi
        simp only [this, cond_false] at hq2
        rw [if_neg hi]
        exact ⟨trivial, e2, ha2, hs2, hfr2, hq2⟩
    | normal => exact ⟨hok2, e2, ha2, hs2, hfr2, hq2⟩
    | goto l => exact ⟨hok2, e2, ha2, hs2, hfr2, hq2⟩
    | ret => exact ⟨hok2, e2, ha2, hs2, hfr2, hq2⟩
    | panic ch => exact hok2.elim
    | outgrown => exact hok2.elim
  | loop x ih =>
    intro Q e w a ha hf h
    unfold semI at h
    split at h
    · exact h.elim
    · rename_i ls _
      cases hb : (subB (ls.map (·.1)) (written x) && shsB (ls.map (·.2)) (ls.map fun s => e s.1)) with
      | false => rw [hb, cond_false] at h; exact h.elim
      | true =>
        rw [hb, cond_true] at h
        simp only [Bool.and_eq_true] at hb
        obtain ⟨hsub, hsh⟩ := hb
        obtain ⟨I, μ, hI, hr⟩ := h
        have hread : ∀ {a' : Act} {e' : Env}, AgreeD ds a' e' → (ls.map fun s => a'.tmps.getD s.1 undef) = ls.map fun s => e' s.1 := fun ha' => by
          apply List.map_congr_left; intro s _; exact ha'.2 s.1
        refine wpIn_loop (fun a' w' => ∃ e', AgreeD ds a' e' ∧ a'.tmps.size = a.tmps.size ∧ (∀ t, memB (written x) t = false → e' t = e t) ∧ shsB (ls.map (·.2)) (ls.map fun s => e' s.1) = true ∧ I (ls.map fun s => e' s.1) w')
          (fun a' w' => μ (ls.map fun s => a'.tmps.getD s.1 undef) w') ⟨e, ha, rfl, fun _ _ => rfl, hsh, hI⟩ ?_
        intro a1 w1 ⟨e1, ha1, hs1, hfr1, hsh1, hI1⟩
        have h1 := allShs_elim (hr e1) hsh1 w1 hI1
        rw [map_fst, havoc_self hfr1] at h1
        refine wpIn_mono (ih _ e1 w1 a1 ha1 (by rw [hs1]; exact hf) h1) ?_
        intro ex a2 w2 ⟨hok2, e2, ha2, hs2, hfr2, hq2⟩
        have hfr : ∀ t, memB (written x) t = false → e2 t = e t := fun t ht => by rw [hfr2 t ht, hfr1 t ht]
        cases ex with
        | normal =>
          simp only [seqQ] at hq2
          cases hsh2 : shsB (ls.map (·.2)) (ls.map fun s => e2 s.1) with
          | false => rw [hsh2, cond_false] at hq2; exact hq2.elim
          | true =>
            rw [hsh2, cond_true] at hq2
            refine ⟨⟨e2, ha2, by rw [hs2, hs1], hfr, hsh2, hq2.1⟩, ?_⟩
            rw [hread ha2, hread ha1, map_fst ls e1]
            exact hq2.2
        | exit i => exact ⟨hok2, e2, ha2, by rw [hs2, hs1], hfr, hq2⟩
        | goto l => exact ⟨hok2, e2, ha2, by rw [hs2, hs1], hfr, hq2⟩
        | ret => exact ⟨hok2, e2, ha2, by rw [hs2, hs1], hfr, hq2⟩
        | panic ch => exact hok2.elim
        | outgrown => exact hok2.elim
  | exit id => intro Q e w a ha _ h; exact wpIn_exit ⟨trivial, e, ha, rfl, fun _ _ => rfl, h⟩
  | ret => intro Q e w a ha _ h; exact wpIn_ret ⟨trivial, e, ha, rfl, fun _ _ => rfl, h⟩
  | label l => intro Q e w a _ _ h; exact (h : False).elim
  | scope x _ => intro Q e w a _ _ h; exact (h : False).elim
  | rangeFunc _ _ _ _ => intro Q e w a _ _ h; exact (h : False).elim
  | goto _ => intro Q e w a _ _ h; exact (h : False).elim
  | refuse _ => intro Q e w a _ _ h; exact (h : False).elim
end Go.Lw
namespace Go.Lw
theorem funI_calls {P : Program} {A : Ann} {k : FuncId} {fn : Func} {c : Code} {args : List Value} {w : World} {Q : Value → World → Prop}
    (hf : P.funcs[k]? = some fn) (hb : fn.body = some c) (hn : (Nat.ble args.length fn.ntmps && fits fn.ntmps c) = true)
    (h : semI P A c (funQ P fn.results.toList Q) (env0 args) w) : CallR P k args w Q := by
  simp only [Bool.and_eq_true] at hn
  have hle := Nat.le_of_ble_eq_true hn.1
  have hsz : (args.toArray ++ Array.replicate (fn.ntmps - args.toArray.size) undef).size = fn.ntmps := by simp; omega
  have ha : AgreeD [] { tmps := args.toArray ++ Array.replicate (fn.ntmps - args.toArray.size) undef, defers := [] } (env0 args) := by
    refine ⟨rfl, fun t => ?_⟩
    unfold env0
    simp only [Array.getD_eq_getD_getElem?]
    by_cases ht : t < args.length
    · rw [Array.getElem?_append_left (by simpa using ht)]; simp
    · have h1 : args[t]? = none := by simp; omega
      rw [h1]
      rw [Array.getElem?_append_right (by simp; omega)]
      by_cases h2 : t - args.length < fn.ntmps - args.length
      · simp [h2]
      · simp [h2]
  unfold CallR
  rw [← callsIn_FW (ro := none) (n := 0)]
  refine callsIn_of_wp hf hb trivial ?_ rfl
  refine wpIn_mono (semI_sound c _ (env0 args) w _ ha (by simp only [hsz]; exact hn.2) h) ?_
  intro ex a' w' ⟨_, e', ha', _, _, hq⟩
  have fin : resS P fn.results.toList e' w' (fun vs => Q (retV vs) w') → a'.defers = [] ∧ ∃ v, (results fn a'.tmps).run P w' = .ok v w' ∧ ∃ v', Ending.returned v = .returned v' ∧ Q v' w' := fun hr => by
    obtain ⟨vs, hK, hrun⟩ := resS_run ha' _ _ hr
    exact ⟨ha'.1, retV vs, results_run hrun, _, rfl, hK⟩
  cases ex with
  | normal => exact fin hq
  | ret => exact fin hq
  | exit i => exact hq.elim
  | goto i => exact hq.elim
  | panic c => exact hq.elim
  | outgrown => exact hq.elim
end Go.Lw
namespace Go.Lw
structure RfP where
  c : Code
  id : Nat
  g : Operand
  ps : Array Tmp
  assign : Code
  bd : Code
  post : Code
def RfP.code (p : RfP) : Code := .seq (.seq p.c (.block p.id (.rangeFunc p.g p.ps p.assign p.bd))) p.post
end Go.Lw
