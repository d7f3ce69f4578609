/- Part 2 of 21 of the proof of TopFlushed. Conditions: the theorem's: none. -/
import Derived.Test.YteojolihgijdhaaGreatDoorKTopFlushed1
set_option linter.unusedVariables false
set_option maxRecDepth 512
namespace Go.Lw
abbrev Env:=Nat→Value
def ev (e:Env):Operand→Value
 | .tmp t=>e t
 | .const v=>v
 | .global g=>.pointer (some ⟨g,0,none⟩)
 | .func f=>.func (.func f) #[] #[]
def upd (e:Env) (d:Option Nat) (v:Value):Env:=
 match d with
 | none=>e
 | some d=>fun t=>cond (Nat.beq t d) v (e t)
def AgreeX (D:List Deferred) (a:Act) (e:Env):Prop:=a.defers=D∧∀ t,a.tmps.getD t undef=e t
abbrev Agree:Act→Env→Prop:=AgreeX []
variable {D : List Deferred}
theorem AgreeX.eval {a:Act} {e:Env} (h:AgreeX D a e):a.eval=ev e:=by
 funext x
 cases x with
 | tmp t=>exact h.2 t
 | _=>rfl
theorem upd_eq (e:Env) (d:Nat) (v:Value) (t:Nat):upd e (some d) v t=if t=d then v else e t:=by
 unfold upd
 by_cases h:t=d
 ·subst h; simp
 ·have:Nat.beq t d=false:=by
   cases hb:Nat.beq t d with
   | false=>rfl
   | true=>exact absurd (Nat.eq_of_beq_eq_true hb) h
  simp [this,h]
theorem AgreeX.put {a:Act} {e:Env} (h:AgreeX D a e) (d:Option Nat) (v:Value) (hd:∀ k,d=some k→k< a.tmps.size):AgreeX D (a.put d v) (upd e d v):=by
 cases d with
 | none=>exact h
 | some d=>
  refine ⟨h.1,fun t=>?_⟩
  rw [upd_eq,← h.2 t]
  have:=hd d rfl
  simp only [Act.put,Array.getD_eq_getD_getElem?]
  by_cases htd:t=d
  ·subst htd; simp [this]
  ·rw [if_neg htd,Array.getElem?_setIfInBounds_ne (by omega)]
inductive CK where
 | int (k:IntKind) | bool | str | ptr | slice | map | any
inductive Sh where
 | one (c:CK)
 | agg (cs:List CK)
 | big (n:Nat)
def exCK:CK→(Value→Prop)→Prop
 | .int k,K=>∃ n:Int,K (.int k n)
 | .bool,K=>∃ b:Bool,K (.bool b)
 | .str,K=>∃ s:ByteArray,K (.string s)
 | .ptr,K=>∃ p:Option Addr,K (.pointer p)
 | .slice,K=>∃ (a:Option Addr) (l c:Nat),K (.slice a l c)
 | .map,K=>∃ r:Option Nat,K (.map r)
 | .any,K=>∃ v:Value,K v
def exCKs:List CK→(List Value→Prop)→Prop
 | [],K=>K []
 | c :: cs,K=>exCK c fun v=>exCKs cs fun vs=>K (v :: vs)
def exSh:Sh→(Value→Prop)→Prop
 | .one c,K=>exCK c K
 | .agg cs,K=>exCKs cs fun vs=>K (.agg vs.toArray)
 | .big n,K=>∃ vs:List Value,vs.length=n∧K (.agg vs.toArray)
def exShs:List Sh→(List Value→Prop)→Prop
 | [],K=>K []
 | s :: ss,K=>exSh s fun v=>exShs ss fun vs=>K (v :: vs)
def allCK:CK→(Value→Prop)→Prop
 | .int k,K=>∀ n:Int,K (.int k n)
 | .bool,K=>∀ b:Bool,K (.bool b)
 | .str,K=>∀ s:ByteArray,K (.string s)
 | .ptr,K=>∀ p:Option Addr,K (.pointer p)
 | .slice,K=>∀ (a:Option Addr) (l c:Nat),K (.slice a l c)
 | .map,K=>∀ r:Option Nat,K (.map r)
 | .any,K=>∀ v:Value,K v
def allCKs:List CK→(List Value→Prop)→Prop
 | [],K=>K []
 | c :: cs,K=>allCK c fun v=>allCKs cs fun vs=>K (v :: vs)
def allSh:Sh→(Value→Prop)→Prop
 | .one c,K=>allCK c K
 | .agg cs,K=>allCKs cs fun vs=>K (.agg vs.toArray)
 | .big n,K=>∀ vs:List Value,vs.length=n→K (.agg vs.toArray)
def allShs:List Sh→(List Value→Prop)→Prop
 | [],K=>K []
 | s :: ss,K=>allSh s fun v=>allShs ss fun vs=>K (v :: vs)
def ckB:CK→Value→Bool
 | .int k,.int k' _=>decide (k=k')
 | .bool,.bool _=>true
 | .str,.string _=>true
 | .ptr,.pointer _=>true
 | .slice,.slice _ _ _=>true
 | .map,.map _=>true
 | .any,_=>true
 | _,_=>false
def cksB:List CK→List Value→Bool
 | [],[]=>true
 | c :: cs,v :: vs=>ckB c v && cksB cs vs
 | _,_=>false
def shB:Sh→Value→Bool
 | .one c,v=>ckB c v
 | .agg cs,.agg vs=>cksB cs vs.toList
 | .big n,.agg vs=>Nat.beq vs.size n
 | _,_=>false
def shsB:List Sh→List Value→Bool
 | [],[]=>true
 | s :: ss,v :: vs=>shB s v && shsB ss vs
 | _,_=>false
theorem exCK_elim {c:CK} {K:Value→Prop} (h:exCK c K):∃ v,K v:=by
 cases c <;> simp only [exCK] at h
 case slice=>obtain ⟨a,l,c,h⟩:=h; exact ⟨_,h⟩
 all_goals (obtain ⟨x,h⟩:=h; exact ⟨_,h⟩)
theorem exCKs_elim {cs:List CK}:∀ {K:List Value→Prop},exCKs cs K→∃ vs,vs.length=cs.length∧K vs:=by
 induction cs with
 | nil=>intro K h; exact ⟨[],rfl,h⟩
 | cons c cs ih=>
  intro K h
  obtain ⟨v,h⟩:=exCK_elim h
  obtain ⟨vs,hl,h⟩:=ih h
  exact ⟨v :: vs,by simp [hl],h⟩
theorem exSh_elim {s:Sh} {K:Value→Prop} (h:exSh s K):∃ v,K v:=by
 cases s with
 | one c=>exact exCK_elim h
 | agg cs=>obtain ⟨vs,_,h⟩:=exCKs_elim h; exact ⟨_,h⟩
 | big n=>obtain ⟨vs,_,h⟩:=h; exact ⟨_,h⟩
theorem exShs_elim {ss:List Sh}:∀ {K:List Value→Prop},exShs ss K→∃ vs,K vs:=by
 induction ss with
 | nil=>intro K h; exact ⟨[],h⟩
 | cons c cs ih=>
  intro K h
  obtain ⟨v,h⟩:=exSh_elim h
  obtain ⟨vs,h⟩:=ih h
  exact ⟨v :: vs,h⟩
theorem allCK_elim {c:CK} {K:Value→Prop} (h:allCK c K) {v:Value} (hv:ckB c v=true):K v:=by
 cases c <;> cases v <;> simp [ckB] at hv <;> simp only [allCK] at h
 all_goals (try subst hv)
 all_goals (first | exact h _ | exact h _ _ _ | exact h)
theorem allCKs_elim {cs:List CK}:∀ {K:List Value→Prop},allCKs cs K→∀ {vs:List Value},cksB cs vs=true→K vs:=by
 induction cs with
 | nil=>intro K h vs hv; cases vs with | nil=>exact h | cons=>simp [cksB] at hv
 | cons c cs ih=>
  intro K h vs hv
  cases vs with
  | nil=>simp [cksB] at hv
  | cons v vs=>
   simp only [cksB,Bool.and_eq_true] at hv
   exact ih (allCK_elim h hv.1) hv.2
theorem allSh_elim {s:Sh} {K:Value→Prop} (h:allSh s K) {v:Value} (hv:shB s v=true):K v:=by
 cases s with
 | one c=>exact allCK_elim h hv
 | agg cs=>
  cases v <;> simp [shB] at hv
  simpa using allCKs_elim h hv
 | big n=>
  cases v <;> simp [shB] at hv
  rename_i vs
  have:=h vs.toList (by simpa using hv)
  simpa using this
theorem allShs_elim {ss:List Sh}:∀ {K:List Value→Prop},allShs ss K→∀ {vs:List Value},shsB ss vs=true→K vs:=by
 induction ss with
 | nil=>intro K h vs hv; cases vs with | nil=>exact h | cons=>simp [shsB] at hv
 | cons c cs ih=>
  intro K h vs hv
  cases vs with
  | nil=>simp [shsB] at hv
  | cons v vs=>
   simp only [shsB,Bool.and_eq_true] at hv
   exact ih (allSh_elim h hv.1) hv.2
def isAggB (P:Program) (t:TypeId):Bool:=
 match P.underlying t with
 | some (.struct _) | some (.array _ _)=>true
 | _=>false
def sizeP (P:Program) (t:TypeId):Option Nat:=(P.info? t).map (·.size)
def cks (P:Program):Nat→TypeId→Option (List CK)
 | 0,_=>none
 | n+1,t=>
  match P.underlying t with
  | some (.int k)=>some [.int k]
  | some .bool=>some [.bool]
  | some .string=>some [.str]
  | some (.pointer _)=>some [.ptr]
  | some (.slice _)=>some [.slice]
  | some (.map _ _)=>some [.map]
  | some (.struct fs)=>fs.toList.foldr (fun f acc=>match cks P n f.type,acc with | some a,some b=>some (a ++ b) | _,_=>none) (some [])
  | some (.array m e)=>bif Nat.ble m 8 then (match cks P n e with | some a=>some (List.flatten (List.replicate m a)) | none=>none) else none
  | some _=>some [.any]
  | none=>none
def shOf (P:Program) (t:TypeId):Sh:=
 match P.underlying t with
 | some (.struct _) | some (.array _ _)=>
  match cks P 8 t with
  | some cs=>.agg cs
  | none=>.big ((sizeP P t).getD 0)
 | _=>
  match cks P 8 t with
  | some [c]=>.one c
  | _=>.one .any
def Gives (P:Program) (r:Operand→Value) (o:Oper) (v:Value):Prop:=∀ w,(execOp r o).run P w=.ok (.value v) w
def nn:Option Addr→(Addr→Prop)→Prop
 | some a,K=>K a
 | none,_=>False
def adv (a:Option Addr) (l m size:Nat):Option Addr:=if m=l then a else a.map (·.add (l * size))
def inI (n:Int):Prop:=-9223372036854775808≤n∧n≤9223372036854775807
def mkI (k:IntKind) (n:Int) (K:Value→Prop):Prop:=
 match k with
 | .i64=>inI n∧K (.int .i64 n)
 | k=>K (.int k (k.wrap n))
theorem mkI_elim {k:IntKind} {n:Int} {K:Value→Prop} (h:mkI k n K):K (.int k (k.wrap n)):=by
 cases k <;> first | exact h | (rw [IntWalk.i64_in n h.1]; exact h.2)
def intS (op:BinOp) (k:IntKind) (a b:Int) (K:Value→Prop):Prop:=
 match op with
 | .add=>mkI k (a+b) K
 | .sub=>mkI k (a - b) K
 | .mul=>mkI k (a * b) K
 | .quo=>b≠0∧mkI k (a.tdiv b) K
 | .rem=>b≠0∧K (.int k (a.tmod b))
 | .and=>K (.int k (k.wrap (BitVec.ofInt k.bits a &&& BitVec.ofInt k.bits b).toNat))
 | .or=>K (.int k (k.wrap (BitVec.ofInt k.bits a ||| BitVec.ofInt k.bits b).toNat))
 | .xor=>K (.int k (k.wrap (BitVec.ofInt k.bits a ^^^ BitVec.ofInt k.bits b).toNat))
 | .andNot=>K (.int k (k.wrap (BitVec.ofInt k.bits a &&& ~~~ BitVec.ofInt k.bits b).toNat))
 | .eql=>K (.bool (a == b))
 | .neq=>K (.bool (a != b))
 | .lss=>K (.bool (decide (a< b)))
 | .leq=>K (.bool (decide (a≤b)))
 | .gtr=>K (.bool (decide (a > b)))
 | .geq=>K (.bool (decide (a≥b)))
 | .shl=>0≤b∧K (.int k (k.wrap (a * 2 ^ (min b.toNat k.bits))))
 | .shr=>0≤b∧K (.int k (a.fdiv (2 ^ (min b.toNat k.bits))))
def strS (op:BinOp) (a b:ByteArray) (K:Value→Prop):Prop:=
 match op with
 | .add=>a.size+b.size≤9223372036854775807∧K (.string (a ++ b))
 | .eql=>K (.bool (a.toList == b.toList))
 | .neq=>K (.bool (!(a.toList == b.toList)))
 | .lss=>K (.bool (Op.bytesLess a.toList b.toList))
 | .leq=>K (.bool (Op.bytesLess a.toList b.toList || a.toList == b.toList))
 | .gtr=>K (.bool (!(Op.bytesLess a.toList b.toList || a.toList == b.toList)))
 | .geq=>K (.bool (!Op.bytesLess a.toList b.toList))
 | _=>False
def isPtrT (P:Program) (t:TypeId):Bool:=match P.underlying t with | some (.pointer _)=>true | _=>false
def isSliceT (P:Program) (t:TypeId):Bool:=match P.underlying t with | some (.slice _)=>true | _=>false
def isBoolT (P:Program) (t:TypeId):Bool:=match P.underlying t with | some .bool=>true | _=>false
def isMapT (P:Program) (t:TypeId):Bool:=match P.underlying t with | some (.map _ _)=>true | _=>false
def isStringT (P:Program) (t:TypeId):Bool:=match P.underlying t with | some .string=>true | _=>false
def isIntT (P:Program) (t:TypeId):Bool:=match P.underlying t with | some (.int _)=>true | _=>false
def optE (q:Option Addr) (A B:Prop):Prop:=match q with | none=>A | some _=>B
def eqlS (P:Program) (t:TypeId) (x y:Value) (K:Bool→Prop):Prop:=
 match y with
 | .pointer q=>optE q (match x with | .pointer p=>bif isPtrT P t then K p.isNone else False | _=>False)
  (match x with | .pointer p=>bif isPtrT P t then ∃ r:Bool,(∀ w,(Op.equal t (.pointer p) (.pointer q)).run P w=.ok r w)∧K r else False | _=>False)
 | .slice none _ _=>match x with | .slice a _ _=>bif isSliceT P t then K a.isNone else False | _=>False
 | .map none=>match x with | .map a=>bif isMapT P t then K a.isNone else False | _=>False
 | .bool b=>match x with | .bool a=>bif isBoolT P t then K (a == b) else False | _=>False
 | _=>False
def binS (P:Program) (op:BinOp) (t:TypeId) (x y:Value) (K:Value→Prop):Prop:=
 match x with
 | .int k a=>match y with | .int k' b=>(match op with | .shl | .shr=>intS op k a b K | _=>bif decide (k=k') then intS op k a b K else False) | _=>False
 | .string a=>match y with | .string b=>strS op a b K | _=>False
 | x=>match op with
  | .eql=>eqlS P t x y fun b=>K (.bool b)
  | .neq=>eqlS P t x y fun b=>K (.bool !b)
  | _=>False
def unS (op:UnOp) (x:Value) (K:Value→Prop):Prop:=
 match x with
 | .bool b=>match op with | .not=>K (.bool !b) | _=>False
 | .int k n=>match op with | .neg=>mkI k (0 - n) K | _=>False
 | _=>False
theorem intS_sound {P:Program} {op:BinOp} {k:IntKind} {a b:Int} {K:Value→Prop} (h:intS op k a b K) (t:TypeId) {k':IntKind} (hk:k=k'∨op=.shl∨op=.shr) :
 ∃ v,K v∧∀ w,(binOp op t (.int k a) (.int k' b)).run P w=.ok v w:=by
 cases op <;> simp only [intS] at h
 case quo=>obtain ⟨h0,h⟩:=h; rcases hk with rfl | hk | hk <;> first | cases hk | exact ⟨_,mkI_elim h,fun w=>by simp [binOp,Op.intDiv,h0]⟩
 case add=>rcases hk with rfl | hk | hk <;> first | cases hk | exact ⟨_,mkI_elim h,fun w=>by simp [binOp,Op.intArith]⟩
 case sub=>rcases hk with rfl | hk | hk <;> first | cases hk | exact ⟨_,mkI_elim h,fun w=>by simp [binOp,Op.intArith]⟩
 case mul=>rcases hk with rfl | hk | hk <;> first | cases hk | exact ⟨_,mkI_elim h,fun w=>by simp [binOp,Op.intArith]⟩
 case rem=>obtain ⟨h0,h⟩:=h; rcases hk with rfl | hk | hk <;> first | cases hk | exact ⟨_,h,fun w=>by simp [binOp,Op.intDiv,h0]⟩
 case shl=>obtain ⟨h0,h⟩:=h; exact ⟨_,h,fun w=>by simp [binOp,Op.shift,Int.not_lt.2 h0]⟩
 case shr=>obtain ⟨h0,h⟩:=h; exact ⟨_,h,fun w=>by simp [binOp,Op.shift,Int.not_lt.2 h0]⟩
 all_goals (rcases hk with rfl | hk | hk <;> first | cases hk | exact ⟨_,h,fun w=>by simp [binOp,Op.intBits,Op.intCmp]⟩)
theorem strS_sound {P:Program} {op:BinOp} {a b:ByteArray} {K:Value→Prop} (h:strS op a b K) (t:TypeId) :
 ∃ v,K v∧∀ w,(binOp op t (.string a) (.string b)).run P w=.ok v w:=by
 cases op <;> simp only [strS] at h
 case add=>
  obtain ⟨h0,h⟩:=h
  refine ⟨_,h,fun w=>?_⟩
  have:¬ (((a.size+b.size:Nat):Int) > IntKind.i64.max):=by simp [IntKind.max,IntKind.bits,IntKind.signed]; omega
  simp only [binOp,Op.stringOp,if_neg this]; rfl
 all_goals first | exact h.elim | exact ⟨_,h,fun w=>rfl⟩
theorem equal_head (t:TypeId) (x y:Value):Op.equal t x y=Op.equalIn (9999+1) t x y:=rfl
theorem eqlS_sound {P:Program} {t:TypeId} {x y:Value} {K:Bool→Prop} (h:eqlS P t x y K) :
 ∃ b,K b∧∀ w,(Op.equal t x y).run P w=.ok b w:=by
 unfold eqlS at h
 split at h
 ·rename_i q
  cases q with
  | none=>
   simp only [optE] at h
   split at h
   ·rename_i p
    unfold isPtrT at h
    cases hu:P.underlying t with
    | none=>simp [hu] at h
    | some d=>
     cases d <;> simp only [hu,cond] at h
     all_goals first | exact h.elim | skip
     refine ⟨_,h,fun w=>?_⟩
     rw [equal_head,Op.equalIn]
     cases p <;> simp [run_underlying hu]
   ·exact h.elim
  | some b=>
   simp only [optE] at h
   split at h
   ·rename_i p
    cases hb:isPtrT P t with
    | false=>rw [hb,cond_false] at h; exact h.elim
    | true=>
     rw [hb,cond_true] at h
     obtain ⟨r,hr,hK⟩:=h
     exact ⟨r,hK,hr⟩
   ·exact h.elim
 ·split at h
  ·rename_i a _ _
   unfold isSliceT at h
   cases hu:P.underlying t with
   | none=>simp [hu] at h
   | some d=>
    cases d <;> simp only [hu,cond] at h
    all_goals first | exact h.elim | skip
    refine ⟨_,h,fun w=>?_⟩
    rw [equal_head,Op.equalIn]
    cases a <;> simp [run_underlying hu]
  ·exact h.elim
 ·split at h
  ·rename_i a
   unfold isMapT at h
   cases hu:P.underlying t with
   | none=>simp [hu] at h
   | some d=>
    cases d <;> simp only [hu,cond] at h
    all_goals first | exact h.elim | skip
    refine ⟨_,h,fun w=>?_⟩
    rw [equal_head,Op.equalIn]
    cases a <;> simp [run_underlying hu]
  ·exact h.elim
 ·split at h
  ·rename_i b _ a
   unfold isBoolT at h
   cases hu:P.underlying t with
   | none=>simp [hu] at h
   | some d=>
    cases d <;> simp only [hu,cond] at h
    all_goals first | exact h.elim | skip
    refine ⟨_,h,fun w=>?_⟩
    rw [equal_head,Op.equalIn]
    simp [run_underlying hu]
  ·exact h.elim
 ·exact h.elim
theorem eqlS_noAgg {P:Program} {t:TypeId} {x y:Value} {K:Bool→Prop} (h:eqlS P t x y K) (op:BinOp) (xo yo:Operand):eqGuard op t xo yo x y=pure ():=by
 unfold eqlS at h
 split at h
 ·rename_i q
  cases q <;> simp only [optE] at h <;> split at h <;> first | exact h.elim | (cases op <;> rfl)
 all_goals ((try split at h) <;> first | exact h.elim | (cases op <;> rfl))
theorem eqlS_bin {P:Program} {t:TypeId} {x y:Value} {K:Bool→Prop} (h:eqlS P t x y K) :
 binOp .eql t x y=(do pure (.bool (← Op.equal t x y)))∧binOp .neq t x y=(do pure (.bool (!(← Op.equal t x y)))):=by
 unfold eqlS at h
 split at h
 ·rename_i q
  cases q <;> simp only [optE] at h <;> split at h <;> first | exact h.elim | exact ⟨rfl,rfl⟩
 all_goals ((try split at h) <;> first | exact h.elim | exact ⟨rfl,rfl⟩)
theorem binS_sound {P:Program} {op:BinOp} {t:TypeId} {x y:Value} {K:Value→Prop} (h:binS P op t x y K) (xo yo:Operand) :
 ∃ v,K v∧∀ w,(do eqGuard op t xo yo x y; binOp op t x y:Sem Value).run P w=.ok v w:=by
 unfold binS at h
 split at h
 ·rename_i k a
  split at h
  ·rename_i k' b
   have hg:eqGuard op t xo yo (.int k a) (.int k' b)=pure ():=by cases op <;> rfl
   have hs:∃ v,K v∧∀ w,(binOp op t (.int k a) (.int k' b)).run P w=.ok v w:=by
    split at h
    ·exact intS_sound h t (.inr (.inl rfl))
    ·exact intS_sound h t (.inr (.inr rfl))
    ·by_cases hk:k=k'
     ·simp only [hk,decide_true,cond] at h; exact intS_sound (by rw [hk]; exact h) t (.inl hk)
     ·simp only [hk,decide_false,cond] at h
   obtain ⟨v,hK,hv⟩:=hs
   exact ⟨v,hK,fun w=>by rw [hg]; simp [hv]⟩
  ·exact h.elim
 ·rename_i a
  split at h
  ·rename_i b
   obtain ⟨v,hK,hv⟩:=strS_sound (P:=P) h t
   have hg:eqGuard op t xo yo (.string a) (.string b)=pure ():=by cases op <;> rfl
   exact ⟨v,hK,fun w=>by rw [hg]; simp [hv]⟩
  ·exact h.elim
 ·rename_i x hi hs
  split at h
  ·have hg:=eqlS_noAgg h .eql xo yo
   obtain ⟨b,hK,hb⟩:=eqlS_sound h
   refine ⟨_,hK,fun w=>?_⟩
   rw [hg]
   rw [(eqlS_bin h).1]; simp [hb]
  ·have hg:=eqlS_noAgg h .neq xo yo
   obtain ⟨b,hK,hb⟩:=eqlS_sound h
   refine ⟨_,hK,fun w=>?_⟩
   rw [hg]
   rw [(eqlS_bin h).2]; simp [hb]
  ·exact h.elim
theorem unS_sound {P:Program} {op:UnOp} {x:Value} {K:Value→Prop} (h:unS op x K):∃ v,K v∧∀ w,(Op.unary op x).run P w=.ok v w:=by
 unfold unS at h
 split at h <;> (try split at h) <;> first | exact h.elim | exact ⟨_,h,fun w=>rfl⟩ | exact ⟨_,mkI_elim h,fun w=>rfl⟩
def andCells (w:World) (a:Addr):Nat→List Value→Prop→Prop
 | _,[],K=>K
 | i,v :: vs,K=>w.cell? (a.add i)=some v∧andCells w a (i+1) vs K
def loadS (P:Program) (t:TypeId) (a:Addr) (w:World) (K:Value→Prop):Prop:=
 match shOf P t with
 | .one c=>bif !isAggB P t && (P.underlying t).isSome then exCK c fun v=>w.cell? a=some v∧K v else False
 | .agg cs=>bif isAggB P t && (match sizeP P t with | some n=>Nat.beq n cs.length | none=>false) then exCKs cs fun vs=>andCells w a 0 vs (K (.agg vs.toArray)) else False
 | .big m=>bif isAggB P t && (match sizeP P t with | some n=>Nat.beq n m | none=>false) then ∃ vs:List Value,vs.length=m∧(∀ i v,vs[i]?=some v→w.cell? (a.add i)=some v)∧K (.agg vs.toArray) else False
theorem andCells_spec {w:World} {a:Addr} {K:Prop}:∀ {vs:List Value} {i:Nat},andCells w a i vs K→K∧∀ j v,vs[j]?=some v→w.cell? (a.add (i+j))=some v
 | [],_,h=>⟨h,fun j v hj=>by simp at hj⟩
 | v :: vs,i,h=>by
  obtain ⟨h1,h2⟩:=h
  obtain ⟨hK,hr⟩:=andCells_spec h2
  refine ⟨hK,fun j u hj=>?_⟩
  cases j with
  | zero=>simp at hj; subst hj; exact h1
  | succ j=>have:=hr j u (by simpa using hj); rw [← this]; congr 2; omega
theorem run_isAgg {P:Program} {t:TypeId} {d:TypeDesc} (h:P.underlying t=some d) (w:World):(isAgg t).run P w=.ok (isAggB P t) w:=by
 unfold isAgg isAggB
 simp only [Sem.run_bind,run_underlying h,Result.andThen_ok,h]
 cases d <;> rfl
theorem isAggB_some {P:Program} {t:TypeId} (h:isAggB P t=true):∃ d,P.underlying t=some d:=by
 unfold isAggB at h
 cases hu:P.underlying t with
 | none=>simp [hu] at h
 | some d=>exact ⟨d,rfl⟩
theorem sizeP_run {P:Program} {t:TypeId} {n:Nat} (h:sizeP P t=some n) (w:World):(sizeOf t).run P w=.ok n w:=by
 unfold sizeP at h
 cases hi:P.info? t with
 | none=>simp [hi] at h
 | some i=>simp [hi] at h; subst h; simp [sizeOf,typeInfo,hi]
theorem run_loadVar_agg {P:Program} {t:TypeId} {a:Addr} {w:World} {vs:List Value} (h1:isAggB P t=true) (h2:sizeP P t=some vs.length)
 (h:∀ j v,vs[j]?=some v→w.cell? (a.add j)=some v):(loadVar t a).run P w=.ok (.agg vs.toArray) w:=by
 obtain ⟨d,hd⟩:=isAggB_some h1
 have hl:=run_loadCells_list (P:=P) (w:=w) a vs h
 simp [loadVar,run_isAgg hd,h1,sizeP_run h2,hl]
theorem beq_len {o:Option Nat} {m:Nat} (h:(match o with | some n=>Nat.beq n m | none=>false)=true):o=some m:=by
 cases o with
 | none=>simp at h
 | some n=>exact congrArg some (Nat.eq_of_beq_eq_true h)
theorem loadS_sound {P:Program} {t:TypeId} {a:Addr} {w:World} {K:Value→Prop} (h:loadS P t a w K):∃ v,K v∧(loadVar t a).run P w=.ok v w:=by
 unfold loadS at h
 split at h
 ·rename_i c _
  by_cases hb:(!isAggB P t && (P.underlying t).isSome)=true
  ·rw [hb,cond_true] at h
   simp only [Bool.and_eq_true,Bool.not_eq_true'] at hb
   obtain ⟨v,hc,hK⟩:=exCK_elim h
   obtain ⟨d,hd⟩:=Option.isSome_iff_exists.1 hb.2
   exact ⟨v,hK,by simp [loadVar,run_isAgg hd,hb.1,hc]⟩
  ·simp only [Bool.not_eq_true] at hb; rw [hb,cond_false] at h; exact h.elim
 ·rename_i cs _
  by_cases hb:(isAggB P t && (match sizeP P t with | some n=>Nat.beq n cs.length | none=>false))=true
  ·rw [hb,cond_true] at h
   simp only [Bool.and_eq_true] at hb
   obtain ⟨vs,hl,h⟩:=exCKs_elim h
   obtain ⟨hK,hc⟩:=andCells_spec h
   exact ⟨_,hK,run_loadVar_agg hb.1 (by rw [hl]; exact beq_len hb.2) (fun j v hj=>by simpa using hc j v hj)⟩
  ·simp only [Bool.not_eq_true] at hb; rw [hb,cond_false] at h; exact h.elim
 ·rename_i m _
  by_cases hb:(isAggB P t && (match sizeP P t with | some n=>Nat.beq n m | none=>false))=true
  ·rw [hb,cond_true] at h
   simp only [Bool.and_eq_true] at hb
   obtain ⟨vs,hl,hc,hK⟩:=h
   exact ⟨_,hK,run_loadVar_agg hb.1 (by rw [hl]; exact beq_len hb.2) hc⟩
  ·simp only [Bool.not_eq_true] at hb; rw [hb,cond_false] at h; exact h.elim
def oneC (v:Value) (K:Prop):Prop:=match v with | .agg _ | .tuple _=>False | _=>K
theorem oneC_elim {v:Value} {K:Prop} (h:oneC v K):v.oneCell'=true∧K:=by
 cases v <;> first | exact (h:False).elim | exact ⟨rfl,h⟩
def stC (a:Addr) (v:Value) (w:World) (K:World→Prop):Prop:=(∃ u,w.cell? a=some u)∧w.frozen? a=false∧K (w.setCell a v)
def stCells (a:Addr):Nat→List Value→World→(World→Prop)→Prop
 | _,[],w,K=>K w
 | i,v :: vs,w,K=>oneC v (stC (a.add i) v w fun w=>stCells a (i+1) vs w K)
def storeS (P:Program) (t:TypeId) (a:Addr) (v:Value) (w:World) (K:World→Prop):Prop:=
 bif isAggB P t then (match v with | .agg cs=>bif (match sizeP P t with | some n=>Nat.beq n cs.size | none=>false) then stCells a 0 cs.toList w K else False | _=>False)
 else bif (match sizeP P t with | some n=>Nat.beq n 1 | none=>false) then oneC v (stC a v w K) else False
theorem stCells_run {P:Program} {a:Addr} {K:World→Prop}:∀ {vs:List Value} {i:Nat} {w:World},stCells a i vs w K→∃ w',K w'∧(storeCells a vs i).run P w=.ok () w'
 | [],_,w,h=>⟨w,h,rfl⟩
 | v :: vs,i,w,h=>by
  obtain ⟨h1,⟨u,hu⟩,hf,h⟩:=oneC_elim h
  obtain ⟨w',hK,hr⟩:=stCells_run (P:=P) h
  refine ⟨w',hK,?_⟩
  simp only [storeCells,Sem.run_bind,run_store P w (a.add i) v .plain h1,hu,hf,Bool.false_eq_true,if_false,Result.andThen_ok,hr]
theorem storeS_sound {P:Program} {t:TypeId} {a:Addr} {v:Value} {w:World} {K:World→Prop} (h:storeS P t a v w K):∃ w',K w'∧(storeVar t a v).run P w=.ok () w':=by
 unfold storeS at h
 cases hag:isAggB P t with
 | true=>
  rw [hag,cond_true] at h
  split at h
  ·rename_i cs
   cases hb:(match sizeP P t with | some n=>Nat.beq n cs.size | none=>false) with
   | false=>rw [hb,cond_false] at h; exact h.elim
   | true=>
    rw [hb,cond_true] at h
    obtain ⟨w',hK,hr⟩:=stCells_run (P:=P) h
    refine ⟨w',hK,?_⟩
    have hs:=sizeP_run (beq_len hb) w
    simp [storeVar,hs,Value.cells,hr]
  ·exact h.elim
 | false=>
  rw [hag,cond_false] at h
  cases hb:(match sizeP P t with | some n=>Nat.beq n 1 | none=>false) with
  | false=>rw [hb,cond_false] at h; exact h.elim
  | true=>
   rw [hb,cond_true] at h
   obtain ⟨h1,⟨u,hu⟩,hf,hK⟩:=oneC_elim h
   refine ⟨_,hK,?_⟩
   have hs:=sizeP_run (beq_len hb) w
   have hc:v.cells=#[v]:=by cases v <;> first | rfl | simp [Value.oneCell'] at h1
   have hr:=run_store P w a v .plain h1
   have ha:a.add 0=a:=by simp [Addr.add]
   simp [storeVar,hs,hc,storeCells,ha,hr,hu,hf]
def mn (x y:Int):Int:=if y< x then y else x
def mx (x y:Int):Int:=if y > x then y else x
theorem mn_eq (x y:Int):mn x y=min x y:=by unfold mn; omega
def minS:List Value→(Value→Prop)→Prop
 | [.int k x,.int _ y],K=>K (.int k (mn x y))
 | [.int k x,.int _ y,.int _ z],K=>K (.int k (mn (mn x y) z))
 | _,_=>False
def maxS:List Value→(Value→Prop)→Prop
 | [.int k x,.int _ y],K=>K (.int k (mx x y))
 | _,_=>False
def lenS (P:Program) (t:TypeId) (x:Value) (K:Value→Prop):Prop:=
 match P.underlying t with
 | some (.slice _)=>match x with | .slice _ l _=>K (.int .i64 (l:Int)) | _=>False
 | some .string=>match x with | .string s=>K (.int .i64 (s.size:Int)) | _=>False
 | some (.array n _)=>K (.int .i64 (n:Int))
 | _=>False
def fieldOff (P:Program) (s:TypeId) (i:Nat):Option Nat:=
 match P.underlying s with
 | some (.struct fs)=>
  match fs[i]? with
  | some f=>match sizeP P f.type with | some (_+1)=>some f.offset | _=>none
  | none=>none
 | _=>none
def fieldTy (P:Program) (s:TypeId) (i:Nat):Option (Nat × TypeId):=
 match P.underlying s with
 | some (.struct fs)=>match fs[i]? with | some f=>some (f.offset,f.type) | none=>none
 | _=>none
def partS (P:Program) (t:TypeId) (cs:Array Value) (off:Nat) (K:Value→Prop):Prop:=
 match sizeP P t,P.underlying t with
 | some n,some _=>bif isAggB P t then K (.agg ((cs.toList.drop off).take n).toArray) else (match cs[off]? with | some v=>K v | none=>False)
 | _,_=>False
def mul1 (i size:Nat):Nat:=match size with | 1=>i | n=>i * n
def byteAt (s:ByteArray) (i:Int):Int:=((s.data.toList[i.toNat]?).getD 0).toNat
def idxAddrS (P:Program) (t:TypeId) (x ix:Value) (K:Value→Prop):Prop:=
 match ix with
 | .int _ i=>
  match P.underlying t with
  | some (.slice e)=>match x,sizeP P e with
   | .slice b l _,some n=>(0≤i∧i< (l:Int))∧nn b fun a=>K (.pointer (some (a.add (mul1 i.toNat n))))
   | _,_=>False
  | some (.array l e)=>match x,sizeP P e with
   | .pointer (some a),some n=>(0≤i∧i< (l:Int))∧K (.pointer (some (a.add (mul1 i.toNat n))))
   | _,_=>False
  | _=>False
 | _=>False
def idxS (P:Program) (t:TypeId) (x ix:Value) (K:Value→Prop):Prop:=
 match ix with
 | .int _ i=>
  match x with
  | .string s=>bif isStringT P t then (0≤i∧i< (s.size:Int))∧K (.int .u8 (byteAt s i)) else False
  | .agg cs=>
   match P.underlying t with
   | some (.array l e)=>
    match sizeP P e with
    | some n=>
     match shOf P e with
     | .one c=>bif !isAggB P e && Nat.beq n 1 && (P.underlying e).isSome then (0≤i∧i< (l:Int))∧exCK c fun v=>cs[i.toNat]?=some v∧K v else False
     | .agg ks=>bif isAggB P e && Nat.beq n ks.length then (0≤i∧i< (l:Int))∧exCKs ks fun vs=>(cs.toList.drop (i.toNat * n)).take n=vs∧K (.agg vs.toArray) else False
     | _=>False
    | none=>False
   | _=>False
  | _=>False
 | _=>False
def sliceS (P:Program) (t:TypeId) (x:Value) (lo hi mx:Option Value) (K:Value→Prop):Prop:=
 match P.underlying t with
 | some (.slice e)=>
  match x,sizeP P e with
  | .slice a l c,some n=>
   match lo,hi,mx with
   | none,none,none=>K (.slice a l c)
   | some (.int _ i),none,none=>(0≤i∧i≤(l:Int))∧K (.slice (adv a i.toNat c n) (l - i.toNat) (c - i.toNat))
   | none,some (.int _ j),none=>(0≤j∧j≤(c:Int))∧K (.slice a j.toNat c)
   | some (.int _ i),some (.int _ j),none=>(0≤j∧j≤(c:Int))∧(0≤i∧i≤(j.toNat:Int))∧K (.slice (adv a i.toNat c n) (j.toNat - i.toNat) (c - i.toNat))
   | none,some (.int _ j),some (.int _ m)=>(0≤m∧m≤(c:Int))∧(0≤j∧j≤(m.toNat:Int))∧K (.slice a j.toNat m.toNat)
   | _,_,_=>False
  | _,_=>False
 | some .string=>
  match x with
  | .string s=>
   match lo,hi,mx with
   | some (.int _ i),none,none=>(0≤i∧i≤(s.size:Int))∧K (.string (s.extract i.toNat s.size))
   | none,some (.int _ j),none=>(0≤j∧j≤(s.size:Int))∧K (.string (s.extract 0 j.toNat))
   | some (.int _ i),some (.int _ j),none=>(0≤j∧j≤(s.size:Int))∧(0≤i∧i≤(j.toNat:Int))∧K (.string (s.extract i.toNat j.toNat))
   | _,_,_=>False
  | _=>False
 | _=>False
def convS (P:Program) (src dst:TypeId) (x:Value) (K:Value→Prop):Prop:=
 match x with
 | .int _ n=>match P.underlying src,P.underlying dst with
  | some _,some (.int k)=>K (.int k (k.wrap n))
  | some (.int _),some .string=>K (.string (Utf8.encode n))
  | _,_=>False
 | .string s=>match P.underlying src,P.underlying dst with | some .string,some .string=>K (.string s) | _,_=>False
 | _=>False
def nilM (P:Program) (v:Value) (name:String):Prop:=
 match v with
 | .iface t u=>∀ w:World,(nilAhead (P.types.size+Made.depth) t u name).run P w=.ok (some false) w
 | _=>False
def nilS (P:Program) (x:Value) (K:Value→Prop):Prop:=
 match x with
 | .pointer p=>nn p fun a=>K (.pointer (some a))
 | .func (.func k) f c=>K (.func (.func k) f c)
 | .func (.method name) f c=>match f[0]? with
  | some v=>nilM P v name∧K (.func (.method name) f c)
  | none=>False
 | .iface t v=>K (.iface t v)
 | _=>False
def extS (P:Program) (ty:TypeId) (vs:Array Value) (i:Nat) (K:Value→Prop):Prop:=
 match vs[i]? with
 | some v=>bif Nat.beq vs.size 3 && Nat.ble 1 i then (match vs[0]? with | some (.bool true)=>exSh (shOf P ty) fun u=>v=u∧K u | _=>K v) else K v
 | none=>False
def pureB:Op→Bool
 | .move _ | .assign _ | .pick _ _ _ | .nilCheck _ | .binOp _ _ _ _ _ | .unOp _ _ _ | .slice _ _ _ _ _ | .fieldAddr _ _ _ | .field _ _ _ | .indexAddr _ _ _ | .index _ _ _
 | .makeInterface _ _ | .makeFunc _ _ _ | .extract _ _ | .build _ _=>true
 | .call { callee:=.builtin .len,.. } | .call { callee:=.builtin .min,.. } | .call { callee:=.builtin .max,.. }=>true
 | .convert _ _ _=>true
 | _=>false
def pureS (P:Program) (r:Operand→Value) (ty:TypeId) (o:Op) (K:Value→Prop):Prop:=
 match o with
 | .move x | .assign x=>K (r x)
 | .pick c a b=>match r c with | .bool t=>cond t (K (r a)) (K (r b)) | _=>False
 | .nilCheck x=>nilS P (r x) K
 | .binOp op t x y _=>binS P op t (r x) (r y) K
 | .unOp op _ x=>unS op (r x) K
 | .slice t x lo hi mx=>sliceS P t (r x) (lo.map r) (hi.map r) (mx.map r) K
 | .fieldAddr s x f=>match r x with
  | .pointer (some a)=>match fieldOff P s f with | some o=>K (.pointer (some (a.add o))) | none=>False
  | _=>False
 | .field s x f=>match r x with
  | .agg cs=>match fieldTy P s f with | some (o,t)=>partS P t cs o K | none=>False
  | _=>False
 | .indexAddr t x ix=>idxAddrS P t (r x) (r ix) K
 | .index t x ix=>idxS P t (r x) (r ix) K
 | .makeInterface t x=>match P.underlying t with | some (.interface _) | none=>False | _=>K (.iface t (r x))
 | .makeFunc fn f c=>K (.func fn (f.toList.map r).toArray (c.toList.map r).toArray)
 | .extract x i=>match r x with | .tuple vs=>extS P ty vs i K | _=>False
 | .build t ps=>match P.built t (ps.toList.map fun (i,x)=>(i,r x)) with | some cs=>K (.agg cs) | none=>False
 | .call { callee:=.builtin .len,args,argTypes }=>match args.toList,argTypes.toList with | [x],[t]=>lenS P t (r x) K | _,_=>False
 | .call { callee:=.builtin .min,args,argTypes:=_ }=>minS (args.toList.map r) K
 | .call { callee:=.builtin .max,args,argTypes:=_ }=>maxS (args.toList.map r) K
 | .convert s d x=>convS P s d (r x) K
 | _=>False
theorem nn_elim {p:Option Addr} {K:Addr→Prop} (h:nn p K):∃ a,p=some a∧K a:=by
 cases p with
 | none=>exact (h:False).elim
 | some a=>exact ⟨a,rfl,h⟩
theorem mul1_eq (i n:Nat):mul1 i n=i * n:=by unfold mul1; split <;> simp
section
variable {P : Program} {K : Value → Prop}
theorem lenS_sound {t:TypeId} {x:Value} (h:lenS P t x K):∃ v,K v∧∀ (ty:TypeId) w,(Builtin.len_ #[t] ty #[x]).run P w=.ok v w:=by
 unfold lenS at h
 split at h
 ·rename_i hu; split at h
  ·exact ⟨_,h,fun ty w=>by simp [Builtin.len_,run_underlying hu,goInt]⟩
  ·exact h.elim
 ·rename_i hu; split at h
  ·exact ⟨_,h,fun ty w=>by simp [Builtin.len_,run_underlying hu,goInt]⟩
  ·exact h.elim
 ·rename_i hu
  exact ⟨_,h,fun ty w=>by simp [Builtin.len_,run_underlying hu,goInt]⟩
 ·exact h.elim
theorem minS_sound {l:List Value} (h:minS l K):∃ v,K v∧∀ (ts:Array TypeId) (ty:TypeId) w,(Builtin.min_ ts ty l.toArray).run P w=.ok v w:=by
 unfold minS at h
 split at h
 ·exact ⟨_,h,fun ts ty w=>rfl⟩
 ·exact ⟨_,h,fun ts ty w=>rfl⟩
 ·exact h.elim
theorem maxS_sound {l:List Value} (h:maxS l K):∃ v,K v∧∀ (ts:Array TypeId) (ty:TypeId) w,(Builtin.max_ ts ty l.toArray).run P w=.ok v w:=by
 unfold maxS at h
 split at h
 ·exact ⟨_,h,fun ts ty w=>by simp [Builtin.max_,Builtin.max2,mx]⟩
 ·exact h.elim
theorem fieldOff_run {s:TypeId} {i o:Nat} (h:fieldOff P s i=some o) (a:Addr) (w:World):(Instr.fieldAt s (.pointer (some a)) i).run P w=.ok (.pointer (some (a.add o))) w:=by
 unfold fieldOff at h
 split at h
 ·rename_i fs hu
  split at h
  ·rename_i f hf
   split at h
   ·rename_i n hn
    cases h
    have hs:=sizeP_run hn w
    simp [Instr.fieldAt,run_underlying hu,hf,Instr.sureAddr,fieldPlace,hs]
   ·cases h
  ·cases h
 ·cases h
theorem partS_sound {t:TypeId} {cs:Array Value} {off:Nat} (h:partS P t cs off K):∃ v,K v∧∀ w,(part t cs off).run P w=.ok v w:=by
 unfold partS at h
 split at h
 ·rename_i n d hn hd
  cases hb:isAggB P t with
  | true=>
   rw [hb,cond_true] at h
   refine ⟨_,h,fun w=>?_⟩
   have e:cs.extract off (off+n)=((cs.toList.drop off).take n).toArray:=by
    apply Array.ext'
    simp [Array.toList_extract,List.extract_eq_take_drop]
   simp [part,run_isAgg hd,hb,sizeP_run hn,e]
  | false=>
   rw [hb,cond_false] at h
   split at h
   ·rename_i v hv
    exact ⟨_,h,fun w=>by simp [part,run_isAgg hd,hb,hv]⟩
   ·exact h.elim
 ·exact h.elim
theorem idxAddrS_sound {t:TypeId} {x ix:Value} (h:idxAddrS P t x ix K):∃ v,K v∧∀ w,(Instr.indexAt t x ix).run P w=.ok v w:=by
 unfold idxAddrS at h
 split at h
 ·rename_i k i
  split at h
  ·rename_i e hu
   split at h
   ·rename_i b l c n hn
    obtain ⟨⟨h0,h1⟩,h⟩:=h
    obtain ⟨a,rfl,h⟩:=nn_elim h
    refine ⟨_,h,fun w=>?_⟩
    simp [Instr.indexAt,asIntOf,run_underlying hu,h0,h1,sizeP_run hn,mul1_eq]
   ·exact h.elim
  ·rename_i l e hu
   split at h
   ·rename_i a n hn
    obtain ⟨⟨h0,h1⟩,h⟩:=h
    refine ⟨_,h,fun w=>?_⟩
    simp [Instr.indexAt,asIntOf,run_underlying hu,h0,h1,sizeP_run hn,mul1_eq,Instr.sureAddr]
   ·exact h.elim
  ·exact h.elim
 ·exact h.elim
theorem idxS_sound {t:TypeId} {x ix:Value} (h:idxS P t x ix K):∃ v,K v∧∀ w,(Instr.index t x ix).run P w=.ok v w:=by
 unfold idxS at h
 split at h
 ·rename_i k i
  split at h
  ·rename_i s
   unfold isStringT at h
   cases hu:P.underlying t with
   | none=>simp [hu] at h
   | some d=>
    cases d <;> simp only [hu,cond] at h
    all_goals first | exact h.elim | skip
    obtain ⟨⟨h0,h1⟩,h⟩:=h
    refine ⟨_,h,fun w=>?_⟩
    have hi:i.toNat< s.size:=by omega
    have hb:s[i.toNat]?=some s[i.toNat]:=by simp [getElem?_pos,hi]
    have hd:byteAt s i=(s[i.toNat].toNat:Int):=by
     unfold byteAt
     have:s.data.toList[i.toNat]?=some s[i.toNat]:=by
      rw [List.getElem?_eq_getElem (by simpa using hi)]; rfl
     rw [this]; rfl
    simp [Instr.index,asIntOf,run_underlying hu,h0,hb,hd]
  ·rename_i cs
   split at h
   ·rename_i l e hu
    split at h
    ·rename_i n hn
     split at h
     ·rename_i c _
      cases hb:(!isAggB P e && Nat.beq n 1 && (P.underlying e).isSome) with
      | false=>rw [hb,cond_false] at h; exact h.elim
      | true=>
       rw [hb,cond_true] at h
       simp only [Bool.and_eq_true,Bool.not_eq_true'] at hb
       obtain ⟨⟨h0,h1⟩,h⟩:=h
       obtain ⟨v,hv,h⟩:=exCK_elim h
       refine ⟨_,h,fun w=>?_⟩
       have hn1:n=1:=Nat.eq_of_beq_eq_true hb.1.2
       subst hn1
       obtain ⟨d,hd⟩:=Option.isSome_iff_exists.1 hb.2
       simp [Instr.index,asIntOf,run_underlying hu,h0,h1,sizeP_run hn,part,run_isAgg hd,hb.1.1,hv]
     ·rename_i ks _
      cases hb:(isAggB P e && Nat.beq n ks.length) with
      | false=>rw [hb,cond_false] at h; exact h.elim
      | true=>
       rw [hb,cond_true] at h
       simp only [Bool.and_eq_true] at hb
       obtain ⟨⟨h0,h1⟩,h⟩:=h
       obtain ⟨vs,_,hv,h⟩:=exCKs_elim h
       refine ⟨_,h,fun w=>?_⟩
       obtain ⟨d,hd⟩:=isAggB_some hb.1
       have e1:cs.extract (i.toNat * n) (i.toNat * n+n)=vs.toArray:=by
        apply Array.ext'
        simp [Array.toList_extract,List.extract_eq_take_drop,hv]
       simp [Instr.index,asIntOf,run_underlying hu,h0,h1,sizeP_run hn,part,run_isAgg hd,hb.1,e1]
     ·exact h.elim
    ·exact h.elim
   ·exact h.elim
  ·exact h.elim
 ·exact h.elim
theorem sb {x:Value} {k:IntKind} {i:Int} (hx:x=.int k i) {y:Nat} (h:0≤i∧i≤(y:Int)) (code:BoundsCode) (w:World):(Instr.sliceBound x y code).run P w=.ok i.toNat w:=by
 subst hx
 simp [Instr.sliceBound,asIntOf,h.1,h.2]
theorem sliceS_sound {t:TypeId} {x:Value} {lo hi mx:Option Value} (h:sliceS P t x lo hi mx K):∃ v,K v∧∀ w,(Instr.sliceAt t x lo hi mx).run P w=.ok v w:=by
 unfold sliceS at h
 split at h
 ·rename_i e hu
  split at h
  ·rename_i a l c n hn
   split at h
   ·refine ⟨_,h,fun w=>?_⟩
    simp [Instr.sliceAt,Instr.slice,Instr.sliceBounds,run_underlying hu,sizeP_run hn]
    intro _; cases a <;> simp [Addr.add]
   ·rename_i k i
    obtain ⟨h1,h⟩:=h
    refine ⟨_,h,fun w=>?_⟩
    simp [Instr.sliceAt,Instr.slice,Instr.sliceBounds,run_underlying hu,sizeP_run hn,sb rfl h1,adv]
   ·rename_i k j
    obtain ⟨h1,h⟩:=h
    refine ⟨_,h,fun w=>?_⟩
    simp [Instr.sliceAt,Instr.slice,Instr.sliceBounds,run_underlying hu,sizeP_run hn,sb rfl h1]
    intro _; cases a <;> simp [Addr.add]
   ·rename_i k i k' j
    obtain ⟨h1,h2,h⟩:=h
    refine ⟨_,h,fun w=>?_⟩
    simp [Instr.sliceAt,Instr.slice,Instr.sliceBounds,run_underlying hu,sizeP_run hn,sb rfl h1,sb rfl h2,adv]
   ·rename_i k j k' m
    obtain ⟨h1,h2,h⟩:=h
    refine ⟨_,h,fun w=>?_⟩
    simp [Instr.sliceAt,Instr.slice,Instr.sliceBounds,run_underlying hu,sizeP_run hn,sb rfl h1,sb rfl h2]
    intro _; cases a <;> simp [Addr.add]
   ·exact h.elim
  ·exact h.elim
 ·rename_i hu
  split at h
  ·rename_i s
   split at h
   ·rename_i k i
    obtain ⟨h1,h⟩:=h
    exact ⟨_,h,fun w=>by simp [Instr.sliceAt,Instr.slice,Instr.sliceBounds,run_underlying hu,sb rfl h1]⟩
   ·rename_i k i
    obtain ⟨h1,h⟩:=h
    exact ⟨_,h,fun w=>by simp [Instr.sliceAt,Instr.slice,Instr.sliceBounds,run_underlying hu,sb rfl h1]⟩
   ·obtain ⟨h1,h2,h⟩:=h
    exact ⟨_,h,fun w=>by simp [Instr.sliceAt,Instr.slice,Instr.sliceBounds,run_underlying hu,sb rfl h1,sb rfl h2]⟩
   ·exact h.elim
  ·exact h.elim
 ·exact h.elim
theorem convS_sound {s d:TypeId} {x:Value} (h:convS P s d x K):∃ v,K v∧∀ w,(convert s d x).run P w=.ok v w:=by
 unfold convS at h
 split at h
 ·split at h
  ·rename_i ds k hs hd
   refine ⟨_,h,fun w=>?_⟩
   simp [convert,run_underlying hs,run_underlying hd,Conv.intToInt]
  ·rename_i ds hs hd
   refine ⟨_,h,fun w=>?_⟩
   simp [convert,run_underlying hs,run_underlying hd,Conv.intToString]
  ·exact h.elim
 ·split at h
  ·rename_i hs hd
   refine ⟨_,h,fun w=>?_⟩
   simp [convert,run_underlying hs,run_underlying hd]
  ·exact h.elim
 ·exact h.elim
theorem mapL {α β:Type} (a:Array α) (f:α→β):a.map f=(a.toList.map f).toArray:=by apply Array.ext'; simp
theorem extS_sound {ty:TypeId} {vs:Array Value} {i:Nat} (h:extS P ty vs i K):∃ v,vs[i]?=some v∧K v:=by
 unfold extS at h
 split at h
 ·rename_i v hv
  cases hb:(Nat.beq vs.size 3 && Nat.ble 1 i) with
  | false=>rw [hb,cond_false] at h; exact ⟨v,hv,h⟩
  | true=>
   rw [hb,cond_true] at h
   split at h
   ·obtain ⟨u,e,h⟩:=exSh_elim h; subst e; exact ⟨_,hv,h⟩
   ·exact ⟨v,hv,h⟩
 ·exact h.elim
theorem pureS_sound {r:Operand→Value} {o:Oper} (h:pureS P r o.type o.op K) (hb:pureB o.op=true):∃ v,K v∧Gives P r o v:=by
 unfold Gives
 obtain ⟨dst,op,ty,pos,after,guard⟩:=o
 simp only at h hb
 unfold pureS at h
 unfold execOp
 split at h
 ·exact ⟨_,h,fun w=>rfl⟩
 ·exact ⟨_,h,fun w=>rfl⟩
 ·rename_i c a b
  split at h
  ·rename_i t ht
   cases t with
   | true=>exact ⟨_,h,fun w=>by simp [ht,asBool]⟩
   | false=>exact ⟨_,h,fun w=>by simp [ht,asBool]⟩
  ·exact h.elim
 ·rename_i x
  unfold nilS at h
  split at h
  ·rename_i p hp
   obtain ⟨a,rfl,h⟩:=nn_elim h
   exact ⟨_,h,fun w=>by simp [hp]⟩
  ·rename_i k f c hp
   exact ⟨_,h,fun w=>by simp [hp]⟩
  ·rename_i name f c hp
   split at h
   ·rename_i v hv
    obtain ⟨h1,h2⟩:=h
    unfold nilM at h1
    split at h1
    ·rename_i t u
     refine ⟨_,h2,fun w=>?_⟩
     have hn:=h1 w
     simp [hp,hv,hn]
    ·exact h1.elim
   ·exact h.elim
  ·rename_i t v hp
   exact ⟨_,h,fun w=>by simp [hp]⟩
  ·exact h.elim
 ·rename_i op t x y _
  obtain ⟨v,hK,hv⟩:=binS_sound h x y
  refine ⟨v,hK,fun w=>?_⟩
  have:=hv w
  simp only [Sem.run_bind] at this ⊢
  rw [this]; rfl
 ·obtain ⟨v,hK,hv⟩:=unS_sound (P:=P) h
  exact ⟨v,hK,fun w=>by simp [hv w]⟩
 ·obtain ⟨v,hK,hv⟩:=sliceS_sound h
  exact ⟨v,hK,fun w=>by simp [hv w]⟩
 ·rename_i s x f
  split at h
  ·rename_i a hx
   split at h
   ·rename_i o ho
    exact ⟨_,h,fun w=>by simp [hx,fieldOff_run ho a w]⟩
   ·exact h.elim
  ·exact h.elim
 ·rename_i s x f
  split at h
  ·rename_i cs hx
   split at h
   ·rename_i o t ho
    obtain ⟨v,hK,hv⟩:=partS_sound h
    refine ⟨v,hK,fun w=>?_⟩
    unfold fieldTy at ho
    split at ho
    ·rename_i fs hu
     split at ho
     ·rename_i fl hf
      cases ho
      simp [Instr.field,run_underlying hu,hf,hx,asAgg,hv w]
     ·cases ho
    ·cases ho
   ·exact h.elim
  ·exact h.elim
 ·obtain ⟨v,hK,hv⟩:=idxAddrS_sound h
  exact ⟨v,hK,fun w=>by simp [hv w]⟩
 ·obtain ⟨v,hK,hv⟩:=idxS_sound h
  exact ⟨v,hK,fun w=>by simp [hv w]⟩
 ·rename_i t x
  split at h
  ·exact h.elim
  ·exact h.elim
  ·rename_i d hn1 hn2
   refine ⟨_,h,fun w=>?_⟩
   cases hu:P.underlying t with
   | none=>exact absurd hu hn2
   | some d=>cases d <;> first | (exfalso; exact hn1 _ hu) | simp [Instr.makeInterface,run_underlying hu]
 ·rename_i fn f c
  refine ⟨_,h,fun w=>?_⟩
  have e1:=mapL f r
  have e2:=mapL c r
  rw [← e1,← e2]; rfl
 ·rename_i x i
  split at h
  ·rename_i vs hx
   obtain ⟨v,hv,h⟩:=extS_sound h
   exact ⟨_,h,fun w=>by simp [Instr.extract,hx,hv]⟩
  ·exact h.elim
 ·rename_i t ps
  split at h
  ·rename_i cs hcs
   refine ⟨_,h,fun w=>?_⟩
   have:=run_build (P:=P) w t (ps.map fun (i,x)=>(i,r x)) cs (by simpa using hcs)
   simp only [Sem.run_bind,this]; rfl
  ·exact h.elim
 ·rename_i args ats
  split at h
  ·rename_i x t hx ht
   obtain ⟨v,hK,hv⟩:=lenS_sound h
   refine ⟨v,hK,fun w=>?_⟩
   have e1:args=#[x]:=by rw [← Array.toArray_toList (xs:=args),hx]
   have e2:ats=#[t]:=by rw [← Array.toArray_toList (xs:=ats),ht]
   subst e1 e2
   simp [resolve,invoke,builtin,hv]
  ·exact h.elim
 ·rename_i args ats
  obtain ⟨v,hK,hv⟩:=minS_sound (P:=P) h
  refine ⟨v,hK,fun w=>?_⟩
  have:=hv ats ty w
  rw [← mapL] at this
  simp [resolve,invoke,builtin,this]
 ·rename_i args ats
  obtain ⟨v,hK,hv⟩:=maxS_sound (P:=P) h
  refine ⟨v,hK,fun w=>?_⟩
  have:=hv ats ty w
  rw [← mapL] at this
  simp [resolve,invoke,builtin,this]
 ·obtain ⟨v,hK,hv⟩:=convS_sound h
  exact ⟨v,hK,fun w=>by simp [hv w]⟩
 ·exact h.elim
end
def exR (P:Program) (t:TypeId) (K:Value→Prop):Prop:=
 match P.underlying t with
 | some (.tuple ts)=>exShs (ts.toList.map (shOf P)) fun vs=>K (.tuple vs.toArray)
 | _=>exSh (shOf P t) K
theorem exR_elim {P:Program} {t:TypeId} {K:Value→Prop} (h:exR P t K):∃ v,K v:=by
 unfold exR at h
 split at h
 ·obtain ⟨vs,h⟩:=exShs_elim h; exact ⟨_,h⟩
 ·exact exSh_elim h
def CallR (P:Program) (k:FuncId) (args:List Value) (w:World) (R:Value→World→Prop):Prop:=
 Calls P k args.toArray w fun e w'=>∃ v,e=.returned v∧R v w'
theorem CallR.mono {P:Program} {k:FuncId} {args:List Value} {w:World} {R R':Value→World→Prop} (h:CallR P k args w R) (hr:∀ v w',R v w'→R' v w'):CallR P k args w R':=
 Calls.mono h fun _ _ ⟨v,he,hv⟩=>⟨v,he,hr _ _ hv⟩
def bodyB (P : Program) (k : FuncId) : Bool :=
 match P.funcs[k]? with
 | some fn => fn.body.isSome && !(fn.name == "runtime.NumGoroutine")
 | none => false
def callTo (P:Program) (ty:TypeId) (k:FuncId) (args:List Value) (K:Value→World→Prop) (w:World):Prop:=
 CallR P k args w fun v w'=>exR P ty fun u=>v=u∧K u w'
def rawV (P:Program) (ty:TypeId) (m:Sem Value) (K:Value→World→Prop) (w:World):Prop:=
 exR P ty fun v=>∃ w',m.run P w=.ok v w'∧K v w'
def rawN (P:Program) (ty:TypeId) (m:Sem Next) (K:Value→World→Prop) (w:World):Prop:=
 exR P ty fun v=>∃ w',m.run P w=.ok (.value v) w'∧K v w'
def rawU (P:Program) (m:Sem Unit) (K:Value→World→Prop) (w:World):Prop:=
 ∃ w',m.run P w=.ok () w'∧K undef w'
def enterS (P:Program) (ty:TypeId) (m:Sem Next) (K:Value→World→Prop) (w:World):Prop:=
 ∃ f xs w',m.run P w=.ok (.enter f xs) w'∧callTo P ty f xs.toList K w'
def rawOf (r:Operand→Value):Op→Option (Sem Value)
 | .makeSlice t l c=>some (Instr.makeSlice t (r l) (r c))
 | .convert s d x=>some (Go.convert s d (r x))
 | .lookup t x i ok=>some (Instr.lookup t (r x) (r i) ok)
 | .range t x=>some (Instr.range t (r x))
 | .entry x=>some (Instr.entry (r x))
 | .typeAssert x t u ok=>some (Instr.typeAssert (r x) t u ok)
 | .mapEntry t m k=>some (Instr.mapEntry t (r m) (r k))
 | .binOp .eql t x y _=>some (do eqGuard .eql t x y (r x) (r y); Go.binOp .eql t (r x) (r y))
 | .binOp .neq t x y _=>some (do eqGuard .neq t x y (r x) (r y); Go.binOp .neq t (r x) (r y))
 | _=>none
def rawUOf (r:Operand→Value):Op→Option (Sem Unit)
 | .mapUpdate t m k x=>some (Instr.mapUpdate t (r m) (r k) (r x))
 | .insert t m k x=>some (Instr.mapUpdate t (r m) (r k) (r x))
 | .entryStore t m s x=>some (Instr.entryStore t (r m) (r s) (r x))
 | _=>none
def callS (P:Program) (r:Operand→Value) (ty:TypeId) (c:Call) (K:Value→World→Prop) (w:World):Prop:=
 match c.callee with
 | .value (.tmp t)=>∃ (k:FuncId) (first cap:Array Value),r (.tmp t)=.func (.func k) first cap∧bodyB P k=true∧callTo P ty k (first.toList ++ (c.args.toList.map r ++ cap.toList)) K w
 | .value f=>
  match r f with
  | .func (.func k) first cap=>
   bif bodyB P k then callTo P ty k (first.toList ++ (c.args.toList.map r ++ cap.toList)) K w
   else rawN P ty (callFunc k (first.toList ++ (c.args.toList.map r ++ cap.toList)).toArray) K w
  | v=>enterS P ty (do let d ← Deferred.ofValue v (c.args.toList.map r).toArray; invoke d.target d.args) K w
 | .invoke x m=>enterS P ty (callMethod (r x) m (c.args.toList.map r).toArray) K w
 | .builtin .append=>rawV P ty (Builtin.append_ c.argTypes ty (c.args.toList.map r).toArray) K w
 | .builtin .copy=>rawV P ty (Builtin.copy_ c.argTypes ty (c.args.toList.map r).toArray) K w
 | .builtin .delete=>rawV P ty (Builtin.delete_ c.argTypes ty (c.args.toList.map r).toArray) K w
 | .builtin .clear=>rawV P ty (Builtin.clear_ c.argTypes ty (c.args.toList.map r).toArray) K w
 | .builtin .len=>rawV P ty (Builtin.len_ c.argTypes ty (c.args.toList.map r).toArray) K w
 | .builtin _=>False
def bsCells (P:Program) (e:TypeId) (n:Nat) (ps:List (Nat × Value)):Option (Array Value):=
 match P.info? e with
 | some i=>
  match i.zero with
  | some z=>bif Nat.ble (n * i.size) 16777216 then Instr.fill (fun j=>some (j * i.size,i.size)) ((Array.range (n * i.size)).map (z.cells[· % z.cells.size]!)) ps else none
  | none=>none
 | none=>none
def zeroP (P:Program) (t:TypeId):Option Value:=(P.info? t).bind (·.zero)
def nilO:Operand→Bool
 | .const (.pointer none)=>true
 | _=>false
def plainB (P:Program):Op→Bool
 | .convert s d _=>(isIntT P s || isStringT P s) && (isIntT P d || isStringT P d)
 | .call { callee:=.builtin .len,argTypes,.. }=>match argTypes.toList with | [t]=>!isMapT P t | _=>false
 | .binOp .eql t x y _=>!isAggB P t && !(match P.underlying t with | some (.interface _)=>true | _=>false) && (!isPtrT P t || nilO x || nilO y)
 | .binOp .neq t x y _=>!isAggB P t && !(match P.underlying t with | some (.interface _)=>true | _=>false) && (!isPtrT P t || nilO x || nilO y)
 | o=>pureB o
def opS (P:Program) (r:Operand→Value) (o:Oper) (K:Value→World→Prop) (w:World):Prop:=
 bif plainB P o.op then pureS P r o.type o.op (fun v=>K v w) else
 match o.op with
 | .load t x=>match r x with | .pointer (some a)=>loadS P t a w (fun v=>K v w) | _=>False
 | .store t x y=>match r x with | .pointer (some a)=>storeS P t a (r y) w (fun w=>K undef w) | _=>False
 | .alloc t=>match zeroP P t with | some z=>K (.pointer (some ⟨w.heap.size,0,none⟩)) (w.alloc (.cells z.cells t)) | none=>False
 | .box t x=>K (.pointer (some ⟨w.heap.size,0,none⟩)) (w.alloc (.cells (r x).cells t))
 | .buildSlice t n ps=>
  match P.underlying t with
  | some (.slice e)=>
   match bsCells P e n (ps.toList.map fun (i,x)=>(i,r x)) with
   | some cs=>K (.slice (some ⟨w.heap.size,0,none⟩) n n) (w.alloc (.cells cs e))
   | none=>False
  | _=>False
 | .call c=>callS P r o.type c K w
 | .makeMap _ none=>K (.map (some w.heap.size)) (w.alloc (.map #[] 0))
 | .range t x=>∃ w',(Instr.range t (r x)).run P w=.ok (.pointer (some ⟨w.heap.size,0,none⟩)) w'∧K (.pointer (some ⟨w.heap.size,0,none⟩)) w'
 | .entry x=>(∃ (s:ByteArray) (v:Value) (w':World),(Instr.entry (r x)).run P w=.ok (.tuple #[.string s,v]) w'∧K (.tuple #[.string s,v]) w')∨
  (∃ (n:Int) (v:Value) (w':World),(Instr.entry (r x)).run P w=.ok (.tuple #[.int .i64 n,v]) w'∧K (.tuple #[.int .i64 n,v]) w')
 | .next x s=>(∃ w',(Instr.next (r x) s o.type).run P w=.ok (.tuple #[.bool false]) w'∧K (.tuple #[.bool false]) w')∨
  (∃ k v w',(Instr.next (r x) s o.type).run P w=.ok (.tuple #[.bool true,k,v]) w'∧K (.tuple #[.bool true,k,v]) w')
 | _=>match rawOf r o.op with
  | some m=>rawV P o.type m K w
  | none=>match rawUOf r o.op with
   | some m=>rawU P m K w
   | none=>False
section
variable {P : Program} {o : Oper} {a : Act} {w : World} {K' : Act → World → Prop} {Q : Exit → Act → World → Prop}
theorem wp_of_value {v:Value} {w':World} (h:(execOp a.eval o).run P w=.ok (.value v) w') (hk:K' (a.put o.dst v) w'):o.wp P a w K' Q:=by
 unfold Oper.wp; rw [h]; exact hk
theorem wp_of_skip {w':World} (h:(execOp a.eval o).run P w=.ok .skip w') (hk:K' (a.put o.dst undef) w'):o.wp P a w K' Q:=by
 unfold Oper.wp; rw [h]; exact hk
theorem rawV_sound {ty:TypeId} {m:Sem Value} {K:Value→World→Prop} (ho:∀ v w',m.run P w=.ok v w'→(execOp a.eval o).run P w=.ok (.value v) w') (h:rawV P ty m K w)
 (hk:∀ v w',K v w'→K' (a.put o.dst v) w'):o.wp P a w K' Q:=by
 obtain ⟨v,w',hr,hK⟩:=exR_elim h
 exact wp_of_value (ho _ _ hr) (hk _ _ hK)
theorem rawN_sound {ty:TypeId} {m:Sem Next} {K:Value→World→Prop} (ho:(execOp a.eval o).run P w=m.run P w) (h:rawN P ty m K w)
 (hk:∀ v w',K v w'→K' (a.put o.dst v) w'):o.wp P a w K' Q:=by
 obtain ⟨v,w',hr,hK⟩:=exR_elim h
 exact wp_of_value (ho.trans hr) (hk _ _ hK)
theorem wp_of_enter {f:FuncId} {xs:Array Value} {w':World} {ty:TypeId} {K:Value→World→Prop} (h:(execOp a.eval o).run P w=.ok (.enter f xs) w') (hc:callTo P ty f xs.toList K w')
 (hk:∀ v w',K v w'→K' (a.put o.dst v) w'):o.wp P a w K' Q:=by
 unfold Oper.wp; rw [h]
 unfold callTo CallR at hc
 rw [Array.toArray_toList] at hc
 refine Calls.mono hc fun e w'' ⟨v,he,hR⟩=>?_
 subst he
 obtain ⟨u,hu,hK⟩:=exR_elim hR
 subst hu
 exact hk _ _ hK
theorem enterS_sound {ty:TypeId} {m:Sem Next} {K:Value→World→Prop} (ho:(execOp a.eval o).run P w=m.run P w) (h:enterS P ty m K w) (hk:∀ v w',K v w'→K' (a.put o.dst v) w'):o.wp P a w K' Q:=by
 obtain ⟨f,xs,w',hr,hc⟩:=h
 exact wp_of_enter (ho.trans hr) hc hk
theorem bodyB_run {k : FuncId} (h : bodyB P k = true) (xs : Array Value) (w : World) : (callFunc k xs).run P w = .ok (.enter k xs) w := by
 unfold bodyB at h
 split at h
 ·rename_i fn hf
  simp only [Bool.and_eq_true, Bool.not_eq_true'] at h
  have hn : fn.body.isNone = false := by cases hb : fn.body <;> simp [hb] at h ⊢
  have hnn : (fn.name == "runtime.NumGoroutine") = false := h.2
  unfold callFunc
  simp only [Sem.run_bind, run_program, Result.andThen_ok, hf, hnn, hn, Bool.false_eq_true, if_false, Sem.run_pure]
 ·cases h
theorem callS_sound {c:Call} {K:Value→World→Prop} (ho:o.op=.call c) (h:callS P a.eval o.type c K w) (hk:∀ v w',K v w'→K' (a.put o.dst v) w'):o.wp P a w K' Q:=by
 have hbi:∀ (b:Builtin) (m:Sem Value),c.callee=.builtin b→(∀ cs,builtin b c.argTypes o.type cs (c.args.toList.map a.eval).toArray=(do pure (.value (← m))))→rawV P o.type m K w→o.wp P a w K' Q:=by
  intro b m hc hm h
  refine rawV_sound (fun v w' hr=>?_) h hk
  unfold execOp
  rw [← mapL] at hm
  simp only [ho,resolve,hc,Sem.run_bind,Sem.run_pure,Result.andThen_ok,invoke,hm,hr]
 unfold callS at h
 split at h
 ·rename_i t hf
  obtain ⟨k,first,cap,hv,hb,h⟩:=h
  have hrun:(execOp a.eval o).run P w=(callFunc k (first.toList ++ (c.args.toList.map a.eval ++ cap.toList)).toArray).run P w:=by
   have e:(first.toList ++ (c.args.toList.map a.eval ++ cap.toList)).toArray=first ++ c.args.map a.eval ++ cap:=by simp [mapL]
   unfold execOp
   simp only [ho,resolve,hf,Deferred.ofValue,hv,Sem.run_bind,Sem.run_pure,Result.andThen_ok,invoke,e]
  exact wp_of_enter (hrun.trans (bodyB_run hb _ _)) (by simpa using h) hk
 ·rename_i f _ hf
  split at h
  ·rename_i k first cap hv
   have hrun:(execOp a.eval o).run P w=(callFunc k (first.toList ++ (c.args.toList.map a.eval ++ cap.toList)).toArray).run P w:=by
    have e:(first.toList ++ (c.args.toList.map a.eval ++ cap.toList)).toArray=first ++ c.args.map a.eval ++ cap:=by simp [mapL]
    unfold execOp
    simp only [ho,resolve,hf,Deferred.ofValue,hv,Sem.run_bind,Sem.run_pure,Result.andThen_ok,invoke,e]
   cases hb:bodyB P k with
   | false=>rw [hb,cond_false] at h; exact rawN_sound hrun h hk
   | true=>
    rw [hb,cond_true] at h
    exact wp_of_enter (hrun.trans (bodyB_run hb _ _)) (by simpa using h) hk
  ·refine enterS_sound ?_ h hk
   unfold execOp
   simp only [ho,resolve,hf,Sem.run_bind,mapL]
 ·rename_i x m hc
  refine enterS_sound ?_ h hk
  unfold execOp
  have e:(#[a.eval x] ++ c.args.map a.eval).extract 1 (#[a.eval x] ++ c.args.map a.eval).size=(c.args.toList.map a.eval).toArray:=by
   apply Array.ext'; simp [mapL,List.take_of_length_le]
  have e0:(#[a.eval x] ++ c.args.map a.eval)[0]?=some (a.eval x):=by rw [Array.getElem?_append_left (by simp)]; rfl
  simp only [ho,resolve,hc,Sem.run_bind,Sem.run_pure,Result.andThen_ok,invoke,e,e0]
 ·rename_i hc; exact hbi _ _ hc (fun _=>rfl) h
 ·rename_i hc; exact hbi _ _ hc (fun _=>rfl) h
 ·rename_i hc; exact hbi _ _ hc (fun _=>rfl) h
 ·rename_i hc; exact hbi _ _ hc (fun _=>rfl) h
 ·rename_i hc; exact hbi _ _ hc (fun _=>rfl) h
 ·exact h.elim
theorem zeroP_run {t:TypeId} {z:Value} (h:zeroP P t=some z) (w:World):(zeroValue t).run P w=.ok z w:=by
 unfold zeroP at h
 cases hi:P.info? t with
 | none=>simp [hi] at h
 | some i=>simp [hi] at h; simp [zeroValue,typeInfo,hi,h]
theorem plainB_pure {op:Op} (h:plainB P op=true):pureB op=true:=by
 unfold plainB at h
 split at h <;> first | rfl | exact h
theorem rawOf_run {m:Sem Value} (h:rawOf a.eval o.op=some m) (v:Value) (w':World) (hr:m.run P w=.ok v w'):(execOp a.eval o).run P w=.ok (.value v) w':=by
 obtain ⟨dst,op,ty,pos,after,guard⟩:=o
 simp only at h
 unfold rawOf at h
 split at h <;> first | cases h | skip
 all_goals unfold execOp
 all_goals first
  | (simp only [Sem.run_bind,hr,Result.andThen_ok,Sem.run_pure]; done)
  | (simp only [Sem.run_bind] at hr ⊢; rw [hr]; rfl)
theorem rawUOf_run {m:Sem Unit} (h:rawUOf a.eval o.op=some m) (w':World) (hr:m.run P w=.ok () w'):(execOp a.eval o).run P w=.ok .skip w':=by
 obtain ⟨dst,op,ty,pos,after,guard⟩:=o
 simp only at h
 unfold rawUOf at h
 split at h <;> first | cases h | skip
 all_goals unfold execOp
 all_goals simp only [Sem.run_bind,hr,Result.andThen_ok,Sem.run_pure]
theorem opS_sound {K:Value→World→Prop} (h:opS P a.eval o K w) (hk:∀ v w',K v w'→K' (a.put o.dst v) w'):o.wp P a w K' Q:=by
 unfold opS at h
 cases hb:plainB P o.op with
 | true=>
  rw [hb,cond_true] at h
  obtain ⟨v,hK,hv⟩:=pureS_sound h (plainB_pure hb)
  exact wp_of_value (hv w) (hk _ _ hK)
 | false=>
  rw [hb,cond_false] at h
  split at h
  ·rename_i t x ho
   split at h
   ·rename_i ad hx
    obtain ⟨v,hK,hr⟩:=loadS_sound h
    refine wp_of_value (v:=v) (w':=w) ?_ (hk _ _ hK)
    simp [execOp,ho,hx,Instr.loadAt,Instr.sureAddr,hr]
   ·exact h.elim
  ·rename_i t x y ho
   split at h
   ·rename_i ad hx
    obtain ⟨w',hK,hr⟩:=storeS_sound h
    refine wp_of_skip (w':=w') ?_ (hk _ _ hK)
    simp [execOp,ho,hx,Instr.storeAt,Instr.sureAddr,hr]
   ·exact h.elim
  ·rename_i t ho
   split at h
   ·rename_i z hz
    refine wp_of_value ?_ (hk _ _ h)
    simp [execOp,ho,Instr.alloc,zeroP_run hz,newVar,newRow]
   ·exact h.elim
  ·rename_i t x ho
   refine wp_of_value ?_ (hk _ _ h)
   simp [execOp,ho,Instr.box,newVar,newRow]
  ·rename_i t n ps ho
   split at h
   ·rename_i e hu
    split at h
    ·rename_i cs hcs
     refine wp_of_value ?_ (hk _ _ h)
     unfold bsCells at hcs
     split at hcs
     ·rename_i i hi
      split at hcs
      ·rename_i z hz
       cases hle:Nat.ble (n * i.size) 16777216 with
       | false=>rw [hle,cond_false] at hcs; cases hcs
       | true=>
        rw [hle,cond_true] at hcs
        have hle':=Nat.le_of_ble_eq_true hle
        have hnl:¬ (n * i.size > 2 ^ 24):=by omega
        have hs:sizeP P e=some i.size:=by simp [sizeP,hi]
        have hz':zeroP P e=some z:=by simp [zeroP,hi,hz]
        have hps:(ps.map fun x=>(x.1,a.eval x.2)).toList=ps.toList.map fun x=>(x.1,a.eval x.2):=by simp
        unfold execOp
        simp only [ho,Instr.buildSlice,Sem.run_bind,run_underlying hu,Result.andThen_ok,sizeP_run hs,if_neg hnl,Sem.run_pure]
        by_cases h0:n * i.size=0
        ·simp only [h0,if_true,Sem.run_bind,Sem.run_pure,Result.andThen_ok,hps]
         have e0:(Array.range 0).map (fun x=>(#[]:Array Value)[x % (#[]:Array Value).size]!)=(Array.range (n * i.size)).map (z.cells[· % z.cells.size]!):=by simp [h0]
         simp only [h0] at e0
         simp only [h0] at hcs
         rw [e0,hcs]
         simp [newRow]
        ·simp only [h0,if_false,Sem.run_bind,zeroP_run hz',Result.andThen_ok,Sem.run_pure,hps,hcs]
         simp [newRow]
      ·cases hcs
     ·cases hcs
    ·exact h.elim
   ·exact h.elim
  ·rename_i c ho
   exact callS_sound ho h hk
  ·rename_i t ho
   refine wp_of_value ?_ (hk _ _ h)
   simp [execOp,ho,Instr.makeMap]
  ·rename_i t x ho
   obtain ⟨w',hr,hK⟩:=h
   exact wp_of_value (by unfold execOp; simp only [ho,Sem.run_bind,hr,Result.andThen_ok,Sem.run_pure]) (hk _ _ hK)
  ·rename_i x ho
   rcases h with ⟨s,v,w',hr,hK⟩ | ⟨s,v,w',hr,hK⟩
   ·exact wp_of_value (by unfold execOp; simp only [ho,Sem.run_bind,hr,Result.andThen_ok,Sem.run_pure]) (hk _ _ hK)
   ·exact wp_of_value (by unfold execOp; simp only [ho,Sem.run_bind,hr,Result.andThen_ok,Sem.run_pure]) (hk _ _ hK)
  ·rename_i x s ho
   rcases h with ⟨w',hr,hK⟩ | ⟨k,v,w',hr,hK⟩
   ·exact wp_of_value (by unfold execOp; simp only [ho,Sem.run_bind,hr,Result.andThen_ok,Sem.run_pure]) (hk _ _ hK)
   ·exact wp_of_value (by unfold execOp; simp only [ho,Sem.run_bind,hr,Result.andThen_ok,Sem.run_pure]) (hk _ _ hK)
  ·split at h
   ·rename_i m hm
    exact rawV_sound (rawOf_run hm) h hk
   ·split at h
    ·rename_i m hm
     obtain ⟨w',hr,hK⟩:=h
     exact wp_of_skip (rawUOf_run hm w' hr) (hk _ _ hK)
    ·exact h.elim
end
structure Ann where
 loops:List (Nat × List (Nat × Sh))
 cuts:List (Nat × List (Nat × Sh))
 plans:List (Nat × List Nat)
 steps:List (Nat × List Nat):=[]
 mixes:List (Nat × (List Nat × Nat × List Nat)):=[]
 anys:List Nat:=[]
def lk {β:Type}:List (Nat × β)→Nat→Option β
 | [],_=>none
 | (k,v) :: r,n=>bif Nat.beq k n then some v else lk r n
def gslot (ops:Array Oper) (j:Nat):Option Nat:=(ops[j]?).bind (·.dst)
def guardS (ops:Array Oper) (o:Oper) (e:Env) (yes no:Env→Prop):Prop:=
 match o.guard with
 | none=>yes e
 | some (j,want)=>
  match gslot ops j with
  | none=>False
  | some g=>
   match e g with
   | .bool b=>cond b (cond want (yes (upd e (some g) (.bool true))) (no (upd e (some g) (.bool true)))) (cond want (no (upd e (some g) (.bool false))) (yes (upd e (some g) (.bool false))))
   | _=>no e
def opsS (P:Program) (ops:Array Oper):List Oper→Env→World→(Env→World→Prop)→Prop
 | [],e,w,K=>K e w
 | o :: r,e,w,K=>guardS ops o e (fun e=>opS P (ev e) o (fun v w'=>opsS P ops r (upd e o.dst v) w' K) w) (fun e=>opsS P ops r (upd e o.dst undef) w K)
theorem upd_self {e:Env} {g:Nat} {v:Value} (h:e g=v):upd e (some g) v=e:=by
 funext t
 rw [upd_eq]
 by_cases ht:t=g
 ·subst ht; rw [if_pos rfl,h]
 ·rw [if_neg ht]
theorem undef_not_bool (b:Bool):undef≠.bool b:=by unfold undef; simp
theorem guardS_elim {ops:Array Oper} {o:Oper} {e:Env} {yes no:Env→Prop} {a:Act} (ha:AgreeX D a e) (h:guardS ops o e yes no) :
 (Region.wanted o (yielded ops a.tmps)=true∧yes e)∨(Region.wanted o (yielded ops a.tmps)=false∧no e):=by
 unfold guardS at h
 unfold Region.wanted
 split at h
 ·rename_i hg; exact .inl ⟨by simp [hg],h⟩
 ·rename_i j want hg
  simp only [hg]
  split at h
  ·exact h.elim
  ·rename_i g hgs
   unfold gslot at hgs
   unfold yielded
   rw [hgs]
   have hget:=ha.2 g
   rw [Array.getD_eq_getD_getElem?] at hget
   split at h
   ·rename_i b hb
    have hs:a.tmps[g]?=some (.bool b):=by
     cases hx:a.tmps[g]? with
     | none=>rw [hx] at hget; simp at hget; exact absurd (hget.trans hb) (undef_not_bool b)
     | some u=>rw [hx] at hget; simp at hget; rw [hget,hb]
    simp only [Option.bind_some,hs]
    cases b <;> cases want <;> simp only [cond] at h <;> rw [upd_self hb] at h
    ·exact .inl ⟨rfl,h⟩
    ·exact .inr ⟨rfl,h⟩
    ·exact .inr ⟨rfl,h⟩
    ·exact .inl ⟨rfl,h⟩
   ·rename_i hb
    refine .inr ⟨?_,h⟩
    simp only [Option.bind_some]
    cases hx:a.tmps[g]? with
    | none=>simp
    | some u=>
     rw [hx] at hget
     simp at hget
     rw [← hget] at hb
     cases u <;> first | rfl | (exfalso; exact hb _ rfl)
def fitsOps (n:Nat) (ops:List Oper):Bool:=ops.all fun o=>match o.dst with | some d=>Nat.blt d n | none=>true
theorem bltL {a b:Nat} (h:Nat.blt a b=true):a< b:=by rw [Nat.blt_eq] at h; exact h
theorem put_size (a:Act) (d:Option Nat) (v:Value):(a.put d v).tmps.size=a.tmps.size:=by cases d <;> simp [Act.put]
theorem opsS_sound {P:Program} {ops:Array Oper} {Q:Exit→Act→World→Prop}:∀ (l:List Oper) (e:Env) (w:World) (a:Act) (K:Env→World→Prop),AgreeX D a e→fitsOps a.tmps.size l=true→opsS P ops l e w K→
 (∀ a' e' w',AgreeX D a' e'→a'.tmps.size=a.tmps.size→(∀ t,(∀ o ∈ l,o.dst≠some t)→e' t=e t)→K e' w'→Q .normal a' w')→wpList P ops Q l a w
 | [],e,w,a,K,ha,_,h,hK=>hK a e w ha rfl (fun _ _=>rfl) h
 | o :: r,e,w,a,K,ha,hf,h,hK=>by
  simp only [fitsOps,List.all_cons,Bool.and_eq_true] at hf
  have hd:∀ k,o.dst=some k→k< a.tmps.size:=fun k hk=>by
   have:=hf.1; rw [hk] at this; exact bltL this
  have step:∀ v w',opsS P ops r (upd e o.dst v) w' K→wpList P ops Q r (a.put o.dst v) w':=fun v w' h'=>by
   refine opsS_sound r _ _ _ K (ha.put _ _ hd) (by rw [put_size]; exact hf.2) h' fun a' e' w'' ha' hs hfr hk=>?_
   refine hK a' e' w'' ha' (by rw [hs,put_size]) (fun t ht=>?_) hk
   rw [hfr t (fun o' ho'=>ht o' (by simp [ho']))]
   have hne:=ht o (by simp)
   cases hdd:o.dst with
   | none=>rfl
   | some d=>rw [upd_eq,if_neg (fun e=>hne (by rw [hdd,e]))]
  rcases guardS_elim ha h with ⟨hw,h⟩ | ⟨hw,h⟩
  ·unfold wpList
   rw [if_pos hw]
   rw [← ha.eval] at h
   exact .inl (opS_sound h step)
  ·unfold wpList
   rw [if_neg (by rw [hw]; simp)]
   exact step _ _ h
def QCall (P:Program) (k:FuncId) (args:List Value) (w:World) (v:Value):Prop:=
 Calls P k args.toArray w fun e w'=>e=.returned v∧∃ n,w'=w.drewN n
def quietS (P:Program) (r:Operand→Value) (o:Oper) (w:World) (K:Value→Prop):Prop:=
 bif plainB P o.op then pureS P r o.type o.op K else
 match o.op with
 | .load t x=>match r x with | .pointer (some a)=>loadS P t a w K | _=>False
 | .call c=>
  match c.callee with
  | .value f=>
   match r f with
   | .func (.func k) first cap=>bif bodyB P k then exR P o.type fun v=>(∀ n,QCall P k (first.toList ++ (c.args.toList.map r ++ cap.toList)) (w.drewN n) v)∧K v else False
   | _=>False
  | _=>False
 | _=>False
def headS (P:Program) (ops:Array Oper):List Oper→Env→World→(Env→Prop)→Prop
 | [],e,_,K=>K e
 | o :: r,e,w,K=>guardS ops o e (fun e=>quietS P (ev e) o w fun v=>headS P ops r (upd e o.dst v) w K) (fun e=>headS P ops r (upd e o.dst undef) w K)
theorem loadS_drewN {P:Program} {t:TypeId} {a:Addr} {w:World} {K:Value→Prop} (h:loadS P t a w K):∃ v,K v∧∀ n,(loadVar t a).run P (w.drewN n)=.ok v (w.drewN n):=by
 have key:∃ v,K v∧∀ w':World,w'.heap=w.heap→(loadVar t a).run P w'=.ok v w':=by
  unfold loadS at h
  split at h
  ·rename_i c _
   by_cases hb:(!isAggB P t && (P.underlying t).isSome)=true
   ·rw [hb,cond_true] at h
    simp only [Bool.and_eq_true,Bool.not_eq_true'] at hb
    obtain ⟨v,hc,hK⟩:=exCK_elim h
    obtain ⟨d,hd⟩:=Option.isSome_iff_exists.1 hb.2
    refine ⟨v,hK,fun w' hw=>?_⟩
    have hc':w'.cell? a=some v:=by rw [← hc]; simp [World.cell?,hw]
    simp [loadVar,run_isAgg hd,hb.1,hc']
   ·simp only [Bool.not_eq_true] at hb; rw [hb,cond_false] at h; exact h.elim
  ·rename_i cs _
   by_cases hb:(isAggB P t && (match sizeP P t with | some n=>Nat.beq n cs.length | none=>false))=true
   ·rw [hb,cond_true] at h
    simp only [Bool.and_eq_true] at hb
    obtain ⟨vs,hl,h⟩:=exCKs_elim h
    obtain ⟨hK,hc⟩:=andCells_spec h
    exact ⟨_,hK,fun w' hw=>run_loadVar_agg hb.1 (by rw [hl]; exact beq_len hb.2) (fun j v hj=>by have:=hc j v hj; rw [← this]; simp [World.cell?,hw])⟩
   ·simp only [Bool.not_eq_true] at hb; rw [hb,cond_false] at h; exact h.elim
  ·rename_i m _
   by_cases hb:(isAggB P t && (match sizeP P t with | some n=>Nat.beq n m | none=>false))=true
   ·rw [hb,cond_true] at h
    simp only [Bool.and_eq_true] at hb
    obtain ⟨vs,hl,hc,hK⟩:=h
    exact ⟨_,hK,fun w' hw=>run_loadVar_agg hb.1 (by rw [hl]; exact beq_len hb.2) (fun j v hj=>by have:=hc j v hj; rw [← this]; simp [World.cell?,hw])⟩
   ·simp only [Bool.not_eq_true] at hb; rw [hb,cond_false] at h; exact h.elim
 obtain ⟨v,hK,hv⟩:=key
 exact ⟨v,hK,fun n=>hv _ rfl⟩
theorem quietS_sound {P:Program} {o:Oper} {a:Act} {w:World} {K:Value→Prop} (h:quietS P a.eval o w K) :
 ∃ v,(∀ w',(∃ n,w'=w.drewN n)→o.quietAt P a (fun w'=>∃ n,w'=w.drewN n) w' v)∧K v:=by
 unfold quietS at h
 cases hb:plainB P o.op with
 | true=>
  rw [hb,cond_true] at h
  obtain ⟨v,hK,hv⟩:=pureS_sound h (plainB_pure hb)
  exact ⟨v,fun w' _=>by unfold Oper.quietAt; rw [hv w']; exact ⟨rfl,rfl⟩,hK⟩
 | false=>
  rw [hb,cond_false] at h
  split at h
  ·rename_i t x ho
   split at h
   ·rename_i ad hx
    obtain ⟨v,hK,hv⟩:=loadS_drewN h
    refine ⟨v,?_,hK⟩
    rintro w' ⟨n,rfl⟩
    have:(execOp a.eval o).run P (w.drewN n)=.ok (.value v) (w.drewN n):=by simp [execOp,ho,hx,Instr.loadAt,Instr.sureAddr,hv n]
    unfold Oper.quietAt; rw [this]; exact ⟨rfl,rfl⟩
   ·exact h.elim
  ·rename_i c ho
   split at h
   ·rename_i f hf
    split at h
    ·rename_i k first cap hv
     cases hbb:bodyB P k with
     | false=>rw [hbb,cond_false] at h; exact h.elim
     | true=>
      rw [hbb,cond_true] at h
      obtain ⟨v,hq,hK⟩:=exR_elim h
      refine ⟨v,?_,hK⟩
      rintro w' ⟨n,rfl⟩
      have:(execOp a.eval o).run P (w.drewN n)=.ok (.enter k (first ++ c.args.map a.eval ++ cap)) (w.drewN n):=by
       unfold execOp
       simp only [ho,resolve,hf,Deferred.ofValue,hv,Sem.run_bind,Sem.run_pure,Result.andThen_ok,invoke]
       exact bodyB_run hbb _ _
      unfold Oper.quietAt; rw [this]
      refine ⟨rfl,?_⟩
      have hqn:=hq n
      unfold QCall at hqn
      have e:(first.toList ++ (c.args.toList.map a.eval ++ cap.toList)).toArray=first ++ c.args.map a.eval ++ cap:=by simp [mapL]
      rw [e] at hqn
      refine Calls.mono hqn fun e w'' ⟨he,m,hw⟩=>⟨he,n+m,?_⟩
      rw [hw,World.drewN_drewN]
    ·exact h.elim
   ·exact h.elim
  ·exact h.elim
theorem headS_sound {P:Program} {ops:Array Oper} {w:World} {Q:Act→Prop}:∀ (l:List Oper) (e:Env) (a:Act) (K:Env→Prop),AgreeX D a e→fitsOps a.tmps.size l=true→headS P ops l e w K→
 (∀ a' e',AgreeX D a' e'→a'.tmps.size=a.tmps.size→(∀ t,(∀ o ∈ l,o.dst≠some t)→e' t=e t)→K e'→Q a')→wpQuiet P ops (fun w'=>∃ n,w'=w.drewN n) Q l a
 | [],e,a,K,ha,_,h,hK=>hK a e ha rfl (fun _ _=>rfl) h
 | o :: r,e,a,K,ha,hf,h,hK=>by
  simp only [fitsOps,List.all_cons,Bool.and_eq_true] at hf
  have hd:∀ k,o.dst=some k→k< a.tmps.size:=fun k hk=>by
   have:=hf.1; rw [hk] at this; exact bltL this
  have step:∀ v,headS P ops r (upd e o.dst v) w K→wpQuiet P ops (fun w'=>∃ n,w'=w.drewN n) Q r (a.put o.dst v):=fun v h'=>by
   refine headS_sound r _ _ K (ha.put _ _ hd) (by rw [put_size]; exact hf.2) h' fun a' e' ha' hs hfr hk=>?_
   refine hK a' e' ha' (by rw [hs,put_size]) (fun t ht=>?_) hk
   rw [hfr t (fun o' ho'=>ht o' (by simp [ho']))]
   have hne:=ht o (by simp)
   cases hdd:o.dst with
   | none=>rfl
   | some d=>rw [upd_eq,if_neg (fun e=>hne (by rw [hdd,e]))]
  rcases guardS_elim ha h with ⟨hw,h⟩ | ⟨hw,h⟩
  ·unfold wpQuiet
   rw [if_pos hw]
   rw [← ha.eval] at h
   obtain ⟨v,hv,hk⟩:=quietS_sound h
   exact ⟨v,hv,step v hk⟩
  ·unfold wpQuiet
   rw [if_neg (by rw [hw]; simp)]
   exact step _ h
def isLoad:Op→Bool
 | .load _ _=>true
 | _=>false
def takeB (P:Program) (o:Oper):Bool:=plainB P o.op || isLoad o.op
def planB (P:Program) (ops:Array Oper):List Nat→Array Bool→Bool
 | [],listed=>(Region.ready .any ops listed).isEmpty
 | i :: plan,listed=>
  (match ops[i]? with
   | some o=>(takeB P o && Region.free .any ops listed i && (Region.ready .any ops listed).contains i) || (match Region.ready .any ops listed with | [j]=>Nat.beq i j | _=>false)
   | none=>false) && planB P ops plan (listed.setIfInBounds i true)
def holdS (P:Program) (r:Operand→Value) (o:Oper) (S:World→Prop) (K:Value→Prop):Prop:=
 bif plainB P o.op then pureS P r o.type o.op K else
 match o.op with
 | .load t x=>
  match r x with
  | .pointer (some a)=>
   match shOf P t with
   | .one c=>bif !isAggB P t && (P.underlying t).isSome then exCK c fun v=>(∀ w,S w→w.cell? a=some v)∧K v else False
   | .agg cs=>bif isAggB P t && (match sizeP P t with | some n=>Nat.beq n cs.length | none=>false) then exCKs cs fun vs=>(∀ w,S w→andCells w a 0 vs True)∧K (.agg vs.toArray) else False
   | _=>False
  | _=>False
 | _=>False
def heldS (P:Program) (ops:Array Oper) (S:World→Prop):List Nat→Env→World→(Env→World→Prop)→Prop
 | [],e,w,K=>K e w
 | i :: plan,e,w,K=>
  match ops[i]? with
  | none=>False
  | some o=>
   bif takeB P o then guardS ops o e (fun e=>holdS P (ev e) o S fun v=>heldS P ops S plan (upd e o.dst v) w K) (fun e=>heldS P ops S plan (upd e o.dst undef) w K)
   else guardS ops o e (fun e=>opS P (ev e) o (fun v w'=>S w'∧heldS P ops S plan (upd e o.dst v) w' K) w) (fun e=>heldS P ops S plan (upd e o.dst undef) w K)
theorem holdS_sound {P:Program} {o:Oper} {r:Operand→Value} {S:World→Prop} {K:Value→Prop} (h:holdS P r o S K) :
 ∃ v,K v∧∀ w,S w→(execOp r o).run P w=.ok (.value v) w:=by
 unfold holdS at h
 cases hb:plainB P o.op with
 | true=>
  rw [hb,cond_true] at h
  obtain ⟨v,hK,hv⟩:=pureS_sound h (plainB_pure hb)
  exact ⟨v,hK,fun w _=>hv w⟩
 | false=>
  rw [hb,cond_false] at h
  split at h
  ·rename_i t x ho
   split at h
   ·rename_i ad hx
    split at h
    ·rename_i c _
     by_cases hb:(!isAggB P t && (P.underlying t).isSome)=true
     ·rw [hb,cond_true] at h
      simp only [Bool.and_eq_true,Bool.not_eq_true'] at hb
      obtain ⟨v,hc,hK⟩:=exCK_elim h
      obtain ⟨d,hd⟩:=Option.isSome_iff_exists.1 hb.2
      exact ⟨v,hK,fun w hS=>by simp [execOp,ho,hx,Instr.loadAt,Instr.sureAddr,loadVar,run_isAgg hd,hb.1,hc w hS]⟩
     ·simp only [Bool.not_eq_true] at hb; rw [hb,cond_false] at h; exact h.elim
    ·rename_i cs _
     by_cases hb:(isAggB P t && (match sizeP P t with | some n=>Nat.beq n cs.length | none=>false))=true
     ·rw [hb,cond_true] at h
      simp only [Bool.and_eq_true] at hb
      obtain ⟨vs,hl,h⟩:=exCKs_elim h
      refine ⟨_,h.2,fun w hS=>?_⟩
      have hr:=run_loadVar_agg (P:=P) (w:=w) (a:=ad) hb.1 (by rw [hl]; exact beq_len hb.2) (fun j v hj=>by simpa using (andCells_spec (h.1 w hS)).2 j v hj)
      simp [execOp,ho,hx,Instr.loadAt,Instr.sureAddr,hr]
     ·simp only [Bool.not_eq_true] at hb; rw [hb,cond_false] at h; exact h.elim
    ·exact h.elim
   ·exact h.elim
  ·exact h.elim
theorem dst_of {ops:Array Oper} {i:Nat} {o:Oper} (ho:ops[i]?=some o) {n:Nat} (hf:fitsOps n ops.toList=true):∀ k,o.dst=some k→k< n:=by
 intro k hk
 have hm:o ∈ ops.toList:=by rw [Array.mem_toList_iff]; exact Array.mem_of_getElem? ho
 have:=List.all_eq_true.1 hf o hm
 rw [hk] at this
 exact bltL this
theorem heldS_sound {P:Program} {ops:Array Oper} {S:World→Prop} {Q:Exit→Act→World→Prop} (hsel:Region.noSelect ops=true)
 (hQ:∀ (c:List PanicEntry) (a:Act) (d:Option Tmp) (v:Value) (w:World),Q (.panic c) (a.put d v) w→Q (.panic c) a w) :
 ∀ (plan:List Nat) (listed:Array Bool) (e:Env) (w:World) (a:Act) (K:Env→World→Prop),AgreeX D a e→fitsOps a.tmps.size ops.toList=true→planB P ops plan listed=true→S w→
 heldS P ops S plan e w K→
 (∀ a' e' w',AgreeX D a' e'→a'.tmps.size=a.tmps.size→(∀ t,(∀ o ∈ ops.toList,o.dst≠some t)→e' t=e t)→K e' w'→Q .normal a' w')→
 wpAnyH P .any ops Q S plan.length listed a w
 | [],listed,e,w,a,K,ha,_,hp,_,h,hK=>by
  refine ⟨?_,hK a e w ha rfl (fun _ _=>rfl) h⟩
  unfold planB at hp
  exact List.isEmpty_iff.1 hp
 | i :: plan,listed,e,w,a,K,ha,hf,hp,hS,h,hK=>by
  unfold planB at hp
  simp only [Bool.and_eq_true] at hp
  obtain ⟨hp1,hp2⟩:=hp
  unfold heldS at h
  split at h
  ·exact h.elim
  ·rename_i o ho
   simp only [ho] at hp1
   have hd:=dst_of ho hf
   have hmem:o ∈ ops.toList:=by rw [Array.mem_toList_iff]; exact Array.mem_of_getElem? ho
   have step:∀ v w',S w'→heldS P ops S plan (upd e o.dst v) w' K→wpAnyH P .any ops Q S plan.length (listed.setIfInBounds i true) (a.put o.dst v) w':=fun v w' hS' h'=>by
    refine heldS_sound hsel hQ plan _ _ _ _ K (ha.put _ _ hd) (by rw [put_size]; exact hf) hp2 hS' h' fun a' e' w'' ha' hs hfr hk=>?_
    refine hK a' e' w'' ha' (by rw [hs,put_size]) (fun t ht=>?_) hk
    rw [hfr t ht]
    have hne:=ht o hmem
    cases hdd:o.dst with
    | none=>rfl
    | some d=>rw [upd_eq,if_neg (fun e=>hne (by rw [hdd,e]))]
   cases htk:takeB P o with
   | true=>
    rw [htk,cond_true] at h
    have hy:∃ v,YieldsIf P ops S o v a∧heldS P ops S plan (upd e o.dst v) w K:=by
     rcases guardS_elim ha h with ⟨hw,h⟩ | ⟨hw,h⟩
     ·rw [← ha.eval] at h
      obtain ⟨v,hk,hv⟩:=holdS_sound h
      exact ⟨v,.inl ⟨hw,hv⟩,hk⟩
     ·exact ⟨undef,.inr ⟨hw,rfl⟩,h⟩
    obtain ⟨v,hy,hk⟩:=hy
    simp only [htk,Bool.true_and,Bool.or_eq_true,Bool.and_eq_true] at hp1
    rcases hp1 with ⟨hfree,hready⟩ | hone
    ·exact wpAnyH_take ho hsel hfree hready (fun c a' w'=>hQ c a' _ _ w') hy hS (step v w hS hk)
    ·have hr:Region.ready .any ops listed=[i]:=by
      split at hone
      ·rename_i j hj; rw [hj,Nat.eq_of_beq_eq_true hone]
      ·cases hone
     refine wpAnyH_all hr (by simp) fun j hj=>?_
     simp at hj
     subst hj
     exact hy.wpOp ho hS ⟨hS,step v w hS hk⟩
   | false=>
    rw [htk,cond_false] at h
    simp only [htk,Bool.false_and,Bool.false_or] at hp1
    have hr:Region.ready .any ops listed=[i]:=by
     split at hp1
     ·rename_i j hj; rw [hj,Nat.eq_of_beq_eq_true hp1]
     ·cases hp1
    refine wpAnyH_all hr (by simp) fun j hj=>?_
    simp at hj
    subst hj
    unfold wpOp
    simp only [ho]
    rcases guardS_elim ha h with ⟨hw,h⟩ | ⟨hw,h⟩
    ·rw [if_pos hw]
     rw [← ha.eval] at h
     exact .inl (opS_sound h fun v w' ⟨hS',hk⟩=>⟨hS',step v w' hS' hk⟩)
    ·rw [if_neg (by rw [hw]; simp)]
     exact ⟨hS,step _ _ hS h⟩
def memB:List Nat→Nat→Bool
 | [],_=>false
 | x :: l,t=>bif Nat.beq t x then true else memB l t
theorem memB_iff' {l:List Nat} {t:Nat}:memB l t=true↔t ∈ l:=by
 induction l with
 | nil=>simp [memB]
 | cons x l ih=>
  unfold memB
  cases h:Nat.beq t x with
  | true=>simp [Nat.eq_of_beq_eq_true h]
  | false=>
   have:t≠x:=fun e=>by subst e; simp at h
   simp [ih,this]
inductive Anc (ops:Array Oper):Nat→Nat→Prop
 | one {e o x}:ops[e]?=some o→x ∈ o.after→Region.binds .any x=true→Anc ops e x.on
 | more {e j o x}:Anc ops e j→ops[j]?=some o→x ∈ o.after→Region.binds .any x=true→Anc ops e x.on
def Closed (ops:Array Oper) (listed:Array Bool):Prop:=
 ∀ j oj,ops[j]?=some oj→listed.getD j false=true→∀ x ∈ oj.after,Region.binds .any x=true→listed.getD x.on false=true
theorem Closed.start (ops:Array Oper) (n:Nat):Closed ops (Array.replicate n false):=fun j oj _ h=>by
 by_cases hj:j< n
 ·simp [hj] at h
 ·simp [hj] at h
theorem Closed.step {ops:Array Oper} {listed:Array Bool} (h:Closed ops listed) {i:Nat} (hi:i ∈ Region.ready .any ops listed):Closed ops (listed.setIfInBounds i true):=by
 intro j oj hj hl x hx hb
 by_cases hij:i=j
 ·subst hij
  obtain ⟨_,o,ho,hall⟩:=mem_ready.1 hi
  rw [ho] at hj; cases hj
  exact getD_set_true (hall x hx hb)
 ·rw [getD_set_ne false hij] at hl
  exact getD_set_true (h j oj hj hl x hx hb)
theorem Anc.listed {ops:Array Oper} {listed:Array Bool} (hc:Closed ops listed) {e i:Nat} (ha:Anc ops e i) (he:e ∈ Region.ready .any ops listed):listed.getD i false=true:=by
 induction ha with
 | one ho hx hb=>
  obtain ⟨_,o,ho',hall⟩:=mem_ready.1 he
  rw [ho] at ho'; cases ho'
  exact hall _ hx hb
 | more _ ho hx hb ih=>exact hc _ _ ho ih _ hx hb
def wpAnyK (P:Program) (ops:Array Oper) (Q:Exit→Act→World→Prop) (S:World→Prop) (bar:Option Nat):Nat→Array Bool→Act→World→Prop
 | 0,listed,a,w=>Region.ready .any ops listed=[]∧Q .normal a w
 | fuel+1,listed,a,w=>
  (Region.ready .any ops listed=[]→Q .normal a w)∧
  ∀ i ∈ Region.ready .any ops listed,wpOp P ops Q i (fun a' w'=>(bar=some i→wpAny P .any ops Q fuel (listed.setIfInBounds i true) a' w')∧(bar≠some i→S w'∧wpAnyK P ops Q S bar fuel (listed.setIfInBounds i true) a' w')) a w
theorem wpAny_of_K {P:Program} {ops:Array Oper} {Q:Exit→Act→World→Prop} {S:World→Prop} {bar:Option Nat} :
 ∀ (fuel:Nat) (listed:Array Bool) (a:Act) (w:World),wpAnyK P ops Q S bar fuel listed a w→wpAny P .any ops Q fuel listed a w
 | 0,_,_,_,h=>h
 | fuel+1,_,_,_,h=>⟨h.1,fun i hi=>wpOp_mono (fun a' w' h'=>by
  by_cases hb:bar=some i
  ·exact h'.1 hb
  ·exact wpAny_of_K fuel _ a' w' (h'.2 hb).2) (h.2 i hi)⟩
theorem wpAnyK_first {P:Program} {ops:Array Oper} {Q:Exit→Act→World→Prop} {S:World→Prop} {bar:Option Nat} {i:Nat} {oi:Oper} {v:Value} (hi:ops[i]?=some oi)
 (hsel:∀ (j:Nat) (o:Oper) cs b,ops[j]?=some o→o.op≠.select cs b)
 (hQ:∀ c a w,Q (.panic c) (a.put oi.dst v) w→Q (.panic c) a w) :
 ∀ (fuel:Nat) (listed:Array Bool) (a:Act) (w:World),Closed ops listed→bar≠some i→
  (∀ j oj,ops[j]?=some oj→j≠i→listed.getD j true=false→(∀ e ∈ oj.after,Region.binds .any e=true→e.on≠i)→oi.apart ops oj=true)→
  i ∈ Region.ready .any ops listed→YieldsIf P ops S oi v a→((∀ e,bar=some e→Anc ops e i)∨Yields P ops oi v a)→S w→
  wpAnyK P ops Q S bar fuel (listed.setIfInBounds i true) (a.put oi.dst v) w→wpAnyK P ops Q S bar (fuel+1) listed a w:=by
 intro fuel
 induction fuel with
 | zero=>
  intro listed a w hc hbi _ hr hy _ hS H
  refine ⟨fun h=>(by rw [h] at hr; cases hr),fun j hj=>?_⟩
  by_cases hji:j=i
  ·subst hji; exact hy.wpOp hi hS ⟨fun h=>absurd h hbi,fun _=>⟨hS,H⟩⟩
  ·have:=ready_mono hj hji
   rw [H.1] at this
   cases this
 | succ fuel ih=>
  intro listed a w hc hbi hfree hr hy hbar hS H
  refine ⟨fun h=>(by rw [h] at hr; cases hr),fun j hj=>?_⟩
  by_cases hji:j=i
  ·subst hji; exact hy.wpOp hi hS ⟨fun h=>absurd h hbi,fun _=>⟨hS,H⟩⟩
  ·have h1:=H.2 j (ready_mono hj hji)
   obtain ⟨hjun,oj,hoj,hall⟩:=mem_ready.1 hj
   have hiun:listed.getD i false=false:=by
    have h0:=(mem_ready.1 hr).1
    cases hx:listed.getD i false with
    | false=>rfl
    | true=>
     rcases Nat.lt_or_ge i listed.size with h' | h'
     ·simp [h'] at h0 hx; rw [hx] at h0; cases h0
     ·simp [h'] at hx
   have hnot:∀ e ∈ oj.after,Region.binds .any e=true→e.on≠i:=fun e he hb heq=>by
    have h1:=hall e he hb
    rw [heq,hiun] at h1; cases h1
   have hfree':∀ k ok,ops[k]?=some ok→k≠i→(listed.setIfInBounds j true).getD k true=false→
    (∀ e ∈ ok.after,Region.binds .any e=true→e.on≠i)→oi.apart ops ok=true:=fun k ok hk hki hun hno=>by
    refine hfree k ok hk hki ?_ hno
    by_cases hjk:j=k
    ·subst hjk; exact hjun
    ·rw [getD_set_ne true hjk] at hun; exact hun
   rcases hbar with hanc | hyy
   ·
    have hbj:bar≠some j:=fun hb=>by
     have:=(hanc j hb).listed hc hj
     rw [hiun] at this; cases this
    have h2:=wpOp_putIf hoj (hfree j oj hoj hji hjun hnot) (fun cs b=>hsel i oi cs b hi) (fun cs b=>hsel j oj cs b hoj) hQ hy h1
    refine wpOp_mono (fun a' w' h3=>⟨fun hb=>absurd hb hbj,fun hb=>⟨(h3.2.2 hb).1,ih (listed.setIfInBounds j true) a' w' (hc.step hj) hbi hfree' (ready_mono hr (Ne.symm hji)) h3.1 (.inl hanc) (h3.2.2 hb).1 ?_⟩⟩) h2
    rw [Array.setIfInBounds_comm _ _ hji]
    exact (h3.2.2 hb).2
   ·have h2:=wpOp_put hoj (hfree j oj hoj hji hjun hnot) (fun cs b=>hsel i oi cs b hi) (fun cs b=>hsel j oj cs b hoj) hQ hyy h1
    refine wpOp_mono (fun a' w' h3=>⟨fun hb=>?_,fun hb=>⟨(h3.2.2 hb).1,ih (listed.setIfInBounds j true) a' w' (hc.step hj) hbi hfree' (ready_mono hr (Ne.symm hji)) h3.1.yieldsIf (.inr h3.1) (h3.2.2 hb).1 ?_⟩⟩) h2
    ·refine wpAny_first hi hsel hQ fuel _ a' w' hfree' (ready_mono hr (Ne.symm hji)) h3.1 ?_
     rw [Array.setIfInBounds_comm _ _ hji]
     exact h3.2.1 hb
    ·rw [Array.setIfInBounds_comm _ _ hji]
     exact (h3.2.2 hb).2
def onsOf (o:Oper):List Nat:=(o.after.toList.filter fun x=>Region.binds .any x).map (·.on)
def nextE (P:Program) (ops:Array Oper):List Nat→Option Nat
 | []=>none
 | i :: r=>match ops[i]? with
  | none=>none
  | some o=>bif takeB P o then nextE P ops r else some i
def needs (P:Program) (ops:Array Oper):List Nat→List Nat
 | []=>[]
 | i :: r=>match ops[i]? with
  | none=>[]
  | some o=>bif takeB P o then (bif memB (needs P ops r) i then onsOf o ++ needs P ops r else needs P ops r) else onsOf o
theorem needs_anc {P:Program} {ops:Array Oper}:∀ {l:List Nat} {e k:Nat},nextE P ops l=some e→k ∈ needs P ops l→Anc ops e k
 | [],_,_,h,_=>by cases h
 | i :: r,e,k,h,hk=>by
  unfold nextE at h
  unfold needs at hk
  have edge:∀ {o:Oper},k ∈ onsOf o→∃ x ∈ o.after,Region.binds .any x=true∧x.on=k:=fun hk=>by
   unfold onsOf at hk
   rw [List.mem_map] at hk
   obtain ⟨x,hx,rfl⟩:=hk
   rw [List.mem_filter] at hx
   exact ⟨x,by simpa using hx.1,hx.2,rfl⟩
  split at h
  ·cases h
  ·rename_i o ho
   simp only [ho] at hk
   cases ht:takeB P o with
   | true=>
    rw [ht,cond_true] at h hk
    cases hm:memB (needs P ops r) i with
    | true=>
     rw [hm,cond_true,List.mem_append] at hk
     rcases hk with hk | hk
     ·obtain ⟨x,hx,hb,rfl⟩:=edge hk
      exact .more (needs_anc h (memB_iff'.1 hm)) ho hx hb
     ·exact needs_anc h hk
    | false=>rw [hm,cond_false] at hk; exact needs_anc h hk
   | false=>
    rw [ht,cond_false] at h hk
    cases h
    obtain ⟨x,hx,hb,rfl⟩:=edge hk
    exact .one ho hx hb
def stepB (P:Program) (ops:Array Oper):List Nat→Array Bool→Bool
 | [],listed=>(Region.ready .any ops listed).isEmpty
 | i :: r,listed=>
  (match ops[i]? with
   | some o=>bif takeB P o then Region.free .any ops listed i && (Region.ready .any ops listed).contains i && (plainB P o.op || (match nextE P ops r with | none=>true | some _=>memB (needs P ops r) i))
    else (match Region.ready .any ops listed with | [j]=>Nat.beq i j | _=>false)
   | none=>false) && stepB P ops r (listed.setIfInBounds i true)
def stepsS (P:Program) (ops:Array Oper):List Nat→Env→World→(Env→World→Prop)→Prop
 | [],e,w,K=>K e w
 | i :: r,e,w,K=>
  match ops[i]? with
  | none=>False
  | some o=>guardS ops o e (fun e=>opS P (ev e) o (fun v w'=>stepsS P ops r (upd e o.dst v) w' K) w) (fun e=>stepsS P ops r (upd e o.dst undef) w K)
theorem takeB_sound {P:Program} {o:Oper} {r:Operand→Value} {w:World} {K:Value→World→Prop} (ht:takeB P o=true) (h:opS P r o K w) :
 ∃ v,K v w∧(execOp r o).run P w=.ok (.value v) w∧(plainB P o.op=true→∀ w,(execOp r o).run P w=.ok (.value v) w):=by
 unfold opS at h
 cases hb:plainB P o.op with
 | true=>
  rw [hb,cond_true] at h
  obtain ⟨v,hK,hv⟩:=pureS_sound h (plainB_pure hb)
  exact ⟨v,hK,hv w,fun _ w=>hv w⟩
 | false=>
  rw [hb,cond_false] at h
  unfold takeB at ht
  rw [hb,Bool.false_or] at ht
  unfold isLoad at ht
  split at ht
  ·rename_i t x ho
   simp only [ho] at h
   split at h
   ·rename_i ad hx
    obtain ⟨v,hK,hv⟩:=loadS_sound h
    exact ⟨v,hK,by simp [execOp,ho,hx,Instr.loadAt,Instr.sureAddr,hv],fun h=>by cases h⟩
   ·exact h.elim
  ·cases ht
theorem stepsS_sound {P:Program} {ops:Array Oper} {Q:Exit→Act→World→Prop} (hsel:Region.noSelect ops=true)
 (hQ:∀ (c:List PanicEntry) (a:Act) (d:Option Tmp) (v:Value) (w:World),Q (.panic c) (a.put d v) w→Q (.panic c) a w) :
 ∀ (plan:List Nat) (listed:Array Bool) (e:Env) (w:World) (a:Act) (K:Env→World→Prop),Closed ops listed→AgreeX D a e→fitsOps a.tmps.size ops.toList=true→stepB P ops plan listed=true→
 stepsS P ops plan e w K→
 (∀ a' e' w',AgreeX D a' e'→a'.tmps.size=a.tmps.size→(∀ t,(∀ o ∈ ops.toList,o.dst≠some t)→e' t=e t)→K e' w'→Q .normal a' w')→
 wpAnyK P ops Q (fun w'=>w'=w) (nextE P ops plan) plan.length listed a w
 | [],listed,e,w,a,K,_,ha,_,hp,h,hK=>by
  refine ⟨?_,hK a e w ha rfl (fun _ _=>rfl) h⟩
  unfold stepB at hp
  exact List.isEmpty_iff.1 hp
 | i :: plan,listed,e,w,a,K,hc,ha,hf,hp,h,hK=>by
  unfold stepB at hp
  simp only [Bool.and_eq_true] at hp
  obtain ⟨hp1,hp2⟩:=hp
  unfold stepsS at h
  split at h
  ·exact h.elim
  ·rename_i o ho
   simp only [ho] at hp1
   have hd:=dst_of ho hf
   have hmem:o ∈ ops.toList:=by rw [Array.mem_toList_iff]; exact Array.mem_of_getElem? ho
   have step:i ∈ Region.ready .any ops listed→∀ v w',stepsS P ops plan (upd e o.dst v) w' K→wpAnyK P ops Q (fun w''=>w''=w') (nextE P ops plan) plan.length (listed.setIfInBounds i true) (a.put o.dst v) w':=fun hr v w' h'=>by
    refine stepsS_sound hsel hQ plan _ _ _ _ K (hc.step hr) (ha.put _ _ hd) (by rw [put_size]; exact hf) hp2 h' fun a' e' w'' ha' hs hfr hk=>?_
    refine hK a' e' w'' ha' (by rw [hs,put_size]) (fun t ht=>?_) hk
    rw [hfr t ht]
    have hne:=ht o hmem
    cases hdd:o.dst with
    | none=>rfl
    | some d=>rw [upd_eq,if_neg (fun e=>hne (by rw [hdd,e]))]
   cases htk:takeB P o with
   | true=>
    rw [htk,cond_true] at hp1
    simp only [Bool.and_eq_true,Bool.or_eq_true] at hp1
    obtain ⟨⟨hfree,hready⟩,hanc⟩:=hp1
    have hnx:nextE P ops (i :: plan)=nextE P ops plan:=by
     conv=>lhs; unfold nextE
     simp only [ho,htk,cond_true]
    rw [hnx]
    have hmr:i ∈ Region.ready .any ops listed:=by simpa using hready
    have hy:∃ v,YieldsIf P ops (fun w'=>w'=w) o v a∧(plainB P o.op=true→Yields P ops o v a)∧stepsS P ops plan (upd e o.dst v) w K:=by
     rcases guardS_elim ha h with ⟨hw,h⟩ | ⟨hw,h⟩
     ·rw [← ha.eval] at h
      obtain ⟨v,hk,hv,hv2⟩:=takeB_sound htk h
      exact ⟨v,.inl ⟨hw,fun w' h=>by rw [h]; exact hv⟩,fun hpl=>.inl ⟨hw,hv2 hpl⟩,hk⟩
     ·exact ⟨undef,.inr ⟨hw,rfl⟩,fun _=>.inr ⟨hw,rfl⟩,h⟩
    obtain ⟨v,hy,hyp,hk⟩:=hy
    have hbi:nextE P ops plan≠some i:=fun hb=>by
     have:takeB P o=false:=by
      have key:∀ {l:List Nat} {e:Nat},nextE P ops l=some e→∀ o,ops[e]?=some o→takeB P o=false:=by
       intro l
       induction l with
       | nil=>intro e h; cases h
       | cons x r ih=>
        intro e h o ho
        unfold nextE at h
        split at h
        ·cases h
        ·rename_i o' ho'
         cases ht:takeB P o' with
         | true=>rw [ht,cond_true] at h; exact ih h o ho
         | false=>rw [ht,cond_false] at h; cases h; rw [ho'] at ho; cases ho; exact ht
      exact key hb o ho
     rw [htk] at this; cases this
    refine wpAnyK_first ho (Region.noSelect_spec hsel) (fun c a' w'=>hQ c a' _ _ w') plan.length listed a w hc hbi (Region.free_spec ho hfree) hmr hy ?_ rfl (step hmr v w hk)
    rcases hanc with hpl | hanc
    ·exact .inr (hyp hpl)
    ·refine .inl fun e he=>?_
     simp only [he] at hanc
     exact needs_anc he (memB_iff'.1 hanc)
   | false=>
    rw [htk,cond_false] at hp1
    have hr:Region.ready .any ops listed=[i]:=by
     split at hp1
     ·rename_i j hj; rw [hj,Nat.eq_of_beq_eq_true hp1]
     ·cases hp1
    have hnx:nextE P ops (i :: plan)=some i:=by
     unfold nextE
     simp only [ho,htk,cond_false]
    rw [hnx]
    have hmr:i ∈ Region.ready .any ops listed:=by rw [hr]; simp
    show wpAnyK P ops Q _ _ (plan.length+1) listed a w
    unfold wpAnyK
    refine ⟨fun h0=>(by rw [hr] at h0; cases h0),fun j hj=>?_⟩
    have hji:j=i:=by rw [hr] at hj; simpa using hj
    subst hji
    unfold wpOp
    simp only [ho]
    rcases guardS_elim ha h with ⟨hw,h⟩ | ⟨hw,h⟩
    ·rw [if_pos hw]
     rw [← ha.eval] at h
     exact .inl (opS_sound h fun v w' hk=>⟨fun _=>wpAny_of_K _ _ _ _ (step hmr v w' hk),fun hn=>absurd rfl hn⟩)
    ·rw [if_neg (by rw [hw]; simp)]
     exact ⟨fun _=>wpAny_of_K _ _ _ _ (step hmr _ _ h),fun hn=>absurd rfl hn⟩
def needsK (ops:Array Oper) (b:Nat):List Nat→List Nat
 | []=>match ops[b]? with | some o=>onsOf o | none=>[]
 | i :: r=>match ops[i]? with | some o=>bif memB (needsK ops b r) i then onsOf o ++ needsK ops b r else needsK ops b r | none=>needsK ops b r
theorem onsOf_edge {o:Oper} {k:Nat} (hk:k ∈ onsOf o):∃ x ∈ o.after,Region.binds .any x=true∧x.on=k:=by
 unfold onsOf at hk
 rw [List.mem_map] at hk
 obtain ⟨x,hx,rfl⟩:=hk
 rw [List.mem_filter] at hx
 exact ⟨x,by simpa using hx.1,hx.2,rfl⟩
theorem needsK_anc {ops:Array Oper} {b:Nat}:∀ {l:List Nat} {k:Nat},k ∈ needsK ops b l→Anc ops b k
 | [],k,hk=>by
  unfold needsK at hk
  split at hk
  ·rename_i o ho
   obtain ⟨x,hx,hb,rfl⟩:=onsOf_edge hk
   exact .one ho hx hb
  ·cases hk
 | i :: r,k,hk=>by
  unfold needsK at hk
  split at hk
  ·rename_i o ho
   cases hm:memB (needsK ops b r) i with
   | true=>
    rw [hm,cond_true,List.mem_append] at hk
    rcases hk with hk | hk
    ·obtain ⟨x,hx,hb,rfl⟩:=onsOf_edge hk
     exact .more (needsK_anc (memB_iff'.1 hm)) ho hx hb
    ·exact needsK_anc hk
   | false=>rw [hm,cond_false] at hk; exact needsK_anc hk
  ·exact needsK_anc hk
def holdB (P:Program) (ops:Array Oper) (b:Nat) (suf:List Nat):List Nat→Array Bool→Bool
 | [],listed=>(match ops[b]? with | some o=>!takeB P o | none=>false) && stepB P ops (b :: suf) listed
 | i :: r,listed=>
  (match ops[i]? with
   | some o=>!Nat.beq i b && bif takeB P o then Region.free .any ops listed i && (Region.ready .any ops listed).contains i && (plainB P o.op || memB (needsK ops b r) i)
    else (match Region.ready .any ops listed with | [j]=>Nat.beq i j | _=>false)
   | none=>false) && holdB P ops b suf r (listed.setIfInBounds i true)
def heldK (P:Program) (ops:Array Oper) (S:World→Prop) (b:Nat) (suf:List Nat):List Nat→Env→World→(Env→World→Prop)→Prop
 | [],e,w,K=>stepsS P ops (b :: suf) e w K
 | i :: r,e,w,K=>
  match ops[i]? with
  | none=>False
  | some o=>
   bif takeB P o then guardS ops o e (fun e=>holdS P (ev e) o S fun v=>heldK P ops S b suf r (upd e o.dst v) w K) (fun e=>heldK P ops S b suf r (upd e o.dst undef) w K)
   else guardS ops o e (fun e=>opS P (ev e) o (fun v w'=>S w'∧heldK P ops S b suf r (upd e o.dst v) w' K) w) (fun e=>heldK P ops S b suf r (upd e o.dst undef) w K)
theorem holdS_plain {P:Program} {o:Oper} {r:Operand→Value} {S:World→Prop} {K:Value→Prop} (hp:plainB P o.op=true) (h:holdS P r o S K) :
 ∃ v,K v∧∀ w,(execOp r o).run P w=.ok (.value v) w:=by
 unfold holdS at h
 rw [hp,cond_true] at h
 obtain ⟨v,hK,hv⟩:=pureS_sound h (plainB_pure hp)
 exact ⟨v,hK,hv⟩
theorem heldK_sound {P:Program} {ops:Array Oper} {S:World→Prop} {Q:Exit→Act→World→Prop} {b:Nat} {suf:List Nat} (hsel:Region.noSelect ops=true)
 (hQ:∀ (c:List PanicEntry) (a:Act) (d:Option Tmp) (v:Value) (w:World),Q (.panic c) (a.put d v) w→Q (.panic c) a w) :
 ∀ (plan:List Nat) (listed:Array Bool) (e:Env) (w:World) (a:Act) (K:Env→World→Prop),Closed ops listed→AgreeX D a e→fitsOps a.tmps.size ops.toList=true→holdB P ops b suf plan listed=true→S w→
 heldK P ops S b suf plan e w K→
 (∀ a' e' w',AgreeX D a' e'→a'.tmps.size=a.tmps.size→(∀ t,(∀ o ∈ ops.toList,o.dst≠some t)→e' t=e t)→K e' w'→Q .normal a' w')→
 wpAnyK P ops Q S (some b) (plan.length+(suf.length+1)) listed a w
 | [],listed,e,w,a,K,hc,ha,hf,hp,hS,h,hK=>by
  unfold holdB at hp
  simp only [Bool.and_eq_true] at hp
  obtain ⟨hp1,hp2⟩:=hp
  unfold heldK at h
  have hs:=stepsS_sound hsel hQ (b :: suf) listed e w a K hc ha hf hp2 h hK
  have hnx:nextE P ops (b :: suf)=some b:=by
   unfold nextE
   split at hp1
   ·rename_i o ho
    have:takeB P o=false:=by simpa using hp1
    simp only [ho,this,cond_false]
   ·cases hp1
  have hr:Region.ready .any ops listed=[b]:=by
   unfold stepB at hp2
   simp only [Bool.and_eq_true] at hp2
   have h1:=hp2.1
   split at hp1
   ·rename_i o ho
    have ht:takeB P o=false:=by simpa using hp1
    simp only [ho,ht,cond_false] at h1
    split at h1
    ·rename_i j hj; rw [hj,Nat.eq_of_beq_eq_true h1]
    ·cases h1
   ·cases hp1
  rw [hnx] at hs
  have hs:wpAnyK P ops Q (fun w'=>w'=w) (some b) (suf.length+1) listed a w:=hs
  show wpAnyK P ops Q S (some b) (0+(suf.length+1)) listed a w
  rw [Nat.zero_add]
  unfold wpAnyK at hs ⊢
  refine ⟨hs.1,fun i hi=>?_⟩
  refine wpOp_mono (fun a' w' h'=>⟨h'.1,fun hne=>?_⟩) (hs.2 i hi)
  rw [hr] at hi
  simp at hi
  exact absurd (by rw [hi]) hne
 | i :: plan,listed,e,w,a,K,hc,ha,hf,hp,hS,h,hK=>by
  unfold holdB at hp
  simp only [Bool.and_eq_true] at hp
  obtain ⟨hp1,hp2⟩:=hp
  unfold heldK at h
  split at h
  ·exact h.elim
  ·rename_i o ho
   simp only [ho,Bool.and_eq_true] at hp1
   obtain ⟨hib,hp1⟩:=hp1
   have hib:(some b:Option Nat)≠some i:=fun e=>by cases e; simp at hib
   have hd:=dst_of ho hf
   have hmem:o ∈ ops.toList:=by rw [Array.mem_toList_iff]; exact Array.mem_of_getElem? ho
   have step:i ∈ Region.ready .any ops listed→∀ v w',S w'→heldK P ops S b suf plan (upd e o.dst v) w' K→wpAnyK P ops Q S (some b) (plan.length+(suf.length+1)) (listed.setIfInBounds i true) (a.put o.dst v) w':=fun hr v w' hS' h'=>by
    refine heldK_sound hsel hQ plan _ _ _ _ K (hc.step hr) (ha.put _ _ hd) (by rw [put_size]; exact hf) hp2 hS' h' fun a' e' w'' ha' hs hfr hk=>?_
    refine hK a' e' w'' ha' (by rw [hs,put_size]) (fun t ht=>?_) hk
    rw [hfr t ht]
    have hne:=ht o hmem
    cases hdd:o.dst with
    | none=>rfl
    | some d=>rw [upd_eq,if_neg (fun e=>hne (by rw [hdd,e]))]
   have hlen:(i :: plan).length+(suf.length+1)=(plan.length+(suf.length+1))+1:=by simp; omega
   rw [hlen]
   cases htk:takeB P o with
   | true=>
    rw [htk,cond_true] at h hp1
    simp only [Bool.and_eq_true,Bool.or_eq_true] at hp1
    obtain ⟨⟨hfree,hready⟩,hanc⟩:=hp1
    have hmr:i ∈ Region.ready .any ops listed:=by simpa using hready
    have hy:∃ v,YieldsIf P ops S o v a∧(plainB P o.op=true→Yields P ops o v a)∧heldK P ops S b suf plan (upd e o.dst v) w K:=by
     rcases guardS_elim ha h with ⟨hw,h⟩ | ⟨hw,h⟩
     ·rw [← ha.eval] at h
      cases hpl:plainB P o.op with
      | true=>
       obtain ⟨v,hk,hv⟩:=holdS_plain hpl h
       exact ⟨v,.inl ⟨hw,fun w' _=>hv w'⟩,fun _=>.inl ⟨hw,hv⟩,hk⟩
      | false=>
       obtain ⟨v,hk,hv⟩:=holdS_sound h
       exact ⟨v,.inl ⟨hw,hv⟩,fun hx=>(by cases hx),hk⟩
     ·exact ⟨undef,.inr ⟨hw,rfl⟩,fun _=>.inr ⟨hw,rfl⟩,h⟩
    obtain ⟨v,hy,hyp,hk⟩:=hy
    refine wpAnyK_first ho (Region.noSelect_spec hsel) (fun c a' w'=>hQ c a' _ _ w') _ listed a w hc hib (Region.free_spec ho hfree) hmr hy ?_ hS (step hmr v w hS hk)
    rcases hanc with hpl | hanc
    ·exact .inr (hyp hpl)
    ·exact .inl fun e he=>by cases he; exact needsK_anc (memB_iff'.1 hanc)
   | false=>
    rw [htk,cond_false] at h hp1
    have hr:Region.ready .any ops listed=[i]:=by
     split at hp1
     ·rename_i j hj; rw [hj,Nat.eq_of_beq_eq_true hp1]
     ·cases hp1
    have hmr:i ∈ Region.ready .any ops listed:=by rw [hr]; simp
    unfold wpAnyK
    refine ⟨fun h0=>(by rw [hr] at h0; cases h0),fun j hj=>?_⟩
    have hji:j=i:=by rw [hr] at hj; simpa using hj
    subst hji
    unfold wpOp
    simp only [ho]
    rcases guardS_elim ha h with ⟨hw,h⟩ | ⟨hw,h⟩
    ·rw [if_pos hw]
     rw [← ha.eval] at h
     exact .inl (opS_sound h fun v w' ⟨hS',hk⟩=>⟨fun hx=>absurd hx hib,fun _=>⟨hS',step hmr v w' hS' hk⟩⟩)
    ·rw [if_neg (by rw [hw]; simp)]
     exact ⟨fun hx=>absurd hx hib,fun _=>⟨hS,step hmr _ _ hS h⟩⟩
def allL:List Nat→(Nat→Prop)→Prop
 | [],_=>True
 | [i],f=>f i
 | i :: j :: r,f=>f i∧allL (j :: r) f
theorem allL_spec {f:Nat→Prop}:∀ {l:List Nat},allL l f→∀ i ∈ l,f i
 | [],_,i,hi=>by cases hi
 | [j],h,i,hi=>by
  simp only [List.mem_singleton] at hi
  rw [hi]; exact h
 | j :: k :: r,h,i,hi=>by
  rcases List.mem_cons.1 hi with e | hi
  ·rw [e]; exact h.1
  ·exact allL_spec h.2 i hi
def plainAt (P:Program) (ops:Array Oper) (i:Nat):Bool:=match ops[i]? with | some o=>plainB P o.op | none=>false
def firstP (f:Nat→Bool):List Nat→Option Nat
 | []=>none
 | i :: r=>bif f i then some i else firstP f r
theorem firstP_spec {f:Nat→Bool}:∀ {l:List Nat} {i:Nat},firstP f l=some i→f i=true∧i ∈ l
 | [],i,h=>by cases h
 | j :: r,i,h=>by
  unfold firstP at h
  cases hf:f j with
  | true=>
   rw [hf,cond_true] at h
   cases h
   exact ⟨hf,.head _⟩
  | false=>
   rw [hf,cond_false] at h
   have:=firstP_spec h
   exact ⟨this.1,.tail _ this.2⟩
def anyS (P:Program) (ops:Array Oper):Nat→Array Bool→Env→World→(Env→World→Prop)→Prop
 | 0,listed,e,w,K=>bif (Region.ready .any ops listed).isEmpty then K e w else False
 | n+1,listed,e,w,K=>
  bif (Region.ready .any ops listed).isEmpty then K e w else
  match firstP (fun i=>plainAt P ops i && Region.free .any ops listed i) (Region.ready .any ops listed) with
  | some i=>
   match ops[i]? with
   | none=>False
   | some o=>guardS ops o e (fun e=>opS P (ev e) o (fun v w'=>anyS P ops n (listed.setIfInBounds i true) (upd e o.dst v) w' K) w) (fun e=>anyS P ops n (listed.setIfInBounds i true) (upd e o.dst undef) w K)
  | none=>allL (Region.ready .any ops listed) fun i=>
   match ops[i]? with
   | none=>False
   | some o=>guardS ops o e (fun e=>opS P (ev e) o (fun v w'=>anyS P ops n (listed.setIfInBounds i true) (upd e o.dst v) w' K) w) (fun e=>anyS P ops n (listed.setIfInBounds i true) (upd e o.dst undef) w K)
theorem anyS_sound {P:Program} {ops:Array Oper} {Q:Exit→Act→World→Prop} (hsel:Region.noSelect ops=true)
 (hQ:∀ (c:List PanicEntry) (a:Act) (d:Option Tmp) (v:Value) (w:World),Q (.panic c) (a.put d v) w→Q (.panic c) a w) :
 ∀ (n:Nat) (listed:Array Bool) (e:Env) (w:World) (a:Act) (K:Env→World→Prop),AgreeX D a e→fitsOps a.tmps.size ops.toList=true→anyS P ops n listed e w K→
 (∀ a' e' w',AgreeX D a' e'→a'.tmps.size=a.tmps.size→(∀ t,(∀ o ∈ ops.toList,o.dst≠some t)→e' t=e t)→K e' w'→Q .normal a' w')→
 wpAny P .any ops Q n listed a w
 | 0,listed,e,w,a,K,ha,_,h,hK=>by
  unfold anyS at h
  cases hr:(Region.ready .any ops listed).isEmpty with
  | false=>rw [hr,cond_false] at h; exact h.elim
  | true=>rw [hr,cond_true] at h; exact ⟨List.isEmpty_iff.1 hr,hK a e w ha rfl (fun _ _=>rfl) h⟩
 | n+1,listed,e,w,a,K,ha,hf,h,hK=>by
  unfold anyS at h
  cases hr:(Region.ready .any ops listed).isEmpty with
  | true=>rw [hr,cond_true] at h; exact wpAny_done (List.isEmpty_iff.1 hr) (hK a e w ha rfl (fun _ _=>rfl) h) _
  | false=>
   rw [hr,cond_false] at h
   have hne:Region.ready .any ops listed≠[]:=fun e=>by rw [e] at hr; cases hr
   have step:∀ (i:Nat) (o:Oper),ops[i]?=some o→∀ v w',anyS P ops n (listed.setIfInBounds i true) (upd e o.dst v) w' K→wpAny P .any ops Q n (listed.setIfInBounds i true) (a.put o.dst v) w':=fun i o ho v w' h'=>by
    have hd:=dst_of ho hf
    have hmem:o ∈ ops.toList:=by rw [Array.mem_toList_iff]; exact Array.mem_of_getElem? ho
    refine anyS_sound hsel hQ n _ _ _ _ K (ha.put _ _ hd) (by rw [put_size]; exact hf) h' fun a' e' w'' ha' hs hfr hk=>?_
    refine hK a' e' w'' ha' (by rw [hs,put_size]) (fun t ht=>?_) hk
    rw [hfr t ht]
    have hne:=ht o hmem
    cases hdd:o.dst with
    | none=>rfl
    | some d=>rw [upd_eq,if_neg (fun e=>hne (by rw [hdd,e]))]
   split at h
   ·rename_i i hfi
    obtain ⟨hpf,hmr⟩:=firstP_spec hfi
    simp only [Bool.and_eq_true] at hpf
    obtain ⟨hpl,hfree⟩:=hpf
    split at h
    ·exact h.elim
    ·rename_i o ho
     have hplo:plainB P o.op=true:=by unfold plainAt at hpl; rw [ho] at hpl; exact hpl
     have htk:takeB P o=true:=by unfold takeB; rw [hplo,Bool.true_or]
     have hy:∃ v,Yields P ops o v a∧anyS P ops n (listed.setIfInBounds i true) (upd e o.dst v) w K:=by
      rcases guardS_elim ha h with ⟨hw,h⟩ | ⟨hw,h⟩
      ·rw [← ha.eval] at h
       obtain ⟨v,hk,hv,hv2⟩:=takeB_sound htk h
       exact ⟨v,.inl ⟨hw,hv2 hplo⟩,hk⟩
      ·exact ⟨undef,.inr ⟨hw,rfl⟩,h⟩
     obtain ⟨v,hy,hk⟩:=hy
     exact wpAny_take ho hsel hfree (by simpa using hmr) (fun c a' w'=>hQ c a' _ _ w') hy (step i o ho v w hk)
   ·refine wpAny_all rfl hne fun i hi=>?_
    have h:=allL_spec h i hi
    split at h
    ·exact h.elim
    ·rename_i o ho
     unfold wpOp
     simp only [ho]
     rcases guardS_elim ha h with ⟨hw,h⟩ | ⟨hw,h⟩
     ·rw [if_pos hw]
      rw [← ha.eval] at h
      exact .inl (opS_sound h fun v w' hk=>step i o ho v w' hk)
     ·rw [if_neg (by rw [hw]; simp)]
      exact step i o ho _ _ h
def drawS (P:Program) (A:Ann) (id:Nat) (ops:Array Oper) (e:Env) (w:World) (K:Env→World→Prop):Prop:=
 bif memB A.anys id then (bif Region.noSelect ops then anyS P ops ops.size (Array.replicate ops.size false) e w.drew K else False) else
 match lk A.steps id with
 | some plan=>bif Region.noSelect ops && Nat.beq plan.length ops.size && stepB P ops plan (Array.replicate ops.size false) then stepsS P ops plan e w.drew K else False
 | none=>
 match lk A.mixes id with
 | some (pre,b,suf)=>bif Region.noSelect ops && Nat.beq (pre.length+(suf.length+1)) ops.size && holdB P ops b suf pre (Array.replicate ops.size false) then ∃ S:World→Prop,S w.drew∧heldK P ops S b suf pre e w.drew K else False
 | none=>
 match lk A.plans id with
 | none=>bif Region.lexB .any ops then headS P ops ops.toList e w (fun e'=>∀ n,K e' (w.drewN n)) else False
 | some plan=>bif Region.noSelect ops && Nat.beq plan.length ops.size && planB P ops plan (Array.replicate ops.size false) then ∃ S:World→Prop,S w.drew∧heldS P ops S plan e w.drew K else False
def firstId:Code→Nat
 | .region id _ _=>id
 | .seq a _=>firstId a
 | .block _ c=>firstId c
 | .loop c=>firstId c
 | .scope c=>firstId c
 | .cond _ a _=>firstId a
 | _=>0
def dsts (l:List Oper):List Nat:=l.filterMap (·.dst)
def written:Code→List Nat
 | .region _ ops _=>dsts ops.toList
 | .seq a b=>written a ++ written b
 | .cond _ a b=>written a ++ written b
 | .block _ c=>written c
 | .loop c=>written c
 | .scope c=>written c
 | _=>[]
def subB (l m:List Nat):Bool:=l.all (memB m)
def lkv:List Nat→List Value→Nat→Option Value
 | s :: ss,v :: vs,t=>bif Nat.beq t s then some v else lkv ss vs t
 | _,_,_=>none
def havoc (e d:Env) (W ls:List Nat) (vs:List Value):Env:=fun t=>
 match lkv ls vs t with
 | some v=>v
 | none=>bif memB W t then d t else e t
def seqQ (next:Env→World→Prop) (Q:Exit→Env→World→Prop):Exit→Env→World→Prop
 | .normal,e,w=>next e w
 | .exit i,e,w=>Q (.exit i) e w
 | .goto i,e,w=>Q (.goto i) e w
 | .ret,e,w=>Q .ret e w
 | .panic c,e,w=>Q (.panic c) e w
 | .outgrown,e,w=>Q .outgrown e w
def blockQ (id:Nat) (Q:Exit→Env→World→Prop):Exit→Env→World→Prop
 | .normal,e,w=>Q .normal e w
 | .exit i,e,w=>bif Nat.beq i id then Q .normal e w else Q (.exit i) e w
 | .goto i,e,w=>Q (.goto i) e w
 | .ret,e,w=>Q .ret e w
 | .panic c,e,w=>Q (.panic c) e w
 | .outgrown,e,w=>Q .outgrown e w
def scopeQ (Q:Exit→Env→World→Prop):Exit→Env→World→Prop
 | .normal,e,w=>Q .normal e w
 | .exit i,e,w=>Q (.exit i) e w
 | .goto _,_,_=>False
 | .ret,e,w=>Q .ret e w
 | .panic c,e,w=>Q (.panic c) e w
 | .outgrown,e,w=>Q .outgrown e w
def sem (P:Program) (A:Ann):Code→(Exit→Env→World→Prop)→Env→World→Prop
 | .skip,Q,e,w=>Q .normal e w
 | .region id ops draw,Q,e,w=>bif draw then drawS P A id ops e w (Q .normal) else opsS P ops ops.toList e w (Q .normal)
 | .seq a b,Q,e,w=>
  match lk A.cuts (firstId b) with
  | none=>sem P A a (seqQ (fun e w=>sem P A b Q e w) Q) e w
  | some ls=>bif subB (ls.map (·.1)) (written a) then
   ∃ J:List Value→World→Prop,
    sem P A a (seqQ (fun e' w'=>bif shsB (ls.map (·.2)) (ls.map fun s=>e' s.1) then J (ls.map fun s=>e' s.1) w' else False) Q) e w∧
    ∀ d:Env,allShs (ls.map (·.2)) fun vs=>∀ w',J vs w'→sem P A b Q (havoc e d (written a) (ls.map (·.1)) vs) w'
   else False
 | .cond c a b,Q,e,w=>match ev e c with | .bool t=>cond t (sem P A a Q e w) (sem P A b Q e w) | _=>False
 | .block id c,Q,e,w=>sem P A c (blockQ id Q) e w
 | .loop c,Q,e,w=>
  match lk A.loops (firstId c) with
  | none=>False
  | some ls=>bif subB (ls.map (·.1)) (written c) && shsB (ls.map (·.2)) (ls.map fun s=>e s.1) then
   ∃ (I:List Value→World→Prop) (μ:List Value→World→Nat),I (ls.map fun s=>e s.1) w∧
    ∀ d:Env,allShs (ls.map (·.2)) fun vs=>∀ w',I vs w'→
     sem P A c (seqQ (fun e' w''=>bif shsB (ls.map (·.2)) (ls.map fun s=>e' s.1) then I (ls.map fun s=>e' s.1) w''∧μ (ls.map fun s=>e' s.1) w''< μ vs w' else False) Q) (havoc e d (written c) (ls.map (·.1)) vs) w'
   else False
 | .exit id,Q,e,w=>Q (.exit id) e w
 | .scope c,Q,e,w=>sem P A c (scopeQ Q) e w
 | .label _,Q,e,w=>Q .normal e w
 | .ret,Q,e,w=>Q .ret e w
 | _,_,_,_=>False
def fits (n:Nat):Code→Bool
 | .region _ ops _=>fitsOps n ops.toList
 | .seq a b=>fits n a && fits n b
 | .cond _ a b=>fits n a && fits n b
 | .block _ c=>fits n c
 | .loop c=>fits n c
 | .scope c=>fits n c
 | _=>true
def okEx:Exit→Prop
 | .panic _ | .outgrown=>False
 | _=>True
def liftQ (D:List Deferred) (n:Nat) (W:List Nat) (e0:Env) (Q:Exit→Env→World→Prop) (ex:Exit) (a:Act) (w:World):Prop:=
 okEx ex∧∃ e,AgreeX D a e∧a.tmps.size=n∧(∀ t,memB W t=false→e t=e0 t)∧Q ex e w
theorem memB_iff {l:List Nat} {t:Nat}:memB l t=true↔t ∈ l:=by
 induction l with
 | nil=>simp [memB]
 | cons x l ih=>
  unfold memB
  cases h:Nat.beq t x with
  | true=>simp [Nat.eq_of_beq_eq_true h]
  | false=>
   have:t≠x:=fun e=>by subst e; simp at h
   simp [ih,this]
theorem memB_false {l:List Nat} {t:Nat}:memB l t=false↔t ∉ l:=by
 rw [← memB_iff]; cases memB l t <;> simp
theorem memB_append {l m:List Nat} {t:Nat} (h:memB (l ++ m) t=false):memB l t=false∧memB m t=false:=by
 simp only [memB_false,List.mem_append,not_or] at h ⊢; exact h
theorem lkv_map (f:Nat→Value) (ss:List Nat) (t:Nat):lkv ss (ss.map f) t=if t ∈ ss then some (f t) else none:=by
 induction ss with
 | nil=>simp [lkv]
 | cons s ss ih=>
  simp only [List.map_cons,lkv]
  cases h:Nat.beq t s with
  | true=>simp [Nat.eq_of_beq_eq_true h]
  | false=>
   have hne:t≠s:=fun e=>by subst e; simp at h
   simp [ih,hne]
theorem havoc_self {e e':Env} {W ls:List Nat} (h:∀ t,memB W t=false→e' t=e t):havoc e e' W ls (ls.map e')=e':=by
 funext t
 unfold havoc
 rw [lkv_map]
 by_cases ht:t ∈ ls
 ·simp [ht]
 ·simp only [ht,if_false]
  cases hW:memB W t with
  | true=>rfl
  | false=>exact (h t hW).symm
theorem map_fst (ls:List (Nat × Sh)) (e:Env):(ls.map fun s=>e s.1)=(ls.map (·.1)).map e:=by simp
theorem dsts_out {l:List Oper} {t:Nat} (h:memB (dsts l) t=false):∀ o ∈ l,o.dst≠some t:=by
 intro o ho hd
 rw [memB_false] at h
 exact h (List.mem_filterMap.2 ⟨o,ho,hd⟩)
theorem okEx_panic (n:Nat) (W:List Nat) (e0:Env) (Q:Exit→Env→World→Prop) (c:List PanicEntry) (a:Act) (d:Option Tmp) (v:Value) (w:World) :
 liftQ D n W e0 Q (.panic c) (a.put d v) w→liftQ D n W e0 Q (.panic c) a w:=fun h=>h.1.elim
theorem sem_sound {P:Program} {A:Ann} (hm:P.follows .mixedOrders=true):∀ (c:Code) (Q:Exit→Env→World→Prop) (e:Env) (w:World) (a:Act),AgreeX D a e→fits a.tmps.size c=true→sem P A c Q e w→
 c.wp P (liftQ D a.tmps.size (written c) e Q) a w:=by
 intro c
 induction c with
 | skip=>intro Q e w a ha _ h; exact wp_skip ⟨trivial,e,ha,rfl,fun _ _=>rfl,h⟩
 | region id ops draw=>
  intro Q e w a ha hf h
  unfold sem at h
  have hfin:∀ a' e' w',AgreeX D a' e'→a'.tmps.size=a.tmps.size→(∀ t,(∀ o ∈ ops.toList,o.dst≠some t)→e' t=e t)→Q .normal e' w'→
   liftQ D a.tmps.size (written (.region id ops draw)) e Q .normal a' w':=fun a' e' w' ha' hs hfr hk=>⟨trivial,e',ha',hs,fun t ht=>hfr t (dsts_out ht),hk⟩
  cases draw with
  | false=>
   rw [cond_false] at h
   exact wp_region_list (opsS_sound _ _ _ _ _ ha hf h hfin)
  | true=>
   rw [cond_true] at h
   unfold drawS at h
   cases hany:memB A.anys id with
   | true=>
    rw [hany,cond_true] at h
    cases hsel:Region.noSelect ops with
    | false=>rw [hsel,cond_false] at h; exact h.elim
    | true=>
     rw [hsel,cond_true] at h
     exact wp_region_any hm (anyS_sound hsel (fun c a' d v w'=>okEx_panic _ _ _ _ c a' d v w') _ _ e _ a _ ha hf h hfin)
   | false=>
   rw [hany,cond_false] at h
   split at h
   ·rename_i plan _
    cases hB:(Region.noSelect ops && Nat.beq plan.length ops.size && stepB P ops plan (Array.replicate ops.size false)) with
    | false=>rw [hB,cond_false] at h; exact h.elim
    | true=>
     rw [hB,cond_true] at h
     simp only [Bool.and_eq_true] at hB
     obtain ⟨⟨hsel,hlen⟩,hplan⟩:=hB
     refine wp_region_any hm ?_
     rw [← Nat.eq_of_beq_eq_true hlen]
     rw [← Nat.eq_of_beq_eq_true hlen] at hplan
     exact wpAny_of_K _ _ _ _ (stepsS_sound hsel (fun c a' d v w'=>okEx_panic _ _ _ _ c a' d v w') plan _ e _ a _ (Closed.start _ _) ha hf hplan h hfin)
   split at h
   ·rename_i pre b suf _
    cases hB:(Region.noSelect ops && Nat.beq (pre.length+(suf.length+1)) ops.size && holdB P ops b suf pre (Array.replicate ops.size false)) with
    | false=>rw [hB,cond_false] at h; exact h.elim
    | true=>
     rw [hB,cond_true] at h
     simp only [Bool.and_eq_true] at hB
     obtain ⟨⟨hsel,hlen⟩,hplan⟩:=hB
     obtain ⟨S,hS,h⟩:=h
     refine wp_region_any hm ?_
     rw [← Nat.eq_of_beq_eq_true hlen]
     rw [← Nat.eq_of_beq_eq_true hlen] at hplan
     exact wpAny_of_K _ _ _ _ (heldK_sound hsel (fun c a' d v w'=>okEx_panic _ _ _ _ c a' d v w') pre _ e _ a _ (Closed.start _ _) ha hf hplan hS h hfin)
   split at h
   ·cases hB:Region.lexB .any ops with
    | false=>rw [hB,cond_false] at h; exact h.elim
    | true=>
     rw [hB,cond_true] at h
     obtain ⟨l,rfl⟩:∃ l:List Oper,ops=l.toArray:=⟨ops.toList,by simp⟩
     refine wp_region_quiet_lit hm hB ?_
     refine headS_sound l e _ (fun e'=>∀ n,Q .normal e' (w.drewN n)) ha (by simpa [fits] using hf) (by simpa using h) fun a' e' ha' hs hfr hk=>?_
     rintro w' ⟨n,rfl⟩
     exact hfin a' e' _ ha' hs (by simpa using hfr) (hk n)
   ·rename_i plan _
    cases hB:(Region.noSelect ops && Nat.beq plan.length ops.size && planB P ops plan (Array.replicate ops.size false)) with
    | false=>rw [hB,cond_false] at h; exact h.elim
    | true=>
     rw [hB,cond_true] at h
     simp only [Bool.and_eq_true] at hB
     obtain ⟨⟨hsel,hlen⟩,hplan⟩:=hB
     obtain ⟨S,hS,h⟩:=h
     refine wp_region_held (S:=S) hm ?_
     rw [← Nat.eq_of_beq_eq_true hlen]
     rw [← Nat.eq_of_beq_eq_true hlen] at hplan
     exact heldS_sound hsel (fun c a' d v w'=>okEx_panic _ _ _ _ c a' d v w') plan _ e _ a _ ha hf hplan hS h hfin
 | seq x y ihx ihy=>
  intro Q e w a ha hf h
  unfold fits at hf
  simp only [Bool.and_eq_true] at hf
  unfold sem at h
  refine wp_seq ?_
  have next:∀ (Q1:Exit→Env→World→Prop),sem P A x Q1 e w→(∀ e' w',Q1 .normal e' w'→(∀ t,memB (written x) t=false→e' t=e t)→sem P A y Q e' w')→
   (∀ ex e' w',ex≠.normal→Q1 ex e' w'→Q ex e' w')→x.wp P (Exit.then (y.wp P (liftQ D a.tmps.size (written (.seq x y)) e Q)) (liftQ D a.tmps.size (written (.seq x y)) e Q)) a w:=by
   intro Q1 hx hn ho
   refine Code.wp_mono ?_ (ihx Q1 e w a ha hf.1 hx)
   intro ex a' w' ⟨hok,e',ha',hs,hfr,hq⟩
   have hother:ex≠.normal→liftQ D a.tmps.size (written (.seq x y)) e Q ex a' w':=fun hne=>⟨hok,e',ha',hs,fun t ht=>hfr t (memB_append ht).1,ho ex e' w' hne hq⟩
   cases ex with
   | normal=>
    have hy:=ihy Q e' w' a' ha' (by rw [hs]; exact hf.2) (hn e' w' hq hfr)
    refine Code.wp_mono ?_ hy
    intro ex a2 w2 ⟨hok2,e2,ha2,hs2,hfr2,hq2⟩
    exact ⟨hok2,e2,ha2,by rw [hs2,hs],fun t ht=>by rw [hfr2 t (memB_append ht).2,hfr t (memB_append ht).1],hq2⟩
   | exit i=>exact hother (by simp)
   | goto i=>exact hother (by simp)
   | ret=>exact hother (by simp)
   | panic c=>exact hok.elim
   | outgrown=>exact hok.elim
  split at h
  ·exact next _ h (fun e' w' hq _=>hq) (fun ex e' w' hne hq=>by cases ex <;> first | exact absurd rfl hne | exact hq)
  ·rename_i ls _
   cases hsub:subB (ls.map (·.1)) (written x) with
   | false=>rw [hsub,cond_false] at h; exact h.elim
   | true=>
    rw [hsub,cond_true] at h
    obtain ⟨J,hx,hy⟩:=h
    refine next _ hx (fun e' w' hq hfr=>?_) (fun ex e' w' hne hq=>by cases ex <;> first | exact absurd rfl hne | exact hq)
    simp only [seqQ] at hq
    cases hsh:shsB (ls.map (·.2)) (ls.map fun s=>e' s.1) with
    | false=>rw [hsh,cond_false] at hq; exact hq.elim
    | true=>
     rw [hsh,cond_true] at hq
     have:=allShs_elim (hy e') hsh w' hq
     rwa [map_fst,havoc_self hfr] at this
 | cond c x y ihx ihy=>
  intro Q e w a ha hf h
  unfold fits at hf
  simp only [Bool.and_eq_true] at hf
  unfold sem at h
  split at h
  ·rename_i t ht
   refine wp_cond (t:=t) (by rw [ha.eval]; exact ht) ?_
   cases t with
   | true=>
    simp only [cond_true] at h
    refine Code.wp_mono ?_ (ihx Q e w a ha hf.1 h)
    intro ex a2 w2 ⟨hok2,e2,ha2,hs2,hfr2,hq2⟩
    exact ⟨hok2,e2,ha2,hs2,fun t ht=>hfr2 t (memB_append ht).1,hq2⟩
   | false=>
    simp only [cond_false] at h
    refine Code.wp_mono ?_ (ihy Q e w a ha hf.2 h)
    intro ex a2 w2 ⟨hok2,e2,ha2,hs2,hfr2,hq2⟩
    exact ⟨hok2,e2,ha2,hs2,fun t ht=>hfr2 t (memB_append ht).2,hq2⟩
  ·exact h.elim
 | block id x ih=>
  intro Q e w a ha hf h
  unfold sem at h
  refine wp_block (Code.wp_mono ?_ (ih _ e w a ha hf h))
  intro ex a2 w2 ⟨hok2,e2,ha2,hs2,hfr2,hq2⟩
  cases ex with
  | exit i=>
   simp only [blockQ] at hq2
   change (if i=id then _ else _)
   by_cases hi:i=id
   ·subst hi
    simp only [Nat.beq_refl,cond_true] at hq2
    rw [if_pos rfl]
    exact ⟨trivial,e2,ha2,hs2,hfr2,hq2⟩
   ·have:Nat.beq i id=false:=by
     cases hb:Nat.beq i id with
     | false=>rfl
     | true=>exact absurd (Nat.eq_of_beq_eq_true hb) hi
    simp only [this,cond_false] at hq2
    rw [if_neg hi]
    exact ⟨trivial,e2,ha2,hs2,hfr2,hq2⟩
  | normal=>exact ⟨hok2,e2,ha2,hs2,hfr2,hq2⟩
  | goto l=>exact ⟨hok2,e2,ha2,hs2,hfr2,hq2⟩
  | ret=>exact ⟨hok2,e2,ha2,hs2,hfr2,hq2⟩
  | panic ch=>exact hok2.elim
  | outgrown=>exact hok2.elim
 | loop x ih=>
  intro Q e w a ha hf h
  unfold sem at h
  split at h
  ·exact h.elim
  ·rename_i ls _
   cases hb:(subB (ls.map (·.1)) (written x) && shsB (ls.map (·.2)) (ls.map fun s=>e s.1)) with
   | false=>rw [hb,cond_false] at h; exact h.elim
   | true=>
    rw [hb,cond_true] at h
    simp only [Bool.and_eq_true] at hb
    obtain ⟨hsub,hsh⟩:=hb
    obtain ⟨I,μ,hI,hr⟩:=h
    have hread:∀ {a':Act} {e':Env},AgreeX D a' e'→(ls.map fun s=>a'.tmps.getD s.1 undef)=ls.map fun s=>e' s.1:=fun ha'=>by
     apply List.map_congr_left; intro s _; exact ha'.2 s.1
    refine wp_loop (fun a' w'=>∃ e',AgreeX D a' e'∧a'.tmps.size=a.tmps.size∧(∀ t,memB (written x) t=false→e' t=e t)∧shsB (ls.map (·.2)) (ls.map fun s=>e' s.1)=true∧I (ls.map fun s=>e' s.1) w')
     (fun a' w'=>μ (ls.map fun s=>a'.tmps.getD s.1 undef) w') ⟨e,ha,rfl,fun _ _=>rfl,hsh,hI⟩ ?_
    intro a1 w1 ⟨e1,ha1,hs1,hfr1,hsh1,hI1⟩
    have h1:=allShs_elim (hr e1) hsh1 w1 hI1
    rw [map_fst,havoc_self hfr1] at h1
    refine Code.wp_mono ?_ (ih _ e1 w1 a1 ha1 (by rw [hs1]; exact hf) h1)
    intro ex a2 w2 ⟨hok2,e2,ha2,hs2,hfr2,hq2⟩
    have hfr:∀ t,memB (written x) t=false→e2 t=e t:=fun t ht=>by rw [hfr2 t ht,hfr1 t ht]
    cases ex with
    | normal=>
     simp only [seqQ] at hq2
     cases hsh2:shsB (ls.map (·.2)) (ls.map fun s=>e2 s.1) with
     | false=>rw [hsh2,cond_false] at hq2; exact hq2.elim
     | true=>
      rw [hsh2,cond_true] at hq2
      refine ⟨⟨e2,ha2,by rw [hs2,hs1],hfr,hsh2,hq2.1⟩,?_⟩
      rw [hread ha2,hread ha1,map_fst ls e1]
      exact hq2.2
    | exit i=>exact ⟨hok2,e2,ha2,by rw [hs2,hs1],hfr,hq2⟩
    | goto l=>exact ⟨hok2,e2,ha2,by rw [hs2,hs1],hfr,hq2⟩
    | ret=>exact ⟨hok2,e2,ha2,by rw [hs2,hs1],hfr,hq2⟩
    | panic ch=>exact hok2.elim
    | outgrown=>exact hok2.elim
 | exit id=>intro Q e w a ha _ h; exact wp_exit ⟨trivial,e,ha,rfl,fun _ _=>rfl,h⟩
 | ret=>intro Q e w a ha _ h; exact wp_ret ⟨trivial,e,ha,rfl,fun _ _=>rfl,h⟩
 | label l=>intro Q e w a ha _ h; exact wp_label ⟨trivial,e,ha,rfl,fun _ _=>rfl,h⟩
 | scope x ih=>
  intro Q e w a ha hf h
  unfold sem at h
  refine wp_scope_straight (Code.wp_mono ?_ (ih _ e w a ha hf h))
  intro ex a2 w2 ⟨hok2,e2,ha2,hs2,hfr2,hq2⟩
  cases ex with
  | goto l=>exact hq2.elim
  | normal=>exact ⟨hok2,e2,ha2,hs2,hfr2,hq2⟩
  | exit i=>exact ⟨hok2,e2,ha2,hs2,hfr2,hq2⟩
  | ret=>exact ⟨hok2,e2,ha2,hs2,hfr2,hq2⟩
  | panic ch=>exact hok2.elim
  | outgrown=>exact hok2.elim
 | rangeFunc _ _ _ _=>intro Q e w a _ _ h; exact (h:False).elim
 | goto _=>intro Q e w a _ _ h; exact (h:False).elim
 | refuse _=>intro Q e w a _ _ h; exact (h:False).elim
def resS (P:Program):List ResultVar→Env→World→(List Value→Prop)→Prop
 | [],_,_,K=>K []
 | .tmp t :: r,e,w,K=>resS P r e w fun vs=>K (e t :: vs)
 | .cell p ty :: r,e,w,K=>match e p with | .pointer (some a)=>loadS P ty a w fun v=>resS P r e w fun vs=>K (v :: vs) | _=>False
def retV (vs:List Value):Value:=match vs with | [v]=>v | vs=>.tuple vs.toArray
def funQ (P:Program) (rs:List ResultVar) (Q:Value→World→Prop):Exit→Env→World→Prop
 | .normal,e,w=>resS P rs e w fun vs=>Q (retV vs) w
 | .ret,e,w=>resS P rs e w fun vs=>Q (retV vs) w
 | _,_,_=>False
def env0 (args:List Value):Env:=fun t=>(args[t]?).getD undef
def resRun (tmps:Array Value):ResultVar→Sem Value
 | .tmp t=>pure (tmps.getD t undef)
 | .cell a t=>do loadVar t (← asAddr (tmps.getD a undef))
theorem resRun_cell {P:Program} {tmps:Array Value} {p:Tmp} {ty:TypeId} {w:World} {ad:Addr} {v:Value} (hp:tmps.getD p undef=.pointer (some ad)) (hv:(loadVar ty ad).run P w=.ok v w) :
 (resRun tmps (.cell p ty)).run P w=.ok v w:=by
 unfold resRun
 simp only [hp,asAddr,Sem.run_bind,Sem.run_pure,Result.andThen_ok,hv]
theorem resS_run {P:Program} {a:Act} {e:Env} {w:World} (ha:AgreeX D a e):∀ (rs:List ResultVar) (K:List Value→Prop),resS P rs e w K→
 ∃ vs,K vs∧(rs.mapM (resRun a.tmps)).run P w=.ok vs w
 | [],K,h=>⟨[],h,rfl⟩
 | .tmp t :: r,K,h=>by
  obtain ⟨vs,hK,hr⟩:=resS_run ha r _ h
  refine ⟨_,hK,?_⟩
  have h1:(resRun a.tmps (.tmp t)).run P w=.ok (e t) w:=by rw [← ha.2 t]; rfl
  simp only [List.mapM_cons,Sem.run_bind,h1,Result.andThen_ok,hr,Sem.run_pure]
 | .cell p ty :: r,K,h=>by
  unfold resS at h
  split at h
  ·rename_i ad hp
   obtain ⟨v,h,hv⟩:=loadS_sound h
   obtain ⟨vs,hK,hr⟩:=resS_run ha r _ h
   refine ⟨_,hK,?_⟩
   have h1:=resRun_cell (by rw [ha.2 p]; exact hp) hv
   simp only [List.mapM_cons,Sem.run_bind,h1,Result.andThen_ok,hr,Sem.run_pure]
  ·exact h.elim
theorem results_run {P:Program} {fn:Func} {tmps:Array Value} {vs:List Value} {w:World} (h:(fn.results.toList.mapM (resRun tmps)).run P w=.ok vs w):(results fn tmps).run P w=.ok (retV vs) w:=by
 have e:results fn tmps=(do let vs ← fn.results.mapM (resRun tmps); pure (if h:vs.size=1 then vs[0] else .tuple vs)):=rfl
 rw [e,Array.mapM_eq_mapM_toList]
 simp only [Sem.run_bind,Sem.run_map,h,Result.andThen_ok,Sem.run_pure]
 congr 1
 match vs with
 | []=>rfl
 | [v]=>rfl
 | v :: u :: vs=>rfl
theorem fun_calls {P:Program} {A:Ann} {k:FuncId} {fn:Func} {c:Code} {args:List Value} {w:World} {Q:Value→World→Prop} (hm:P.follows .mixedOrders=true)
 (hf:P.funcs[k]?=some fn) (hb:fn.body=some c) (hn:(Nat.ble args.length fn.ntmps && fits fn.ntmps c)=true)
 (h:sem P A c (funQ P fn.results.toList Q) (env0 args) w):CallR P k args w Q:=by
 simp only [Bool.and_eq_true] at hn
 have hle:=Nat.le_of_ble_eq_true hn.1
 have hsz:(args.toArray ++ Array.replicate (fn.ntmps - args.toArray.size) undef).size=fn.ntmps:=by simp; omega
 have ha:Agree { tmps:=args.toArray ++ Array.replicate (fn.ntmps - args.toArray.size) undef,defers:=[] } (env0 args):=by
  refine ⟨rfl,fun t=>?_⟩
  unfold env0
  simp only [Array.getD_eq_getD_getElem?]
  by_cases ht:t< args.length
  ·rw [Array.getElem?_append_left (by simpa using ht)]; simp
  ·have h1:args[t]?=none:=by simp; omega
   rw [h1]
   rw [Array.getElem?_append_right (by simp; omega)]
   by_cases h2:t - args.length< fn.ntmps - args.length
   ·simp [h2]
   ·simp [h2]
 refine calls_of_wp hf hb ?_
 refine Code.wp_mono ?_ (sem_sound hm c _ (env0 args) w _ ha (by simp only [hsz]; exact hn.2) h)
 intro ex a' w' ⟨_,e',ha',_,_,hq⟩
 have fin:resS P fn.results.toList e' w' (fun vs=>Q (retV vs) w')→a'.defers=[]∧∃ v,(results fn a'.tmps).run P w'=.ok v w'∧∃ v',Ending.returned v=.returned v'∧Q v' w':=fun hr=>by
  obtain ⟨vs,hK,hrun⟩:=resS_run ha' _ _ hr
  refine ⟨ha'.1,retV vs,?_,_,rfl,hK⟩
  exact results_run hrun
 cases ex with
 | normal=>exact fin hq
 | ret=>exact fin hq
 | exit i=>exact hq.elim
 | goto i=>exact hq.elim
 | panic c=>exact hq.elim
 | outgrown=>exact hq.elim
end Go.Lw
