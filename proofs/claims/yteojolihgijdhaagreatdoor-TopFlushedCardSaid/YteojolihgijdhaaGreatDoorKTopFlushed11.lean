/- Part 11 of 21 of the proof of TopFlushed. Conditions: the theorem's: none. -/
import Derived.Test.YteojolihgijdhaaGreatDoorKTopFlushed10
set_option linter.unusedVariables false
set_option maxRecDepth 512
namespace Go.Proofs.YteojolihgijdhaaGreatDoor
open Go.Lw
def Fv (fs:List (Int × Int)):List Value:=fs.flatMap fun f=>[.int .i64 f.1,.int .i64 f.2]
theorem Fv_len:∀ fs:List (Int × Int),(Fv fs).length=fs.length * 2
 | []=>rfl
 | f :: r=>by
  have:=Fv_len r
  show (_ :: _ :: Fv r).length=_
  simp only [List.length_cons,this]
  omega
theorem Fv_at:∀ {fs:List (Int × Int)} {i:Nat} (h:i< fs.length),(Fv fs)[i * 2]?=some (.int .i64 fs[i].1)∧(Fv fs)[i * 2+1]?=some (.int .i64 fs[i].2)
 | [],i,h=>by simp at h
 | f :: r,0,h=>⟨rfl,rfl⟩
 | f :: r,i+1,h=>by
  have:=Fv_at (fs:=r) (i:=i) (by simpa using h)
  rw [show (i+1) * 2=i * 2+2 by omega]
  exact this
theorem Fv_one (fs:List (Int × Int)):∀ u ∈ Fv fs,u.oneCell'=true:=by
 intro u hu
 simp only [Fv,List.mem_flatMap,List.mem_cons,List.not_mem_nil,or_false] at hu
 obtain ⟨f,_,h | h⟩:=hu
 ·subst h; rfl
 ·subst h; rfl
theorem Fv_drop:∀ (fs:List (Int × Int)) (n:Nat),Fv (fs.drop n)=(Fv fs).drop (n * 2)
 | [],n=>by simp [Fv]
 | f :: r,0=>rfl
 | f :: r,n+1=>by
  have:=Fv_drop r n
  show Fv (r.drop n)=_
  rw [this,show (n+1) * 2=n * 2+2 by omega]
  rfl
def mayP (f:Int × Int):Prop:=(f.1=1∧1≤f.2∧f.2≤1048576)∨((f.1=0∨f.1=2∨f.1=3)∧f.2=0)
instance (f:Int × Int):Decidable (mayP f):=by unfold mayP; infer_instance
theorem may_ok {w:World} (f:Int × Int):CallR Tryz.prog 120 [.agg #[.int .i64 f.1,.int .i64 f.2]] w fun v w'=>v=.bool (decide (mayP f))∧Kept No w w':=by
 refine C120 ?_
 unfold L120
 intro w1
 have hb:Blk w1 w.heap.size #[.int .i64 f.1,.int .i64 f.2]:=Blk.alloc _ _ _
 have hk:Kept No w w1:=Kept.alloc _ _ _
 clear_value w1
 have c0:∀ {b:Bool},(b=decide (mayP f))→(Value.bool b=.bool (decide (mayP f))∧Kept No w w1):=fun h=>⟨by rw [h],hk⟩
 refine ⟨_,(hb.cell 0).trans rfl,condI (fun h1=>⟨_,(hb.cell 1).trans rfl,condP (fun h2=>⟨_,(hb.cell 1).trans rfl,c0 ?_⟩) (fun h2=>c0 ?_)⟩) (fun h1=>condI (fun h2=>condI (fun h3=>⟨_,(hb.cell 1).trans rfl,c0 ?_⟩) (fun h3=>c0 ?_)) (fun h2=>condI (fun h3=>condI (fun h4=>⟨_,(hb.cell 1).trans rfl,c0 ?_⟩) (fun h4=>c0 ?_)) (fun h3=>condI (fun h4=>⟨_,(hb.cell 1).trans rfl,c0 ?_⟩) (fun h4=>c0 ?_))))⟩
 ·have h1:f.1=1:=by simpa using h1
  rw [decide_eq_decide]; unfold mayP; omega
 ·have h1:f.1=1:=by simpa using h1
  symm; rw [decide_eq_false_iff_not]; unfold mayP; omega
 ·have h1:f.1=0:=by simpa using h2
  rw [show (f.2 == 0)=decide (f.2=0) from rfl,decide_eq_decide]; unfold mayP; omega
 ·rw [h2] at h3; cases h3
 ·have h1:f.1=2:=by simpa using h3
  rw [show (f.2 == 0)=decide (f.2=0) from rfl,decide_eq_decide]; unfold mayP; omega
 ·rw [h3] at h4; cases h4
 ·have h1:f.1=3:=by simpa using h4
  rw [show (f.2 == 0)=decide (f.2=0) from rfl,decide_eq_decide]; unfold mayP; omega
 ·have h1:f.1≠1:=by simpa using h1
  have h2:f.1≠0:=by simpa using h2
  have h3:f.1≠2:=by simpa using h3
  have h4:f.1≠3:=by simpa using h4
  symm; rw [decide_eq_false_iff_not]; unfold mayP; omega
theorem may1_ok {w:World} (f:Int × Int):CallR Tryz.prog 119 [.agg #[.int .i64 f.1,.int .i64 f.2]] w fun v w'=>v=.bool (!decide (mayP f))∧Kept No w w':=by
 refine C119 ?_
 unfold L119
 intro w1
 have hb:Blk w1 w.heap.size #[.int .i64 f.1,.int .i64 f.2]:=Blk.alloc _ _ _
 have hk:Kept No w w1:=Kept.alloc _ _ _
 clear_value w1
 refine ⟨_,_,(hb.cell 0).trans rfl,(hb.cell 1).trans rfl,CallR.mono (may_ok f) ?_⟩
 rintro v w2 ⟨rfl,hk2⟩
 exact ⟨_,rfl,rfl,hk.no hk2⟩
def badF (fs:List (Int × Int)):Option Nat:=fs.findIdx? fun f=>!decide (mayP f)
def ixF (fs:List (Int × Int)):Int:=match badF fs with | some i=>i | none=>-1
theorem ixF_at {fs:List (Int × Int)} {i:Nat} (h:i< fs.length) (hb:¬ mayP fs[i]) (hall:∀ j,(hj:j< i)→mayP (fs[j]'(by omega))):ixF fs=i:=by
 have:badF fs=some i:=by
  unfold badF
  rw [List.findIdx?_eq_some_iff_getElem]
  exact ⟨h,by simp [hb],fun j hj=>by simp [hall j hj]⟩
 unfold ixF
 rw [this]
theorem ixF_none {fs:List (Int × Int)} (hall:∀ j,(hj:j< fs.length)→mayP fs[j]):ixF fs=-1∧badF fs=none:=by
 have:badF fs=none:=by
  unfold badF
  rw [List.findIdx?_eq_none_iff]
  intro f hf
  obtain ⟨j,hj,rfl⟩:=List.mem_iff_getElem.1 hf
  simp [hall j hj]
 unfold ixF
 rw [this]
 exact ⟨rfl,rfl⟩
theorem ix_ok {w:World} {a:Option Addr} {l c:Nat} {fs:List (Int × Int)} (h:RdS 2 w a l c (Fv fs)) (hl:l≤4096) :
 CallR Tryz.prog 118 [.slice a l c,.func (.func 119) #[] #[]] w fun v w'=>v=.int .i64 (ixF fs)∧Kept No w w':=by
 refine C118 ?_
 unfold L118
 have hlen:fs.length=l:=by have:=h.1; rw [Fv_len] at this; omega
 refine ⟨fun vs w'=>∃ n:Nat,vs=[.int .i64 (n:Int)]∧n≤l∧Kept No w w'∧(∀ j,(hj:j< n)→(hl:j< fs.length)→mayP fs[j]),fun vs _=>l - ix vs,⟨0,rfl,Nat.zero_le _,Kept.refl _ _,fun j hj=>by omega⟩,?_⟩
 intro _ n5 w1 hI
 obtain ⟨n,hvs,hn,hk,hall⟩:=hI
 simp only [List.cons.injEq,Value.int.injEq,true_and,and_true] at hvs
 subst hvs
 refine condP (fun hlt=>?_) (fun hge=>?_)
 ·have hn':n< fs.length:=by omega
  obtain ⟨e1,e2⟩:=Fv_at hn'
  have h1:=h.keep hk (fun _ _ _ e=>e)
  cases ha:a with
  | none=>have:=RdS.isNone h ha; omega
  | some q=>
   refine ⟨⟨by omega,by omega⟩,nnI ⟨fs[n].1,fs[n].2,?_,?_,119,#[],#[],rfl,by kernel_rfl,?_⟩⟩
   ·have:=h1.2.2.2 q ha _ _ e1
    simpa using this
   ·have:=h1.2.2.2 q ha _ _ e2
    rw [← Lw.add_add] at this
    simpa using this
   refine CallR.mono (may1_ok fs[n]) ?_
   rintro v w2 ⟨rfl,hk2⟩
   refine ⟨_,rfl,condI (fun hb=>?_) (fun hb=>?_)⟩
   ·have hb:¬ mayP fs[n]:=by simpa using hb
    exact ⟨by rw [ixF_at hn' hb (fun j hj=>hall j hj (by omega))],hk.no hk2⟩
   ·have hb:mayP fs[n]:=by simpa using hb
    refine ⟨⟨by omega,by omega⟩,⟨n+1,by simp,by omega,hk.no hk2,fun j hj hl=>?_⟩,by simp only [ix]; omega⟩
    by_cases e:j=n
    ·subst e; exact hb
    ·exact hall j (by omega) hl
 ·have hnl:n=l:=by omega
  exact ⟨by rw [(ixF_none (fun j hj=>hall j (by omega) hj)).1],hk⟩
def ckF (fs:List (Int × Int)):Int:=if 4096< fs.length then 3 else if badF fs=none then 0 else 21
theorem fcheck_ok {w:World} {a:Option Addr} {l c:Nat} {fs:List (Int × Int)} (h:RdS 2 w a l c (Fv fs)) :
 CallR Tryz.prog 56 [.slice a l c] w fun v w'=>(∃ n,v=.tuple #[.int .i64 (ckF fs),.int .i64 n])∧Kept No w w':=by
 refine C56 ?_
 unfold L56
 have hlen:fs.length=l:=by have:=h.1; rw [Fv_len] at this; omega
 refine condP (fun hlt=>⟨⟨_,by unfold ckF; rw [if_pos (by omega)]⟩,Kept.refl _ _⟩) (fun hge=>?_)
 refine CallR.mono (ix_ok h (by omega)) ?_
 rintro v w1 ⟨rfl,hk⟩
 unfold ckF
 rw [if_neg (by omega)]
 refine ⟨_,rfl,condP (fun h0=>⟨⟨ixF fs,?_⟩,hk⟩) (fun h0=>⟨⟨(l:Int),?_⟩,hk⟩)⟩
 ·unfold ixF at h0
  cases hb:badF fs with
  | none=>rw [hb] at h0; simp at h0
  | some i=>rw [if_neg (by simp)]
 ·unfold ixF at h0
  cases hb:badF fs with
  | none=>rw [if_pos rfl]
  | some i=>rw [hb] at h0; dsimp only at h0; omega
structure PlO (w:World) (g:Nat) (a:Option Addr) (l c:Nat) (fs:List (Int × Int)):Prop where
 blk:Blk w g #[.bool true,.slice a l c]
 rd:RdS 2 w a l c (Fv fs)
 ne:∀ b,inA a b→b≠g
theorem PlO.keep {w w':World} {g:Nat} {a:Option Addr} {l c:Nat} {fs:List (Int × Int)} (h:PlO w g a l c fs) {S:Nat→Prop} (k:Kept S w w') (hg:¬ S g) (hn:∀ b,b< w.heap.size→inA a b→¬ S b):PlO w' g a l c fs:=
 ⟨h.blk.keep k hg,h.rd.keep k hn,h.ne⟩
theorem fclone_ok {w:World} {a:Option Addr} {l c:Nat} {fs:List (Int × Int)} (h:RdS 2 w a l c (Fv fs)) (hl:l≤4096) :
 CallR Tryz.prog 57 [.slice a l c] w fun v w'=>∃ a' c',v=.slice a' l c'∧SlO 2 w' a' l c' (Fv fs)∧Kept No w w'∧Fresh w a':=by
 refine C57 ?_
 unfold L57
 refine condI (fun hn=>?_) (fun hn=>?_)
 ·have ha:a=none:=by simpa using hn
  obtain ⟨h1,_,h3⟩:=RdS.isNone h ha
  subst h1 ha
  refine ⟨none,0,rfl,?_,Kept.refl _ _,Fresh.none w⟩
  rw [h3]; exact SlO.nil 2 w
 ·intro w1
  have hk1:Kept No w w1:=Kept.alloc _ w _
  have hs0:SlO 2 w1 (some ⟨w.heap.size,0,none⟩) 0 0 []:=SlO.of_blk (Blk.alloc w #[] _) (by simp)
  obtain ⟨a',c',w2,hrun,hs,hk,hat,hnn⟩:=run_app_sl (P:=Tryz.prog) (t:=23) (t2:=23) (ty:=23) (by kernel_rfl:slTyB Tryz.prog 23 2 16=true) (by kernel_rfl) hs0 (h.keep hk1 (fun _ _ _ e=>e)) (Fv_one fs) (by omega) (by omega)
  simp only [Nat.zero_add,List.nil_append] at hrun hs
  refine ⟨a',l,c',w2,hrun,a',c',rfl,hs,?_,?_⟩
  ·exact hk1.trans hk (fun b hb hin=>by rw [inA_some] at hin; subst hin; omega)
  ·exact hat.fresh (fun b hb=>by rw [inA_some] at hb; omega) (by exact hk1.size)
theorem fnew_ok {w:World} {a:Option Addr} {l c:Nat} {fs:List (Int × Int)} (h:RdS 2 w a l c (Fv fs)) :
 CallR Tryz.prog 20 [.slice a l c] w fun v w'=>(ckF fs≠0∧v=.tuple #[.pointer none,.int .i64 (ckF fs)]∨
  ckF fs=0∧∃ g a' c',v=.tuple #[.pointer (some ⟨g,0,none⟩),.int .i64 0]∧PlO w' g a' l c' fs∧w.heap.size≤g∧∀ b,inA a' b→w.heap.size≤b∧b< w'.heap.size)∧Kept No w w':=by
 refine C20 ?_
 unfold L20
 have hlen:fs.length=l:=by have:=h.1; rw [Fv_len] at this; omega
 refine CallR.mono (fcheck_ok h) ?_
 rintro v w1 ⟨⟨n,rfl⟩,hk1⟩
 refine ⟨_,_,rfl,condI (fun he=>?_) (fun he=>?_)⟩
 ·exact ⟨.inl ⟨by simpa using he,rfl⟩,hk1⟩
 ·have he:ckF fs=0:=by simpa using he
  have hl:l≤4096:=by
   unfold ckF at he
   by_cases hx:4096< fs.length
   ·rw [if_pos hx] at he; omega
   ·omega
  refine CallR.mono (fclone_ok (h.keep hk1 fun _ _ _ e=>e) hl) ?_
  rintro v w2 ⟨a',c',rfl,hs,hk2,hf⟩
  refine ⟨_,_,_,rfl,?_⟩
  intro w3
  have hb3:Blk w3 w2.heap.size #[.bool true,.slice a' l c']:=Blk.alloc _ _ _
  have hk3:Kept No w2 w3:=Kept.alloc _ _ _
  clear_value w3
  have hlt:=hs.lt
  have z1:=hk1.size
  have z2:=hk2.size
  exact ⟨.inr ⟨he,w2.heap.size,a',c',rfl,⟨hb3,hs.rd.keep hk3 fun _ _ _ e=>e,fun b hb e=>by have:=hlt b hb; omega⟩,by omega,fun b hb=>by have:=hf b hb; have:=hlt b hb; have:=hk3.size; omega⟩,(hk1.no hk2).no hk3⟩
def metF (fs:List (Int × Int)) (n:Int):Int × Int:=match fs with
 | []=>(n,0)
 | f :: _=>if f.1=1 then (min n f.2,0) else if f.1=2 then (0,22) else if f.1=3 then (0,23) else (n,0)
theorem fnext_ok {w:World} {g:Nat} {a:Option Addr} {l c:Nat} {fs:List (Int × Int)} {n:Int} (h:PlO w g a l c fs) (h1:1≤n) (h2:n≤1048576) (hl:l≤4096) :
 CallR Tryz.prog 237 [.pointer (some ⟨g,0,none⟩),.int .i64 n] w fun v w'=>v=.tuple #[.int .i64 (metF fs n).1,.int .i64 (metF fs n).2]∧(∃ a' c',(∀ b,inA a' b→inA a b)∧PlO w' g a' (l - 1) c' (fs.drop 1))∧Kept (·=g) w w':=by
 refine C237 ?_
 unfold L237
 obtain ⟨hb,hrd,hne⟩:=h
 have hlen:fs.length=l:=by have:=hrd.1; rw [Fv_len] at this; omega
 refine condF rfl (nnI ⟨_,hb.at0 rfl,condF rfl (condF (by simp; omega) (condF (by simp; omega) ?_))⟩)
 intro w1
 have hf1:Blk w1 w.heap.size #[.int .i64 0,.int .i64 0]:=Blk.alloc _ _ _
 have hk1:Kept No w w1:=Kept.alloc _ _ _
 clear_value w1
 have hglt:=hb.lt
 have hb1:=hb.keep hk1 (fun e=>e)
 have hr1:=hrd.keep hk1 (fun _ _ _ e=>e)
 have hf1lt:=hf1.lt
 refine ⟨fun vs w'=>vs=[]∧(∃ a' c',(∀ b,inA a' b→inA a b)∧PlO w' g a' (l - 1) c' (fs.drop 1))∧Kept (·=g) w w'∧Blk w' w.heap.size #[.int .i64 (fs.headD (0,0)).1,.int .i64 (fs.headD (0,0)).2],?_,?_⟩
 ·refine nnI ⟨_,_,_,hb1.at (i:=1) rfl,condP (fun hlt=>?_) (fun hge=>?_)⟩
  ·have h0l:0< fs.length:=by omega
   obtain ⟨e1,e2⟩:=Fv_at h0l
   have hhd:fs.headD (0,0)=fs[0]:=by
    cases fs with
    | nil=>simp at h0l
    | cons f r=>rfl
   rw [hhd]
   cases ha:a with
   | none=>have:=RdS.isNone hrd ha; omega
   | some q=>
    rw [ha] at hb1 hr1 hne
    have hcl:l≤c:=hrd.2.1
    refine ⟨fun wS=>Blk wS g #[.bool true,.slice (some q) l c]∧RdS 2 wS (some q) l c (Fv fs),⟨hb1.drew,hr1.drew⟩,nnI ⟨_,_,_,fun wS hS=>hS.1.at (i:=1) rfl,⟨by omega,by omega⟩,nnI ⟨fs[0].1,fs[0].2,fun wS hS=>⟨?_,?_,trivial⟩,nnI ⟨_,_,_,fun wS hS=>hS.1.at (i:=1) rfl,⟨by omega,by omega⟩,?_⟩⟩⟩⟩
    ·have:=hS.2.2.2.2 q rfl _ _ e1
     simpa using this
    ·have:=hS.2.2.2.2 q rfl _ _ e2
     rw [← Lw.add_add] at this
     simpa using this
    have hb2:Blk (World.drew w1) g #[.bool true,.slice (some q) l c]:=hb1.drew
    have hf2:Blk (World.drew w1) w.heap.size #[.int .i64 0,.int .i64 0]:=hf1.drew
    have hr2:RdS 2 (World.drew w1) (some q) l c (Fv fs):=hr1.drew
    have hk2:Kept No w (World.drew w1):=hk1.no (Kept.drew _ _)
    generalize World.drew w1=w2 at hb2 hf2 hr2 hk2 ⊢
    refine stC_blk hf2 (by simp) fun w3 hf3 hk3 _=>stC_blk hf3 (by simp) fun w4 hf4 hk4 _=>?_
    have hk34:Kept (·=w.heap.size) w2 w4:=hk3.trans hk4 fun _ _ e=>e
    have hold:∀ b,b< w.heap.size→inA (some q) b→b< w.heap.size:=fun b hb _=>hb
    have hqw:∀ b,inA (some q) b→b< w.heap.size:=RdS.old (ha ▸ hrd) (fun e=>by have:=Fv_len fs; rw [e] at this; simp at this; omega)
    have hb4:=hb2.keep hk34 (by omega)
    have hr4:=hr2.keep hk34 (fun b _ hb e=>by have:=hqw b hb; omega)
    refine ⟨⟨hb4,hr4⟩,nnI (stC_at hb4 (i:=1) (by simp) fun w5 hb5 hk5 _=>?_)⟩
    have hr5:=hr4.keep hk5 (fun b _ hb e=>hne b hb e)
    have hk05:Kept (·=g) w w5:=((hk2.fresh hk34 (fun x e=>by omega)).mono fun _ _ e=>e.elim).trans hk5 fun _ _ e=>e
    refine ⟨rfl,⟨adv (some q) 1 c 2,c - 1,fun b hb=>inA_adv.1 hb,hb5,?_,fun b hb=>hne b (inA_adv.1 hb)⟩,hk05,?_⟩
    ·have:=hr5.from 1 (by omega)
     rw [Fv_drop]
     exact this
    ·have:=hf4.keep hk5 (by omega)
     simpa using this
  ·have hl0:fs=[]:=List.eq_nil_of_length_eq_zero (by omega)
   refine ⟨rfl,⟨a,c,fun b hb=>hb,?_⟩,hk1.mono (fun _ _ e=>e.elim),?_⟩
   ·rw [show l - 1=l by omega,hl0,← hl0]
    have:fs.drop 1=fs:=by rw [hl0]; rfl
    rw [this]
    exact ⟨hb1,hr1,hne⟩
   ·rw [hl0]; exact hf1
 ·rintro _ w6 ⟨_,hp,hk,hf⟩
  have fin:∀ {x:Int × Int},x=metF fs n→Value.tuple #[.int .i64 x.1,.int .i64 x.2]=.tuple #[.int .i64 (metF fs n).1,.int .i64 (metF fs n).2]∧(∃ a' c',(∀ b,inA a' b→inA a b)∧PlO w6 g a' (l - 1) c' (fs.drop 1))∧Kept (·=g) w w6:=fun h=>⟨by rw [h],hp,hk⟩
  refine ⟨_,(hf.cell 0).trans rfl,condI (fun e1=>⟨_,(hf.cell 1).trans rfl,?_⟩) (fun e1=>condI (fun e2=>?_) (fun e2=>condI (fun e3=>?_) (fun e3=>?_)))⟩
  ·have e1:(fs.headD (0,0)).1=1:=by simpa using e1
   refine fin (x:=(mn n (fs.headD (0,0)).2,0)) ?_
   cases fs with
   | nil=>simp at e1
   | cons f r=>
    have e1:f.1=1:=e1
    show (mn n f.2,(0:Int))=if f.1=1 then _ else _
    rw [if_pos e1]
    congr 1
    unfold mn; omega
  ·have e2:(fs.headD (0,0)).1=2:=by simpa using e2
   refine fin (x:=(0,22)) ?_
   cases fs with
   | nil=>simp at e2
   | cons f r=>
    have e2:f.1=2:=e2
    show _=if f.1=1 then _ else if f.1=2 then _ else _
    rw [if_neg (by omega),if_pos e2]
  ·have e3:(fs.headD (0,0)).1=3:=by simpa using e3
   refine fin (x:=(0,23)) ?_
   cases fs with
   | nil=>simp at e3
   | cons f r=>
    have e3:f.1=3:=e3
    show _=if f.1=1 then _ else if f.1=2 then _ else if f.1=3 then _ else _
    rw [if_neg (by omega),if_neg (by omega),if_pos e3]
  ·have e1:(fs.headD (0,0)).1≠1:=by simpa using e1
   have e2:(fs.headD (0,0)).1≠2:=by simpa using e2
   have e3:(fs.headD (0,0)).1≠3:=by simpa using e3
   refine fin (x:=(n,0)) ?_
   cases fs with
   | nil=>rfl
   | cons f r=>
    have e1:f.1≠1:=e1
    have e2:f.1≠2:=e2
    have e3:f.1≠3:=e3
    show _=if f.1=1 then _ else if f.1=2 then _ else if f.1=3 then _ else _
    rw [if_neg e1,if_neg e2,if_neg e3]
abbrev ptt (b:Nat):Value:=.pointer (some ⟨b,0,none⟩)
theorem tyB':∃ e i,SlTy Tryz.prog 34 e i (.int .u8 0) 1 1:=slTyZ (by kernel_rfl) (by kernel_rfl)
def Cur (raw:List (List Int)) (i:Nat) (LL:List (List Int)):Prop:=
 (raw=[]∧LL=[])∨∃ x r,raw=x :: r∧i≤x.length∧LL=x.drop i :: r
def TermO (F R:Nat→Prop) (w:World) (b:Nat) (LL:List (List Int)) (scr:List Int):Prop:=
 ∃ (la:Option Addr) (ll lc i:Nat) (sa:Option Addr) (sl sc:Nat) (raw:List (List Int)),Blk w b #[.bool true,.slice la ll lc,.int .i64 (i:Int),.slice sa sl sc]∧RdL R w la ll lc raw∧Cur raw i LL∧
  OB w sa sl sc scr∧¬ inA sa b∧scr.length≤1048576∧(∀ k,F k↔k=b∨inA sa k)∧(∀ k,R k→¬ F k)∧(∀ k,R k→k< w.heap.size)∧raw.length≤256∧∀ x ∈ raw,x.length≤4096
theorem TermO.keep {F R S:Nat→Prop} {w w':World} {b:Nat} {LL:List (List Int)} {scr:List Int} (h:TermO F R w b LL scr) (k:Kept S w w') (hf:∀ x,F x→¬ S x) (hr:∀ x,R x→¬ S x):TermO F R w' b LL scr:=by
 obtain ⟨la,ll,lc,i,sa,sl,sc,raw,hb,hl,hc,ho,hna,hs,hF,hR,hlt,h1,h2⟩:=h
 exact ⟨la,ll,lc,i,sa,sl,sc,raw,hb.keep k (hf b ((hF b).2 (.inl rfl))),hl.keep k hr,hc,ho.keep k (fun x hx=>hf x ((hF x).2 (.inr hx))),hna,hs,hF,hR,fun k' hk=>Nat.lt_of_lt_of_le (hlt k' hk) k.size,h1,h2⟩
theorem TermO.lt {F R:Nat→Prop} {w:World} {b:Nat} {LL:List (List Int)} {scr:List Int} (h:TermO F R w b LL scr):∀ k,F k∨R k→k< w.heap.size:=by
 obtain ⟨la,ll,lc,i,sa,sl,sc,raw,hb,hl,hc,ho,hna,hs,hF,hR,hlt,h1,h2⟩:=h
 intro k hk
 rcases hk with hk | hk
 ·rcases (hF k).1 hk with rfl | hk
  ·exact hb.lt
  ·exact SlO.lt ho k hk
 ·exact hlt k hk
theorem TermO.scr {F R:Nat→Prop} {w:World} {b:Nat} {LL:List (List Int)} {scr:List Int} (h:TermO F R w b LL scr):scr.length≤1048576:=by
 obtain ⟨la,ll,lc,i,sa,sl,sc,raw,hb,hl,hc,ho,hna,hs,_⟩:=h; exact hs
theorem TermO.apart {F R:Nat→Prop} {w:World} {b:Nat} {LL:List (List Int)} {scr:List Int} (h:TermO F R w b LL scr):∀ k,R k→¬ F k:=by
 obtain ⟨la,ll,lc,i,sa,sl,sc,raw,hb,hl,hc,ho,hna,hs,hF,hR,_⟩:=h; exact hR
theorem Cur.len {raw LL:List (List Int)} {i:Nat} (h:Cur raw i LL):LL.length=raw.length:=by
 rcases h with ⟨rfl,rfl⟩ | ⟨x,r,rfl,_,rfl⟩ <;> rfl
def newT (LL:List (List Int)):Int:=if 256< LL.length then 3 else if LL.all (fun x=>decide (x.length≤4096)) then 0 else 5
theorem tnew_ok {R0:Nat→Prop} {w:World} {a:Option Addr} {l c:Nat} {LL:List (List Int)} (h:RdL R0 w a l c LL) (hl:∀ x ∈ LL,x.length≤140737488355328) :
 CallR Tryz.prog 22 [.slice a l c] w fun v w'=>Kept No w w'∧((newT LL≠0∧v=.tuple #[.pointer none,.int .i64 (newT LL)])∨
  (newT LL=0∧∃ b F R,v=.tuple #[ptt b,.int .i64 0]∧TermO F R w' b LL []∧∀ k,F k∨R k→w.heap.size≤k)):=by
 have hlen:=h.len
 refine C22 ?_
 unfold L22
 refine condP (fun hgt=>⟨Kept.refl _ _,.inl ?_⟩) (fun hle=>?_)
 ·have:newT LL=3:=by unfold newT; rw [if_pos (by omega)]
  rw [this]; exact ⟨by decide,rfl⟩
 intro w1
 have hb1:Blk w1 w.heap.size #[.bool true,.slice none 0 0,.int .i64 0,.slice none 0 0]:=Blk.alloc w _ _
 have hk1:Kept No w w1:=Kept.alloc _ _ _
 clear_value w1
 refine ⟨fun vs w2=>∃ (i:Nat) (la:Option Addr) (lc:Nat) (es:List Slc),vs=[.int .i64 (i:Int)]∧i≤l∧Blk w2 w.heap.size #[.bool true,.slice la i lc,.int .i64 0,.slice none 0 0]∧
  SlO 1 w2 la i lc (es.map slv)∧(∀ k,inA la k→w.heap.size< k)∧(∀ (j:Nat) (e:Slc),es[j]?=some e→∃ xs,LL[j]?=some xs∧RdB w2 e.1 e.2.1 e.2.2 xs∧(∀ k,inA e.1 k→w.heap.size< k∧k< w2.heap.size∧¬ inA la k))∧
  (LL.take i).all (fun x=>decide (x.length≤4096))=true∧Kept No w w2,fun vs _=>match vs with | [.int _ i]=>(l - i).toNat | _=>0,
  ⟨0,none,0,[],rfl,Nat.zero_le _,hb1,SlO.nil 1 w1,fun k hk=>absurd hk (inA_none k),fun j e he=>by simp at he,by simp,hk1⟩,?_⟩
 intro _ n4 w2 hI
 obtain ⟨i,la,lc,es,hv,hi,hb2,hs2,hla,hes,hall,hk2⟩:=hI
 simp only [List.cons.injEq,Value.int.injEq,true_and,and_true] at hv
 subst hv
 have hesl:es.length=i:=by have:=hs2.1; simpa using this
 refine condP (fun hlt=>?_) (fun hge=>?_)
 ·have hil:i< LL.length:=by omega
  obtain ⟨q,⟨ea,el,ec⟩,hq,hc,hrd,_⟩:=(h.keep hk2 (fun _ _ e=>e)).get hil
  subst hq
  simp only at hc hrd
  obtain rfl:LL[i].length=el:=hrd.len
  have hLi:=hl LL[i] (List.getElem_mem hil)
  refine ⟨⟨by omega,by omega⟩,nnI ⟨_,_,_,hc,condP (fun hbig=>⟨hk2,.inl ?_⟩) (fun hsmall=>?_)⟩⟩
  ·have h1:¬ 256< LL.length:=by omega
   have h2:LL.all (fun x=>decide (x.length≤4096))=false:=by
    cases hx:LL.all (fun x=>decide (x.length≤4096)) with
    | false=>rfl
    | true=>
     have:=List.all_eq_true.1 hx LL[i] (List.getElem_mem hil)
     have:=of_decide_eq_true this
     omega
   have:newT LL=5:=by unfold newT; rw [if_neg h1,h2]; rfl
   rw [this]; exact ⟨by decide,rfl⟩
  ·refine ⟨fun wS=>Blk wS w.heap.size #[.bool true,.slice la i lc,.int .i64 0,.slice none 0 0],hb2,?_⟩
   intro w3
   have hk3:Kept No w2 w3:=Kept.drew _ _
   have hb3:Blk w3 w.heap.size #[.bool true,.slice la i lc,.int .i64 0,.slice none 0 0]:=hb2
   have hrd3:=hrd.keep hk3 (fun _ _ _ e=>e)
   have hsz3:w3.heap.size=w2.heap.size:=rfl
   clear_value w3
   refine ⟨la,i,lc,fun wS hS=>(hS.cell 1).trans rfl,(clone_ok hrd3 (by omega)).mono fun v w4 ⟨a4,c4,hv4,ho4,hk4,hf4,_⟩=>⟨_,_,_,hv4,hb3.keep hk4 (fun e=>e),?_⟩⟩
   have hb4:=hb3.keep hk4 (fun e=>e)
   intro w5
   have hk5:Kept No w4 w5:=Kept.alloc _ _ _
   have hnew5:SlO 1 w5 (some ⟨w4.heap.size,0,none⟩) 1 1 ([(a4,LL[i].length,c4)].map slv):=by
    exact SlO.of_blk (sz:=1) (n:=1) (Blk.alloc w4 #[slv (a4,LL[i].length,c4)] 34) rfl
   clear_value w5
   have hk35:=hk4.no hk5
   have hk25:=hk3.no hk35
   have hs5:=hs2.keep hk25 (fun _ _ e=>e)
   obtain ⟨a6,c6,w6,hrun,hs6,hk6,hat,_⟩:=run_app_sl (P:=Tryz.prog) (t:=22) (t2:=22) (ty:=22) (by kernel_rfl:slTyB Tryz.prog 22 1 24=true) (by kernel_rfl) hs5 hnew5.rd (slv_one _) (by omega) (by omega)
   refine ⟨hb4.keep hk5 (fun e=>e),a6,_,c6,w6,hrun,?_⟩
   have hlt5:∀ k,inA a4 k→k< w5.heap.size:=fun k hk=>Nat.lt_of_lt_of_le (SlO.lt ho4 k hk) hk5.size
   have hb6:Blk w6 w.heap.size _:=(hb4.keep hk5 (fun e=>e)).keep hk6 (fun hx=>by have:=hla _ hx; omega)
   have hla6:∀ k,inA a6 k→w.heap.size< k:=fun k hk=>by
    rcases hat.in hk with h | rfl
    ·exact hla k h
    ·have:=hb4.lt; have:=hk5.size; omega
   refine stC_blk hb6 (by simp) fun w7 hb7 hk7 hsz7=>⟨by unfold inI; omega,⟨i+1,a6,c6,es ++ [(a4,LL[i].length,c4)],rfl,by omega,hb7,?_,hla6,?_,?_,?_⟩,?_⟩
   ·rw [List.map_append]
    exact SlO.keep hs6 hk7 (fun k hk e=>by have:=hla6 k hk; omega)
   ·intro j e he
    have hg:∀ k,k=w.heap.size→¬ (w.heap.size< k):=fun k e=>by omega
    by_cases hj:j< i
    ·rw [List.getElem?_append_left (by omega)] at he
     obtain ⟨xs,hx,hr,hin⟩:=hes j e he
     refine ⟨xs,hx,?_,fun k hk=>?_⟩
     ·refine RdB.keep0 (RdB.keep0 (hr.keep0 hk25 (fun _ _ _ e=>e)) hk6 (fun _ k hk h=>(hin k hk).2.2 h)) hk7 (fun _ k hk e=>by have:=(hin k hk).1; omega)
     ·obtain ⟨h1,h2,h3⟩:=hin k hk
      refine ⟨h1,?_,fun hx=>?_⟩
      ·have:=hk25.size; have:=hk6.size; omega
      ·rcases hat.in hx with h | rfl
       ·exact h3 h
       ·have:=hk25.size; omega
    ·have hje:j=i:=by
      have:=(List.getElem?_eq_some_iff.1 he).1
      simp at this; omega
     subst hje
     rw [List.getElem?_append_right (by omega),hesl,Nat.sub_self] at he
     simp at he
     subst he
     refine ⟨LL[j],by simp [hil],?_,fun k hk=>?_⟩
     ·refine RdB.keep0 (RdB.keep0 (OB.rd (ho4.keep hk5 (fun _ _ e=>e))) hk6 (fun _ k hk h=>?_)) hk7 (fun _ k hk e=>?_)
      ·have h1:=hf4 k hk; have h2:=SlO.lt hs2 k h; omega
      ·have h1:=hf4 k hk; have:=hk2.size; have h3:=hb2.lt; omega
     ·have h1:=hf4 k hk
      have h3:=hb2.lt
      refine ⟨by omega,?_,fun hx=>?_⟩
      ·have:=hlt5 k hk; have:=hk6.size; omega
      ·rcases hat.in hx with h | rfl
       ·have h2:=SlO.lt hs2 k h; omega
       ·have:=hlt5 _ hk; omega
   ·rw [List.take_add_one,List.getElem?_eq_getElem hil]
    simp only [Option.toList_some,List.all_append,hall,Bool.true_and]
    have:LL[i].length≤4096:=by omega
    simp [this]
   ·exact ((hk2.no hk25).fresh hk6 (fun k hk=>Nat.le_of_lt (hla k hk))).fresh hk7 (fun k e=>by rw [e]; exact Nat.le_refl _)
   ·show ((l:Int) - ((i:Int)+1)).toNat< ((l:Int) - (i:Int)).toNat
    omega
 ·have hil:i=l:=by omega
  subst hil
  rw [List.take_of_length_le (by omega)] at hall
  have hn0:newT LL=0:=by unfold newT; rw [if_neg (by omega),hall]; rfl
  refine ⟨hk2,.inr ⟨hn0,w.heap.size,fun k=>k=w.heap.size,fun k=>inA la k∨∃ e ∈ es,inA e.1 k,rfl,⟨la,i,lc,0,none,0,0,LL,hb2,⟨es,hs2.rd,by omega,fun _ k hk=>.inl hk,fun j e xs he hx=>?_⟩,?_,OB.nil w2,inA_none _,by simp,fun k=>⟨fun h=>.inl h,fun h=>?_⟩,fun k hk e=>?_,fun k hk=>?_,by omega,fun x hx=>?_⟩,fun k hk=>?_⟩⟩
  ·obtain ⟨xs',hx',hr,_⟩:=hes j e he
   rw [hx] at hx'; cases hx'
   exact ⟨hr,fun _ k hk=>.inr ⟨e,List.mem_of_getElem? he,hk⟩⟩
  ·cases LL with
   | nil=>exact .inl ⟨rfl,rfl⟩
   | cons x r=>exact .inr ⟨x,r,rfl,Nat.zero_le _,rfl⟩
  ·rcases h with h | h
   ·exact h
   ·exact absurd h (inA_none k)
  ·rcases hk with hk | ⟨e',he',hk⟩
   ·have:=hla k hk; omega
   ·obtain ⟨j,hj⟩:=List.mem_iff_getElem?.1 he'
    obtain ⟨_,_,_,h3⟩:=hes j e' hj
    have:=(h3 k hk).1; omega
  ·rcases hk with hk | ⟨e',he',hk⟩
   ·exact SlO.lt hs2 k hk
   ·obtain ⟨j,hj⟩:=List.mem_iff_getElem?.1 he'
    obtain ⟨_,_,_,h3⟩:=hes j e' hj
    exact (h3 k hk).2.1
  ·have:=List.all_eq_true.1 hall x hx
   exact of_decide_eq_true this
  ·rcases hk with rfl | hk | ⟨e',he',hk⟩
   ·exact Nat.le_refl _
   ·exact Nat.le_of_lt (hla k hk)
   ·obtain ⟨j,hj⟩:=List.mem_iff_getElem?.1 he'
    obtain ⟨_,_,_,h3⟩:=hes j e' hj
    exact Nat.le_of_lt (h3 k hk).1
def readT (n:Int) (LL:List (List Int)):Int × List Int × List (List Int):=
 if n< 1∨n > 1048576 then (4,[],LL) else
 match LL with
 | []=>(0,[],[])
 | x :: r=>(0,x.take n.toNat,if x.length≤n.toNat then r else x.drop n.toNat :: r)
theorem tread_ok {F R:Nat→Prop} {w:World} {b:Nat} {LL:List (List Int)} {scr:List Int} (h:TermO F R w b LL scr) (n:Int) :
 CallR Tryz.prog 337 [ptt b,.int .i64 n] w fun v w'=>∃ a' c',v=.tuple #[.slice a' (readT n LL).2.1.length c',.int .i64 (readT n LL).1]∧OB w' a' (readT n LL).2.1.length c' (readT n LL).2.1∧Fresh w a'∧Kept (·=b) w w'∧TermO F R w' b (readT n LL).2.2 scr:=by
 have ht:=h
 obtain ⟨la,ll,lc,i,sa,sl,sc,raw,hb,hl,hc,ho,hna,hs,hF,hR,hlt,h1,h2⟩:=h
 have hrl:=hl.len
 refine C337 ?_
 unfold L337
 refine condF rfl (nnI ⟨true,hb.at0 rfl,condF rfl (condP (fun hsm=>?_) (fun hge=>condP (fun hbig=>?_) (fun hle=>?_)))⟩)
 ·have e:readT n LL=(4,[],LL):=by unfold readT; rw [if_pos (.inl hsm)]
  rw [e]; exact ⟨none,0,rfl,OB.nil w,Fresh.none w,Kept.refl _ _,ht⟩
 ·have e:readT n LL=(4,[],LL):=by unfold readT; rw [if_pos (.inr hbig)]
  rw [e]; exact ⟨none,0,rfl,OB.nil w,Fresh.none w,Kept.refl _ _,ht⟩
 ·have hn:¬ (n< 1∨n > 1048576):=by omega
  refine nnI ⟨la,ll,lc,hb.at rfl,condI (fun h0=>?_) (fun h0=>?_)⟩
  ·have hll:ll=0:=by simpa using h0
   have hLL:LL=[]:=List.eq_nil_of_length_eq_zero (by rw [hc.len]; omega)
   have e:readT n LL=(0,[],LL):=by unfold readT; rw [if_neg hn,hLL]
   rw [e]; exact ⟨none,0,rfl,OB.nil w,Fresh.none w,Kept.refl _ _,ht⟩
  ·have hll:¬ ll=0:=by simpa using h0
   rcases hc with ⟨rfl,rfl⟩ | ⟨x,r,rfl,hix,rfl⟩
   ·simp at hrl; omega
   ·have hx4:=h2 x (by simp)
    obtain ⟨q,⟨ea,el,ec⟩,hq,hce,hrd,hRe⟩:=hl.get (i:=0) (by simp)
    subst hq
    simp only [List.getElem_cons_zero] at hce hrd hRe
    obtain rfl:x.length=el:=hrd.len
    have hlec:x.length≤ec:=hrd.2.1
    refine nnI ⟨_,ll,lc,hb.at rfl,⟨by omega,by omega⟩,nnI ⟨ea,x.length,ec,hce,nnI ⟨i,hb.at rfl,⟨by omega,by omega⟩,fun nd=>?_⟩⟩⟩
    simp only [mn_eq,Int.toNat_natCast]
    generalize hm:(min n ((x.length - i:Nat):Int)).toNat=m
    have hmm:min n ((x.length - i:Nat):Int)=(m:Int):=by omega
    rw [hmm]
    have hml:m≤x.length - i:=by omega
    have hb1:Blk (w.drewN nd) b _:=hb.drewN nd
    refine ⟨by omega,nnI ⟨i,hb1.at rfl,by unfold inI; omega,nnI (stC_at hb1 (by simp) fun w2 hb2 hk2 hsz2=>?_)⟩⟩
    have hk02:Kept (·=b) w w2:=(Kept.drewN _ w nd).trans hk2 (fun _ _ e=>e)
    have hRb:∀ k,R k→k≠b:=fun k hk e=>hR k hk ((hF k).2 (.inl e))
    have hrd2:RdB w2 ea x.length ec x:=hrd.keep0 hk02 (fun hne k hk e=>hRb k (hRe hne k hk) e)
    have hcut:RdB w2 (adv ea i ec 1) m (ec - i) ((x.drop i).take m):=by
     have:=RdS.cut hrd2 i (i+m) (by omega) (by omega)
     have e1:i+m - i=m:=by omega
     rw [e1] at this
     unfold RdB; rw [By_take,By_drop]
     have e2:((By x).take ((i+m) * 1)).drop (i * 1)=((By x).drop i).take m:=by
      rw [Nat.mul_one,Nat.mul_one,List.drop_take,e1]
     rw [e2] at this; exact this
    have hd:((x.drop i).take m)=(x.drop i).take n.toNat:=by
     by_cases hnx:n≤((x.length - i:Nat):Int)
     ·have:m=n.toNat:=by omega
      rw [this]
     ·rw [List.take_of_length_le (by simp; omega),List.take_of_length_le (by simp; omega)]
    have hml2:((x.drop i).take n.toNat).length=m:=by rw [← hd,List.length_take,List.length_drop]; omega
    rw [hd] at hcut
    refine condI (fun hall=>?_) (fun hsome=>?_)
    ·
     have hmx:m=x.length - i:=by
      have h3:(m:Int)=((x.length - i:Nat):Int):=by simpa using hall
      omega
     refine nnI ⟨_,ll,lc,hb2.at rfl,⟨by omega,by omega⟩,nnI (stC_at hb2 (by simp) fun w3 hb3 hk3 hsz3=>nnI (stC_at hb3 (by simp) fun w4 hb4 hk4 hsz4=>?_))⟩
     have hk24:Kept (·=b) w2 w4:=hk3.trans hk4 (fun _ _ e=>e)
     have hk04:Kept (·=b) w w4:=hk02.trans hk24 (fun _ _ e=>e)
     refine (clone_ok (hcut.keep0 hk24 (fun hne k hk e=>hRb k (hRe (fun e=>hne (by rw [e]; simp)) k (inA_adv.1 hk)) e)) (by omega)).mono fun v w5 ⟨a5,c5,hv5,ho5,hk5,hf5,_⟩=>⟨a5,m,c5,hv5,?_⟩
     have e:readT n (x.drop i :: r)=(0,(x.drop i).take n.toNat,r):=by
      unfold readT; rw [if_neg hn]; simp only; rw [if_pos (by simp; omega)]
     rw [e]
     have hk05:=hk04.no hk5
     refine ⟨a5,c5,by rw [hml2],ho5,fun k hk=>by have:=hf5 k hk; have:=hk04.size; omega,hk05,?_⟩
     refine ⟨adv (some q) 1 lc 1,ll - 1,lc - 1,0,sa,sl,sc,r,(by exact hb4.keep hk5 (fun e=>e)),?_,?_,?_,hna,hs,hF,hR,fun k hk=>Nat.lt_of_lt_of_le (hlt k hk) hk05.size,by simp at h1; omega,fun y hy=>h2 y (by simp [hy])⟩
     ·have:=(hl.from 1 (by omega)).keep hk05 (fun k hk e=>hRb k hk e)
      simpa using this
     ·cases r with
      | nil=>exact .inl ⟨rfl,rfl⟩
      | cons y r=>exact .inr ⟨y,r,rfl,Nat.zero_le _,rfl⟩
     ·exact ho.keep hk05 (fun k hk e=>hna (e ▸ hk))
    ·have hmx:¬ m=x.length - i:=by
      have h3:¬ (m:Int)=((x.length - i:Nat):Int):=by simpa using hsome
      omega
     refine (clone_ok hcut (by omega)).mono fun v w5 ⟨a5,c5,hv5,ho5,hk5,hf5,_⟩=>⟨a5,m,c5,hv5,?_⟩
     have e:readT n (x.drop i :: r)=(0,(x.drop i).take n.toNat,(x.drop i).drop n.toNat :: r):=by
      unfold readT; rw [if_neg hn]; simp only; rw [if_neg (by simp; omega)]
     rw [e]
     have hk05:=hk02.no hk5
     refine ⟨a5,c5,by rw [hml2],ho5,fun k hk=>by have:=hf5 k hk; have:=hk02.size; omega,hk05,?_⟩
     refine ⟨some q,ll,lc,i+m,sa,sl,sc,x :: r,(by exact hb2.keep hk5 (fun e=>e)),hl.keep hk05 (fun k hk e=>hRb k hk e),.inr ⟨x,r,rfl,by omega,?_⟩,ho.keep hk05 (fun k hk e=>hna (e ▸ hk)),hna,hs,hF,hR,fun k hk=>Nat.lt_of_lt_of_le (hlt k hk) hk05.size,h1,h2⟩
     have:m=n.toNat:=by omega
     rw [List.drop_drop,this]
def writeT (ds scr:List Int):Int × List Int:=if 1048576< scr.length+ds.length then (31,scr) else (0,scr ++ ds)
theorem twrite_ok {F R:Nat→Prop} {w:World} {b:Nat} {LL:List (List Int)} {scr:List Int} (h:TermO F R w b LL scr) {a2:Option Addr} {l2 c2:Nat} {ds:List Int} (hd:RdB w a2 l2 c2 ds) (hl2:l2≤140737488355328) :
 CallR Tryz.prog 338 [ptt b,.slice a2 l2 c2] w fun v w'=>v=.int .i64 (writeT ds scr).1∧∃ F',TermO F' R w' b LL (writeT ds scr).2∧(∀ k,F' k→F k∨w.heap.size≤k)∧Kept F w w':=by
 have ht:=h
 obtain ⟨la,ll,lc,i,sa,sl,sc,raw,hb,hl,hc,ho,hna,hs,hF,hR,hlt,h1,h2⟩:=h
 have hsl:=ho.len
 have hdl:=hd.len
 refine C338 ?_
 unfold L338
 refine condF rfl (nnI ⟨true,hb.at0 rfl,condF rfl (nnI ⟨sa,sl,sc,hb.at rfl,by unfold inI; omega,condP (fun hfull=>?_) (fun hfit=>?_)⟩)⟩)
 ·have e:writeT ds scr=(31,scr):=by unfold writeT; rw [if_pos (by omega)]
  rw [e]; exact ⟨rfl,F,ht,fun k hk=>.inl hk,Kept.refl _ _⟩
 ·have e:writeT ds scr=(0,scr ++ ds):=by unfold writeT; rw [if_neg (by omega)]
  rw [e]
  obtain ⟨a',c',w2,hrun,hs2,hk,hat,_⟩:=run_app_sl (P:=Tryz.prog) (t:=34) (t2:=34) (ty:=34) (by kernel_rfl:slTyB Tryz.prog 34 1 1=true) (by kernel_rfl) ho hd (By_one ds) (by omega) (by omega)
  refine nnI ⟨sa,sl,sc,hb.at rfl,_,_,_,w2,hrun,nnI ?_⟩
  have hna':¬ inA a' b:=fun hin=>by
   rcases hat.in hin with hin | hin
   ·exact hna hin
   ·have:=hb.lt; omega
  refine stC_at (hb.keep hk hna) (by simp) fun w3 hb3 hk3 hsz3=>⟨rfl,fun k=>k=b∨inA a' k,?_,fun k hk'=>?_,(hk.mono fun x _ e=>(hF x).2 (.inr e)).trans hk3 (fun x _ e=>(hF x).2 (.inl e))⟩
  ·have hkF:Kept F w w3:=(hk.mono fun x _ e=>(hF x).2 (.inr e)).trans hk3 (fun x _ e=>(hF x).2 (.inl e))
   refine ⟨la,ll,lc,i,a',sl+l2,c',raw,hb3,hl.keep hkF hR,hc,?_,hna',by simp; omega,fun k=>Iff.rfl,fun k hk' e=>?_,fun k hk'=>Nat.lt_of_lt_of_le (hlt k hk') hkF.size,h1,h2⟩
   ·rw [← By_append] at hs2; exact SlO.keep hs2 hk3 (fun k hk' e=>hna' (e ▸ hk'))
   ·rcases e with e | e
    ·exact hR k hk' ((hF k).2 (.inl e))
    ·rcases hat.in e with e | e
     ·exact hR k hk' ((hF k).2 (.inr e))
     ·have:=hlt k hk'; omega
  ·rcases hk' with rfl | hk'
   ·exact .inl ((hF _).2 (.inl rfl))
   ·rcases hat.in hk' with hin | rfl
    ·exact .inl ((hF _).2 (.inr hin))
    ·exact .inr (Nat.le_refl _)
theorem tscreen_ok {F R:Nat→Prop} {w:World} {b:Nat} {LL:List (List Int)} {scr:List Int} (h:TermO F R w b LL scr) :
 CallR Tryz.prog 112 [ptt b] w fun v w'=>∃ a' c',v=.slice a' scr.length c'∧OB w' a' scr.length c' scr∧Fresh w a'∧Kept No w w':=by
 obtain ⟨la,ll,lc,i,sa,sl,sc,raw,hb,hl,hc,ho,hna,hs,hF,hR,hlt,h1,h2⟩:=h
 have hsl:=ho.len
 subst hsl
 refine C112 ?_
 unfold L112
 obtain ⟨w1,hrun1,hs1,hk1,hsz1⟩:=run_mk (P:=Tryz.prog) (t:=34) tyB' (w:=w) (k:=.i64) (k':=.i64) (n:=scr.length) (m:=scr.length) (Nat.le_refl _) (by omega) (by omega)
 refine condF rfl (nnI ⟨sa,_,sc,hb.at rfl,_,_,_,w1,hrun1,nnI ⟨sa,_,sc,(hb.keep hk1 (fun e=>e)).at rfl,?_⟩⟩)
 obtain ⟨w2,hrun2,hs2,hk2,hsz2,_⟩:=run_copy_own (P:=Tryz.prog) (t:=34) (t2:=34) (ty:=3) (by kernel_rfl:slTyB Tryz.prog 34 1 1=true) hs1 (ho.keep hk1 (fun _ _ e=>e)).rd (By_one scr)
 refine ⟨_,w2,hrun2,_,_,rfl,?_,fun k hk=>by rw [inA_some] at hk; omega,hk1.fresh hk2 (fun k hk=>by rw [inA_some] at hk; omega)⟩
 have e:over (Builtin.zeroCells (Value.int .u8 0).cells scr.length).toList ((By scr).take (min scr.length scr.length * 1)) 0=By scr:=by
  have hz:(Builtin.zeroCells (Value.int .u8 0).cells scr.length).toList=By (List.replicate scr.length 0):=By_zeros _
  rw [Nat.min_self,Nat.mul_one,hz]
  have hf:(By scr).take scr.length=By scr:=List.take_of_length_le (by simp)
  rw [hf]
  unfold over
  rw [List.drop_of_length_le (by simp)]
  simp
 rw [e] at hs2
 exact hs2
def okN (n:Int):Bool:=decide (0≤n∧n≤1048576)
theorem within_ok {w:World} {a:Option Addr} {l c:Nat} {ns:List Int} (h:RdS 1 w a l c (In ns)) (hl:l≤140737488355328) :
 CallR Tryz.prog 226 [.slice a l c] w fun v w'=>v=.bool (ns.all okN)∧w'=w:=by
 refine C226 ?_
 unfold L226
 have hlen:ns.length=l:=by have:=h.1; simpa using this
 refine ⟨fun vs w'=>w'=w∧∃ n:Nat,vs=[.int .i64 (n:Int)]∧n≤ns.length∧(ns.take n).all okN=true,fun vs _=>l - ix vs,⟨rfl,0,rfl,Nat.zero_le _,by simp⟩,fun _ n4 w1 hI=>?_⟩
 obtain ⟨rfl,n,hv,hn,hall⟩:=hI
 simp only [List.cons.injEq,Value.int.injEq,true_and,and_true] at hv
 subst hv
 refine condP (fun hlt=>?_) (fun hge=>?_)
 ·have hlt':n< ns.length:=by omega
  refine ⟨⟨by omega,hlt⟩,?_⟩
  cases a with
  | none=>obtain ⟨h1,_,_⟩:=RdS.isNone h rfl; omega
  | some q=>
   have hg:=h.2.2.2 q rfl n _ (In_get ns n hlt')
   refine ⟨_,by simpa using hg,?_⟩
   have hsplit:ns.all okN=((ns.take n).all okN && (okN ns[n] && (ns.drop (n+1)).all okN)):=by
    rw [← List.all_cons,← List.drop_eq_getElem_cons hlt',← List.all_append,List.take_append_drop]
   refine condP (fun hneg=>⟨?_,rfl⟩) (fun hneg=>condP (fun hbig=>⟨?_,rfl⟩) (fun hbig=>⟨by unfold inI; omega,⟨rfl,n+1,by simp,by omega,?_⟩,?_⟩))
   ·rw [hsplit]; have:okN ns[n]=false:=by unfold okN; simp; omega
    simp [this]
   ·rw [hsplit]; have:okN ns[n]=false:=by unfold okN; simp; omega
    simp [this]
   ·rw [List.take_add_one]; simp only [List.getElem?_eq_getElem hlt',Option.toList_some,List.all_append,hall,Bool.true_and]
    have:okN ns[n]=true:=by unfold okN; simp; omega
    simp [this]
   ·simp only [ix]; omega
 ·have:n=ns.length:=by omega
  subst this
  rw [List.take_length] at hall
  exact ⟨by rw [hall],rfl⟩
def FileO (F:Nat→Prop) (w:World) (b:Nat) (bs:List Int):Prop:=
 ∃ a l c,Blk w b #[.bool true,.slice a l c]∧OB w a l c bs∧¬ inA a b∧bs.length≤1048576∧∀ k,F k↔k=b∨inA a k
theorem FileO.keep {F S:Nat→Prop} {w w':World} {b:Nat} {bs:List Int} (h:FileO F w b bs) (k:Kept S w w') (hn:∀ k,F k→¬ S k):FileO F w' b bs:=by
 obtain ⟨a,l,c,hb,ho,hna,hl,hF⟩:=h
 exact ⟨a,l,c,hb.keep k (hn b ((hF b).2 (.inl rfl))),ho.keep k fun x hx=>hn x ((hF x).2 (.inr hx)),hna,hl,hF⟩
theorem FileO.lt {F:Nat→Prop} {w:World} {b:Nat} {bs:List Int} (h:FileO F w b bs):∀ k,F k→k< w.heap.size:=by
 obtain ⟨a,l,c,hb,ho,hna,hl,hF⟩:=h
 intro k hk
 rcases (hF k).1 hk with rfl | hk
 ·exact hb.lt
 ·exact SlO.lt ho k hk
theorem FileO.len {F:Nat→Prop} {w:World} {b:Nat} {bs:List Int} (h:FileO F w b bs):bs.length≤1048576:=by
 obtain ⟨a,l,c,hb,ho,hna,hl,hF⟩:=h; exact hl
theorem grow_ok {F:Nat→Prop} {w:World} {b:Nat} {bs:List Int} (h:FileO F w b bs) {n:Nat} (hn:n≤1048576) :
 CallR Tryz.prog 227 [pt b,.int .i64 (n:Int)] w fun v w'=>v=.tuple #[]∧∃ F',FileO F' w' b (grown bs n)∧Grew F w F'∧Kept F w w':=by
 obtain ⟨a,l,c,hb,ho,hna,hbl,hF⟩:=h
 have hlen:=ho.len
 refine C227 ?_
 unfold L227
 refine nnI ⟨a,l,c,hb.at rfl,condP (fun hgt=>?_) (fun hle=>?_)⟩
 ·intro w1
  have hk1:Kept No w w1:=Kept.drew _ w
  refine nnI ⟨a,l,c,hb.drew.at rfl,nnI ⟨a,l,c,hb.drew.at rfl,by unfold inI; omega,?_⟩⟩
  have hnl:(n:Int) - (l:Int)=((n - l:Nat):Int):=by omega
  rw [hnl]
  obtain ⟨a',c',w2,hrun,hs,hk,hat,hnn⟩:=run_app_zeros (P:=Tryz.prog) (t:=34) (t2:=3) (ty:=34) tyB (by kernel_rfl) (w:=w1) ho.drew (k:=.i64) (m:=n - l) (by intro u hu; simp [Value.cells] at hu; subst hu; rfl) (by omega) (by omega)
  refine ⟨a',_,c',w2,hrun,nnI ?_⟩
  have hb2:Blk w2 b #[.bool true,.slice a l c]:=hb.drew.keep hk hna
  have hna':¬ inA a' b:=fun hin=>by
   rcases hat.in hin with hin | hin
   ·exact hna hin
   ·have:=hb.lt; have:w1.heap.size=w.heap.size:=rfl; omega
  refine stC_at hb2 (by simp) fun w3 hb3 hk3 hsz=>⟨rfl,fun k=>k=b∨inA a' k,⟨a',_,c',hb3,?_,hna',?_,fun k=>Iff.rfl⟩,fun k hk'=>?_,?_⟩
  ·have hs3:=SlO.keep hs hk3 (fun x hx e=>hna' (e ▸ hx))
   have e1:By bs ++ (Builtin.zeroCells (Value.int .u8 0).cells (n - l)).toList=By (grown bs n):=by
    show By bs ++ (Builtin.zeroCells #[.int .u8 0] (n - l)).toList=_
    rw [By_zeros,← By_append,grown,hlen]
   rw [e1] at hs3
   exact hs3
  ·simp [grown]; omega
  ·rcases hk' with rfl | hk'
   ·exact .inl ((hF _).2 (.inl rfl))
   ·rcases hat.in hk' with hin | rfl
    ·exact .inl ((hF _).2 (.inr hin))
    ·exact .inr (Nat.le_refl _)
  ·exact ((Kept.drew F w).trans hk (fun x _ e=>(hF x).2 (.inr e))).trans hk3 (fun x _ e=>(hF x).2 (.inl e))
 ·have hg:grown bs n=bs:=by unfold grown; rw [Nat.sub_eq_zero_of_le (by omega)]; simp
  rw [hg]
  exact ⟨rfl,F,⟨a,l,c,hb,ho,hna,hbl,hF⟩,.same,Kept.refl _ _⟩
theorem finew_ok {w:World} {a:Option Addr} {l c:Nat} {bs:List Int} (h:RdB w a l c bs) (hl:l≤140737488355328) :
 CallR Tryz.prog 21 [.slice a l c] w fun v w'=>(1048576< bs.length∧v=.tuple #[.pointer none,.int .i64 5]∧w'=w)∨
  (bs.length≤1048576∧∃ b F,v=.tuple #[pt b,.int .i64 0]∧FileO F w' b bs∧Kept No w w'∧∀ k,F k→w.heap.size≤k):=by
 have hlen:=h.len
 refine C21 ?_
 unfold L21
 refine condP (fun hgt=>.inl ⟨by omega,rfl,rfl⟩) (fun hle=>?_)
 refine (clone_ok h hl).mono fun v w1 ⟨a',c',hv,ho,hk,hf,_⟩=>⟨a',l,c',hv,?_⟩
 intro w2
 have hlen':bs.length≤1048576:=by omega
 have hk2:Kept No w1 w2:=Kept.alloc _ w1 _
 refine .inr ⟨hlen',w1.heap.size,fun k=>k=w1.heap.size∨inA a' k,rfl,⟨a',l,c',Blk.alloc w1 _ _,?_,?_,hlen',fun k=>Iff.rfl⟩,hk.trans hk2 (fun _ _ h=>h),fun k hk'=>?_⟩
 ·rw [← hlen]; exact ho.keep hk2 (fun _ _ e=>e)
 ·intro hin; have:=SlO.lt ho _ hin; omega
 ·rcases hk' with rfl | hk'
  ·exact hk.size
  ·exact hf k hk'
theorem readAt_ok {F:Nat→Prop} {w:World} {b:Nat} {bs:List Int} (h:FileO F w b bs) (off n:Int) :
 CallR Tryz.prog 368 [pt b,.int .i64 off,.int .i64 n] w fun v w'=>∃ a' c' cs e,v=.tuple #[.slice a' cs.length c',.int .i64 e]∧OB w' a' cs.length c' cs∧Fresh w a'∧Kept No w w'∧
  (okN off=true→okN n=true→e=0∧cs=piece bs off n)∧((okN off && okN n)=false→e=4∧cs=[]):=by
 obtain ⟨a,l,c,hb,ho,hna,hbl,hF⟩:=h
 have hlen:=ho.len
 refine C368 ?_
 unfold L368
 refine condF rfl (nnI ⟨true,hb.at0 rfl,condF rfl ?_⟩)
 intro w1
 have hk1:Kept No w w1:=Kept.alloc _ w _
 have hrd:RdS 1 w1 (some ⟨w.heap.size,0,none⟩) 2 2 (In [off,n]):=(SlO.of_blk (sz:=1) (n:=2) (Blk.alloc w #[.int .i64 off,.int .i64 n] _) rfl).rd
 refine (within_ok hrd (by omega)).mono fun v w2 ⟨hv,hw⟩=>⟨_,hv,?_⟩
 subst hw
 have hall:[off,n].all okN=(okN off && okN n):=by simp
 rw [hall]
 refine condI (fun hno=>?_) (fun hyes=>?_)
 ·have hno':(okN off && okN n)=false:=notT hno
  refine ⟨none,0,[],4,rfl,OB.nil _,Fresh.none _,hk1,fun h1 h2=>?_,fun _=>⟨rfl,rfl⟩⟩
  rw [h1,h2] at hno'; cases hno'
 ·have hyes':(okN off && okN n)=true:=notF hyes
  simp only [Bool.and_eq_true] at hyes'
  have ho1:0≤off∧off≤1048576:=by simpa [okN] using hyes'.1
  have ho2:0≤n∧n≤1048576:=by simpa [okN] using hyes'.2
  have hb1:Blk w1 b _:=hb.keep hk1 (fun e=>e)
  refine nnI ⟨a,l,c,hb1.at rfl,?_⟩
  intro w3
  refine nnI ⟨a,l,c,hb1.at rfl,by simp only [mn_eq]; unfold inI; omega,nnI ⟨a,l,c,hb1.at rfl,?_⟩⟩
  have hlc:l≤c:=ho.rd.2.1
  simp only [mn_eq]
  refine ⟨by omega,by omega,?_⟩
  have ho3:RdB w3 a l c bs:=RdB.keep ho.rd (hk1.trans (Kept.drew No _) (fun _ _ e=>e)) (fun _ _ _ e=>e)
  generalize hi:Int.toNat (min off (l:Int))=i
  generalize hj:Int.toNat (min (min off (l:Int)+n) (l:Int))=j
  have hij:i≤j:=by omega
  have hjl:j≤l:=by omega
  have hcut:RdB w3 (adv a i c 1) (j - i) (c - i) ((bs.take j).drop i):=by
   have:=RdS.cut ho3 i j hij hjl
   unfold RdB; rw [By_drop,By_take]; simpa using this
  refine (clone_ok hcut (by omega)).mono fun v w4 ⟨a',c',hv,ho4,hk,hf,_⟩=>⟨a',_,c',hv,?_⟩
  have hcl:=hcut.len
  refine ⟨a',c',_,0,by rw [hcl],ho4,?_,(hk1.trans (Kept.drew No _) (fun _ _ e=>e)).trans hk (fun _ _ e=>e),fun _ _=>⟨rfl,?_⟩,fun hno=>by have:=notF hyes; rw [this] at hno; cases hno⟩
  ·intro x hx
   have h1:=hf x hx
   have h2:w.heap.size≤w3.heap.size:=(hk1.trans (Kept.drew No _) (fun _ _ e=>e)).size
   omega
  ·unfold piece
   rw [List.drop_take]
   by_cases hol:off≤l
   ·have:i=off.toNat:=by omega
    subst this
    by_cases hol2:off+n≤l
    ·have:j - off.toNat=n.toNat:=by omega
     rw [this]
    ·rw [List.take_of_length_le (by simp; omega),List.take_of_length_le (by simp; omega)]
   ·rw [List.drop_of_length_le (by omega),List.drop_of_length_le (by omega)]; simp
def writeF (bs:List Int) (off:Int) (ds:List Int):Int × List Int:=
 if okN off=false then (4,bs) else if 1048576 - off< (ds.length:Int) then (31,bs) else if ds.length=0 then (0,bs) else (0,lay bs off.toNat ds)
theorem writeAt_ok {F:Nat→Prop} {w:World} {b:Nat} {bs:List Int} (h:FileO F w b bs) (off:Int) {a2:Option Addr} {l2 c2:Nat} {ds:List Int} (hd:RdB w a2 l2 c2 ds) (hl2:l2≤140737488355328) (hap:ds≠[]→∀ k,inA a2 k→¬ F k) :
 CallR Tryz.prog 370 [pt b,.int .i64 off,.slice a2 l2 c2] w fun v w'=>v=.int .i64 (writeF bs off ds).1∧∃ F',FileO F' w' b (writeF bs off ds).2∧Grew F w F'∧Kept F w w':=by
 have hfo:=h
 obtain ⟨a,l,c,hb,ho,hna,hbl,hF⟩:=h
 have hlen2:=hd.len
 refine C370 ?_
 unfold L370
 refine condF rfl (nnI ⟨true,hb.at0 rfl,condF rfl ?_⟩)
 intro w1
 have hk1:Kept No w w1:=Kept.alloc _ w _
 have hrd:RdS 1 w1 (some ⟨w.heap.size,0,none⟩) 1 1 (In [off]):=(SlO.of_blk (sz:=1) (n:=1) (Blk.alloc w #[.int .i64 off] _) rfl).rd
 refine (within_ok hrd (by omega)).mono fun v w2 ⟨hv,hw⟩=>⟨_,hv,?_⟩
 subst hw
 have hall:[off].all okN=okN off:=by simp
 rw [hall]
 have hkF:Kept F w w1:=hk1.mono (fun _ _ e=>e.elim)
 have hsame:FileO F w1 b bs:=hfo.keep hk1 (fun _ _ e=>e)
 have done:∀ e:Int,writeF bs off ds=(e,bs)→(.int .i64 e:Value)=.int .i64 (writeF bs off ds).1∧∃ F',FileO F' w1 b (writeF bs off ds).2∧Grew F w F'∧Kept F w w1:=fun e he=>by
  rw [he]; exact ⟨rfl,F,hsame,.same,hkF⟩
 refine condI (fun hno=>done 4 ?_) (fun hyes=>?_)
 ·have:okN off=false:=notT hno
  simp [writeF,this]
 ·have hyes':okN off=true:=notF hyes
  have ho1:0≤off∧off≤1048576:=by simpa [okN] using hyes'
  refine ⟨by unfold inI; omega,condP (fun hfull=>done 31 ?_) (fun hfit=>condI (fun hz=>done 0 ?_) (fun hnz=>⟨by unfold inI; omega,?_⟩))⟩
  ·have h1:1048576 - off< (ds.length:Int):=by rw [hlen2]; omega
   simp [writeF,hyes',h1]
  ·have hz':l2=0:=by simpa using hz
   have h1:¬ (1048576 - off< (ds.length:Int)):=by rw [hlen2]; omega
   have h2:ds=[]:=List.eq_nil_of_length_eq_zero (by omega)
   have h3:¬ (1048576 - off< 0):=by omega
   subst h2
   simp [writeF,hyes',h3]
  ·have hnz':¬ l2=0:=by simpa using hnz
   have hsum:off+(l2:Int)=((off.toNat+l2:Nat):Int):=by omega
   rw [hsum]
   refine (grow_ok hsame (n:=off.toNat+l2) (by omega)).mono fun v w3 ⟨hv,F3,hf3,hg3,hk3⟩=>⟨hv,?_⟩
   have hf3':=hf3
   obtain ⟨a3,l3,c3,hb3,ho3,hna3,hbl3,hF3⟩:=hf3'
   have hlen3:=ho3.len
   have hgl:(grown bs (off.toNat+l2)).length=max bs.length (off.toNat+l2):=by simp [grown]; omega
   refine nnI ⟨a3,l3,c3,hb3.at rfl,by omega,?_⟩
   have hd3:RdB w3 a2 l2 c2 ds:=(hd.keep hk1 (fun _ _ _ e=>e)).keep hk3 (fun x hx hin hFx=>by
    exact hap (fun e=>by rw [e] at hlen2; simp at hlen2; omega) x hin hFx)
   have hsub:SlO 1 w3 (adv a3 off.toNat c3 1) (l3 - off.toNat) (c3 - off.toNat) (By ((grown bs (off.toNat+l2)).drop off.toNat)):=OB.from ho3 off.toNat (by omega)
   obtain ⟨w4,hrun,hs4,hk4,hsz4,hcur⟩:=run_copy_own (P:=Tryz.prog) (t:=34) (t2:=34) (ty:=3) (by kernel_rfl:slTyB Tryz.prog 34 1 1=true) hsub hd3 (By_one ds)
   refine ⟨_,w4,hrun,?_⟩
   have h1:¬ (1048576 - off< (ds.length:Int)):=by rw [hlen2]; omega
   have hw:writeF bs off ds=(0,lay bs off.toNat ds):=by
    unfold writeF
    rw [if_neg (by rw [hyes']; simp),if_neg h1,if_neg (by omega)]
   rw [hw]
   have hmin:min l2 (l3 - off.toNat)=l2:=by omega
   refine ⟨rfl,F3,⟨a3,l3,c3,hb3.keep hk4 (fun e=>hna3 (inA_adv.1 e)),?_,hna3,?_,hF3⟩,?_,?_⟩
   ·
    rcases ho3.2 with ⟨rfl,rfl,rfl⟩ | ⟨g,o,cur,rfl,hgb,hlc,hcs,htk⟩
    ·exfalso; omega
    ·have hadv:adv (some ⟨g,o,none⟩) off.toNat c3 1=some ⟨g,o+off.toNat,none⟩:=by
      rw [adv_map _ _ _ _ (by omega)]; simp [add_none]
     have hb4:=hcur g (o+off.toNat) cur hadv hgb
     rw [hmin,Nat.mul_one,List.take_of_length_le (by simp; omega)] at hb4
     refine ⟨?_,.inr ⟨g,o,_,rfl,hb4,hlc,?_,?_⟩⟩
     ·rw [By_length,Nat.mul_one,lay,over_length _ _ _ (by rw [hlen2]; omega),hlen2]; omega
     ·simp only [List.size_toArray]
      rw [over_length _ _ _ (by simp; omega)]
      simpa using hcs
     ·unfold lay
      rw [By_over,hlen2,← htk,Nat.mul_one]
      exact over_window _ _ o l3 off.toNat (by simp; omega) (by simp; omega)
   ·rw [lay,over_length _ _ _ (by rw [hlen2]; omega),hlen2]; omega
   ·intro k hk
    rcases hg3 k hk with h | h
    ·exact .inl h
    ·right; have:=hk1.size; omega
   ·refine hkF.trans (hk3.trans (hk4.mono (S':=fun k=>F k∨w1.heap.size≤k) fun x _ e=>hg3 x ((hF3 x).2 (.inr (inA_adv.1 e)))) (fun x hx e=>?_)) (fun _ _ e=>e)
    rcases e with e | e
    ·exact e
    ·omega
def truncF (bs:List Int) (n:Int):Int × List Int:=
 if okN n=false then (4,bs) else (0,(grown bs n.toNat).take n.toNat)
theorem trunc_ok {F:Nat→Prop} {w:World} {b:Nat} {bs:List Int} (h:FileO F w b bs) (n:Int) :
 CallR Tryz.prog 190 [pt b,.int .i64 n] w fun v w'=>v=.int .i64 (truncF bs n).1∧∃ F',FileO F' w' b (truncF bs n).2∧Grew F w F'∧Kept F w w':=by
 have hfo:=h
 obtain ⟨a,l,c,hb,ho,hna,hbl,hF⟩:=h
 refine C190 ?_
 unfold L190
 refine condF rfl (nnI ⟨true,hb.at0 rfl,condF rfl ?_⟩)
 intro w1
 have hk1:Kept No w w1:=Kept.alloc _ w _
 have hrd:RdS 1 w1 (some ⟨w.heap.size,0,none⟩) 1 1 (In [n]):=(SlO.of_blk (sz:=1) (n:=1) (Blk.alloc w #[.int .i64 n] _) rfl).rd
 refine (within_ok hrd (by omega)).mono fun v w2 ⟨hv,hw⟩=>⟨_,hv,?_⟩
 subst hw
 have hall:[n].all okN=okN n:=by simp
 rw [hall]
 have hkF:Kept F w w1:=hk1.mono (fun _ _ e=>e.elim)
 have hsame:FileO F w1 b bs:=hfo.keep hk1 (fun _ _ e=>e)
 refine condI (fun hno=>?_) (fun hyes=>?_)
 ·have:okN n=false:=notT hno
  have ht:truncF bs n=(4,bs):=by simp [truncF,this]
  rw [ht]; exact ⟨rfl,F,hsame,.same,hkF⟩
 ·have hyes':okN n=true:=notF hyes
  have ho1:0≤n∧n≤1048576:=by simpa [okN] using hyes'
  have ht:truncF bs n=(0,(grown bs n.toNat).take n.toNat):=by simp [truncF,hyes']
  rw [ht]
  obtain ⟨m,rfl⟩:∃ m:Nat,n=(m:Int):=⟨n.toNat,by omega⟩
  simp only [Int.toNat_natCast]
  refine (grow_ok hsame (n:=m) (by omega)).mono fun v w3 ⟨hv,F3,hf3,hg3,hk3⟩=>⟨hv,?_⟩
  obtain ⟨a3,l3,c3,hb3,ho3,hna3,hbl3,hF3⟩:=hf3
  have hlen3:=ho3.len
  have hgl:(grown bs m).length=max bs.length m:=by simp [grown]; omega
  have hlc3:l3≤c3:=ho3.rd.2.1
  refine nnI ⟨a3,l3,c3,hb3.at rfl,by omega,by omega,nnI (stC_at hb3 (by simp) fun w4 hb4 hk4 _=>⟨trivial,F3,⟨a3,m,m,hb4,?_,hna3,by simp; omega,hF3⟩,?_,?_⟩)⟩
  ·have:=SlO.to3 ho3 m m (by omega) (Nat.le_refl _) (by omega)
   rw [Nat.mul_one,← By_take] at this
   exact SlO.keep this hk4 (fun x hx e=>hna3 (e ▸ hx))
  ·intro k hk
   rcases hg3 k hk with h | h
   ·exact .inl h
   ·right; have:=hk1.size; omega
  ·refine hkF.trans (hk3.trans (hk4.mono (S':=fun k=>F k∨w1.heap.size≤k) fun x _ e=>hg3 x ((hF3 x).2 (.inl e))) (fun x hx e=>?_)) (fun _ _ e=>e)
   rcases e with e | e
   ·exact e
   ·omega
theorem size_ok {F:Nat→Prop} {w:World} {b:Nat} {bs:List Int} (h:FileO F w b bs) :
 CallR Tryz.prog 238 [pt b] w fun v w'=>v=.int .i64 (bs.length:Int)∧w'=w:=by
 obtain ⟨a,l,c,hb,ho,hna,hbl,hF⟩:=h
 refine C238 ?_
 unfold L238
 exact condF rfl (nnI ⟨a,l,c,hb.at rfl,by rw [ho.len],rfl⟩)
theorem bytes_ok {F:Nat→Prop} {w:World} {b:Nat} {bs:List Int} (h:FileO F w b bs) :
 CallR Tryz.prog 111 [pt b] w fun v w'=>∃ a' c',v=.slice a' bs.length c'∧OB w' a' bs.length c' bs∧Fresh w a'∧Kept No w w':=by
 obtain ⟨a,l,c,hb,ho,hna,hbl,hF⟩:=h
 refine C111 ?_
 unfold L111
 have hlen:=ho.len
 exact condF rfl (nnI ⟨a,l,c,hb.at rfl,(clone_ok ho.rd (by omega)).mono fun v w4 ⟨a',c',hv,ho4,hk,hf,_⟩=>⟨a',_,c',hv,a',c',by rw [hlen],ho4,hf,hk⟩⟩)
theorem Blk.at2 {w:World} {g:Nat} {cur:Array Value} (h:Blk w g cur) {i j:Nat} {v:Value} (hi:cur[i+j]?=some v):w.cell? (((⟨g,0,none⟩:Addr).add i).add j)=some v:=by
 rw [Lw.add_add]; exact h.at hi
theorem stC_at2 {w:World} {g i j:Nat} {cur:Array Value} {v:Value} {K:World→Prop} (h:Blk w g cur) (hi:i+j< cur.size)
 (hk:∀ w',Blk w' g (cur.setIfInBounds (i+j) v)→Kept (·=g) w w'→w'.heap.size=w.heap.size→K w'):stC (((⟨g,0,none⟩:Addr).add i).add j) v w K:=by
 rw [Lw.add_add]; exact stC_at h hi hk
def PipeC (cur:Array Value) (bs:List Int) (e0 e1:Nat):Prop:=
 ∃ fr:Nat,cur.size=4101∧cur[4096]?=some (.int .i64 (fr:Int))∧cur[4097]?=some (.int .i64 (bs.length:Int))∧cur[4098]?=some (.bool true)∧cur[4099]?=some (.int .i64 (e0:Int))∧cur[4100]?=some (.int .i64 (e1:Int))∧
  fr< 4096∧bs.length≤4096∧e0≤1024∧e1≤1024∧∀ (i:Nat) (x:Int),bs[i]?=some x→cur[(fr+i) % 4096]?=some (.int .u8 x)
def PipeO (w:World) (b:Nat) (bs:List Int) (e0 e1:Nat):Prop:=∃ cur,Blk w b cur∧PipeC cur bs e0 e1
theorem PipeO.keep {S:Nat→Prop} {w w':World} {b:Nat} {bs:List Int} {e0 e1:Nat} (h:PipeO w b bs e0 e1) (k:Kept S w w') (hn:¬ S b):PipeO w' b bs e0 e1:=by
 obtain ⟨cur,hb,hc⟩:=h; exact ⟨cur,hb.keep k hn,hc⟩
theorem PipeO.lt {w:World} {b:Nat} {bs:List Int} {e0 e1:Nat} (h:PipeO w b bs e0 e1):b< w.heap.size:=by
 obtain ⟨cur,hb,hc⟩:=h; exact hb.lt
theorem PipeO.len {w:World} {b:Nat} {bs:List Int} {e0 e1:Nat} (h:PipeO w b bs e0 e1):bs.length≤4096:=by
 obtain ⟨cur,hb,fr,_,_,_,_,_,_,_,h,_⟩:=h; exact h
theorem knone_to {w:World} {b:Nat} {bs:List Int} {e0 e1:Nat} (h:PipeO w b bs e0 e1) {Q:Value→World→Prop} (hq:Q (.bool false) w):CallR Tryz.prog 234 [pt b] w Q:=by
 obtain ⟨cur,hb,fr,hsz,h1,h2,h3,h4,h5,h6,h7,h8,h9,h10⟩:=h
 refine C234 ?_
 unfold L234
 exact condF rfl (nnI ⟨true,hb.at h3,hq⟩)
theorem kside_to {w:World} {b:Bool} {Q:Value→World→Prop} (hq:Q (.int .i64 (if b then 1 else 0)) w):CallR Tryz.prog 235 [.bool b] w Q:=by
 refine C235 ?_
 unfold L235
 cases b <;> exact hq
theorem kroom_to {w:World} {b:Nat} {bs:List Int} {e0 e1:Nat} (h:PipeO w b bs e0 e1) {Q:Value→World→Prop} (hq:Q (.int .i64 (4096 - (bs.length:Int))) w):CallR Tryz.prog 377 [pt b] w Q:=by
 obtain ⟨cur,hb,fr,hsz,h1,h2,h3,h4,h5,h6,h7,h8,h9,h10⟩:=h
 refine C377 ?_
 unfold L377
 exact nnI ⟨_,hb.at h2,by unfold inI; omega,hq⟩
def takesP (len:Nat) (n:Int):Int:=if n≤512∧4096 - (len:Int)< n then 0 else min n (4096 - (len:Int))
theorem ktakes_to {w:World} {b:Nat} {bs:List Int} {e0 e1:Nat} (h:PipeO w b bs e0 e1) (n:Int) {Q:Value→World→Prop} (hq:Q (.int .i64 (takesP bs.length n)) w):CallR Tryz.prog 375 [pt b,.int .i64 n] w Q:=by
 refine C375 ?_
 unfold L375
 refine condP (fun h1=>nnI (kroom_to h ⟨_,rfl,condP (fun h2=>?_) (fun h2=>nnI (kroom_to h ⟨_,rfl,?_⟩))⟩)) (fun h1=>nnI (kroom_to h ⟨_,rfl,?_⟩))
 ·have:takesP bs.length n=0:=by unfold takesP; rw [if_pos ⟨h1,h2⟩]
  rw [this] at hq; exact hq
 ·have:takesP bs.length n=min n (4096 - (bs.length:Int)):=by unfold takesP; rw [if_neg (by omega)]
  rw [this] at hq; rw [mn_eq]; exact hq
 ·have:takesP bs.length n=min n (4096 - (bs.length:Int)):=by unfold takesP; rw [if_neg (by omega)]
  rw [this] at hq; rw [mn_eq]; exact hq
theorem tmod4096 {a:Nat}:Int.tmod ((a:Nat):Int) 4096=((a % 4096:Nat):Int):=by
 rw [Int.tmod_eq_emod_of_nonneg (by omega)]; omega
theorem klook_ok {w:World} {b:Nat} {bs:List Int} {e0 e1:Nat} (h:PipeO w b bs e0 e1) {k:Nat} (hk:k≤bs.length) :
 CallR Tryz.prog 373 [pt b,.int .i64 (k:Int)] w fun v w'=>∃ a c,v=.slice a k c∧OB w' a k c (bs.take k)∧Fresh w a∧Kept No w w':=by
 have hbl:=h.len
 have hlt:=h.lt
 refine C373 ?_
 unfold L373
 obtain ⟨w1,hrun,hs1,hk1,hsz1⟩:=run_mk (P:=Tryz.prog) (t:=34) tyB (w:=w) (k:=.i64) (k':=.i64) (n:=k) (m:=k) (Nat.le_refl _) (by omega) (by omega)
 have hs1:OB w1 (some ⟨w.heap.size,0,none⟩) k k (List.replicate k 0):=by
  have e:(Builtin.zeroCells (Value.int .u8 0).cells k).toList=By (List.replicate k 0):=By_zeros k
  rw [e] at hs1; exact hs1
 refine ⟨_,_,_,w1,hrun,?_⟩
 refine ⟨fun vs w'=>∃ i:Nat,vs=[.int .i64 (i:Int)]∧i≤k∧OB w' (some ⟨w.heap.size,0,none⟩) k k (bs.take i ++ List.replicate (k - i) 0)∧Kept No w w',fun vs _=>match vs with | [.int _ i]=>(k - i).toNat | _=>0,
  ⟨0,rfl,Nat.zero_le _,by simpa using hs1,hk1⟩,?_⟩
 intro _ n6 w2 hI
 obtain ⟨i,hvs,hi,ho,hk2⟩:=hI
 simp only [List.cons.injEq,Value.int.injEq,true_and,and_true] at hvs
 subst hvs
 refine condP (fun hlt'=>?_) (fun hge=>?_)
 ·have hik:i< k:=by omega
  intro w3
  have hk3:Kept No w2 w3:=Kept.drew _ _
  have ho3:OB w3 (some ⟨w.heap.size,0,none⟩) k k (bs.take i ++ List.replicate (k - i) 0):=ho
  clear_value w3
  obtain ⟨cur,hb,fr,hsz,h1,h2,h3,h4,h5,h6,h7,h8,h9,h10⟩:=h.keep (hk2.no hk3) (fun e=>e)
  have hmod:Int.tmod ((fr:Int)+(i:Int)) 4096=(((fr+i) % 4096:Nat):Int):=by
   have:(fr:Int)+(i:Int)=((fr+i:Nat):Int):=by omega
   rw [this]; exact tmod4096
  have hib:i< bs.length:=by omega
  have hm:=Nat.mod_lt (fr+i) (show 0< 4096 by decide)
  refine nnI ⟨_,hb.at h1,by unfold inI; omega,by decide,nnI ⟨by rw [hmod]; omega,bs[i],?_,⟨by omega,by omega⟩,nnI ?_⟩⟩
  ·rw [hmod,Int.toNat_natCast]; exact hb.at (h10 i _ (by simp [hib]))
  refine stC_slo (j:=i) ho3 rfl hik fun w4 ho4 hk4 hsz4=>⟨by unfold inI; omega,⟨i+1,rfl,by omega,?_,(hk2.no hk3).fresh hk4 (fun x hx=>by rw [inA_some] at hx; omega)⟩,?_⟩
  ·rw [By_set] at ho4
   have e:(bs.take i ++ List.replicate (k - i) 0).set i bs[i]=bs.take (i+1) ++ List.replicate (k - (i+1)) 0:=by
    refine ext_getD (by simp; omega) fun j hj=>?_
    have htl:(bs.take i).length=i:=by rw [List.length_take]; omega
    have htl1:(bs.take (i+1)).length=i+1:=by rw [List.length_take]; omega
    simp only [List.getD_eq_getElem?_getD]
    by_cases hji:j=i
    ·subst hji
     rw [List.getElem?_set_self (by simp; omega),List.getElem?_append_left (by omega),List.getElem?_take,if_pos (by omega),List.getElem?_eq_getElem hib]
    ·rw [List.getElem?_set_ne (by omega)]
     by_cases hj2:j< i
     ·rw [List.getElem?_append_left (by omega),List.getElem?_append_left (by omega),List.getElem?_take,List.getElem?_take,if_pos hj2,if_pos (by omega)]
     ·rw [List.getElem?_append_right (by omega),List.getElem?_append_right (by omega),List.getElem?_replicate,List.getElem?_replicate,htl,htl1]
      split <;> split <;> rfl
   rw [e] at ho4; exact ho4
  ·show ((k:Int) - ((i:Int)+1)).toNat< ((k:Int) - (i:Int)).toNat
   omega
 ·have:i=k:=by omega
  subst this
  rw [Nat.sub_self] at ho
  exact ⟨_,_,rfl,by simpa using ho,fun x hx=>by rw [inA_some] at hx; omega,hk2⟩
theorem kdrop_ok {w:World} {b:Nat} {bs:List Int} {e0 e1:Nat} (h:PipeO w b bs e0 e1) {k:Nat} (hk:k≤bs.length) :
 CallR Tryz.prog 374 [pt b,.int .i64 (k:Int)] w fun v w'=>v=.tuple #[]∧PipeO w' b (bs.drop k) e0 e1∧Kept (·=b) w w':=by
 obtain ⟨cur,hb,fr,hsz,h1,h2,h3,h4,h5,h6,h7,h8,h9,h10⟩:=h
 refine C374 ?_
 unfold L374
 have hmod:Int.tmod ((fr:Int)+(k:Int)) 4096=(((fr+k) % 4096:Nat):Int):=by
  have:(fr:Int)+(k:Int)=((fr+k:Nat):Int):=by omega
  rw [this]; exact tmod4096
 have hm:=Nat.mod_lt (fr+k) (show 0< 4096 by decide)
 refine nnI ⟨_,hb.at h1,by unfold inI; omega,by decide,nnI (stC_at hb (by omega) fun w1 hb1 hk1 _=>nnI ⟨_,hb1.at (by rw [Array.getElem?_setIfInBounds_ne (by decide)]; exact h2),by unfold inI; omega,nnI (stC_at hb1 (by simp; omega) fun w2 hb2 hk2 _=>⟨rfl,⟨_,hb2,(fr+k) % 4096,?_⟩,hk1.trans hk2 fun _ _ e=>e⟩)⟩)⟩
 rw [hmod]
 refine ⟨by simp [hsz],?_,?_,?_,?_,?_,hm,by simp; omega,h8,h9,fun i x hx=>?_⟩
 ·rw [Array.getElem?_setIfInBounds_ne (by decide),Array.getElem?_setIfInBounds_self_of_lt (by omega)]
 ·rw [Array.getElem?_setIfInBounds_self_of_lt (by simp; omega),List.length_drop]; congr 2; omega
 ·rw [Array.getElem?_setIfInBounds_ne (by decide),Array.getElem?_setIfInBounds_ne (by decide)]; exact h3
 ·rw [Array.getElem?_setIfInBounds_ne (by decide),Array.getElem?_setIfInBounds_ne (by decide)]; exact h4
 ·rw [Array.getElem?_setIfInBounds_ne (by decide),Array.getElem?_setIfInBounds_ne (by decide)]; exact h5
 ·have hm2:=Nat.mod_lt ((fr+k) % 4096+i) (show 0< 4096 by decide)
  rw [Array.getElem?_setIfInBounds_ne (by omega),Array.getElem?_setIfInBounds_ne (by omega)]
  rw [List.getElem?_drop] at hx
  have:=h10 (k+i) x hx
  have e:((fr+k) % 4096+i) % 4096=(fr+(k+i)) % 4096:=by omega
  rw [e]; exact this
theorem kput_ok {w:World} {b:Nat} {bs:List Int} {e0 e1:Nat} (h:PipeO w b bs e0 e1) {a:Option Addr} {l c:Nat} {ds:List Int} (hd:RdB w a l c ds) (hab:ds≠[]→¬ inA a b) (hl:bs.length+l≤4096) :
 CallR Tryz.prog 376 [pt b,.slice a l c] w fun v w'=>v=.tuple #[]∧PipeO w' b (bs ++ ds) e0 e1∧Kept (·=b) w w':=by
 refine C376 ?_
 unfold L376
 have hlen:=hd.len
 refine ⟨fun vs w'=>∃ i:Nat,vs=[.int .i64 (i:Int)]∧i≤l∧PipeO w' b (bs ++ ds.take i) e0 e1∧Kept (·=b) w w',fun vs _=>l - ix vs,⟨0,rfl,Nat.zero_le _,by simpa using h,Kept.refl _ _⟩,?_⟩
 intro _ n5 w1 hI
 obtain ⟨i,hvs,hi,hp,hk⟩:=hI
 simp only [List.cons.injEq,Value.int.injEq,true_and,and_true] at hvs
 subst hvs
 refine condP (fun hlt=>?_) (fun hge=>?_)
 ·have hid:i< ds.length:=by omega
  obtain ⟨q,ha,hg⟩:=(hd.keep hk (fun x _ hx e=>hab (by rintro rfl; simp at hid) (e ▸ hx))).get hid
  subst ha
  refine ⟨⟨by omega,hlt⟩,nnI ⟨_,by rw [Int.toNat_natCast]; exact hg,?_⟩⟩
  intro w2
  have hk2:Kept No w1 w2:=Kept.drew _ _
  have hp2:PipeO w2 b (bs ++ ds.take i) e0 e1:=hp
  clear_value w2
  obtain ⟨cur,hb,fr,hsz,h1,h2,h3,h4,h5,h6,h7,h8,h9,h10⟩:=hp2
  have hL:(bs ++ ds.take i).length=bs.length+i:=by rw [List.length_append,List.length_take]; omega
  rw [hL] at h2
  have hmod:Int.tmod ((fr:Int)+((bs.length+i:Nat):Int)) 4096=(((fr+(bs.length+i)) % 4096:Nat):Int):=by
   have:(fr:Int)+((bs.length+i:Nat):Int)=((fr+(bs.length+i):Nat):Int):=by omega
   rw [this]; exact tmod4096
  have hm:=Nat.mod_lt (fr+(bs.length+i)) (show 0< 4096 by decide)
  refine nnI ⟨_,hb.at h1,nnI ⟨_,hb.at h2,by unfold inI; omega,by decide,nnI ⟨by rw [hmod]; omega,?_⟩⟩⟩
  rw [hmod,Int.toNat_natCast]
  refine stC_at hb (by omega) fun w3 hb3 hk3 _=>nnI ⟨_,hb3.at (by rw [Array.getElem?_setIfInBounds_ne (by omega)]; exact h2),by unfold inI; omega,nnI (stC_at hb3 (by simp; omega) fun w4 hb4 hk4 _=>⟨by unfold inI; omega,⟨i+1,by simp,by omega,⟨_,hb4,fr,?_⟩,((hk.no hk2).trans hk3 fun _ _ e=>e).trans hk4 fun _ _ e=>e⟩,by simp only [ix]; omega⟩)⟩
  have hT:bs ++ ds.take (i+1)=(bs ++ ds.take i) ++ [ds[i]]:=by
   rw [List.take_add_one,List.getElem?_eq_getElem hid,Option.toList_some,List.append_assoc]
  rw [hT]
  refine ⟨by simp [hsz],?_,?_,?_,?_,?_,h6,by rw [List.length_append,hL]; simp; omega,h8,h9,fun j x hx=>?_⟩
  ·rw [Array.getElem?_setIfInBounds_ne (by decide),Array.getElem?_setIfInBounds_ne (by omega)]; exact h1
  ·rw [Array.getElem?_setIfInBounds_self_of_lt (by simp; omega),List.length_append,hL]; congr 2
  ·rw [Array.getElem?_setIfInBounds_ne (by decide),Array.getElem?_setIfInBounds_ne (by omega)]; exact h3
  ·rw [Array.getElem?_setIfInBounds_ne (by decide),Array.getElem?_setIfInBounds_ne (by omega)]; exact h4
  ·rw [Array.getElem?_setIfInBounds_ne (by decide),Array.getElem?_setIfInBounds_ne (by omega)]; exact h5
  ·have hjl:j< bs.length+i+1:=by
    have:=(List.getElem?_eq_some_iff.mp hx).1
    rw [List.length_append,hL] at this; simpa using this
   have hmj:=Nat.mod_lt (fr+j) (show 0< 4096 by decide)
   rw [Array.getElem?_setIfInBounds_ne (by omega)]
   by_cases hj:j=bs.length+i
   ·subst hj
    rw [Array.getElem?_setIfInBounds_self_of_lt (by omega)]
    rw [List.getElem?_append_right (by omega),hL,Nat.sub_self] at hx
    simp at hx; rw [hx]
   ·rw [Array.getElem?_setIfInBounds_ne (by omega)]
    rw [List.getElem?_append_left (by omega)] at hx
    exact h10 j x hx
 ·have:i=l:=by omega
  subst this
  rw [List.take_of_length_le (by omega)] at hp
  exact ⟨rfl,hp,hk⟩
def leaveP (wr:Bool) (e0 e1:Nat):Int × Nat × Nat:=
 if wr then (if e1=0 then (51,e0,e1) else (0,e0,e1 - 1)) else (if e0=0 then (51,e0,e1) else (0,e0 - 1,e1))
def readP (n:Int) (bs:List Int) (e0 e1:Nat):List Int × Int × List Int:=
 if n< 1∨n > 1048576 then ([],4,bs) else if e0=0 then ([],51,bs) else if bs=[]∧e1 > 0 then ([],52,bs) else (bs.take n.toNat,0,bs.drop n.toNat)
def wtk (n:Nat) (most:Int) (len:Nat):Int:=if n > 512 then min (takesP len n) most else takesP len n
def writeP (ds:List Int) (most:Int) (bs:List Int) (e0 e1:Nat):Int × Int × List Int:=
 if ds.length > 1048576 then (0,5,bs) else if most< 1∨most > 1048576 then (0,4,bs) else if e1=0 then (0,51,bs) else if e0=0 then (0,53,bs) else if ds=[] then (0,0,bs) else
  if takesP bs.length ds.length=0 then (0,52,bs) else (wtk ds.length most bs.length,0,bs ++ ds.take (wtk ds.length most bs.length).toNat)
def canRP (bs:List Int) (e0 e1:Nat):Bool:=decide (0< e0∧(0< bs.length∨e1=0))
def canWP (n:Int) (bs:List Int) (e0 e1:Nat):Bool:=decide (0< e1∧n≥1∧n≤1048576∧(e0=0∨takesP bs.length n > 0))
theorem kends_to {w:World} {b:Nat} {bs:List Int} {e0 e1:Nat} (h:PipeO w b bs e0 e1) {Q:Value→World→Prop} (hq:∀ nd,Q (.tuple #[.int .i64 (e0:Int),.int .i64 (e1:Int)]) (w.drewN nd)):CallR Tryz.prog 384 [pt b] w Q:=by
 refine C384 ?_
 unfold L384
 refine knone_to h ⟨false,rfl,condF rfl ?_⟩
 obtain ⟨cur,hb,fr,hsz,h1,h2,h3,h4,h5,h6,h7,h8,h9,h10⟩:=h
 exact nnI ⟨by decide,_,Blk.at2 hb h4,nnI ⟨by decide,_,Blk.at2 hb h5,hq⟩⟩
theorem kcanr_to {w:World} {b:Nat} {bs:List Int} {e0 e1:Nat} (h:PipeO w b bs e0 e1) {Q:Value→World→Prop} (hq:Q (.bool (canRP bs e0 e1)) w):CallR Tryz.prog 255 [pt b] w Q:=by
 refine C255 ?_
 unfold L255
 refine knone_to h ⟨false,rfl,condT rfl ?_⟩
 obtain ⟨cur,hb,fr,hsz,h1,h2,h3,h4,h5,h6,h7,h8,h9,h10⟩:=h
 refine nnI ⟨by decide,_,Blk.at2 hb h4,condP (fun g=>nnI ⟨_,hb.at h2,condP (fun g2=>?_) (fun g2=>nnI ⟨by decide,_,Blk.at2 hb h5,?_⟩)⟩) (fun g=>?_)⟩
 ·have e:canRP bs e0 e1=true:=by unfold canRP; simp only [decide_eq_true_eq]; omega
  rw [e] at hq; exact hq
 ·have e:canRP bs e0 e1=((e1:Int) == 0):=by
   unfold canRP; rw [Bool.eq_iff_iff]; simp only [decide_eq_true_eq,beq_iff_eq]; omega
  rw [e] at hq; exact hq
 ·have e:canRP bs e0 e1=false:=by unfold canRP; simp only [decide_eq_false_iff_not]; omega
  rw [e] at hq; exact hq
theorem kcanw_to {w:World} {b:Nat} {bs:List Int} {e0 e1:Nat} (h:PipeO w b bs e0 e1) (n:Int) {Q:Value→World→Prop} (hq:Q (.bool (canWP n bs e0 e1)) w):CallR Tryz.prog 385 [pt b,.int .i64 n] w Q:=by
 refine C385 ?_
 unfold L385
 refine knone_to h ⟨false,rfl,condT rfl ?_⟩
 have h':=h
 obtain ⟨cur,hb,fr,hsz,h1,h2,h3,h4,h5,h6,h7,h8,h9,h10⟩:=h'
 refine nnI ⟨by decide,_,Blk.at2 hb h5,condP (fun g=>condP (fun g2=>condP (fun g3=>nnI ⟨by decide,_,Blk.at2 hb h4,condI (fun g4=>?_) (fun g4=>ktakes_to h n ⟨_,rfl,?_⟩)⟩) (fun g3=>?_)) (fun g2=>?_)) (fun g=>?_)⟩
 ·simp only [beq_iff_eq] at g4
  have e:canWP n bs e0 e1=true:=by unfold canWP; simp only [decide_eq_true_eq]; omega
  rw [e] at hq; exact hq
 ·simp only [beq_eq_false_iff_ne] at g4
  have e:canWP n bs e0 e1=decide (takesP bs.length n > 0):=by
   unfold canWP; rw [Bool.eq_iff_iff]; simp only [decide_eq_true_eq]; omega
  rw [e] at hq; exact hq
 all_goals
  have e:canWP n bs e0 e1=false:=by unfold canWP; simp only [decide_eq_false_iff_not]; omega
  rw [e] at hq; exact hq
theorem kread_ok {w:World} {b:Nat} {bs:List Int} {e0 e1:Nat} (h:PipeO w b bs e0 e1) (n:Int) :
 CallR Tryz.prog 371 [pt b,.int .i64 n] w fun v w'=>∃ a l c,v=.tuple #[.slice a l c,.int .i64 (readP n bs e0 e1).2.1]∧OB w' a l c (readP n bs e0 e1).1∧Fresh w a∧PipeO w' b (readP n bs e0 e1).2.2 e0 e1∧Kept (·=b) w w':=by
 refine C371 ?_
 unfold L371
 have hbad:∀ {k:Int},readP n bs e0 e1=([],k,bs)→∃ a l c,Value.tuple #[.slice none 0 0,.int .i64 k]=.tuple #[.slice a l c,.int .i64 (readP n bs e0 e1).2.1]∧OB w a l c (readP n bs e0 e1).1∧Fresh w a∧PipeO w b (readP n bs e0 e1).2.2 e0 e1∧Kept (·=b) w w:=by
  intro k e; rw [e]; exact ⟨none,0,0,rfl,OB.nil w,Fresh.none w,h,Kept.refl _ _⟩
 refine knone_to h ⟨false,rfl,condF rfl (condP (fun g=>hbad ?_) fun g=>condP (fun g2=>hbad ?_) fun g2=>?_)⟩
 ·unfold readP; rw [if_pos (by omega)]
 ·unfold readP; rw [if_pos (by omega)]
 have h':=h
 obtain ⟨cur,hb,fr,hsz,h1,h2,h3,h4,h5,h6,h7,h8,h9,h10⟩:=h'
 refine nnI ⟨by decide,_,Blk.at2 hb h4,condI (fun g3=>hbad ?_) (fun g3=>kcanr_to h ⟨_,rfl,condI (fun g4=>hbad ?_) (fun g4=>?_)⟩)⟩
 ·simp only [beq_iff_eq] at g3
  unfold readP; rw [if_neg (by omega),if_pos (by omega)]
 ·simp only [beq_eq_false_iff_ne] at g3
  have g4:=notT g4
  unfold canRP at g4; simp only [decide_eq_false_iff_not] at g4
  have hb0:bs=[]:=List.eq_nil_of_length_eq_zero (by omega)
  unfold readP; rw [if_neg (by omega),if_neg (by omega),if_pos ⟨hb0,by omega⟩]
 ·simp only [beq_eq_false_iff_ne] at g3
  have g4:=notF g4
  unfold canRP at g4; simp only [decide_eq_true_eq] at g4
  have e:readP n bs e0 e1=(bs.take n.toNat,0,bs.drop n.toNat):=by
   unfold readP; rw [if_neg (by omega),if_neg (by omega),if_neg]
   rintro ⟨rfl,_⟩; simp at g4; omega
  rw [e]
  have hmn:mn n (bs.length:Int)=((min n.toNat bs.length:Nat):Int):=by rw [mn_eq]; omega
  refine nnI ⟨_,hb.at h2,nnI ?_⟩
  rw [hmn]
  refine (klook_ok h (Nat.min_le_right _ _)).mono fun v w3 ⟨a,c,hv,ho,hf,hk⟩=>⟨a,_,c,hv,nnI ((kdrop_ok (h.keep hk (fun e=>e)) (Nat.min_le_right _ _)).mono fun v w4 ⟨hv4,hp4,hk4⟩=>⟨hv4,a,_,c,rfl,?_,hf,?_,(hk.mono fun _ _ e=>e.elim).trans hk4 fun _ _ e=>e⟩)⟩
  ·have:=ho.keep hk4 (fun x hx e=>by have:=hf x hx; have:=h.lt; omega)
   rw [show bs.take (min n.toNat bs.length)=bs.take n.toNat by rw [List.take_eq_take_iff]; omega] at this
   exact this
  ·have e2:bs.drop (min n.toNat bs.length)=bs.drop n.toNat:=by
    rcases Nat.le_total n.toNat bs.length with hle | hle
    ·rw [Nat.min_eq_left hle]
    ·rw [Nat.min_eq_right hle,List.drop_length,List.drop_of_length_le hle]
   rw [e2] at hp4; exact hp4
theorem PipeC.ends {cur:Array Value} {bs:List Int} {e0 e1:Nat} (h:PipeC cur bs e0 e1) {n:Nat} (hn:n≤1024) :
 PipeC (cur.setIfInBounds 4099 (.int .i64 (n:Int))) bs n e1∧PipeC (cur.setIfInBounds 4100 (.int .i64 (n:Int))) bs e0 n:=by
 obtain ⟨fr,hsz,h1,h2,h3,h4,h5,h6,h7,h8,h9,h10⟩:=h
 refine ⟨⟨fr,by simp [hsz],?_,?_,?_,?_,?_,h6,h7,hn,h9,fun i x hx=>?_⟩,⟨fr,by simp [hsz],?_,?_,?_,?_,?_,h6,h7,h8,hn,fun i x hx=>?_⟩⟩
 ·rw [Array.getElem?_setIfInBounds_ne (by decide)]; exact h1
 ·rw [Array.getElem?_setIfInBounds_ne (by decide)]; exact h2
 ·rw [Array.getElem?_setIfInBounds_ne (by decide)]; exact h3
 ·rw [Array.getElem?_setIfInBounds_self_of_lt (by omega)]
 ·rw [Array.getElem?_setIfInBounds_ne (by decide)]; exact h5
 ·have:=Nat.mod_lt (fr+i) (show 0< 4096 by decide)
  rw [Array.getElem?_setIfInBounds_ne (by omega)]; exact h10 i x hx
 ·rw [Array.getElem?_setIfInBounds_ne (by decide)]; exact h1
 ·rw [Array.getElem?_setIfInBounds_ne (by decide)]; exact h2
 ·rw [Array.getElem?_setIfInBounds_ne (by decide)]; exact h3
 ·rw [Array.getElem?_setIfInBounds_ne (by decide)]; exact h4
 ·rw [Array.getElem?_setIfInBounds_self_of_lt (by omega)]
 ·have:=Nat.mod_lt (fr+i) (show 0< 4096 by decide)
  rw [Array.getElem?_setIfInBounds_ne (by omega)]; exact h10 i x hx
theorem kleave_ok {w:World} {b:Nat} {bs:List Int} {e0 e1:Nat} (h:PipeO w b bs e0 e1) (wr:Bool) :
 CallR Tryz.prog 383 [pt b,.bool wr] w fun v w'=>v=.int .i64 (leaveP wr e0 e1).1∧PipeO w' b bs (leaveP wr e0 e1).2.1 (leaveP wr e0 e1).2.2∧Kept (·=b) w w':=by
 refine C383 ?_
 unfold L383
 refine knone_to h ⟨false,rfl,condF rfl ?_⟩
 intro w2
 have hk2:Kept (·=b) w w2:=Kept.drew _ _
 have hp:PipeO w2 b bs e0 e1:=h
 clear_value w2
 obtain ⟨cur,hb,hc⟩:=hp
 have hc':=hc
 obtain ⟨fr,hsz,h1,h2,h3,h4,h5,h6,h7,h8,h9,h10⟩:=hc'
 cases wr
 ·refine nnI (kside_to ⟨_,rfl,by decide,(e0:Int),Blk.at2 hb h4,condI (fun g=>?_) (fun g=>?_)⟩)
  ·simp only [beq_iff_eq] at g
   have e:leaveP false e0 e1=(51,e0,e1):=by unfold leaveP; rw [if_neg (by decide),if_pos (by omega)]
   rw [e]; exact ⟨rfl,⟨cur,hb,hc⟩,hk2⟩
  ·simp only [beq_eq_false_iff_ne] at g
   have e:leaveP false e0 e1=(0,e0 - 1,e1):=by unfold leaveP; rw [if_neg (by decide),if_neg (by omega)]
   rw [e]
   have e2:((e0:Int) - 1)=((e0 - 1:Nat):Int):=by omega
   intro w4
   have hk4:Kept (·=b) w w4:=hk2.trans (Kept.drew (·=b) _) fun _ _ e=>e
   have hb4:Blk w4 b cur:=hb
   clear_value w4
   refine nnI (nnI (kside_to ⟨_,rfl,by decide,(e0:Int),Blk.at2 hb4 h4,by unfold inI; omega,by decide,stC_at2 hb4 (by rw [hsz]; decide) fun w5 hb5 hk5 _=>⟨rfl,⟨_,hb5,by rw [e2]; exact (hc.ends (n:=e0 - 1) (by omega)).1⟩,hk4.trans hk5 fun _ _ e=>e⟩⟩))
 ·refine nnI (kside_to ⟨_,rfl,by decide,(e1:Int),Blk.at2 hb h5,condI (fun g=>?_) (fun g=>?_)⟩)
  ·simp only [beq_iff_eq] at g
   have e:leaveP true e0 e1=(51,e0,e1):=by unfold leaveP; rw [if_pos rfl,if_pos (by omega)]
   rw [e]; exact ⟨rfl,⟨cur,hb,hc⟩,hk2⟩
  ·simp only [beq_eq_false_iff_ne] at g
   have e:leaveP true e0 e1=(0,e0,e1 - 1):=by unfold leaveP; rw [if_pos rfl,if_neg (by omega)]
   rw [e]
   have e2:((e1:Int) - 1)=((e1 - 1:Nat):Int):=by omega
   intro w4
   have hk4:Kept (·=b) w w4:=hk2.trans (Kept.drew (·=b) _) fun _ _ e=>e
   have hb4:Blk w4 b cur:=hb
   clear_value w4
   refine nnI (nnI (kside_to ⟨_,rfl,by decide,(e1:Int),Blk.at2 hb4 h5,by unfold inI; omega,by decide,stC_at2 hb4 (by rw [hsz]; decide) fun w5 hb5 hk5 _=>⟨rfl,⟨_,hb5,by rw [e2]; exact (hc.ends (n:=e1 - 1) (by omega)).2⟩,hk4.trans hk5 fun _ _ e=>e⟩⟩))
theorem kwrite_ok {w:World} {b:Nat} {bs:List Int} {e0 e1:Nat} (h:PipeO w b bs e0 e1) {a:Option Addr} {l c:Nat} {ds:List Int} (hd:RdB w a l c ds) (hab:ds≠[]→¬ inA a b) (hcl:l≤c) (most:Int) :
 CallR Tryz.prog 372 [pt b,.slice a l c,.int .i64 most] w fun v w'=>v=.tuple #[.int .i64 (writeP ds most bs e0 e1).1,.int .i64 (writeP ds most bs e0 e1).2.1]∧PipeO w' b (writeP ds most bs e0 e1).2.2 e0 e1∧Kept (·=b) w w':=by
 refine C372 ?_
 unfold L372
 have hlen:=hd.len
 have hbl:=h.len
 have hbad:∀ {k:Int},writeP ds most bs e0 e1=(0,k,bs)→Value.tuple #[.int .i64 0,.int .i64 k]=.tuple #[.int .i64 (writeP ds most bs e0 e1).1,.int .i64 (writeP ds most bs e0 e1).2.1]∧PipeO w b (writeP ds most bs e0 e1).2.2 e0 e1∧Kept (·=b) w w:=by
  intro k e; rw [e]; exact ⟨rfl,h,Kept.refl _ _⟩
 refine knone_to h ⟨false,rfl,condF rfl (condP (fun g=>hbad ?_) fun g=>condP (fun g2=>hbad ?_) fun g2=>condP (fun g3=>hbad ?_) fun g3=>?_)⟩
 ·unfold writeP; rw [if_pos (by omega)]
 ·unfold writeP; rw [if_neg (by omega),if_pos (by omega)]
 ·unfold writeP; rw [if_neg (by omega),if_pos (by omega)]
 have h':=h
 obtain ⟨cur,hb,fr,hsz,h1,h2,h3,h4,h5,h6,h7,h8,h9,h10⟩:=h'
 refine nnI ⟨by decide,_,Blk.at2 hb h5,condI (fun g4=>hbad ?_) (fun g4=>nnI ⟨by decide,_,Blk.at2 hb h4,condI (fun g5=>hbad ?_) (fun g5=>condI (fun g6=>hbad ?_) (fun g6=>ktakes_to h _ ⟨_,rfl,condI (fun g7=>hbad ?_) (fun g7=>?_)⟩))⟩)⟩
 ·simp only [beq_iff_eq] at g4
  unfold writeP; rw [if_neg (by omega),if_neg (by omega),if_pos (by omega)]
 all_goals simp only [beq_eq_false_iff_ne] at g4
 ·simp only [beq_iff_eq] at g5
  unfold writeP; rw [if_neg (by omega),if_neg (by omega),if_neg (by omega),if_pos (by omega)]
 all_goals simp only [beq_eq_false_iff_ne] at g5
 ·simp only [beq_iff_eq] at g6
  have:ds=[]:=List.eq_nil_of_length_eq_zero (by omega)
  unfold writeP; rw [if_neg (by omega),if_neg (by omega),if_neg (by omega),if_neg (by omega),if_pos this]
 all_goals simp only [beq_eq_false_iff_ne] at g6
 all_goals have hne:ds≠[]:=by rintro rfl; simp at hlen; omega
 ·simp only [beq_iff_eq] at g7
  unfold writeP; rw [if_neg (by omega),if_neg (by omega),if_neg (by omega),if_neg (by omega),if_neg hne,if_pos (by rw [hlen]; exact g7)]
 simp only [beq_eq_false_iff_ne] at g7
 have e:writeP ds most bs e0 e1=(wtk l most bs.length,0,bs ++ ds.take (wtk l most bs.length).toNat):=by
  unfold writeP; rw [if_neg (by omega),if_neg (by omega),if_neg (by omega),if_neg (by omega),if_neg hne,if_neg (by rw [hlen]; exact g7),hlen]
 rw [e]
 have ht0:0≤takesP bs.length l∧takesP bs.length l≤l∧(bs.length:Int)+takesP bs.length l≤4096:=by unfold takesP; split <;> omega
 have hfin:∀ {k:Int},k=wtk l most bs.length→0≤k→k≤l→(bs.length:Int)+k≤4096→(0≤k∧k≤(c:Int))∧CallR Tryz.prog 376 [pt b,.slice a k.toNat c] w.drew fun r13 w4=>r13=.tuple #[]∧(Value.tuple #[.int .i64 k,.int .i64 0]=.tuple #[.int .i64 (wtk l most bs.length),.int .i64 0]∧PipeO w4 b (bs ++ ds.take (wtk l most bs.length).toNat) e0 e1∧Kept (·=b) w w4):=by
  intro k hk hk0 hkl hkr
  subst hk
  refine ⟨⟨hk0,by omega⟩,?_⟩
  have hp:PipeO w.drew b bs e0 e1:=h
  have hd':RdB w.drew a (wtk l most bs.length).toNat c (ds.take (wtk l most bs.length).toNat):=RdB.to (w:=w.drew) (a:=a) (l:=l) (c:=c) (bs:=ds) (RdS.drew hd) (wtk l most bs.length).toNat (by omega)
  refine (kput_ok hp hd' (fun _=>hab hne) (by omega)).mono fun v w' ⟨hv,hp',hk'⟩=>⟨hv,rfl,hp',(Kept.drew (·=b) w).trans hk' fun _ _ e=>e⟩
 refine condP (fun g8=>nnI (hfin ?_ ?_ ?_ ?_)) (fun g8=>nnI (hfin ?_ ?_ ?_ ?_))
 ·unfold wtk; rw [if_pos (by omega),mn_eq]
 ·rw [mn_eq]; omega
 ·rw [mn_eq]; omega
 ·rw [mn_eq]; omega
 ·unfold wtk; rw [if_neg (by omega)]
 ·omega
 ·omega
 ·omega
end Go.Proofs.YteojolihgijdhaaGreatDoor
