/- Part 16 of 21 of the proof of TopFlushed. Conditions: the theorem's: none. -/
import Derived.Test.YteojolihgijdhaaGreatDoorKTopFlushed8
import Derived.Test.YteojolihgijdhaaGreatDoorKTopFlushed15
set_option linter.unusedVariables false
set_option maxRecDepth 512
namespace Go.Proofs.YteojolihgijdhaaGreatDoor
open Go.Lw
theorem yieldMono {P:Program} {l:Nat} {x:List Value} {W:World} {R R':Bool→World→Prop} (h:YieldR P l x W R) (hr:∀ b W',R b W'→R' b W'):YieldR P l x W R':=by
 obtain ⟨fn,tmps,asg,bd,h1,h2⟩:=h
 exact ⟨fn,tmps,asg,bd,h1,RoundIn.mono h2 fun e W' ⟨b,e1,h⟩=>⟨b,e1,hr b W' h⟩⟩
def TabC (cur:Array Value) (gk:Nat) (sl:List (Int × Bool)):Prop:=
 cur.size=129∧sl.length=64∧cur[0]?=some (pd gk)∧∀ i,(h:i< sl.length)→cur[1+i * 2]?=some (.int .i64 sl[i].1)∧cur[1+i * 2+1]?=some (.bool sl[i].2)
def TabO (w:World) (t gk:Nat) (sl:List (Int × Bool)):Prop:=∃ cur,Blk w t cur∧TabC cur gk sl
theorem TabO.keep {w w':World} {t gk:Nat} {sl:List (Int × Bool)} (h:TabO w t gk sl) {S:Nat→Prop} (k:Kept S w w') (hn:¬ S t):TabO w' t gk sl:=by
 obtain ⟨cur,hb,hc⟩:=h; exact ⟨cur,hb.keep k hn,hc⟩
theorem TabO.lt {w:World} {t gk:Nat} {sl:List (Int × Bool)} (h:TabO w t gk sl):t< w.heap.size:=by
 obtain ⟨cur,hb,hc⟩:=h; exact hb.lt
theorem TabO.len {w:World} {t gk:Nat} {sl:List (Int × Bool)} (h:TabO w t gk sl):sl.length=64:=by
 obtain ⟨cur,hb,hc⟩:=h; exact hc.2.1
theorem TabO.at0 {w:World} {t gk:Nat} {sl:List (Int × Bool)} (h:TabO w t gk sl):w.cell? ⟨t,0,none⟩=some (pd gk):=by
 obtain ⟨cur,hb,hc⟩:=h; exact hb.at0 hc.2.2.1
theorem tadd (t i:Nat):((⟨t,0,none⟩:Addr).add 1).add (i * 2)=⟨t,1+i * 2,none⟩:=by rw [Lw.add_add,add_none,Nat.zero_add]
theorem tadd1 (t i:Nat):(((⟨t,0,none⟩:Addr).add 1).add (i * 2)).add 1=⟨t,1+i * 2+1,none⟩:=by rw [tadd,add_none]
theorem TabO.desc {w:World} {t gk:Nat} {sl:List (Int × Bool)} (h:TabO w t gk sl) {i:Nat} (hi:i< sl.length):w.cell? (((⟨t,0,none⟩:Addr).add 1).add (i * 2))=some (.int .i64 sl[i].1):=by
 obtain ⟨cur,hb,hc⟩:=h
 rw [tadd,hb.cell]; exact (hc.2.2.2 i hi).1
theorem TabO.stD {w:World} {t gk:Nat} {sl:List (Int × Bool)} (h:TabO w t gk sl) {i:Nat} (hi:i< sl.length) {d:Int} {K:World→Prop} (hk:∀ w',TabO w' t gk (sl.set i (d,sl[i].2))→Kept (·=t) w w'→w'.heap.size=w.heap.size→K w') :
 stC (((⟨t,0,none⟩:Addr).add 1).add (i * 2)) (.int .i64 d) w K:=by
 obtain ⟨cur,hb,h1,h2,h3,h4⟩:=h
 rw [tadd]
 refine stC_blk hb (by omega) fun w' hb' hk' hs'=>hk w' ⟨_,hb',by simpa using h1,by simpa using h2,?_,fun j hj=>?_⟩ hk' hs'
 ·rw [Array.getElem?_setIfInBounds_ne (by omega)]; exact h3
 ·rw [List.length_set] at hj
  obtain ⟨g1,g2⟩:=h4 j hj
  rw [List.getElem_set]
  by_cases e:i=j
  ·subst e
   rw [if_pos rfl,Array.getElem?_setIfInBounds_self_of_lt (by omega),Array.getElem?_setIfInBounds_ne (by omega)]
   exact ⟨rfl,g2⟩
  ·rw [if_neg e,Array.getElem?_setIfInBounds_ne (by omega),Array.getElem?_setIfInBounds_ne (by omega)]
   exact ⟨g1,g2⟩
theorem TabO.stM {w:World} {t gk:Nat} {sl:List (Int × Bool)} (h:TabO w t gk sl) {i:Nat} (hi:i< sl.length) {m:Bool} {K:World→Prop} (hk:∀ w',TabO w' t gk (sl.set i (sl[i].1,m))→Kept (·=t) w w'→w'.heap.size=w.heap.size→K w') :
 stC ((((⟨t,0,none⟩:Addr).add 1).add (i * 2)).add 1) (.bool m) w K:=by
 obtain ⟨cur,hb,h1,h2,h3,h4⟩:=h
 rw [tadd1]
 refine stC_blk hb (by omega) fun w' hb' hk' hs'=>hk w' ⟨_,hb',by simpa using h1,by simpa using h2,?_,fun j hj=>?_⟩ hk' hs'
 ·rw [Array.getElem?_setIfInBounds_ne (by omega)]; exact h3
 ·rw [List.length_set] at hj
  obtain ⟨g1,g2⟩:=h4 j hj
  rw [List.getElem_set]
  by_cases e:i=j
  ·subst e
   rw [if_pos rfl,Array.getElem?_setIfInBounds_ne (by omega),Array.getElem?_setIfInBounds_self_of_lt (by omega)]
   exact ⟨g1,rfl⟩
  ·rw [if_neg e,Array.getElem?_setIfInBounds_ne (by omega),Array.getElem?_setIfInBounds_ne (by omega)]
   exact ⟨g1,g2⟩
theorem TabO.st {w:World} {t gk:Nat} {sl:List (Int × Bool)} (h:TabO w t gk sl) {i:Nat} (hi:i< sl.length) {d:Int} {m:Bool} {K:World→Prop} (hk:∀ w',TabO w' t gk (sl.set i (d,m))→Kept (·=t) w w'→w'.heap.size=w.heap.size→K w') :
 stC (((⟨t,0,none⟩:Addr).add 1).add (i * 2)) (.int .i64 d) w fun w1=>stC ((((⟨t,0,none⟩:Addr).add 1).add (i * 2)).add 1) (.bool m) w1 K:=
 h.stD hi fun w1 h1 hk1 hs1=>h1.stM (by rw [List.length_set]; exact hi) fun w2 h2 hk2 hs2=>hk w2 (by
  rw [List.set_set] at h2
  simpa using h2) (hk1.trans hk2 fun _ _ e=>e) (by omega)
theorem TabO.all {w:World} {t gk:Nat} {sl:List (Int × Bool)} (h:TabO w t gk sl):∃ vs:List Value,vs.length=128∧(∀ i v,vs[i]?=some v→w.cell? (((⟨t,0,none⟩:Addr).add 1).add i)=some v)∧
 ∀ i,(hi:i< sl.length)→List.take 2 (List.drop (i * 2) (Array.toList vs.toArray))=[.int .i64 sl[i].1,.bool sl[i].2]:=by
 obtain ⟨cur,hb,h1,h2,h3,h4⟩:=h
 refine ⟨cur.toList.drop 1,by rw [List.length_drop,Array.length_toList,h1],fun i v hv=>?_,fun i hi=>?_⟩
 ·rw [Lw.add_add,add_none,Nat.zero_add,hb.cell]
  rw [List.getElem?_drop] at hv
  simpa using hv
 ·obtain ⟨g1,g2⟩:=h4 i hi
  apply List.ext_getElem?
  intro j
  rw [List.getElem?_take]
  match j with
  | 0=>rw [if_pos (by omega)]; simpa [Nat.add_comm] using g1
  | 1=>rw [if_pos (by omega)]; simpa [Nat.add_comm,Nat.add_left_comm,Nat.add_assoc] using g2
  | j+2=>rw [if_neg (by omega)]; simp
def freeL (sl:List (Int × Bool)) (i:Nat):Nat→List Nat
 | 0=>[]
 | n+1=>if (sl.getD i (0,false)).1=0 then i :: freeL sl (i+1) n else freeL sl (i+1) n
def freeIx (sl:List (Int × Bool)):List Nat:=freeL sl 0 64
theorem freeL_lt (sl:List (Int × Bool)):∀ (n i:Nat),∀ x ∈ freeL sl i n,i≤x∧x< i+n
 | 0,i,x,hx=>by cases hx
 | n+1,i,x,hx=>by
  unfold freeL at hx
  split at hx
  ·rcases List.mem_cons.1 hx with rfl | hx
   ·omega
   ·have:=freeL_lt sl n (i+1) x hx; omega
  ·have:=freeL_lt sl n (i+1) x hx; omega
def xsF (sl:List (Int × Bool)):List (List Value):=(freeIx sl).map fun (i:Nat)=>([Value.int .i64 (i:Int)]:List Value)
theorem free_iter {w:World} {g t gk:Nat} {sl:List (Int × Bool)} (hb:Blk w g #[pd t]) (h:TabO w t gk sl) :
 IterOK Tryz.prog 225 [.pointer (some ⟨g,0,none⟩)] (xsF sl) (fun _=>False) w:=by
 intro l' J Jx W hW hJ hJx hy h0
 refine C225 ?_
 unfold L225
 have hbW:=hb.keep hW (fun e=>e)
 have hlen:=h.len
 obtain ⟨vs,hv1,hv2,hv3⟩:=(h.keep hW (fun e=>e)).all
 refine nnI ⟨_,(hbW.cell 0).trans rfl,nnI ⟨vs,hv1,hv2,fun vs w'=>∃ (i:Nat) (pre:List Nat),vs=[.int .i64 (i:Int)]∧i≤64∧freeIx sl=pre ++ freeL sl i (64 - i)∧J pre.length w',
  fun vs _=>64 - ix vs,⟨0,[],rfl,by omega,rfl,h0⟩,?_⟩⟩
 rintro _ n9 w1 ⟨i,pre,hvs,hi,hpre,hj⟩
 simp only [List.cons.injEq,Value.int.injEq,true_and,and_true] at hvs
 subst hvs
 refine condP (fun hlt=>?_) (fun hge=>?_)
 ·have hil:i< sl.length:=by omega
  obtain ⟨k,hk⟩:∃ k,64 - i=k+1:=⟨63 - i,by omega⟩
  have hk':64 - (i+1)=k:=by omega
  rw [hk] at hpre
  have hget:sl.getD i (0,false)=sl[i]:=by rw [List.getD_eq_getElem?_getD,List.getElem?_eq_getElem hil]; rfl
  refine ⟨⟨by omega,by omega⟩,sl[i].1,sl[i].2,by rw [Int.toNat_natCast]; exact hv3 i hil,?_⟩
  refine newPair fun w4 hb4 hk4 hz4=>⟨_,(hb4.cell 0).trans rfl,?_⟩
  have hj4:=hJ _ _ _ hj hk4
  refine condI (fun hz=>?_) (fun hz=>?_)
  ·have hz:sl[i].1=0:=by simpa using hz
   have hf:freeL sl i (k+1)=i :: freeL sl (i+1) k:=by
    show (if (sl.getD i (0,false)).1=0 then _ else _)=_
    rw [hget,if_pos hz]
   rw [hf] at hpre
   refine ⟨l',rfl,?_⟩
   have hx:(xsF sl)[pre.length]?=some [.int .i64 (i:Int)]:=by
    unfold xsF
    rw [List.getElem?_map,hpre,List.getElem?_append_right (Nat.le_refl _),Nat.sub_self]
    rfl
   refine yieldMono (hy pre.length _ w4 hx hj4) fun b B hB=>?_
   cases b
   ·refine .inr ⟨pre.length,?_,hB⟩
    unfold xsF
    rw [List.length_map,hpre,List.length_append,List.length_cons]
    omega
   ·obtain ⟨hB1,hB2⟩:=hB
    refine condFa2 ⟨⟨by omega,by omega⟩,⟨i+1,pre ++ [i],rfl,by omega,by rw [hpre,hk',List.append_assoc]; rfl,by rw [List.length_append]; exact hB1⟩,?_⟩
    simp only [ix]; omega
  ·have hz:¬ sl[i].1=0:=by simpa using hz
   have hf:freeL sl i (k+1)=freeL sl (i+1) k:=by
    show (if (sl.getD i (0,false)).1=0 then _ else _)=_
    rw [hget,if_neg hz]
   rw [hf] at hpre
   refine ⟨⟨by omega,by omega⟩,⟨i+1,pre,rfl,by omega,by rw [hpre,hk'],hj4⟩,?_⟩
   simp only [ix]; omega
 ·have:64 - i=0:=by omega
  rw [this] at hpre
  have hpre:freeIx sl=pre:=by rw [hpre]; exact List.append_nil _
  exact .inl (by unfold xsF; rw [List.length_map,hpre]; exact hj)
theorem tnone_to {w:World} {t gk:Nat} {sl:List (Int × Bool)} (h:TabO w t gk sl) {Q:Value→World→Prop} (hq:Q (.bool false) w):CallR Tryz.prog 132 [pd t] w Q:=by
 refine C132 ?_
 unfold L132
 exact condFa2 (nnI ⟨_,h.at0,hq⟩)
theorem some_okT {w:World} {t gk:Nat} {sl:List (Int × Bool)} (h:TabO w t gk sl) {k:Nat} (hk0:1≤k) (hk1:k≤64) :
 CallR Tryz.prog 133 [pd t,.int .i64 (k:Int)] w fun v w'=>∃ a l c,v=.slice a l c∧Kept No w w'∧((freeIx sl).length< k∧a=none∨k≤(freeIx sl).length∧a≠none∧l=k∧SlO 1 w' a l c (In (((freeIx sl).take k).map fun (i:Nat)=>(i:Int)))∧Fresh w a):=by
 refine C133 ?_
 unfold L133
 intro w1 w2 w3
 have hb1:Blk w1 w.heap.size #[.int .i64 (k:Int)]:=Blk.alloc _ _ _
 have hk1':Kept No w w1:=Kept.alloc _ _ _
 have hs1:w1.heap.size=w.heap.size+1:=by simp [w1]
 clear_value w1
 have hb2:Blk w2 w1.heap.size #[.slice none 0 0]:=Blk.alloc _ _ _
 have hk2:Kept No w1 w2:=Kept.alloc _ _ _
 have hs2:w2.heap.size=w1.heap.size+1:=by simp [w2]
 clear_value w2
 have hb3:Blk w3 w2.heap.size #[.slice none 0 0]:=Blk.alloc _ _ _
 have hk3:Kept No w2 w3:=Kept.alloc _ _ _
 have hs3:w3.heap.size=w2.heap.size+1:=by simp [w3]
 clear_value w3
 have k3:=(hk1'.no hk2).no hk3
 refine C187 ?_
 unfold L187
 intro w4
 have hb4:Blk w4 w3.heap.size #[pd t]:=Blk.alloc _ _ _
 have hk4:Kept No w3 w4:=Kept.alloc _ _ _
 have hs4:w4.heap.size=w3.heap.size+1:=by simp [w4]
 clear_value w4
 have k4:=k3.no hk4
 have hb14:=((hb1.keep hk2 fun e=>e).keep hk3 fun e=>e).keep hk4 fun e=>e
 have hb24:=(hb2.keep hk3 fun e=>e).keep hk4 fun e=>e
 have hb34:=hb3.keep hk4 fun e=>e
 have hxl:(xsF sl).length=(freeIx sl).length:=by unfold xsF; rw [List.length_map]
 refine ⟨_,rfl,225,_,xsF sl,fun _=>False,fun z=>z≠w4.heap.size∧z≠w4.heap.size+1,
  fun i W=>∃ a c,i< k∧Blk W w2.heap.size #[.slice a i c]∧SlO 1 W a i c (In (((freeIx sl).take i).map fun (i:Nat)=>(i:Int)))∧Blk W w.heap.size #[.int .i64 (k:Int)]∧Blk W w1.heap.size #[.slice none 0 0]∧Kept No w W∧(∀ b,inA a b→w4.heap.size+2≤b),
  fun i W=>∃ a c,k≤(freeIx sl).length∧a≠none∧Blk W w1.heap.size #[.slice a k c]∧SlO 1 W a k c (In (((freeIx sl).take k).map fun (i:Nat)=>(i:Int)))∧Kept No w W∧(∀ b,inA a b→w4.heap.size+2≤b),
  rfl,by kernel_rfl,free_iter hb4 (h.keep k4 fun e=>e),fun z hz=>hz.elim,fun z hz=>⟨fun e=>e,hz⟩,?_,?_,?_,?_,?_,?_⟩
 ·rintro i A B ⟨a,c,h0,h1,h2,h3,h4,h5,h6⟩ hkk
  exact ⟨a,c,h0,h1.keep hkk (by omega),h2.keep hkk (fun b hb e=>by have:=h6 b hb; omega),h3.keep hkk (by omega),h4.keep hkk (by omega),h5.fresh hkk (fun x e=>by omega),h6⟩
 ·rintro i A B ⟨a,c,h0,h1,h2,h3,h5,h6⟩ hkk
  exact ⟨a,c,h0,h1,h2.keep hkk (by omega),h3.keep hkk (fun b hb e=>by have:=h6 b hb; omega),h5.fresh hkk (fun x e=>by omega),h6⟩
 ·exact ⟨none,0,by omega,hb34,SlO.nil 1 _,hb14,hb24,k4,fun b hb=>absurd hb (inA_none b)⟩
 ·rintro i x w5 hx ⟨a,c,h0,h1,h2,h3,h4,h5,h6⟩ hz5
  have hil:i< (freeIx sl).length:=by have:=(List.getElem?_eq_some_iff.1 hx).1; omega
  have hxe:x=[.int .i64 ((freeIx sl)[i]:Int)]:=by
   unfold xsF at hx
   rw [List.getElem?_map,List.getElem?_eq_getElem hil] at hx
   exact (Option.some.inj hx).symm
  subst hxe
  refine ⟨rfl,_,rfl,rfl,fun w6 hk6=>?_⟩
  have h1':=h1.keep hk6 (by omega)
  have h2':=h2.keep hk6 (fun b hb e=>by have:=h6 b hb; omega)
  have h3':=h3.keep hk6 (by omega)
  have h4':=h4.keep hk6 (by omega)
  have h5':Kept No w w6:=h5.fresh hk6 (fun x e=>by omega)
  have hz6:=hk6.size
  refine ⟨_,_,_,(h1'.cell 0).trans rfl,?_⟩
  intro w10
  have hk10:Kept No w6 w10:=Kept.alloc _ _ _
  have hone:RdS 1 w10 (some ⟨w6.heap.size,0,none⟩) 1 1 (In [((freeIx sl)[i]:Int)]):=(SlO.of_blk (sz:=1) (n:=1) (Blk.alloc w6 #[.int .i64 ((freeIx sl)[i]:Int)] _) (by simp)).rd
  have hs10:w10.heap.size=w6.heap.size+1:=by simp [w10]
  clear_value w10
  obtain ⟨a16,c16,w11,hrun,hs11,hk11,hat,hnn⟩:=run_app_sl (P:=Tryz.prog) (t:=39) (t2:=39) (ty:=39) (by kernel_rfl:slTyB Tryz.prog 39 1 8=true) (by kernel_rfl) (h2'.keep hk10 fun _ _ e=>e) hone (In_one _) (by omega) (by omega)
  have hin:∀ b,inA a16 b→w4.heap.size+2≤b:=fun b hb=>by
   rcases hat.in hb with e | e
   ·exact h6 b e
   ·omega
  have htk:In (((freeIx sl).take i).map fun (i:Nat)=>(i:Int)) ++ In [((freeIx sl)[i]:Int)]=In (((freeIx sl).take (i+1)).map fun (i:Nat)=>(i:Int)):=by
   rw [← In_append,List.take_add_one,List.getElem?_eq_getElem hil,List.map_append]
   rfl
  rw [htk] at hs11
  have h1a:=(h1'.keep hk10 fun e=>e).keep hk11 (fun e=>by have:=h6 _ e; omega)
  refine ⟨a16,i+1,c16,w11,hrun,stC_blk h1a (by simp) fun w12 hb12 hk12 hs12=>?_⟩
  have hb12:Blk w12 w2.heap.size #[.slice a16 (i+1) c16]:=by simpa using hb12
  have g3:=((h3'.keep hk10 fun e=>e).keep hk11 (fun e=>by have:=h6 _ e; omega)).keep hk12 (by omega)
  have g4:=((h4'.keep hk10 fun e=>e).keep hk11 (fun e=>by have:=h6 _ e; omega)).keep hk12 (by omega)
  have g5:Kept No w w12:=((h5'.no hk10).fresh hk11 fun x e=>by have:=h6 x e; have:=k4.size; omega).fresh hk12 fun x e=>by have:=k4.size; omega
  have g2:=hs11.keep hk12 (fun b hb e=>by have:=hin b hb; omega)
  have kT:Kept (fun z=>z≠w4.heap.size∧z≠w4.heap.size+1) w6 w12:=((hk10.mono fun _ _ e=>e.elim).trans hk11 fun z hz e=>by
   have:=h6 z e
   exact ⟨by omega,by omega⟩).trans hk12 fun z hz e=>⟨by omega,by omega⟩
  refine ⟨_,_,_,(hb12.cell 0).trans rfl,_,(g3.cell 0).trans rfl,?_⟩
  have han:a16≠none:=fun e=>by have:=(SlO.rd hs11).isNone e; omega
  refine condI (fun hz=>?_) (fun hz=>?_)
  ·have hik:i+1=k:=by
    have:(((i+1:Nat)):Int)=(k:Int):=by simpa using hz
    omega
   refine ⟨_,_,_,(hb12.cell 0).trans rfl,stC_blk g4 (by simp) fun w13 hb13 hk13 hs13=>⟨kT.trans hk13 fun z hz e=>⟨by omega,by omega⟩,a16,c16,by omega,han,?_,?_,?_,hin⟩⟩
   ·rw [← hik]; simpa using hb13
   ·rw [← hik]; exact g2.keep hk13 (fun b hb e=>by have:=hin b hb; omega)
   ·exact g5.fresh hk13 fun x e=>by have:=k4.size; omega
  ·have hik:i+1≠k:=fun e=>by
    have:¬ (((i+1:Nat)):Int)=(k:Int):=by simpa using hz
    omega
   exact ⟨kT,a16,c16,by omega,hb12,g2,g3,g4,g5,hin⟩
 ·rintro w7 ⟨a,c,h0,h1,h2,h3,h4,h5,h6⟩
  refine stC_blk h4 (by simp) fun w14 hb14' hk14 hs14=>⟨hk14.mono fun z _ e=>by omega,fun w8 hk8=>?_⟩
  have hb8:=hb14'.keep hk8 (by omega)
  refine ⟨_,_,_,(hb8.cell 0).trans rfl,none,0,0,rfl,(h5.fresh hk14 fun x e=>by have:=k4.size; omega).fresh hk8 fun x e=>by have:=k4.size; omega,.inl ⟨by omega,rfl⟩⟩
 ·rintro i w7 ⟨a,c,h0,h1,h2,h3,h5,h6⟩ w9 hk9
  have hb9:=h2.keep hk9 (by omega)
  exact ⟨_,_,_,(hb9.cell 0).trans rfl,a,k,c,rfl,h5.fresh hk9 fun x e=>by have:=k4.size; omega,.inr ⟨h0,h1,rfl,h3.keep hk9 (fun b hb e=>by have:=h6 b hb; omega),fun b hb=>by have:=h6 b hb; have:=k4.size; omega⟩⟩
def tAt (sl:List (Int × Bool)) (fd:Int):Option (Int × Bool):=
 if 0≤fd∧fd< 64 then (if (sl.getD fd.toNat (0,false)).1=0 then none else some (sl.getD fd.toNat (0,false))) else none
def tOpen (sl:List (Int × Bool)) (s:AK) (nm:ByteArray) (fl:Int):Int × Int × List (Int × Bool) × AK:=match freeIx sl with
 | []=>(0,31,sl,s)
 | i :: _=>if (s.open_ nm fl).2.1≠0 then (0,(s.open_ nm fl).2.1,sl,(s.open_ nm fl).2.2) else ((i:Int),0,sl.set i ((s.open_ nm fl).1,false),(s.open_ nm fl).2.2)
def tClose (sl:List (Int × Bool)) (s:AK) (fd:Int):Int × List (Int × Bool) × AK:=match tAt sl fd with
 | none=>(71,sl,s)
 | some x=>(0,sl.set fd.toNat (0,false),(s.drop x.1).2)
def tMark (sl:List (Int × Bool)) (fd:Int) (on:Bool):Int × List (Int × Bool):=match tAt sl fd with
 | none=>(71,sl)
 | some x=>(0,sl.set fd.toNat (x.1,on))
structure TStep (t:Nat) (w w':World) (L L':KL):Prop where
 kept:Kept (fun z=>L.own z≠none∨z=t) w w'
 grew:∀ z,L'.own z≠none→L.own z≠none∨w.heap.size≤z
theorem TStep.refl (t:Nat) (w:World) (L:KL):TStep t w w L L:=⟨Kept.refl _ _,fun _ h=>.inl h⟩
theorem TStep.of_no {t:Nat} {w w':World} {L:KL} (k:Kept No w w'):TStep t w w' L L:=⟨k.mono fun _ _ e=>e.elim,fun _ h=>.inl h⟩
theorem TStep.of_k {t:Nat} {w w':World} {L L':KL} (k:KStep w w' L L'):TStep t w w' L L':=⟨k.kept.mono fun _ _ e=>.inl e,k.grew⟩
theorem TStep.of_t {t:Nat} {w w':World} {L:KL} (k:Kept (·=t) w w'):TStep t w w' L L:=⟨k.mono fun _ _ e=>.inr e,fun _ h=>.inl h⟩
theorem TStep.trans {t:Nat} {w w1 w2:World} {L L1 L2:KL} (h:TStep t w w1 L L1) (k:TStep t w1 w2 L1 L2):TStep t w w2 L L2:=
 ⟨h.kept.trans k.kept fun x hx e=>by
  rcases e with e | e
  ·rcases h.grew x e with e | e
   ·exact .inl e
   ·omega
  ·exact .inr e,fun z hz=>by
  rcases k.grew z hz with e | e
  ·exact h.grew z e
  ·exact .inr (Nat.le_trans h.kept.size e)⟩
theorem TStep.own {t:Nat} {w w':World} {L L':KL} (h:TStep t w w' L L') {z:Nat} (hz:L.own z=none) (hl:z< w.heap.size):L'.own z=none:=by
 cases ho:L'.own z with
 | none=>rfl
 | some x=>
  exfalso
  rcases h.grew z (by rw [ho]; simp) with e | e
  ·exact e hz
  ·omega
theorem KStep.own' {w w':World} {L L':KL} (h:KStep w w' L L') {z:Nat} (hz:L.own z=none) (hl:z< w.heap.size):L'.own z=none:=(TStep.of_k (t:=0) h).own hz hl
theorem TabO.step {w w':World} {t gk:Nat} {sl:List (Int × Bool)} {L L':KL} (h:TabO w t gk sl) (hn:L.own t=none) (st:KStep w w' L L'):TabO w' t gk sl:=h.keep st.kept fun e=>e hn
theorem getD_at {sl:List (Int × Bool)} {i:Nat} (h:i< sl.length):sl.getD i (0,false)=sl[i]:=by rw [List.getD_eq_getElem?_getD,List.getElem?_eq_getElem h]; rfl
theorem freeIx_some {sl:List (Int × Bool)} (hl:sl.length=64):∀ x ∈ freeIx sl,x< 64:=fun x hx=>by
 have:=freeL_lt sl 64 0 x hx; omega
def slotA (t:Nat) (fd:Int):Addr:=((⟨t,0,none⟩:Addr).add 1).add (Int.toNat fd * 2)
theorem at_ok {w:World} {t gk:Nat} {sl:List (Int × Bool)} (h:TabO w t gk sl) (fd:Int) :
 CallR Tryz.prog 135 [pd t,.int .i64 fd] w fun v w'=>w'=w∧(tAt sl fd=none∧v=.tuple #[.pointer none,.int .i64 71]∨∃ x,tAt sl fd=some x∧0≤fd∧fd< 64∧x=sl.getD fd.toNat (0,false)∧x.1≠0∧v=.tuple #[.pointer (some (slotA t fd)),.int .i64 0]):=by
 refine C135 ?_
 unfold L135
 have hlen:=h.len
 unfold tAt
 refine tnone_to h ⟨_,rfl,condFa2 (condP (fun h1=>⟨rfl,.inl ⟨by rw [if_neg (by omega)],rfl⟩⟩) (fun h1=>condP (fun h2=>⟨rfl,.inl ⟨by rw [if_neg (by omega)],rfl⟩⟩) (fun h2=>?_)))⟩
 have hi:fd.toNat< sl.length:=by omega
 have hg:=getD_at hi
 refine nnI ⟨⟨by omega,by omega⟩,_,h.desc hi,condI (fun hz=>⟨rfl,.inl ⟨?_,rfl⟩⟩) (fun hz=>nnI ⟨⟨by omega,by omega⟩,rfl,.inr ⟨sl[fd.toNat],?_,by omega,by omega,hg.symm,by simpa using hz,rfl⟩⟩)⟩
 ·rw [if_pos ⟨by omega,by omega⟩,if_pos (by rw [hg]; simpa using hz)]
 ·rw [if_pos ⟨by omega,by omega⟩,if_neg (by rw [hg]; simpa using hz),hg]
theorem tab_new {w:World} {t gk:Nat} (h:Blk w t (#[pd gk] ++ ((List.replicate 64 [Value.int .i64 0,Value.bool false]).flatten).toArray)):TabO w t gk (List.replicate 64 (0,false)):=by
 refine ⟨_,h,by simp,by simp,by simp,fun i hi=>?_⟩
 have hi:i< 64:=by simpa using hi
 have key:∀ (n j:Nat),j< n→((List.replicate n [Value.int .i64 0,Value.bool false]).flatten)[j * 2]?=some (Value.int .i64 0)∧((List.replicate n [Value.int .i64 0,Value.bool false]).flatten)[j * 2+1]?=some (Value.bool false):=by
  intro n
  induction n with
  | zero=>intro j hj; omega
  | succ n ih=>
   intro j hj
   cases j with
   | zero=>exact ⟨rfl,rfl⟩
   | succ j=>
    obtain ⟨g1,g2⟩:=ih j (by omega)
    rw [show (j+1) * 2=j * 2+2 by omega]
    exact ⟨g1,g2⟩
 obtain ⟨g1,g2⟩:=key 64 i hi
 constructor
 ·rw [Array.getElem?_append_right (by simp)]
  simp only [List.size_toArray,List.length_singleton,List.getElem?_toArray,List.size_toArray]
  rw [show 1+i * 2 - 1=i * 2 by omega]
  rw [g1,List.getElem_replicate]
 ·rw [Array.getElem?_append_right (by simp)]
  simp only [List.size_toArray,List.length_singleton,List.getElem?_toArray,List.size_toArray]
  rw [show 1+i * 2+1 - 1=i * 2+1 by omega]
  rw [g2,List.getElem_replicate]
def slots0:List (Int × Bool):=List.replicate 64 (0,false)
set_option maxRecDepth 100000 in
theorem tnew_okT {w:World} (gk:Nat):CallR Tryz.prog 11 [pd gk] w fun v w'=>v=pd w.heap.size∧TabO w' w.heap.size gk slots0∧Kept No w w':=by
 refine C11 ?_
 unfold L11
 intro w1
 have hk:Kept No w w1:=Kept.alloc _ _ _
 have hb:∃ cs,w1=w.alloc (.cells cs 94)∧cs=(#[pd gk] ++ ((List.replicate 64 [Value.int .i64 0,Value.bool false]).flatten).toArray):=⟨_,rfl,by kernel_rfl⟩
 clear_value w1
 obtain ⟨cs,rfl,rfl⟩:=hb
 exact ⟨rfl,tab_new (Blk.alloc _ _ _),hk⟩
theorem topen_ok {w:World} {t gk:Nat} {sl:List (Int × Bool)} {s:AK} {L:KL} (hT:TabO w t gk sl) (hK:KernO w gk s L) (hn:L.own t=none) (nm:ByteArray) (fl:Int) (hx:s.next≤4611686018427387904) :
 CallR Tryz.prog 72 [pd t,.string nm,.int .i64 fl] w fun v w'=>v=.tuple #[.int .i64 (tOpen sl s nm fl).1,.int .i64 (tOpen sl s nm fl).2.1]∧∃ L',TabO w' t gk (tOpen sl s nm fl).2.2.1∧KernO w' gk (tOpen sl s nm fl).2.2.2 L'∧TStep t w w' L L':=by
 refine C72 ?_
 unfold L72
 have hlen:=hT.len
 refine tnone_to hT ⟨_,rfl,condFa2 (CallR.mono (some_okT hT (k:=1) (by omega) (by omega)) ?_)⟩
 rintro v w2 ⟨a,l,c,rfl,hk2,⟨h1,rfl⟩ | ⟨h1,hne,rfl,hs,hf⟩⟩
 ·have:freeIx sl=[]:=List.eq_nil_of_length_eq_zero (by omega)
  unfold tOpen
  rw [this]
  exact ⟨_,_,_,rfl,condTr2 ⟨rfl,L,hT.keep hk2 (fun e=>e),hK.no hk2,.of_no hk2⟩⟩
 ·obtain ⟨i,r,hfr⟩:∃ i r,freeIx sl=i :: r:=by
   cases hh:freeIx sl with
   | nil=>rw [hh] at h1; simp at h1
   | cons i r=>exact ⟨i,r,rfl⟩
  have hi64:=freeIx_some hlen i (by rw [hfr]; simp)
  rw [hfr] at hs
  have hs:SlO 1 w2 a 1 c (In [(i:Int)]):=hs
  unfold tOpen
  rw [hfr]
  dsimp -zeta only
  obtain ⟨q,rfl⟩:∃ q,a=some q:=by cases a with | none=>exact absurd rfl hne | some q=>exact ⟨q,rfl⟩
  have hT2:=hT.keep hk2 (fun e=>e)
  have hK2:=hK.no hk2
  refine ⟨_,_,_,rfl,condFa2 (nnI ⟨_,hT2.at0,CallR.mono (kernOpen_ok hK2 nm fl hx) ?_⟩)⟩
  rintro v w3 ⟨rfl,L3,h3,st3⟩
  have hT3:=hT2.step hn st3
  have hz2:=hk2.size
  refine ⟨_,_,rfl,condN (fun he=>?_) (fun he=>?_)⟩
  ·rw [if_pos he]
   exact ⟨rfl,L3,hT3,h3,.of_k (st3.fresh hk2)⟩
  ·rw [if_neg (fun e=>e he)]
   intro w4
   have hk4:Kept No w3 w4:=Kept.drew _ _
   clear_value w4
   have hav:∀ b,inA (some q) b→L.own b=none∧b< w2.heap.size∧b≠t:=fun b hb=>by
    have h1:=hf b hb
    exact ⟨hK.new_none h1,SlO.lt hs b hb,fun e=>by have:=hT.lt; omega⟩
   have hs4:=(hs.keep st3.kept fun b hb e=>e (hav b hb).1).keep hk4 fun _ _ e=>e
   have hc:∀ {w':World},SlO 1 w' (some q) 1 c (In [(i:Int)])→w'.cell? (q.add (Int.toNat 0))=some (.int .i64 (i:Int)):=fun h=>h.rd.2.2.2 q rfl 0 _ rfl
   have hT4:=hT3.keep hk4 fun e=>e
   have hil:i< sl.length:=by omega
   refine ⟨⟨by omega,by omega⟩,nnI ⟨_,hc hs4,nnI ⟨⟨by omega,by omega⟩,?_⟩⟩⟩
   rw [Int.toNat_natCast]
   refine hT4.st hil fun w6 hT6 hk6 hs6=>?_
   have hs6':=hs4.keep hk6 fun b hb e=>(hav b hb).2.2 e
   refine ⟨⟨by omega,by omega⟩,nnI ⟨_,hc hs6',rfl,L3,hT6,?_,(TStep.of_k ((st3.fresh hk2).no hk4)).trans (.of_t hk6)⟩⟩
   exact (h3.no hk4).keep hk6 fun x e=>by rw [e]; exact (st3.fresh hk2).own' hn hT.lt
theorem tclose_ok {w:World} {t gk:Nat} {sl:List (Int × Bool)} {s:AK} {L:KL} (hT:TabO w t gk sl) (hK:KernO w gk s L) (hn:L.own t=none) (fd:Int) :
 CallR Tryz.prog 76 [pd t,.int .i64 fd] w fun v w'=>v=.int .i64 (tClose sl s fd).1∧∃ L',TabO w' t gk (tClose sl s fd).2.1∧KernO w' gk (tClose sl s fd).2.2 L'∧TStep t w w' L L':=by
 refine C76 ?_
 unfold L76
 refine CallR.mono (at_ok hT fd) ?_
 unfold tClose
 rintro v w1 ⟨rfl,⟨ha,rfl⟩ | ⟨x,ha,h0,h1,hx,hxz,rfl⟩⟩
 ·rw [ha]
  exact ⟨_,_,rfl,condTr2 ⟨rfl,L,hT,hK,.refl _ _ _⟩⟩
 ·rw [ha]
  dsimp -zeta only
  refine ⟨_,_,rfl,condFa2 ?_⟩
  intro w2
  have hk2:Kept No w1 w2:=Kept.drew _ _
  clear_value w2
  have hT2:=hT.keep hk2 fun e=>e
  have hlen:=hT.len
  have hi:fd.toNat< sl.length:=by omega
  have hxg:x=sl[fd.toNat]:=hx.trans (getD_at hi)
  refine nnI ⟨_,hT2.at0,nnI ⟨_,hT2.desc hi,CallR.mono (kernDrop_ok (hK.no hk2) _) ?_⟩⟩
  rintro v w3 ⟨rfl,L3,h3,st3⟩
  have hT3:=hT2.step hn st3
  refine ⟨_,rfl,nnI (hT3.st hi fun w5 hT5 hk5 hs5=>?_)⟩
  rw [hxg]
  refine ⟨rfl,L3,hT5,h3.keep hk5 fun z e=>by rw [e]; exact (st3.fresh hk2).own' hn hT.lt,(TStep.of_k (st3.fresh hk2)).trans (.of_t hk5)⟩
theorem tmark_ok {w:World} {t gk:Nat} {sl:List (Int × Bool)} (hT:TabO w t gk sl) (fd:Int) (on:Bool) :
 CallR Tryz.prog 73 [pd t,.int .i64 fd,.bool on] w fun v w'=>v=.int .i64 (tMark sl fd on).1∧TabO w' t gk (tMark sl fd on).2∧Kept (·=t) w w':=by
 refine C73 ?_
 unfold L73
 refine CallR.mono (at_ok hT fd) ?_
 unfold tMark
 rintro v w1 ⟨rfl,⟨ha,rfl⟩ | ⟨x,ha,h0,h1,hx,hxz,rfl⟩⟩
 ·rw [ha]
  exact ⟨_,_,rfl,condFa2 ⟨rfl,hT,Kept.refl _ _⟩⟩
 ·rw [ha]
  have hlen:=hT.len
  have hi:fd.toNat< sl.length:=by omega
  have hxg:x=sl[fd.toNat]:=hx.trans (getD_at hi)
  refine ⟨_,_,rfl,condTr2 (nnI (hT.stM hi fun w2 hT2 hk2 hs2=>?_))⟩
  rw [hxg]
  exact ⟨rfl,hT2,hk2⟩
theorem tdesc_ok {w:World} {t gk:Nat} {sl:List (Int × Bool)} (hT:TabO w t gk sl) (fd:Int) :
 CallR Tryz.prog 74 [pd t,.int .i64 fd] w fun v w'=>w'=w∧(tAt sl fd=none∧v=.tuple #[.int .i64 0,.int .i64 71]∨∃ x,tAt sl fd=some x∧v=.tuple #[.int .i64 x.1,.int .i64 0]):=by
 refine C74 ?_
 unfold L74
 refine CallR.mono (at_ok hT fd) ?_
 rintro v w1 ⟨rfl,⟨ha,rfl⟩ | ⟨x,ha,h0,h1,hx,hxz,rfl⟩⟩
 ·exact ⟨_,_,rfl,condTr2 ⟨rfl,.inl ⟨ha,rfl⟩⟩⟩
 ·have hlen:=hT.len
  have hi:fd.toNat< sl.length:=by omega
  have hxg:x=sl[fd.toNat]:=hx.trans (getD_at hi)
  refine ⟨_,_,rfl,condFa2 (nnI ⟨_,hT.desc hi,rfl,.inr ⟨x,ha,by rw [hxg]⟩⟩)⟩
def usedL (sl:List (Int × Bool)) (i:Nat):Nat→List Nat
 | 0=>[]
 | n+1=>if (sl.getD i (0,false)).1≠0 then i :: usedL sl (i+1) n else usedL sl (i+1) n
def usedIx (sl:List (Int × Bool)):List Nat:=usedL sl 0 64
theorem usedL_lt (sl:List (Int × Bool)):∀ (n i:Nat),(usedL sl i n).length≤n∧∀ x ∈ usedL sl i n,i≤x∧x< i+n
 | 0,i=>⟨Nat.le_refl _,fun x hx=>by cases hx⟩
 | n+1,i=>by
  obtain ⟨h1,h2⟩:=usedL_lt sl n (i+1)
  unfold usedL
  split
  ·refine ⟨by rw [List.length_cons]; omega,fun x hx=>?_⟩
   rcases List.mem_cons.1 hx with rfl | hx
   ·omega
   ·have:=h2 x hx; omega
  ·exact ⟨by omega,fun x hx=>by have:=h2 x hx; omega⟩
def castI (l:List Nat):List Int:=l.map fun (i:Nat)=>(i:Int)
theorem tlist_ok {w:World} {t gk:Nat} {sl:List (Int × Bool)} (hT:TabO w t gk sl) :
 CallR Tryz.prog 174 [pd t] w fun v w'=>∃ a l c,v=.slice a l c∧SlO 1 w' a l c (In (castI (usedIx sl)))∧Fresh w a∧Kept No w w':=by
 refine C174 ?_
 unfold L174
 have hlen:=hT.len
 obtain ⟨vs,hv1,hv2,hv3⟩:=hT.all
 refine tnone_to hT ⟨_,rfl,condFa2 (nnI ⟨vs,hv1,hv2,fun vs w'=>∃ (i:Nat) (pre:List Nat) (a:Option Addr) (c:Nat),vs=[.slice a pre.length c,.int .i64 (i:Int)]∧i≤64∧pre.length≤i∧usedIx sl=pre ++ usedL sl i (64 - i)∧SlO 1 w' a pre.length c (In (castI pre))∧(∀ b,inA a b→w.heap.size≤b)∧Kept No w w',
  fun vs _=>match vs with | [_,.int _ n]=>64 - n.toNat | _=>0,⟨0,[],none,0,rfl,by omega,Nat.le_refl _,rfl,SlO.nil 1 _,fun b hb=>absurd hb (inA_none b),Kept.refl _ _⟩,?_⟩)⟩
 rintro _ a8 l8 c8 n9 w2 ⟨i,pre,a,c,hvs,hi,hpl,hpre,hs,hf,hk⟩
 simp only [List.cons.injEq,Value.int.injEq,Value.slice.injEq,true_and,and_true] at hvs
 obtain ⟨⟨rfl,rfl,rfl⟩,rfl⟩:=hvs
 refine condP (fun hlt=>?_) (fun hge=>?_)
 ·have hil:i< sl.length:=by omega
  have hg:=getD_at hil
  obtain ⟨k,hk'⟩:∃ k,64 - i=k+1:=⟨63 - i,by omega⟩
  have hk'':64 - (i+1)=k:=by omega
  rw [hk'] at hpre
  have hu:usedL sl i (k+1)=if sl[i].1≠0 then i :: usedL sl (i+1) k else usedL sl (i+1) k:=by rw [← hg]; rfl
  rw [hu] at hpre
  refine ⟨⟨by omega,by omega⟩,sl[i].1,sl[i].2,by rw [Int.toNat_natCast]; exact hv3 i hil,?_⟩
  refine newPair fun w5 hb5 hk5 hz5=>⟨_,(hb5.cell 0).trans rfl,condN (fun hd=>?_) (fun hd=>?_)⟩
  ·rw [if_pos hd] at hpre
   intro w6
   have hk6:Kept No w5 w6:=Kept.alloc _ _ _
   have hone:RdS 1 w6 (some ⟨w5.heap.size,0,none⟩) 1 1 (In [(i:Int)]):=(SlO.of_blk (sz:=1) (n:=1) (Blk.alloc w5 #[.int .i64 (i:Int)] _) (by simp)).rd
   clear_value w6
   obtain ⟨a13,c13,w7,hrun,hs7,hk7,hat,_⟩:=run_app_sl (P:=Tryz.prog) (t:=39) (t2:=39) (ty:=39) (by kernel_rfl:slTyB Tryz.prog 39 1 8=true) (by kernel_rfl) ((hs.keep hk5 fun _ _ e=>e).keep hk6 fun _ _ e=>e) hone (In_one _) (by omega) (by omega)
   have htk:In (castI pre) ++ In [(i:Int)]=In (castI (pre ++ [i])):=by
    rw [← In_append]
    unfold castI
    rw [List.map_append]
    rfl
   rw [htk] at hs7
   have hz2:=hk.size
   refine ⟨a13,pre.length+1,c13,w7,hrun,⟨by omega,by omega⟩,⟨i+1,pre ++ [i],a13,c13,by rw [List.length_append]; rfl,by omega,by rw [List.length_append,List.length_singleton]; omega,by rw [hpre,hk'',List.append_assoc]; rfl,by rw [List.length_append]; exact hs7,fun b hb=>?_,((hk.no hk5).no hk6).fresh hk7 hf⟩,?_⟩
   ·rcases hat.in hb with e | e
    ·exact hf b e
    ·have:=hk6.size; omega
   ·show 64 - Int.toNat ((i:Int)+1)< 64 - Int.toNat (i:Int)
    omega
  ·rw [if_neg (fun e=>e hd)] at hpre
   refine ⟨⟨by omega,by omega⟩,⟨i+1,pre,_,_,rfl,by omega,by omega,by rw [hpre,hk''],hs.keep hk5 fun _ _ e=>e,hf,hk.no hk5⟩,?_⟩
   show 64 - Int.toNat ((i:Int)+1)< 64 - Int.toNat (i:Int)
   omega
 ·have:64 - i=0:=by omega
  rw [this] at hpre
  have hpre:usedIx sl=pre:=by rw [hpre]; exact List.append_nil _
  rw [hpre]
  exact ⟨_,_,_,rfl,hs,hf,hk⟩
def closeS (p:List (Int × Bool) × AK) (fd:Nat):List (Int × Bool) × AK:=((tClose p.1 p.2 (fd:Int)).2.1,(tClose p.1 p.2 (fd:Int)).2.2)
def tCloseAll (sl:List (Int × Bool)) (s:AK):List (Int × Bool) × AK:=(usedIx sl).foldl closeS (sl,s)
theorem tcloseall_ok {w:World} {t gk:Nat} {sl:List (Int × Bool)} {s:AK} {L:KL} (hT:TabO w t gk sl) (hK:KernO w gk s L) (hn:L.own t=none) :
 CallR Tryz.prog 115 [pd t] w fun v w'=>v=.tuple #[]∧∃ L',TabO w' t gk (tCloseAll sl s).1∧KernO w' gk (tCloseAll sl s).2 L'∧TStep t w w' L L':=by
 refine C115 ?_
 unfold L115
 have htlt:=hT.lt
 refine CallR.mono (tlist_ok hT) ?_
 rintro v w1 ⟨a,l,c,rfl,hs,hf,hk1⟩
 have hl:(usedIx sl).length=l:=by have:=hs.1; rw [In_length] at this; unfold castI at this; rw [List.length_map] at this; omega
 have hl64:=(usedL_lt sl 64 0).1
 have hl64:l≤64:=by rw [← hl]; exact hl64
 have hav:∀ b,inA a b→L.own b=none∧b< w1.heap.size∧b≠t:=fun b hb=>by
  have h1:=hf b hb
  exact ⟨hK.new_none h1,SlO.lt hs b hb,by omega⟩
 refine ⟨_,_,_,rfl,fun vs w'=>∃ (i:Nat) (sl':List (Int × Bool)) (s':AK) (L':KL),vs=[.int .i64 (i:Int)]∧i≤l∧tCloseAll sl s=((usedIx sl).drop i).foldl closeS (sl',s')∧TabO w' t gk sl'∧KernO w' gk s' L'∧TStep t w1 w' L L',
  fun vs _=>l - ix vs,⟨0,sl,s,L,rfl,by omega,rfl,hT.keep hk1 (fun e=>e),hK.no hk1,.refl _ _ _⟩,?_⟩
 rintro _ n6 w2 ⟨i,sl',s',L',hvs,hi,hrel,hT2,hK2,st2⟩
 simp only [List.cons.injEq,Value.int.injEq,true_and,and_true] at hvs
 subst hvs
 refine condP (fun hlt=>?_) (fun hge=>?_)
 ·have hil:i< (usedIx sl).length:=by omega
  rw [List.drop_eq_getElem_cons hil] at hrel
  obtain ⟨q,haq⟩:∃ q,a=some q:=by
   cases ha:a with
   | none=>have:=RdS.isNone hs.rd ha; omega
   | some q=>exact ⟨q,rfl⟩
  have hs2:=hs.keep st2.kept fun b hb e=>by
   rcases e with e | e
   ·exact e (hav b hb).1
   ·exact (hav b hb).2.2 e
  have hcell:=hs2.rd.2.2.2 q haq i _ (In_get (castI (usedIx sl)) i (by unfold castI; rw [List.length_map]; exact hil))
  have hgi:(castI (usedIx sl))[i]'(by unfold castI; rw [List.length_map]; exact hil)=(((usedIx sl)[i]:Nat):Int):=by unfold castI; rw [List.getElem_map]
  rw [hgi] at hcell
  refine ⟨⟨by omega,by omega⟩,nnE2 haq ⟨_,by rw [Int.toNat_natCast]; exact hcell,CallR.mono (tclose_ok hT2 hK2 (st2.own hn (by have:=hk1.size; omega)) _) ?_⟩⟩
  rintro v w3 ⟨rfl,L3,hT3,hK3,st3⟩
  refine ⟨_,rfl,⟨by omega,by omega⟩,⟨i+1,_,_,L3,rfl,by omega,by rw [hrel]; rfl,hT3,hK3,st2.trans st3⟩,?_⟩
  simp only [ix]; omega
 ·rw [List.drop_of_length_le (by omega)] at hrel
  rw [hrel]
  exact ⟨rfl,L',hT2,hK2,(TStep.of_no hk1).trans st2⟩
def nA:ByteArray:=ByteArray.mk #[97]
def nB:ByteArray:=ByteArray.mk #[98]
def fs7:List (ByteArray × List Int):=[(nA,[]),(nB,[])]
def a7:AK:=AK.new fs7 [] []
structure It where
 g:Nat
 p:Pu
 sl:Sl3
 d:Int
 tm:Bool
def It.cells (gk:Nat) (i:Nat) (x:It):Array Value:=#[.int .i64 (i:Int),.bool x.p.r,.bool x.p.w,.int .i64 x.p.m,.int .i64 x.p.z,.slice x.sl.oa x.sl.ol x.sl.oc,.slice x.sl.ia x.sl.il x.sl.ic,.slice x.sl.ka x.sl.kl x.sl.kc,.int .i64 x.p.d,.bool x.p.e,.bool x.p.b,.bool x.p.c,hv gk x.d,.bool x.tm]
structure TV where
 gt:Nat
 t:Nat
 rg:Nat
 rh:Nat
 ai:Option Addr
 ci:Nat
 aa:Option Addr
 al:Nat
 ac:Nat
 its:List It
 tb:List (Int × Bool)
 hs:List (Value × Value)
 xs:List Value
 ov:Bool
def TV.cells (V:TV) (gk:Nat):Array Value:=#[pd gk,pd V.t,pd V.rg,.map (some V.rh),.slice none 0 0,.slice V.aa V.al V.ac,.int .i64 0,.slice none 0 0,.bool false,.slice none 0 0,.slice none 0 0,.bool false]
def TV.rcells (V:TV):Array Value:=#[.bool true,.slice V.ai V.its.length V.ci,.int .i64 (V.its.length:Int),.slice none 0 0,.bool V.ov]
structure TO (w:World) (gk:Nat) (L:KL) (s:AK) (tg:Nat→Nat) (V:TV):Prop where
 ker:KernO w gk s L
 task:Blk w V.gt (V.cells gk)
 reg:Blk w V.rg V.rcells
 items:SlO 1 w V.ai V.its.length V.ci (V.its.map fun x=>pd x.g)
 it:∀ (i:Nat) (x:It),V.its[i]?=some x→Blk w x.g (x.cells gk i)∧Rd3 w x.sl x.p
 tab:TabO w V.t gk V.tb
 map:MapO w V.rh (.int .i64) V.hs
 ans:SlO 5 w V.aa V.al V.ac V.xs
 tgt:tg V.gt=1
 tt:tg V.t=2
 trg:tg V.rg=3
 trh:tg V.rh=4
 tai:∀ z,inA V.ai z→tg z=5
 taa:∀ z,inA V.aa z→tg z=6
 tit:∀ (i:Nat) (x:It),V.its[i]?=some x→tg x.g=10+i∧∀ z,In3 x.sl z→tg z=7
 own:∀ z,tg z≠0→L.own z=none∧z< w.heap.size
 len:V.its.length≤64
def OT (L:KL) (tg:Nat→Nat) (z:Nat):Prop:=L.own z≠none∨tg z≠0
structure GS (T:Nat→Prop) (w w':World) (L L':KL) (tg tg':Nat→Nat):Prop where
 kept:Kept (fun z=>OT L tg z∨T z) w w'
 grew:∀ z,OT L' tg' z→OT L tg z∨w.heap.size≤z
section
variable {T T' : Nat → Prop} {w w0 w1 w2 w' : World} {L L1 L2 L' : KL} {tg tg1 tg2 tg' : Nat → Nat}
theorem GS.refl (T:Nat→Prop) (w:World) (L:KL) (tg:Nat→Nat):GS T w w L L tg tg:=⟨Kept.refl _ _,fun _ h=>.inl h⟩
theorem GS.size (h:GS T w w' L L' tg tg'):w.heap.size≤w'.heap.size:=h.kept.size
theorem GS.trans (h:GS T w w1 L L1 tg tg1) (k:GS T w1 w2 L1 L2 tg1 tg2):GS T w w2 L L2 tg tg2:=
 ⟨h.kept.trans k.kept fun x hx e=>by
  rcases e with e | e
  ·rcases h.grew x e with e | e
   ·exact .inl e
   ·omega
  ·exact .inr e,fun z hz=>by
  rcases k.grew z hz with e | e
  ·exact h.grew z e
  ·exact .inr (Nat.le_trans h.size e)⟩
theorem GS.mono (h:GS T w w' L L' tg tg') (ht:∀ z,z< w.heap.size→T z→T' z):GS T' w w' L L' tg tg':=⟨h.kept.mono fun z hz e=>e.imp id (ht z hz),h.grew⟩
theorem GS.priv (h:GS T w w1 L L1 tg tg1) {S:Nat→Prop} (k:Kept S w1 w2) (hS:∀ x,S x→T x∨w.heap.size≤x):GS T w w2 L L1 tg tg1:=
 ⟨h.kept.trans k fun x hx e=>by
  rcases hS x e with e | e
  ·exact .inr e
  ·omega,h.grew⟩
theorem GS.of_no (k:Kept No w w') (T:Nat→Prop) (L:KL) (tg:Nat→Nat):GS T w w' L L tg tg:=⟨k.mono fun _ _ e=>e.elim,fun _ h=>.inl h⟩
theorem GS.no (h:GS T w w1 L L1 tg tg1) (k:Kept No w1 w2):GS T w w2 L L1 tg tg1:=h.priv k fun _ e=>e.elim
theorem GS.narrow (h0:Kept No w w0) (h:GS T w0 w1 L L1 tg tg1) (hT:∀ z,T z→T' z∨w.heap.size≤z):GS T' w w1 L L1 tg tg1:=by
 refine ⟨(h0.mono fun _ _ e=>e.elim).trans h.kept fun x hx e=>?_,fun z hz=>?_⟩
 ·rcases e with e | e
  ·exact .inl e
  ·rcases hT x e with e | e
   ·exact .inr e
   ·omega
 ·rcases h.grew z hz with e | e
  ·exact .inl e
  ·have:=h0.size; exact .inr (by omega)
theorem GS.free (h:GS T w w' L L' tg tg') {z:Nat} (hz:¬ OT L tg z) (hl:z< w.heap.size):¬ OT L' tg' z:=fun e=>by
 rcases h.grew z e with e | e
 ·exact hz e
 ·omega
theorem GS.blk (h:GS T w w' L L' tg tg') {z:Nat} {cur:Array Value} (hb:Blk w z cur) (hz:¬ OT L tg z) (hT:¬ T z):Blk w' z cur:=hb.keep h.kept fun e=>by
 rcases e with e | e
 ·exact hz e
 ·exact hT e
variable {gk : Nat} {s s' : AK} {V : TV}
theorem TO.new (h:TO w gk L s tg V) {z:Nat} (hz:w.heap.size≤z):¬ OT L tg z:=fun e=>by
 rcases e with e | e
 ·exact e (h.ker.new_none hz)
 ·have:=(h.own z e).2; omega
theorem TO.ne (h:TO w gk L s tg V) {z:Nat} (hz:tg z≠0) {S:Nat→Prop} (hS:∀ z,S z→tg z=0):¬ S z:=fun e=>hz (hS z e)
theorem TO.keep (h:TO w gk L s tg V) {S:Nat→Prop} (k:Kept S w w') (hS:∀ z,S z→¬ OT L tg z):TO w' gk L s tg V:=by
 have hS0:∀ z,S z→tg z=0:=fun z hz=>by
  by_cases e:tg z=0
  ·exact e
  ·exact absurd (.inr e) (hS z hz)
 have hSL:∀ z,S z→L.own z=none:=fun z hz=>by
  cases e:L.own z with
  | none=>rfl
  | some t=>exact absurd (.inl (by rw [e]; simp)) (hS z hz)
 have ne:∀ z,tg z≠0→¬ S z:=fun z hz e=>hz (hS0 z e)
 exact {
  ker:=h.ker.keep k hSL
  task:=h.task.keep k (ne _ (by rw [h.tgt]; decide))
  reg:=h.reg.keep k (ne _ (by rw [h.trg]; decide))
  items:=h.items.keep k fun z hz=>ne z (by rw [h.tai z hz]; decide)
  it:=fun i x hx=>⟨(h.it i x hx).1.keep k (ne _ (by rw [(h.tit i x hx).1]; omega)),(h.it i x hx).2.keep k fun z _ hz=>ne z (by rw [(h.tit i x hx).2 z hz]; decide)⟩
  tab:=h.tab.keep k (ne _ (by rw [h.tt]; decide))
  map:=h.map.keep k (ne _ (by rw [h.trh]; decide))
  ans:=h.ans.keep k fun z hz=>ne z (by rw [h.taa z hz]; decide)
  tgt:=h.tgt,tt:=h.tt,trg:=h.trg,trh:=h.trh,tai:=h.tai,taa:=h.taa,tit:=h.tit,len:=h.len
  own:=fun z hz=>⟨(h.own z hz).1,Nat.lt_of_lt_of_le (h.own z hz).2 k.size⟩ }
theorem TO.no (h:TO w gk L s tg V) (k:Kept No w w'):TO w' gk L s tg V:=h.keep k fun _ e=>e.elim
theorem TO.kern (h:TO w gk L s tg V) (hk:KernO w' gk s' L') (st:XStep T w w' L L') (hT:∀ z,T z→tg z=0):TO w' gk L' s' tg V:=by
 have ne:∀ z,tg z≠0→¬ (L.own z≠none∨T z):=fun z hz e=>by
  rcases e with e | e
  ·exact e (h.own z hz).1
  ·exact hz (hT z e)
 have k:=st.kept
 exact {
  ker:=hk
  task:=h.task.keep k (ne _ (by rw [h.tgt]; decide))
  reg:=h.reg.keep k (ne _ (by rw [h.trg]; decide))
  items:=h.items.keep k fun z hz=>ne z (by rw [h.tai z hz]; decide)
  it:=fun i x hx=>⟨(h.it i x hx).1.keep k (ne _ (by rw [(h.tit i x hx).1]; omega)),(h.it i x hx).2.keep k fun z _ hz=>ne z (by rw [(h.tit i x hx).2 z hz]; decide)⟩
  tab:=h.tab.keep k (ne _ (by rw [h.tt]; decide))
  map:=h.map.keep k (ne _ (by rw [h.trh]; decide))
  ans:=h.ans.keep k fun z hz=>ne z (by rw [h.taa z hz]; decide)
  tgt:=h.tgt,tt:=h.tt,trg:=h.trg,trh:=h.trh,tai:=h.tai,taa:=h.taa,tit:=h.tit,len:=h.len
  own:=fun z hz=>⟨st.own (h.own z hz).1 (h.own z hz).2,Nat.lt_of_lt_of_le (h.own z hz).2 k.size⟩ }
theorem GS.of_x (st:XStep T w w' L L') (tg:Nat→Nat) (h:∀ z,tg z≠0→z< w.heap.size):GS T w w' L L' tg tg:=
 ⟨st.kept.mono fun z _ e=>e.imp .inl id,fun z e=>by
  rcases e with e | e
  ·exact (st.grew z e).imp .inl id
  ·exact .inl (.inr e)⟩
open Classical in
noncomputable def tg7 (tg:Nat→Nat) (sl:Sl3) (z:Nat):Nat:=if In3 sl z then 7 else tg z
theorem tg7_in {sl:Sl3} {z:Nat} (h:In3 sl z):tg7 tg sl z=7:=if_pos h
theorem tg7_out {sl:Sl3} {z:Nat} (h:¬ In3 sl z):tg7 tg sl z=tg z:=if_neg h
theorem tg7_old {sl:Sl3} (hs:∀ z,In3 sl z→tg z=0) {z:Nat} (hz:tg z≠0):tg7 tg sl z=tg z:=tg7_out fun e=>hz (hs z e)
theorem tg7_ne {sl:Sl3} {z:Nat} (h:tg7 tg sl z≠0):In3 sl z∨tg z≠0:=by
 by_cases e:In3 sl z
 ·exact .inl e
 ·rw [tg7_out e] at h; exact .inr h
theorem TO.setIt (h:TO w gk L s tg V) {i:Nat} {x:It} (hx:V.its[i]?=some x) {p':Pu} {sl':Sl3} (k:Kept (·=x.g) w w') (hb:Blk w' x.g (It.cells gk i { x with p:=p',sl:=sl' })) (hr:Rd3 w sl' p')
 (hs:∀ z,In3 sl' z→tg z=0∧L.own z=none∧z< w.heap.size):TO w' gk L s (tg7 tg sl') { V with its:=V.its.set i { x with p:=p',sl:=sl' } }:=by
 have old:∀ {z},tg z≠0→tg7 tg sl' z=tg z:=fun hz=>tg7_old (fun z hz=>(hs z hz).1) hz
 have hxg:=(h.tit i x hx).1
 have ne:∀ z,tg z≠10+i→z≠x.g:=fun z hz e=>hz (by rw [e]; exact hxg)
 have hil:i< V.its.length:=(List.getElem?_eq_some_iff.1 hx).1
 have hmap:(V.its.set i { x with p:=p',sl:=sl' }).map (fun x=>pd x.g)=V.its.map fun x=>pd x.g:=by
  rw [List.map_set]
  apply List.ext_getElem?
  intro j
  rw [List.getElem?_set]
  split
  ·rename_i e
   subst e
   rw [List.length_map,if_pos hil,List.getElem?_map,hx]
   rfl
  ·rfl
 have hset:∀ j y,(V.its.set i { x with p:=p',sl:=sl' })[j]?=some y→(j=i∧y={ x with p:=p',sl:=sl' })∨(j≠i∧V.its[j]?=some y):=fun j y hy=>by
  rw [List.getElem?_set] at hy
  by_cases e:i=j
  ·subst e
   rw [if_pos rfl,if_pos hil] at hy
   exact .inl ⟨rfl,(Option.some.inj hy).symm⟩
  ·rw [if_neg e] at hy
   exact .inr ⟨fun e'=>e e'.symm,hy⟩
 exact {
  ker:=h.ker.keep k fun z e=>by rw [e]; exact (h.own x.g (by rw [hxg]; omega)).1
  task:=h.task.keep k (ne _ (by rw [h.tgt]; omega))
  reg:=by
   have:=h.reg.keep k (ne _ (by rw [h.trg]; omega))
   unfold TV.rcells at this ⊢
   dsimp only
   rw [List.length_set]
   exact this
  items:=by
   have:=h.items.keep k fun z hz=>ne z (by rw [h.tai z hz]; omega)
   dsimp only
   rw [List.length_set,hmap]
   exact this
  it:=fun j y hy=>by
   rcases hset j y hy with ⟨rfl,rfl⟩ | ⟨hj,hy⟩
   ·exact ⟨hb,hr.keep k fun z _ hz e=>by have:=(hs z hz).1; have e:z=x.g:=e; rw [e,hxg] at this; omega⟩
   ·exact ⟨(h.it j y hy).1.keep k (ne _ (by rw [(h.tit j y hy).1]; omega)),(h.it j y hy).2.keep k fun z _ hz=>ne z (by rw [(h.tit j y hy).2 z hz]; omega)⟩
  tab:=h.tab.keep k (ne _ (by rw [h.tt]; omega))
  map:=h.map.keep k (ne _ (by rw [h.trh]; omega))
  ans:=h.ans.keep k fun z hz=>ne z (by rw [h.taa z hz]; omega)
  tgt:=by rw [old (by rw [h.tgt]; decide)]; exact h.tgt
  tt:=by rw [old (by rw [h.tt]; decide)]; exact h.tt
  trg:=by rw [old (by rw [h.trg]; decide)]; exact h.trg
  trh:=by rw [old (by rw [h.trh]; decide)]; exact h.trh
  tai:=fun z hz=>by rw [old (by rw [h.tai z hz]; decide)]; exact h.tai z hz
  taa:=fun z hz=>by rw [old (by rw [h.taa z hz]; decide)]; exact h.taa z hz
  tit:=fun j y hy=>by
   rcases hset j y hy with ⟨rfl,rfl⟩ | ⟨hj,hy⟩
   ·exact ⟨by show tg7 tg sl' x.g=_; rw [old (by rw [hxg]; omega)]; exact hxg,fun z hz=>tg7_in hz⟩
   ·exact ⟨by rw [old (by rw [(h.tit j y hy).1]; omega)]; exact (h.tit j y hy).1,fun z hz=>by rw [old (by rw [(h.tit j y hy).2 z hz]; decide)]; exact (h.tit j y hy).2 z hz⟩
  len:=by dsimp only; rw [List.length_set]; exact h.len
  own:=fun z hz=>by
   rcases tg7_ne hz with e | e
   ·exact ⟨(hs z e).2.1,Nat.lt_of_lt_of_le (hs z e).2.2 k.size⟩
   ·exact ⟨(h.own z e).1,Nat.lt_of_lt_of_le (h.own z e).2 k.size⟩ }
end
section
variable {w : World} {g gk i : Nat} {x : It}
theorem blk_at1 {cur:Array Value} (h:Blk w g cur) {j:Nat} {v:Value} (hj:cur[1+j]?=some v):w.cell? (((⟨g,0,none⟩:Addr).add 1).add j)=some v:=by
 rw [add_none,add_none,h.cell,Nat.zero_add]; exact hj
theorem stC_at1 {cur:Array Value} (h:Blk w g cur) {j:Nat} {v:Value} (hj:1+j< cur.size) {K:World→Prop} (hk:∀ w',Blk w' g (cur.setIfInBounds (1+j) v)→Kept (·=g) w w'→w'.heap.size=w.heap.size→K w') :
 stC (((⟨g,0,none⟩:Addr).add 1).add j) v w K:=by
 rw [add_none,add_none,Nat.zero_add]
 exact stC_blk h hj hk
theorem ldI (h:Blk w g (x.cells gk i)) {K:Bool→Bool→Int→Int→Option Addr→Nat→Nat→Option Addr→Nat→Nat→Option Addr→Nat→Nat→Int→Bool→Bool→Bool→Prop} (hk:K x.p.r x.p.w x.p.m x.p.z x.sl.oa x.sl.ol x.sl.oc x.sl.ia x.sl.il x.sl.ic x.sl.ka x.sl.kl x.sl.kc x.p.d x.p.e x.p.b x.p.c) :
 nn (some ⟨g,0,none⟩) fun q=>∃ (b0:Bool) (b1:Bool) (n2:Int) (n3:Int) (a4:Option Addr) (l4:Nat) (c4:Nat) (a5:Option Addr) (l5:Nat) (c5:Nat) (a6:Option Addr) (l6:Nat) (c6:Nat) (n7:Int) (b8:Bool) (b9:Bool) (b10:Bool),w.cell? (Addr.add q 1)=some (.bool b0)∧w.cell? (Addr.add (Addr.add q 1) 1)=some (.bool b1)∧w.cell? (Addr.add (Addr.add q 1) 2)=some (.int .i64 n2)∧w.cell? (Addr.add (Addr.add q 1) 3)=some (.int .i64 n3)∧w.cell? (Addr.add (Addr.add q 1) 4)=some (.slice a4 l4 c4)∧w.cell? (Addr.add (Addr.add q 1) 5)=some (.slice a5 l5 c5)∧w.cell? (Addr.add (Addr.add q 1) 6)=some (.slice a6 l6 c6)∧w.cell? (Addr.add (Addr.add q 1) 7)=some (.int .i64 n7)∧w.cell? (Addr.add (Addr.add q 1) 8)=some (.bool b8)∧w.cell? (Addr.add (Addr.add q 1) 9)=some (.bool b9)∧w.cell? (Addr.add (Addr.add q 1) 10)=some (.bool b10)∧K b0 b1 n2 n3 a4 l4 c4 a5 l5 c5 a6 l6 c6 n7 b8 b9 b10:=
 nnI ⟨_,_,_,_,_,_,_,_,_,_,_,_,_,_,_,_,_,h.at (i:=1) rfl,blk_at1 h (j:=1) rfl,blk_at1 h (j:=2) rfl,blk_at1 h (j:=3) rfl,blk_at1 h (j:=4) rfl,blk_at1 h (j:=5) rfl,blk_at1 h (j:=6) rfl,blk_at1 h (j:=7) rfl,blk_at1 h (j:=8) rfl,blk_at1 h (j:=9) rfl,blk_at1 h (j:=10) rfl,hk⟩
theorem st14 {c0 c12 c13 a1 a2 a3 a4 a5 a6 a7 a8 a9 a10 a11 v1 v2 v3 v4 v5 v6 v7 v8 v9 v10 v11:Value} (h:Blk w g #[c0,a1,a2,a3,a4,a5,a6,a7,a8,a9,a10,a11,c12,c13]) {K:World→Prop} (hk:∀ w',Blk w' g #[c0,v1,v2,v3,v4,v5,v6,v7,v8,v9,v10,v11,c12,c13]→Kept (·=g) w w'→K w') :
 stC (Addr.add ⟨g,0,none⟩ 1) v1 w fun w1=>stC (Addr.add (Addr.add ⟨g,0,none⟩ 1) 1) v2 w1 fun w2=>stC (Addr.add (Addr.add ⟨g,0,none⟩ 1) 2) v3 w2 fun w3=>stC (Addr.add (Addr.add ⟨g,0,none⟩ 1) 3) v4 w3 fun w4=>stC (Addr.add (Addr.add ⟨g,0,none⟩ 1) 4) v5 w4 fun w5=>stC (Addr.add (Addr.add ⟨g,0,none⟩ 1) 5) v6 w5 fun w6=>stC (Addr.add (Addr.add ⟨g,0,none⟩ 1) 6) v7 w6 fun w7=>stC (Addr.add (Addr.add ⟨g,0,none⟩ 1) 7) v8 w7 fun w8=>stC (Addr.add (Addr.add ⟨g,0,none⟩ 1) 8) v9 w8 fun w9=>stC (Addr.add (Addr.add ⟨g,0,none⟩ 1) 9) v10 w9 fun w10=>stC (Addr.add (Addr.add ⟨g,0,none⟩ 1) 10) v11 w10 K:=by
 refine stC_at h (i:=1) (by simp) fun w1 h1 k1 s1=>?_
 have h1:Blk w1 g #[c0,v1,a2,a3,a4,a5,a6,a7,a8,a9,a10,a11,c12,c13]:=h1
 refine stC_at1 h1 (j:=1) (by simp) fun w2 h2 k2 s2=>?_
 have h2:Blk w2 g #[c0,v1,v2,a3,a4,a5,a6,a7,a8,a9,a10,a11,c12,c13]:=h2
 refine stC_at1 h2 (j:=2) (by simp) fun w3 h3 k3 s3=>?_
 have h3:Blk w3 g #[c0,v1,v2,v3,a4,a5,a6,a7,a8,a9,a10,a11,c12,c13]:=h3
 refine stC_at1 h3 (j:=3) (by simp) fun w4 h4 k4 s4=>?_
 have h4:Blk w4 g #[c0,v1,v2,v3,v4,a5,a6,a7,a8,a9,a10,a11,c12,c13]:=h4
 refine stC_at1 h4 (j:=4) (by simp) fun w5 h5 k5 s5=>?_
 have h5:Blk w5 g #[c0,v1,v2,v3,v4,v5,a6,a7,a8,a9,a10,a11,c12,c13]:=h5
 refine stC_at1 h5 (j:=5) (by simp) fun w6 h6 k6 s6=>?_
 have h6:Blk w6 g #[c0,v1,v2,v3,v4,v5,v6,a7,a8,a9,a10,a11,c12,c13]:=h6
 refine stC_at1 h6 (j:=6) (by simp) fun w7 h7 k7 s7=>?_
 have h7:Blk w7 g #[c0,v1,v2,v3,v4,v5,v6,v7,a8,a9,a10,a11,c12,c13]:=h7
 refine stC_at1 h7 (j:=7) (by simp) fun w8 h8 k8 s8=>?_
 have h8:Blk w8 g #[c0,v1,v2,v3,v4,v5,v6,v7,v8,a9,a10,a11,c12,c13]:=h8
 refine stC_at1 h8 (j:=8) (by simp) fun w9 h9 k9 s9=>?_
 have h9:Blk w9 g #[c0,v1,v2,v3,v4,v5,v6,v7,v8,v9,a10,a11,c12,c13]:=h9
 refine stC_at1 h9 (j:=9) (by simp) fun w10 h10 k10 s10=>?_
 have h10:Blk w10 g #[c0,v1,v2,v3,v4,v5,v6,v7,v8,v9,v10,a11,c12,c13]:=h10
 refine stC_at1 h10 (j:=10) (by simp) fun w11 h11 k11 s11=>?_
 have h11:Blk w11 g #[c0,v1,v2,v3,v4,v5,v6,v7,v8,v9,v10,v11,c12,c13]:=h11
 exact hk w11 h11 ((((((((((k1.trans k2 fun _ _ e=>e).trans k3 fun _ _ e=>e).trans k4 fun _ _ e=>e).trans k5 fun _ _ e=>e).trans k6 fun _ _ e=>e).trans k7 fun _ _ e=>e).trans k8 fun _ _ e=>e).trans k9 fun _ _ e=>e).trans k10 fun _ _ e=>e).trans k11 fun _ _ e=>e)
theorem stI (h:Blk w g (x.cells gk i)) {p:Pu} {s:Sl3} {K:World→Prop} (hk:∀ w',Blk w' g (It.cells gk i { x with p:=p,sl:=s })→Kept (·=g) w w'→K w') :
 nn (some ⟨g,0,none⟩) fun q=>stC (Addr.add q 1) (.bool p.r) w fun w1=>stC (Addr.add (Addr.add q 1) 1) (.bool p.w) w1 fun w2=>stC (Addr.add (Addr.add q 1) 2) (.int .i64 p.m) w2 fun w3=>stC (Addr.add (Addr.add q 1) 3) (.int .i64 p.z) w3 fun w4=>stC (Addr.add (Addr.add q 1) 4) (.slice s.oa s.ol s.oc) w4 fun w5=>stC (Addr.add (Addr.add q 1) 5) (.slice s.ia s.il s.ic) w5 fun w6=>stC (Addr.add (Addr.add q 1) 6) (.slice s.ka s.kl s.kc) w6 fun w7=>stC (Addr.add (Addr.add q 1) 7) (.int .i64 p.d) w7 fun w8=>stC (Addr.add (Addr.add q 1) 8) (.bool p.e) w8 fun w9=>stC (Addr.add (Addr.add q 1) 9) (.bool p.b) w9 fun w10=>stC (Addr.add (Addr.add q 1) 10) (.bool p.c) w10 K:=
 nnI (st14 h hk)
end
section
variable {w : World} {gk : Nat} {L : KL} {s : AK} {tg : Nat → Nat} {V : TV}
theorem rd_at {w:World} {a:Option Addr} {l c:Nat} {xs:List Value} (h:RdS 1 w a l c xs) {j:Nat} {v:Value} (hj:xs[j]?=some v):∃ q,a=some q∧w.cell? (q.add j)=some v:=by
 cases a with
 | none=>
  have:=(RdS.isNone h rfl).2.2
  rw [this] at hj
  cases hj
 | some q=>exact ⟨q,rfl,h.2.2.2 q rfl j v hj⟩
theorem rnone_to (h:TO w gk L s tg V) {Q:Value→World→Prop} (hq:Q (.bool false) w):CallR Tryz.prog 155 [pd V.rg] w Q:=by
 refine C155 ?_
 unfold L155
 exact condF rfl (nnI ⟨_,h.reg.at0 rfl,hq⟩)
theorem TO.itemAt (h:TO w gk L s tg V) {j:Nat} {y:It} (hy:V.its[j]?=some y):∃ q,V.ai=some q∧w.cell? (q.add j)=some (pd y.g):=
 rd_at h.items.rd (by rw [List.getElem?_map,hy]; rfl)
theorem rfind_ok (h:TO w gk L s tg V) {i:Nat} {x:It} (hx:V.its[i]?=some x) {Q:Value→World→Prop} (hq:Q (.tuple #[pd x.g,.int .i64 0]) w):CallR Tryz.prog 138 [pd V.rg,.int .i64 (i:Int)] w Q:=by
 refine C138 ?_
 unfold L138
 have hil:i< V.its.length:=(List.getElem?_eq_some_iff.1 hx).1
 refine rnone_to h ⟨_,rfl,condF rfl (nnI ⟨_,_,_,h.reg.at (i:=1) rfl,?_⟩)⟩
 refine ⟨fun vs w'=>w'=w∧∃ j:Nat,vs=[.int .i64 (j:Int)]∧j≤i,fun vs _=>match vs with | [.int _ j]=>i - j.toNat | _=>0,⟨rfl,0,rfl,Nat.zero_le _⟩,?_⟩
 rintro _ n9 w2 ⟨rfl,j,hvs,hj⟩
 simp only [List.cons.injEq,Value.int.injEq,true_and,and_true] at hvs
 subst hvs
 have hjl:j< V.its.length:=by omega
 obtain ⟨q,ha,hc⟩:=h.itemAt (List.getElem?_eq_getElem hjl)
 have hb:=(h.it j _ (List.getElem?_eq_getElem hjl)).1
 refine condT (by simp; omega) ⟨⟨by omega,by omega⟩,nnE ha ⟨_,by rw [Int.toNat_natCast]; exact hc,nnI ⟨_,hb.at0 rfl,?_⟩⟩⟩
 refine condE (fun e=>?_) (fun e=>⟨by unfold inI; have:=h.len; omega,⟨rfl,j+1,by simp,by omega⟩,by simp only; omega⟩)
 have e:j=i:=by omega
 subst e
 have:V.its[j]=x:=by
  have:=List.getElem?_eq_getElem hjl
  rw [hx] at this
  exact (Option.some.inj this).symm
 rw [this]
 exact hq
theorem rstate_ok (h:TO w gk L s tg V) {i:Nat} {x:It} (hx:V.its[i]?=some x) (hbd:Bd x.p):CallR Tryz.prog 106 [pd V.rg,.int .i64 (i:Int)] w fun v w'=>∃ sl',v=.tuple #[.agg (cs x.p sl'),.int .i64 0]∧Ow3 w w' sl' x.p∧Kept No w w':=by
 refine C106 ?_
 unfold L106
 intro w1
 have hb1:Blk w1 w.heap.size (cs zP zS):=Blk.alloc _ _ _
 have hk1:Kept No w w1:=Kept.alloc _ _ _
 clear_value w1
 have h1:=h.no hk1
 refine rfind_ok h1 hx ⟨_,_,rfl,condF rfl (ldI (h1.it i x hx).1 (CallR.mono (rown_ok (h1.it i x hx).2 hbd) ?_))⟩
 rintro v w14 ⟨sl',rfl,ho,hk⟩
 have hz:=hk1.size
 have hl:=hb1.lt
 have hnew:=ho.new
 refine ⟨_,_,_,_,_,_,_,_,_,_,_,_,_,_,_,_,_,rfl,st11 (p:=x.p) (s:=sl') (hb1.no' hk) rfl fun w25 hb25 hk25=>ld11 hb25 ?_⟩
 exact ⟨sl',rfl,(ho.keep hk25 fun b hb e=>by have:=hnew b hb; omega).base hz,(hk1.no hk).fresh hk25 fun z e=>by omega⟩
theorem rraw_ok (h:TO w gk L s tg V) {i:Nat} {x:It} (hx:V.its[i]?=some x) {Q:Value→World→Prop} (hq:Q (.tuple #[hv gk x.d,.int .i64 0]) w):CallR Tryz.prog 107 [pd V.rg,.int .i64 (i:Int)] w Q:=by
 refine C107 ?_
 unfold L107
 exact rfind_ok h hx ⟨_,_,rfl,condF rfl (nnI ⟨_,(h.it i x hx).1.at (i:=12) rfl,hq⟩)⟩
theorem rmay_ok {p:Pu} {sl:Sl3} (h:Rd3 w sl p) (hbd:Bd p) (hck:ckP p) (hc:p.c=false):CallR Tryz.prog 169 [.agg (cs p sl)] w fun v w'=>v=.int .i64 0∧Kept No w w':=by
 refine C169 ?_
 unfold L169
 intro w1
 have hb1:Blk w1 w.heap.size (cs p sl):=Blk.alloc _ _ _
 have hk1:Kept No w w1:=Kept.alloc _ _ _
 clear_value w1
 refine ld11 hb1 (CallR.mono (check_ok p sl (h.no hk1) hbd) ?_)
 rintro v w2 ⟨rfl,hk2⟩
 exact ⟨_,rfl,condF (by rw [if_pos hck]; rfl) ⟨_,((hb1.no' hk2).cell 10).trans rfl,condF hc ⟨rfl,hk1.no hk2⟩⟩⟩
theorem GS.set {T:Nat→Prop} {w0 w w':World} {L0 L:KL} {tg0 tg:Nat→Nat} (g:GS T w0 w L0 L tg0 tg) {b:Nat} (hb:tg b≠0) (k:Kept (·=b) w w') {sl':Sl3} (hnew:∀ z,In3 sl' z→w0.heap.size≤z):GS T w0 w' L0 L tg0 (tg7 tg sl'):=
 ⟨g.kept.trans k fun x hx e=>by
  have e:x=b:=e
  subst e
  rcases g.grew x (.inr hb) with e | e
  ·exact .inl e
  ·omega,fun z hz=>by
  rcases hz with hz | hz
  ·exact g.grew z (.inl hz)
  ·rcases tg7_ne hz with e | e
   ·exact .inr (hnew z e)
   ·exact g.grew z (.inr e)⟩
theorem rswap_ok (h:TO w gk L s tg V) {i:Nat} {x:It} (hx:V.its[i]?=some x) {p:Pu} {sl:Sl3} (hr:Rd3 w sl p) (hbd:Bd p) (hck:ckP p) (hc:p.c=false) :
 CallR Tryz.prog 109 [pd V.rg,.int .i64 (i:Int),.agg (cs p sl)] w fun v w'=>v=.int .i64 0∧∃ sl',TO w' gk L s (tg7 tg sl') { V with its:=V.its.set i { x with p:=p,sl:=sl' } }∧GS No w w' L L tg (tg7 tg sl')∧(∀ z,In3 sl' z→w.heap.size≤z):=by
 refine C109 ?_
 unfold L109
 intro w1
 have hb1:Blk w1 w.heap.size (cs p sl):=Blk.alloc _ _ _
 have hk1:Kept No w w1:=Kept.alloc _ _ _
 clear_value w1
 have h1:=h.no hk1
 refine rfind_ok h1 hx ⟨_,_,rfl,condT rfl (ld11 hb1 (CallR.mono (rmay_ok (hr.no hk1) hbd hck hc) ?_))⟩
 rintro v w3 ⟨rfl,hk3⟩
 refine ⟨_,rfl,condT rfl (ld11 (hb1.no' hk3) (CallR.mono (rown_ok ((hr.no hk1).no hk3) hbd) ?_))⟩
 rintro v w4 ⟨sl',rfl,ho,hk4⟩
 have kk:Kept No w w4:=(hk1.no hk3).no hk4
 have h4:=h.no kk
 have hz:w.heap.size≤w3.heap.size:=(hk1.no hk3).size
 have hnew:∀ z,In3 sl' z→w.heap.size≤z:=fun z hz'=>Nat.le_trans hz (ho.new z hz')
 have hs:∀ z,In3 sl' z→tg z=0∧L.own z=none∧z< w4.heap.size:=fun z hz'=>by
  refine ⟨?_,h.ker.new_none (hnew z hz'),ho.lt z hz'⟩
  by_cases e:tg z=0
  ·exact e
  ·have:=(h.own z e).2; have:=hnew z hz'; omega
 refine ⟨_,_,_,_,_,_,_,_,_,_,_,_,_,_,_,_,_,rfl,stI (h4.it i x hx).1 fun w15 hb15 hk15=>⟨rfl,sl',h4.setIt hx hk15 hb15 ho.rd hs,?_,hnew⟩⟩
 exact (GS.of_no kk No L tg).set (by rw [(h.tit i x hx).1]; omega) hk15 hnew
set_option maxHeartbeats 1000000 in
theorem rguard_ok {T:Nat→Prop} (h:TO w gk L s tg V) {i:Nat} {x:It} (hx:V.its[i]?=some x) (hbd:Bd x.p) {k:Nat} {xs1 xs2:Array Value} (hB:bodyB Tryz.prog k=true) {Post:Pu→AK→World→Prop} (hT:∀ z,T z→tg z=0∧z< w.heap.size)
 (hf:∀ w3 sl1,Kept No w w3→Rd3 w3 sl1 x.p→CallR Tryz.prog k (xs1.toList ++ ([.agg (cs x.p sl1)] ++ xs2.toList)) w3 fun v w4=>∃ p' sl' s' L',v=.tuple #[.agg (cs p' sl'),.int .i64 0]∧Ow3 w3 w4 sl' p'∧(∀ b,In3 sl' b→L'.own b=none)∧KernO w4 gk s' L'∧XStep T w3 w4 L L'∧Post p' s' w4)
 (hP:∀ p' s' w4 w5 (S:Nat→Prop),Post p' s' w4→Kept S w4 w5→(∀ z,S z→¬ T z)→Post p' s' w5) :
 CallR Tryz.prog 139 [pd x.g,.func (.func k) xs1 xs2] w fun v w'=>v=.int .i64 0∧∃ p' sl' s' L',TO w' gk L' s' (tg7 tg sl') { V with its:=V.its.set i { x with p:=p',sl:=sl' } }∧GS T w w' L L' tg (tg7 tg sl')∧Post p' s' w':=by
 refine C139 ?_
 unfold L139
 intro w1 w2
 have hb1:Blk w1 w.heap.size #[pd x.g]:=Blk.alloc _ _ _
 have hk1:Kept No w w1:=Kept.alloc _ _ _
 clear_value w1
 have hb2:Blk w2 w1.heap.size #[.int .i64 0]:=Blk.alloc _ _ _
 have hk2:Kept No w1 w2:=Kept.alloc _ _ _
 clear_value w2
 have k2:=hk1.no hk2
 have hz1:=hk1.size
 have hl1:=hb1.lt
 have hl2:=hb2.lt
 have h2:=h.no k2
 refine ⟨_,((hb1.no' hk2).cell 0).trans rfl,ldI (h2.it i x hx).1 (CallR.mono (rown_ok (h2.it i x hx).2 hbd) ?_)⟩
 rintro v w3 ⟨sl1,rfl,ho3,hk3⟩
 have k3:=k2.no hk3
 have hz3:=hk3.size
 refine ⟨_,_,_,_,_,_,_,_,_,_,_,_,_,_,_,_,_,rfl,k,xs1,xs2,rfl,hB,CallR.mono (hf w3 sl1 k3 ho3.rd) ?_⟩
 rintro v w4 ⟨p',sl',s',L',rfl,ho4,hoff,hK4,st4,hpost⟩
 have nT:∀ z,w.heap.size≤z→¬ T z:=fun z hz e=>by have:=(hT z e).2; omega
 have nL:∀ z,w.heap.size≤z→¬ (L.own z≠none∨T z):=fun z hz e=>by
  rcases e with e | e
  ·exact e (h.ker.new_none hz)
  ·exact nT z hz e
 have hb14:Blk w4 w.heap.size #[pd x.g]:=((hb1.no' hk2).no' hk3).keep st4.kept (nL _ (Nat.le_refl _))
 have hb24:Blk w4 w1.heap.size #[.int .i64 0]:=(hb2.no' hk3).keep st4.kept (nL _ hz1)
 have h4:TO w4 gk L' s' tg V:=(h.no k3).kern hK4 st4 fun z hz=>(hT z hz).1
 have hz4:=st4.size
 have hnew:∀ z,In3 sl' z→w3.heap.size≤z:=ho4.new
 have hlt:=ho4.lt
 have tg0:∀ z,w.heap.size≤z→tg z=0:=fun z hz=>by
  by_cases e:tg z=0
  ·exact e
  ·have:=(h.own z e).2; omega
 have nOT:∀ z,w.heap.size≤z→z< w3.heap.size→¬ OT L' tg z:=fun z hz1 hz2 e=>by
  rcases e with e | e
  ·exact e (st4.own (h.ker.new_none hz1) hz2)
  ·exact e (tg0 z hz1)
 refine ⟨_,_,_,_,_,_,_,_,_,_,_,_,_,_,_,_,_,_,rfl,?_⟩
 intro w5
 have hb5:Blk w5 w4.heap.size (cs zP zS):=Blk.alloc _ _ _
 have hk5:Kept No w4 w5:=Kept.alloc _ _ _
 clear_value w5
 have hl5:=hb5.lt
 refine st11 (p:=p') (s:=sl') hb5 rfl fun w16 hb16 hk16=>?_
 refine stC_blk ((hb24.no' hk5).keep hk16 (by omega)) (by simp) fun w17 hb17 hk17 _=>?_
 have k17:Kept (fun z=>z=w4.heap.size∨z=w1.heap.size) w4 w17:=((hk5.mono fun _ _ e=>e.elim).trans (hk16.mono fun _ _ e=>(.inl e:_=w4.heap.size∨_=w1.heap.size)) fun _ _ e=>e).trans hk17 fun _ _ e=>.inr e
 have hb1':Blk w17 w.heap.size #[pd x.g]:=hb14.keep k17 (by omega)
 have hb16':Blk w17 w4.heap.size (cs p' sl'):=hb16.keep hk17 (by omega)
 have h17:TO w17 gk L' s' tg V:=h4.keep k17 fun z e=>by
  rcases e with rfl | rfl
  ·exact h4.new (Nat.le_refl _)
  ·exact nOT _ hz1 (by omega)
 have ho17:Ow3 w3 w17 sl' p':=ho4.keep k17 fun b hb e=>by
  have h1:=hnew b hb
  have h2:=hlt b hb
  rcases e with e | e <;> omega
 have g17:GS T w w17 L L' tg tg:=(((GS.of_no k3 T L tg).trans (GS.of_x st4 tg fun z hz=>by have:=(h.own z hz).2; have:=k3.size; omega)).priv k17 fun z e=>by
  right
  have:=k3.size
  rcases e with e | e <;> omega)
 refine ⟨_,(hb1'.cell 0).trans rfl,ld11 hb16' (stI (h17.it i x hx).1 fun w28 hb28 hk28=>?_)⟩
 have hs:∀ z,In3 sl' z→tg z=0∧L'.own z=none∧z< w17.heap.size:=fun z hz=>⟨tg0 z (by have:=hnew z hz; have:=k3.size; omega),hoff z hz,ho17.lt z hz⟩
 have h28:=h17.setIt hx hk28 hb28 ho17.rd hs
 have hxg:tg x.g≠0:=by rw [(h.tit i x hx).1]; omega
 have g28:GS T w w28 L L' tg (tg7 tg sl'):=g17.set hxg hk28 fun z hz=>by have:=hnew z hz; have:=k3.size; omega
 have hxl:x.g< w.heap.size:=(h.own x.g hxg).2
 have hb17':Blk w28 w1.heap.size #[.int .i64 0]:=hb17.keep hk28 (by omega)
 refine ⟨_,(hb17'.cell 0).trans rfl,stC_blk hb17' (by simp) fun w29 hb29 hk29 _=>?_⟩
 have hb29:Blk w29 w1.heap.size #[.int .i64 0]:=hb29
 have hk3s:=k3.size
 have h29:=h28.keep hk29 fun z e=>by
  have e:z=w1.heap.size:=e
  subst e
  intro e
  rcases e with e | e
  ·exact nOT _ hz1 (by omega) (.inl e)
  ·rcases tg7_ne e with e | e
   ·have:=hnew _ e; omega
   ·exact nOT _ hz1 (by omega) (.inr e)
 refine C191 ?_
 unfold L191
 refine ⟨false,w29,by kernel_rfl,condF rfl ⟨_,(hb29.cell 0).trans rfl,rfl,p',sl',s',L',h29,g28.priv hk29 fun z e=>.inr (by omega),?_⟩⟩
 have ha:Post p' s' w17:=hP _ _ _ _ _ hpost k17 fun z e=>nT z (by rcases e with e | e <;> omega)
 have hb:Post p' s' w28:=hP _ _ _ _ _ ha hk28 fun z e eT=>by
  have e:z=x.g:=e
  subst e
  exact hxg (hT _ eT).1
 exact hP _ _ _ _ _ hb hk29 fun z e=>nT z (by omega)
end
structure Tmp (w2 w':World) (L:KL) (gk g:Nat) (p:Pu) (sl:Sl3) (s:AK) (L':KL):Prop where
 ge:w2.heap.size≤g
 blk:Blk w' g (cs p sl)
 own:Ow3 w2 w' sl p
 ns:∀ b,In3 sl b→b≠g∧L'.own b=none
 ng:L'.own g=none
 ker:KernO w' gk s L'
 st:KStep w2 w' L L'
section
variable {w2 wa wg w5 w17 : World} {L L' : KL} {gk : Nat} {p : Pu} {sl : Sl3} {s s0 : AK} {c : Array Value} {t : TypeId}
theorem tmp1 (ka:Kept No w2 wa) (ho:SR wa L w5 p sl gk s L') (hb17:Blk w17 w5.heap.size (cs p sl)) (hk17:Kept (·=w5.heap.size) (w5.alloc (.cells c t)) w17):Tmp w2 w17 L gk w5.heap.size p sl s L':=by
 have hza:=ka.size
 have hz5:=ho.st.size
 have hk6:Kept No w5 (w5.alloc (.cells c t)):=Kept.alloc _ _ _
 have hn:∀ b,In3 sl b→b≠w5.heap.size:=fun b hb e=>by have:=ho.own.lt b hb; omega
 have hg:L'.own w5.heap.size=none:=ho.ker.new_none (Nat.le_refl _)
 exact ⟨by omega,hb17,((ho.own.base hza).no hk6).keep hk17 fun b hb e=>hn b hb e,fun b hb=>⟨hn b hb,ho.off b hb⟩,hg,(ho.ker.no hk6).keep hk17 fun x e=>by rw [e]; exact hg,((KStep.fresh ka ho.st).no hk6).own hk17 (by omega)⟩
theorem tmp2 (hK2:KernO w2 gk s0 L) (kg:Kept No w2 wg) (ho:SR (wg.alloc (.cells c t)) L w5 p sl gk s L') (hb17:Blk w17 wg.heap.size (cs p sl)) (hk17:Kept (·=wg.heap.size) w5 w17):Tmp w2 w17 L gk wg.heap.size p sl s L':=by
 have hk6:Kept No wg (wg.alloc (.cells c t)):=Kept.alloc _ _ _
 have hzg:=kg.size
 have hz6:(wg.alloc (.cells c t)).heap.size=wg.heap.size+1:=by simp
 have hnew:=ho.own.new
 have hn:∀ b,In3 sl b→b≠wg.heap.size:=fun b hb e=>by have:=hnew b hb; omega
 have hg:L'.own wg.heap.size=none:=(XStep.of_k (T:=No) ho.st).own (hK2.new_none hzg) (by omega)
 exact ⟨hzg,hb17,(ho.own.base (by omega)).keep hk17 fun b hb e=>hn b hb e,fun b hb=>⟨hn b hb,ho.off b hb⟩,hg,ho.ker.keep hk17 fun x e=>by rw [e]; exact hg,(KStep.fresh (kg.no hk6) ho.st).own hk17 hzg⟩
end
section
variable {w : World} {p : Pu} {sl : Sl3} {L : KL} {gk : Nat} {s : AK} {d : Int} {N : Nat} {F : List Int → AK → Prop} {c : List Int}
set_option maxHeartbeats 4000000 in
theorem put1_ok (hK:KernO w gk s L) (h:Rd3 w sl p) (hp:WrA p) (wr:AK.WrK N d F) (hF:F c s) {a:Option Addr} {l k:Nat} {bs:List Int} (hb:RdB w a l k bs) (hoff:bs≠[]→∀ z,inA a z→L.own z=none) (hN:c.length+p.o.length+bs.length≤N) (hl:bs.length≤1048576)
 {bx bb bn i:Nat} {x:It} {n0:Int} (hxd:x.d=d) (hxb:Blk w x.g (x.cells gk i)) (hbx:Blk w bx #[pd x.g]) (hbb:Blk w bb #[.slice a l k]) (hbn:Blk w bn #[.int .i64 n0]) (hln:L.own bn=none) :
 CallR Tryz.prog 144 [.agg (cs p sl),pd bx,pd bb,pd bn] w fun v w'=>∃ p' sl' s' L',v=.tuple #[.agg (cs p' sl'),.int .i64 0]∧Ow3 w w' sl' p'∧(∀ b,In3 sl' b→L'.own b=none)∧KernO w' gk s' L'∧XStep (·=bn) w w' L L'∧
  (Blk w' bn #[.int .i64 (l:Int)]∧∃ c',F c' s'∧c' ++ p'.o=c ++ p.o ++ bs∧WrA p'):=by
 refine C144 ?_
 unfold L144
 intro w1 w2
 have hb1:Blk w1 w.heap.size (cs p sl):=Blk.alloc _ _ _
 have hk1:Kept No w w1:=Kept.alloc _ _ _
 clear_value w1
 have hb2:Blk w2 w1.heap.size (cs zP zS):=Blk.alloc _ _ _
 have hk2:Kept No w1 w2:=Kept.alloc _ _ _
 clear_value w2
 have k2:=hk1.no hk2
 have hz1:=hk1.size
 have hl2:=hb2.lt
 have hb12:=hb1.no' hk2
 obtain ⟨J,hJ⟩:∃ J:List Value→World→Prop,J=fun vs w'=>∃ g p' sl' s' L' c',vs=[pd g,.int .i64 (l:Int),.int .i64 0]∧Tmp w2 w' L gk g p' sl' s' L'∧F c' s'∧c' ++ p'.o=c ++ p.o ++ bs∧WrA p':=⟨_,rfl⟩
 refine ⟨J,?_,?_⟩
 ·intro w3
  have hk3:Kept No w2 w3:=Kept.drew _ _
  clear_value w3
  have kA:Kept No w3 (World.alloc w3 (.cells (cs zP zS) 151)):=Kept.alloc _ _ _
  have eS3:=hb12.no' hk3
  have eSA:=eS3.no' kA
  have k3:=k2.no hk3
  have e13:w3.cell? ⟨bx,0,none⟩=some (pd x.g):=(hbx.no' k3).at0 rfl
  have e1A:(World.alloc w3 (.cells (cs zP zS) 151)).cell? ⟨bx,0,none⟩=some (pd x.g):=((hbx.no' k3).no' kA).at0 rfl
  have e23:w3.cell? (Addr.add ⟨x.g,0,none⟩ 12)=some (hv gk d):=by rw [← hxd]; exact (hxb.no' k3).at (i:=12) rfl
  have e2A:(World.alloc w3 (.cells (cs zP zS) 151)).cell? (Addr.add ⟨x.g,0,none⟩ 12)=some (hv gk d):=by rw [← hxd]; exact ((hxb.no' k3).no' kA).at (i:=12) rfl
  have e33:w3.cell? ⟨bb,0,none⟩=some (.slice a l k):=(hbb.no' k3).at0 rfl
  have e3A:(World.alloc w3 (.cells (cs zP zS) 151)).cell? ⟨bb,0,none⟩=some (.slice a l k):=((hbb.no' k3).no' kA).at0 rfl
  have call3:=lputA_ok (hK.no k3) (h.no k3) hp wr hF (hb.keep k3 fun _ _ _ e=>e) hoff hN hl
  have callA:=lputA_ok (hK.no (k3.no kA)) (h.no (k3.no kA)) hp wr hF (hb.keep (k3.no kA) fun _ _ _ e=>e) hoff hN hl
  have hK2:=hK.no k2
  repeat' first
   | refine CallR.mono call3 ?_
     rintro v w5 ⟨o',d',sl',s',L',c',rfl,hSR,hF',hc',hp'⟩
     refine ⟨_,_,_,_,_,_,_,_,_,_,_,_,_,_,_,_,_,_,_,rfl,st11 (p:={ p with o:=o',d:=d' }) (s:=sl') (Blk.alloc w5 (cs zP zS) _) rfl fun w17 hb17 hk17=>?_⟩
     rw [hJ]
     exact ⟨_,_,sl',s',L',c',rfl,tmp1 hk3 hSR hb17 hk17,hF',hc',hp'⟩
   | refine CallR.mono callA ?_
     rintro v w5 ⟨o',d',sl',s',L',c',rfl,hSR,hF',hc',hp'⟩
     refine ⟨_,_,_,_,_,_,_,_,_,_,_,_,_,_,_,_,_,_,_,rfl,st11 (p:={ p with o:=o',d:=d' }) (s:=sl') ((Blk.alloc w3 (cs zP zS) 151).keep hSR.st.kept fun e=>e (hK2.new_none hk3.size)) rfl fun w17 hb17 hk17=>?_⟩
     rw [hJ]
     exact ⟨_,_,sl',s',L',c',rfl,tmp2 hK2 hk3 hSR hb17 hk17,hF',hc',hp'⟩
   | refine ⟨_,e13,nnI ?_⟩
   | refine ⟨_,e1A,nnI ?_⟩
   | refine ⟨_,e23,?_⟩
   | refine ⟨_,e2A,?_⟩
   | refine ⟨_,_,_,e33,?_⟩
   | refine ⟨_,_,_,e3A,?_⟩
   | refine ld11 eS3 ?_
   | refine ld11 eSA ?_
   | refine And.intro ?_ ?_
 ·rintro _ p1525 n1526 n1527 w915 hj
  rw [hJ] at hj
  obtain ⟨g,p',sl',s',L',c',hvs,hT,hF',hc',hp'⟩:=hj
  simp only [List.cons.injEq,Value.int.injEq,Value.pointer.injEq,true_and,and_true] at hvs
  obtain ⟨rfl,rfl,rfl⟩:=hvs
  have hlbn:=hbn.lt
  have hz2:=k2.size
  have hst:KStep w w915 L L':=KStep.fresh k2 hT.st
  have hn':L'.own bn=none:=(XStep.of_k (T:=No) hst).own hln hlbn
  have hnew:=hT.own.new
  have hge:=hT.ge
  refine stC_blk (hbn.keep hst.kept fun e=>e hln) (by simp) fun w916 hb916 hk916 _=>?_
  have hb916:Blk w916 bn #[.int .i64 (l:Int)]:=hb916
  have hbg:Blk w916 g (cs p' sl'):=hT.blk.keep hk916 (by omega)
  have hb2':Blk w916 w1.heap.size (cs zP zS):=(hb2.keep hT.st.kept fun e=>e (hK.new_none hz1)).keep hk916 (by omega)
  refine ld11 hbg (st11 (p:=p') (s:=sl') hb2' rfl fun w927 hb927 hk927=>ld11 hb927 ?_)
  have hk:Kept (fun z=>z=bn∨z=w1.heap.size) w915 w927:=(hk916.mono fun _ _ e=>.inl e).trans hk927 fun _ _ e=>.inr e
  refine ⟨p',sl',s',L',rfl,(hT.own.keep hk fun b hb e=>?_).base hz2,fun b hb=>(hT.ns b hb).2,hT.ker.keep hk fun z e=>?_,⟨hst.kept.mono (fun _ _ e=>.inl e) |>.trans hk fun z hz e=>?_,hst.grew⟩,hb916.keep hk927 (by omega),c',hF',hc',hp'⟩
  ·have:=hnew b hb
   rcases e with e | e <;> omega
  ·rcases e with rfl | rfl
   ·exact hn'
   ·exact (XStep.of_k (T:=No) hT.st).own (hK.new_none hz1) hl2
  ·rcases e with e | e
   ·exact .inr e
   ·omega
theorem rput_ok2 {tg:Nat→Nat} {V:TV} (h:TO w gk L s tg V) {i:Nat} {x:It} (hx:V.its[i]?=some x) (hxd:x.d=d) (hp:WrA x.p) (wr:AK.WrK N d F) (hF:F c s) {a:Option Addr} {l k:Nat} {bs:List Int} (hb:RdB w a l k bs) (hoff:bs≠[]→∀ z,inA a z→L.own z=none) (hN:c.length+x.p.o.length+bs.length≤N) (hl:bs.length≤1048576) :
 CallR Tryz.prog 79 [pd V.rg,.int .i64 (i:Int),.slice a l k] w fun v w'=>v=.tuple #[.int .i64 (l:Int),.int .i64 0]∧∃ p' sl' s' L' tg' c',TO w' gk L' s' tg' { V with its:=V.its.set i { x with p:=p',sl:=sl' } }∧GS No w w' L L' tg tg'∧F c' s'∧c' ++ p'.o=c ++ x.p.o ++ bs∧WrA p':=by
 refine C79 ?_
 unfold L79
 intro w1
 have hb1:Blk w1 w.heap.size #[.slice a l k]:=Blk.alloc _ _ _
 have hk1:Kept No w w1:=Kept.alloc _ _ _
 clear_value w1
 have h1:=h.no hk1
 refine rfind_ok h1 hx ⟨_,_,rfl,?_⟩
 intro w3
 have hb3:Blk w3 w1.heap.size #[.pointer none]:=Blk.alloc _ _ _
 have hk3:Kept No w1 w3:=Kept.alloc _ _ _
 clear_value w3
 have hz1:=hk1.size
 have hl1:=hb1.lt
 have hl3:=hb3.lt
 refine stC_blk hb3 (by simp) fun w4 hb4 hk4 _=>condF rfl ?_
 have hb4:Blk w4 w1.heap.size #[pd x.g]:=hb4
 have k4:Kept No w w4:=(hk1.no hk3).fresh hk4 fun z e=>by omega
 intro w5
 have hb5:Blk w5 w4.heap.size #[.int .i64 0]:=Blk.alloc _ _ _
 have hk5:Kept No w4 w5:=Kept.alloc _ _ _
 clear_value w5
 have hl5:=hb5.lt
 have hz4:=hk4.size
 refine stC_blk hb5 (by simp) fun w6 hb6 hk6 _=>?_
 have hb6:Blk w6 w4.heap.size #[.int .i64 0]:=hb6
 have k6:Kept No w w6:=(k4.no hk5).fresh hk6 fun z e=>by have:=k4.size; omega
 have hb46:Blk w6 w1.heap.size #[pd x.g]:=(hb4.no' hk5).keep hk6 (by omega)
 have hb16:Blk w6 w.heap.size #[.slice a l k]:=(((hb1.no' hk3).keep hk4 (by omega)).no' hk5).keep hk6 (by omega)
 have h6:=h.no k6
 have hz5:=hk5.size
 have hz6:=hk6.size
 have t0:∀ z,w.heap.size≤z→tg z=0:=fun z hz=>by
  by_cases e:tg z=0
  ·exact e
  ·have:=(h.own z e).2; omega
 have k4s:=k4.size
 refine ⟨_,(hb46.cell 0).trans rfl,CallR.mono (rguard_ok (T:=fun z=>z=w4.heap.size) h6 hx hp.bd (k:=144) (xs1:=#[]) (xs2:=#[pd w1.heap.size,pd w.heap.size,pd w4.heap.size]) (by kernel_rfl) (Post:=fun p' s' w'=>Blk w' w4.heap.size #[.int .i64 (l:Int)]∧∃ c',F c' s'∧c' ++ p'.o=c ++ x.p.o ++ bs∧WrA p')
  (fun z e=>by have e:z=w4.heap.size:=e; subst e; exact ⟨t0 _ k4s,by omega⟩)
  (fun w7 sl1 k7 hr=>?_) (fun p' s' wa wb S hPa hS hn=>⟨hPa.1.keep hS fun e=>hn _ e rfl,hPa.2⟩)) ?_⟩
 ·exact put1_ok (h6.ker.no k7) hr hp wr hF (hb.keep (k6.no k7) fun _ _ _ e=>e) hoff hN hl hxd ((h6.it i x hx).1.no' k7) (hb46.no' k7) (hb16.no' k7) (hb6.no' k7) (h.ker.new_none k4s)
 ·rintro v w7 ⟨rfl,p',sl',s',L',hT,hG,hbn,c',hF',hc',hp'⟩
  refine ⟨_,rfl,_,(hbn.cell 0).trans rfl,rfl,p',sl',s',L',_,c',hT,GS.narrow k6 hG fun z e=>.inr (by have e:z=w4.heap.size:=e; omega),hF',hc',hp'⟩
end
section
variable {w : World} {L : KL} {gk : Nat} {s : AK} {d : Int} {N : Nat} {F : List Int → AK → Prop} {c : List Int} {tg : Nat → Nat} {V : TV}
def FlC (w:World) (gk:Nat) (L:KL) (p:Pu) (d:Int) (Post:Pu→AK→Prop):Prop:=∀ wa sl1,Kept No w wa→Rd3 wa sl1 p→CallR Tryz.prog 198 [.agg (cs p sl1),hv gk d] wa fun v w'=>∃ p' sl' s' L',v=.tuple #[.agg (cs p' sl'),.int .i64 0]∧SR wa L w' p' sl' gk s' L'∧Post p' s'
theorem flcW {p:Pu} (hK:KernO w gk s L) (hp:WrA p) (wr:AK.WrK N d F) (hF:F c s) (hN:c.length+p.o.length≤N):FlC w gk L p d fun p' s'=>p'={ p with o:=[],d:=0 }∧F (c ++ p.o) s':=by
 intro wa sl1 k hr
 refine CallR.mono (sflushA_ok (hK.no k) hr hp wr hF hN) ?_
 rintro v w' ⟨sl',s',L',rfl,h1,h2⟩
 exact ⟨_,sl',s',L',rfl,h1,rfl,h2⟩
theorem flcR {p:Pu} (hK:KernO w gk s L) (hp:RdP p):FlC w gk L p d fun p' s'=>p'=p∧s'=s:=by
 intro wa sl1 k hr
 refine CallR.mono (sflushR_ok (hK.no k) hr hp) ?_
 rintro v w' ⟨sl',L',rfl,h1⟩
 exact ⟨_,sl',s,L',rfl,h1,rfl,rfl⟩
theorem flush1_ok {p:Pu} {sl:Sl3} {Post:Pu→AK→Prop} (hK:KernO w gk s L) (h:Rd3 w sl p) (fl:FlC w gk L p d Post) {bx i:Nat} {x:It} (hxd:x.d=d) (hxb:Blk w x.g (x.cells gk i)) (hbx:Blk w bx #[pd x.g]) :
 CallR Tryz.prog 204 [.agg (cs p sl),pd bx] w fun v w'=>∃ p' sl' s' L',v=.tuple #[.agg (cs p' sl'),.int .i64 0]∧Ow3 w w' sl' p'∧(∀ b,In3 sl' b→L'.own b=none)∧KernO w' gk s' L'∧XStep No w w' L L'∧Post p' s':=by
 refine C204 ?_
 unfold L204
 intro w1 w2
 have hb1:Blk w1 w.heap.size (cs p sl):=Blk.alloc _ _ _
 have hk1:Kept No w w1:=Kept.alloc _ _ _
 clear_value w1
 have hb2:Blk w2 w1.heap.size (cs zP zS):=Blk.alloc _ _ _
 have hk2:Kept No w1 w2:=Kept.alloc _ _ _
 clear_value w2
 intro w3
 have hk3:Kept No w2 w3:=Kept.drew _ _
 clear_value w3
 have k2:=hk1.no hk2
 have k3:=k2.no hk3
 have hz1:=hk1.size
 have hl2:=hb2.lt
 have e2:w3.cell? (Addr.add ⟨x.g,0,none⟩ 12)=some (hv gk d):=by rw [← hxd]; exact (hxb.no' k3).at (i:=12) rfl
 refine ld11 ((hb1.no' hk2).no' hk3) ⟨_,(hbx.no' k3).at0 rfl,nnI ⟨_,e2,CallR.mono (fl w3 sl k3 (h.no k3)) ?_⟩⟩
 rintro v w4 ⟨p',sl',s',L',rfl,hSR,hP⟩
 have hz3:=hk3.size
 refine ⟨_,_,_,_,_,_,_,_,_,_,_,_,_,_,_,_,_,_,rfl,st11 (p:=p') (s:=sl') ((hb2.no' hk3).keep hSR.st.kept fun e=>e (hK.new_none hz1)) rfl fun w15 hb15 hk15=>ld11 hb15 ?_⟩
 have:=SR.res hK k3 hSR hk15 fun z e=>⟨by omega,.inl (by omega)⟩
 exact ⟨p',sl',s',L',rfl,this.own,this.off,this.ker,.of_k this.st,hP⟩
theorem iflush_ok (h:TO w gk L s tg V) {i:Nat} {x:It} (hx:V.its[i]?=some x) (hbd:Bd x.p) {Post:Pu→AK→Prop} (fl:FlC w gk L x.p x.d Post) :
 CallR Tryz.prog 148 [pd x.g] w fun v w'=>v=.int .i64 0∧∃ p' sl' s' L' tg',TO w' gk L' s' tg' { V with its:=V.its.set i { x with p:=p',sl:=sl' } }∧GS No w w' L L' tg tg'∧Post p' s':=by
 refine C148 ?_
 unfold L148
 intro w1
 have hb1:Blk w1 w.heap.size #[pd x.g]:=Blk.alloc _ _ _
 have hk1:Kept No w w1:=Kept.alloc _ _ _
 clear_value w1
 have h1:=h.no hk1
 refine ⟨_,(hb1.cell 0).trans rfl,CallR.mono (rguard_ok (T:=No) h1 hx hbd (k:=204) (xs1:=#[]) (xs2:=#[pd w.heap.size]) (by kernel_rfl) (Post:=fun p' s' w'=>Post p' s')
  (fun z e=>e.elim) (fun w7 sl1 k7 hr=>?_) (fun p' s' wa wb S hPa hS hn=>hPa)) ?_⟩
 ·exact flush1_ok (h1.ker.no k7) hr (fun wa sl1 k=>fl wa sl1 ((hk1.no k7).no k)) rfl ((h1.it i x hx).1.no' k7) (hb1.no' k7)
 ·rintro v w7 ⟨rfl,p',sl',s',L',hT,hG,hP⟩
  exact ⟨_,rfl,rfl,p',sl',s',L',_,hT,GS.narrow hk1 hG fun z e=>.inl e,hP⟩
theorem rflush_ok (h:TO w gk L s tg V) {i:Nat} {x:It} (hx:V.its[i]?=some x) (hbd:Bd x.p) {Post:Pu→AK→Prop} (fl:FlC w gk L x.p x.d Post) :
 CallR Tryz.prog 82 [pd V.rg,.int .i64 (i:Int)] w fun v w'=>v=.int .i64 0∧∃ p' sl' s' L' tg',TO w' gk L' s' tg' { V with its:=V.its.set i { x with p:=p',sl:=sl' } }∧GS No w w' L L' tg tg'∧Post p' s':=by
 refine C82 ?_
 unfold L82
 refine rfind_ok h hx ⟨_,_,rfl,condF rfl (CallR.mono (iflush_ok h hx hbd fl) ?_)⟩
 rintro v w' ⟨rfl,hr⟩
 exact ⟨_,rfl,rfl,hr⟩
theorem rflushall_ok (h:TO w gk L s tg V) {x0 x1:It} (hits:V.its=[x0,x1]) (hp0:WrA x0.p) (hp1:RdP x1.p) (wr:AK.WrK N x0.d F) (hF:F c s) (hN:c.length+x0.p.o.length≤N) :
 CallR Tryz.prog 89 [pd V.rg] w fun v w'=>v=.int .i64 0∧∃ sl0 sl1 s' L' tg',TO w' gk L' s' tg' { V with its:=[{ x0 with p:={ x0.p with o:=[],d:=0 },sl:=sl0 },{ x1 with sl:=sl1 }] }∧GS No w w' L L' tg tg'∧F (c ++ x0.p.o) s':=by
 refine C89 ?_
 unfold L89
 have hx0:V.its[0]?=some x0:=by rw [hits]; rfl
 have hlen:V.its.length=2:=by rw [hits]; rfl
 refine rnone_to h ⟨_,rfl,condF rfl (nnI ⟨_,_,_,h.reg.at (i:=1) rfl,?_⟩)⟩
 obtain ⟨I,hI⟩:∃ I:List Value→World→Prop,I=fun vs w'=>(vs=[.int .i64 0,.int .i64 0]∧w'=w)∨
  (vs=[.int .i64 0,.int .i64 1]∧∃ sl0 s' L' tg',TO w' gk L' s' tg' { V with its:=[{ x0 with p:={ x0.p with o:=[],d:=0 },sl:=sl0 },x1] }∧GS No w w' L L' tg tg'∧F (c ++ x0.p.o) s')∨
  (vs=[.int .i64 0,.int .i64 2]∧∃ sl0 sl1 s' L' tg',TO w' gk L' s' tg' { V with its:=[{ x0 with p:={ x0.p with o:=[],d:=0 },sl:=sl0 },{ x1 with sl:=sl1 }] }∧GS No w w' L L' tg tg'∧F (c ++ x0.p.o) s'):=⟨_,rfl⟩
 refine ⟨I,fun vs _=>match vs with | [_,.int _ j]=>2 - j.toNat | _=>0,?_,?_⟩
 ·rw [hI]; exact .inl ⟨rfl,rfl⟩
 rintro _ n8 n9 w2 hinv
 rw [hI] at hinv
 rcases hinv with ⟨hvs,rfl⟩ | ⟨hvs,sl0,s',L',tg',h2,hG,hF2⟩ | ⟨hvs,sl0,sl1,s',L',tg',h2,hG,hF2⟩
 ·simp only [List.cons.injEq,Value.int.injEq,true_and,and_true] at hvs
  obtain ⟨rfl,rfl⟩:=hvs
  obtain ⟨q,ha,hc⟩:=h.itemAt hx0
  refine condT (by rw [hlen]; decide) ⟨⟨by omega,by omega⟩,nnE ha ⟨_,hc,CallR.mono (iflush_ok h hx0 hp0.bd (flcW h.ker hp0 wr hF hN)) ?_⟩⟩
  rintro v w3 ⟨rfl,p',sl',s',L',tg',hT,hG,rfl,hF'⟩
  refine ⟨_,rfl,condT rfl ⟨by unfold inI; omega,?_,by simp⟩⟩
  rw [hI]
  rw [hits] at hT
  exact .inr (.inl ⟨rfl,sl',s',L',tg',hT,hG,hF'⟩)
 ·simp only [List.cons.injEq,Value.int.injEq,true_and,and_true] at hvs
  obtain ⟨rfl,rfl⟩:=hvs
  have hx1:([{ x0 with p:={ x0.p with o:=[],d:=0 },sl:=sl0 },x1]:List It)[1]?=some x1:=rfl
  obtain ⟨q,ha,hc⟩:=h2.itemAt hx1
  refine condT (by rw [hlen]; decide) ⟨⟨by omega,by omega⟩,nnE ha ⟨_,hc,CallR.mono (iflush_ok h2 hx1 hp1.bd (flcR h2.ker hp1)) ?_⟩⟩
  rintro v w3 ⟨rfl,p',sl',s'',L'',tg'',hT,hG',rfl,rfl⟩
  refine ⟨_,rfl,condT rfl ⟨by unfold inI; omega,?_,by simp⟩⟩
  rw [hI]
  exact .inr (.inr ⟨rfl,sl0,sl',s'',L'',tg'',hT,hG.trans hG',hF2⟩)
 ·simp only [List.cons.injEq,Value.int.injEq,true_and,and_true] at hvs
  obtain ⟨rfl,rfl⟩:=hvs
  exact condF (by rw [hlen]; decide) ⟨rfl,sl0,sl1,s',L',tg',h2,hG,hF2⟩
end
structure Cl where
 op:Int
 fd:Int
 a:Int
 b:Int
 tx:ByteArray
 md:ByteArray
 da:Option Addr
 dl:Nat
 dc:Nat
def Cl.cells (x:Cl):Array Value:=#[.int .i64 x.op,.int .i64 x.fd,.int .i64 x.a,.int .i64 x.b,.string x.tx,.string x.md,.slice x.da x.dl x.dc,.slice none 0 0,.slice none 0 0]
structure An where
 e:Int
 n:Int
 da:Option Addr
 dl:Nat
 dc:Nat
def An.cells (x:An):Array Value:=#[.int .i64 x.e,.int .i64 x.n,.int .i64 0,.slice x.da x.dl x.dc,.slice none 0 0]
def An.zero:An:=⟨0,0,none,0,0⟩
section
variable {w : World} {g : Nat}
theorem st5 {cur:Array Value} (h:Blk w g cur) (hs:cur.size=5) {v0 v1 v2 v3 v4:Value} {K:World→Prop} (hk:∀ w',Blk w' g #[v0,v1,v2,v3,v4]→Kept (·=g) w w'→w'.heap.size=w.heap.size→K w') :
 stC (Addr.mk g 0 none) v0 w fun w1=>stC (Addr.mk g 1 none) v1 w1 fun w2=>stC (Addr.mk g 2 none) v2 w2 fun w3=>stC (Addr.mk g 3 none) v3 w3 fun w4=>stC (Addr.mk g 4 none) v4 w4 K:=by
 obtain ⟨l⟩:=cur
 match l,hs with
 | [a0,a1,a2,a3,a4],_=>
  refine stC_blk h (by simp) fun w1 h1 k1 s1=>?_
  have h1:Blk w1 g #[v0,a1,a2,a3,a4]:=h1
  refine stC_blk h1 (by simp) fun w2 h2 k2 s2=>?_
  have h2:Blk w2 g #[v0,v1,a2,a3,a4]:=h2
  refine stC_blk h2 (by simp) fun w3 h3 k3 s3=>?_
  have h3:Blk w3 g #[v0,v1,v2,a3,a4]:=h3
  refine stC_blk h3 (by simp) fun w4 h4 k4 s4=>?_
  have h4:Blk w4 g #[v0,v1,v2,v3,a4]:=h4
  refine stC_blk h4 (by simp) fun w5 h5 k5 s5=>?_
  exact hk w5 h5 ((((k1.trans k2 fun _ _ e=>e).trans k3 fun _ _ e=>e).trans k4 fun _ _ e=>e).trans k5 fun _ _ e=>e) (by omega)
theorem ld5 {x:An} (h:Blk w g x.cells) {K:Int→Int→Int→Option Addr→Nat→Nat→Option Addr→Nat→Nat→Prop} (hk:K x.e x.n 0 x.da x.dl x.dc none 0 0) :
 ∃ (n0:Int) (n1:Int) (n2:Int) (a3:Option Addr) (l3:Nat) (c3:Nat) (a4:Option Addr) (l4:Nat) (c4:Nat),w.cell? (Addr.mk g 0 none)=some ((.int .i64 n0:Value))∧w.cell? (Addr.mk g 1 none)=some ((.int .i64 n1:Value))∧w.cell? (Addr.mk g 2 none)=some ((.int .i64 n2:Value))∧w.cell? (Addr.mk g 3 none)=some ((.slice a3 l3 c3:Value))∧w.cell? (Addr.mk g 4 none)=some ((.slice a4 l4 c4:Value))∧K n0 n1 n2 a3 l3 c3 a4 l4 c4:=
 ⟨_,_,_,_,_,_,_,_,_,(h.cell 0).trans rfl,(h.cell 1).trans rfl,(h.cell 2).trans rfl,(h.cell 3).trans rfl,(h.cell 4).trans rfl,hk⟩
theorem ld9 {x:Cl} (h:Blk w g x.cells) {K:Int→Int→Int→Int→ByteArray→ByteArray→Option Addr→Nat→Nat→Option Addr→Nat→Nat→Option Addr→Nat→Nat→Prop} (hk:K x.op x.fd x.a x.b x.tx x.md x.da x.dl x.dc none 0 0 none 0 0) :
 ∃ (n0:Int) (n1:Int) (n2:Int) (n3:Int) (s4:ByteArray) (s5:ByteArray) (a6:Option Addr) (l6:Nat) (c6:Nat) (a7:Option Addr) (l7:Nat) (c7:Nat) (a8:Option Addr) (l8:Nat) (c8:Nat),w.cell? (Addr.mk g 0 none)=some ((.int .i64 n0:Value))∧w.cell? (Addr.mk g 1 none)=some ((.int .i64 n1:Value))∧w.cell? (Addr.mk g 2 none)=some ((.int .i64 n2:Value))∧w.cell? (Addr.mk g 3 none)=some ((.int .i64 n3:Value))∧w.cell? (Addr.mk g 4 none)=some ((.string s4:Value))∧w.cell? (Addr.mk g 5 none)=some ((.string s5:Value))∧w.cell? (Addr.mk g 6 none)=some ((.slice a6 l6 c6:Value))∧w.cell? (Addr.mk g 7 none)=some ((.slice a7 l7 c7:Value))∧w.cell? (Addr.mk g 8 none)=some ((.slice a8 l8 c8:Value))∧K n0 n1 n2 n3 s4 s5 a6 l6 c6 a7 l7 c7 a8 l8 c8:=
 ⟨_,_,_,_,_,_,_,_,_,_,_,_,_,_,_,(h.cell 0).trans rfl,(h.cell 1).trans rfl,(h.cell 2).trans rfl,(h.cell 3).trans rfl,(h.cell 4).trans rfl,(h.cell 5).trans rfl,(h.cell 6).trans rfl,(h.cell 7).trans rfl,(h.cell 8).trans rfl,hk⟩
end
structure AnO (w0 w:World) (L:KL) (tg:Nat→Nat) (an:An) (bs:List Int):Prop where
 rd:RdB w an.da an.dl an.dc bs
 off:∀ z,inA an.da z→w0.heap.size≤z∧¬ OT L tg z∧z< w.heap.size
 nil:bs=[]→an.da=none∧an.dc=0
theorem AnO.none (w0 w:World) (L:KL) (tg:Nat→Nat) (e n:Int):AnO w0 w L tg ⟨e,n,.none,0,0⟩ []:=⟨RdB.nil w,fun z hz=>absurd hz (inA_none z),fun _=>⟨rfl,rfl⟩⟩
def Did (w:World) (gk:Nat) (L:KL) (tg:Nat→Nat) (V:TV) (Post:Int→List Int→AK→TV→Prop) (v:Value) (w':World):Prop:=
 ∃ (an:An) (bs:List Int) (L':KL) (s':AK) (tg':Nat→Nat) (V':TV),v=.agg an.cells∧an.e=0∧TO w' gk L' s' tg' V'∧GS No w w' L L' tg tg'∧AnO w w' L' tg' an bs∧V'.gt=V.gt∧V'.aa=V.aa∧V'.al=V.al∧V'.ac=V.ac∧V'.xs=V.xs∧bs.length≤1000∧Post an.n bs s' V'
section
variable {w : World} {L : KL} {gk : Nat} {s : AK} {d : Int} {N : Nat} {F : List Int → AK → Prop} {c : List Int} {tg : Nat → Nat} {V : TV}
def PutP (V:TV) (i:Nat) (x:It) (F:List Int→AK→Prop) (all:List Int) (s':AK) (V':TV):Prop:=
 ∃ p' sl' c',V'={ V with its:=V.its.set i { x with p:=p',sl:=sl' } }∧F c' s'∧c' ++ p'.o=all∧WrA p'
theorem TO.temp {w w0 w':World} {L L':KL} {s:AK} {tg tg':Nat→Nat} (h:TO w gk L s tg V) (hw:w.heap.size≤w0.heap.size) {T:Nat→Prop} (g:GS T w0 w' L L' tg tg') {z:Nat} (h1:w.heap.size≤z) (h2:z< w0.heap.size):¬ OT L' tg' z:=g.free (h.new h1) h2
theorem tput_ok (h:TO w gk L s tg V) {i:Nat} {x:It} (hx:V.its[i]?=some x) (hxd:x.d=d) (hp:WrA x.p) (wr:AK.WrK N d F) (hF:F c s) {cl:Cl} {bs:List Int} (hfd:cl.fd=(i:Int)) (hb:RdB w cl.da cl.dl cl.dc bs) (hoff:bs≠[]→∀ z,inA cl.da z→L.own z=none) (hN:c.length+x.p.o.length+bs.length≤N) (hl:bs.length≤1048576) :
 CallR Tryz.prog 28 [pd V.gt,.agg cl.cells] w (Did w gk L tg V fun n bs' s' V'=>n=(bs.length:Int)∧bs'=[]∧PutP V i x F (c ++ x.p.o ++ bs) s' V'):=by
 refine C28 ?_
 unfold L28
 intro w1
 have hb1:Blk w1 w.heap.size cl.cells:=Blk.alloc _ _ _
 have hk1:Kept No w w1:=Kept.alloc _ _ _
 clear_value w1
 intro w2
 have hb2:Blk w2 w1.heap.size An.zero.cells:=Blk.alloc _ _ _
 have hk2:Kept No w1 w2:=Kept.alloc _ _ _
 clear_value w2
 intro w3
 have hk3:Kept No w2 w3:=Kept.drew _ _
 clear_value w3
 have k3:=(hk1.no hk2).no hk3
 have h3:=h.no k3
 have hz1:=hk1.size
 have hl2:=hb2.lt
 have hz3:=hk3.size
 have hlen:=hb.len
 refine nnI ⟨_,h3.task.at (i:=2) rfl,_,(((hb1.no' hk2).no' hk3).cell 1).trans rfl,_,_,_,(((hb1.no' hk2).no' hk3).cell 6).trans rfl,?_⟩
 rw [hfd]
 refine CallR.mono (rput_ok2 h3 hx hxd hp wr hF (hb.keep k3 fun _ _ _ e=>e) hoff hN hl) ?_
 rintro v w4 ⟨rfl,p',sl',s',L',tg',c',hT,hG,hF',hc',hp'⟩
 have hb24:Blk w4 w1.heap.size An.zero.cells:=hG.blk (hb2.no' hk3) (h.new hz1) fun e=>e
 have hn:=h.temp k3.size hG hz1 (by omega)
 refine ⟨_,_,rfl,st5 hb24 rfl fun w9 hb9 hk9 hs9=>ld5 (x:=⟨0,(cl.dl:Int),none,0,0⟩) hb9 ?_⟩
 have hT9:=hT.keep hk9 fun z e=>by have e:z=w1.heap.size:=e; rw [e]; exact hn
 exact ⟨⟨0,(cl.dl:Int),none,0,0⟩,[],L',s',tg',_,rfl,rfl,hT9,(GS.narrow k3 hG fun z e=>.inl e).priv hk9 fun z e=>.inr (by omega),AnO.none _ _ _ _ _ _,rfl,rfl,rfl,rfl,rfl,by simp,by rw [← hlen],rfl,p',sl',c',rfl,hF',hc',hp'⟩
theorem tflush_ok (h:TO w gk L s tg V) {i:Nat} {x:It} (hx:V.its[i]?=some x) (hxd:x.d=d) (hp:WrA x.p) (wr:AK.WrK N d F) (hF:F c s) {cl:Cl} (hfd:cl.fd=(i:Int)) (hN:c.length+x.p.o.length≤N) :
 CallR Tryz.prog 31 [pd V.gt,.agg cl.cells] w (Did w gk L tg V fun n bs' s' V'=>(∃ sl',V'={ V with its:=V.its.set i { x with p:={ x.p with o:=[],d:=0 },sl:=sl' } })∧F (c ++ x.p.o) s'):=by
 refine C31 ?_
 unfold L31
 intro w1
 have hb1:Blk w1 w.heap.size cl.cells:=Blk.alloc _ _ _
 have hk1:Kept No w w1:=Kept.alloc _ _ _
 clear_value w1
 intro w2
 have hb2:Blk w2 w1.heap.size An.zero.cells:=Blk.alloc _ _ _
 have hk2:Kept No w1 w2:=Kept.alloc _ _ _
 clear_value w2
 intro w3
 have hk3:Kept No w2 w3:=Kept.drew _ _
 clear_value w3
 have k3:=(hk1.no hk2).no hk3
 have h3:=h.no k3
 have hz1:=hk1.size
 have hl2:=hb2.lt
 have hz3:=hk3.size
 refine nnI ⟨_,h3.task.at (i:=2) rfl,_,(((hb1.no' hk2).no' hk3).cell 1).trans rfl,?_⟩
 rw [hfd]
 subst hxd
 refine CallR.mono (rflush_ok h3 hx hp.bd (flcW h3.ker hp wr hF hN)) ?_
 rintro v w4 ⟨rfl,p',sl',s',L',tg',hT,hG,rfl,hF'⟩
 have hb24:Blk w4 w1.heap.size An.zero.cells:=hG.blk (hb2.no' hk3) (h.new hz1) fun e=>e
 have hn:=h.temp k3.size hG hz1 (by omega)
 refine ⟨_,rfl,st5 hb24 rfl fun w9 hb9 hk9 hs9=>ld5 (x:=An.zero) hb9 ?_⟩
 have hT9:=hT.keep hk9 fun z e=>by have e:z=w1.heap.size:=e; rw [e]; exact hn
 exact ⟨An.zero,[],L',s',tg',_,rfl,rfl,hT9,(GS.narrow k3 hG fun z e=>.inl e).priv hk9 fun z e=>.inr (by omega),AnO.none _ _ _ _ _ _,rfl,rfl,rfl,rfl,rfl,by simp,⟨sl',rfl⟩,hF'⟩
theorem tflushall_ok (h:TO w gk L s tg V) {x0 x1:It} (hits:V.its=[x0,x1]) (hp0:WrA x0.p) (hp1:RdP x1.p) (wr:AK.WrK N x0.d F) (hF:F c s) (hN:c.length+x0.p.o.length≤N) {cl:Cl} :
 CallR Tryz.prog 40 [pd V.gt,.agg cl.cells] w (Did w gk L tg V fun n bs' s' V'=>(∃ sl0 sl1,V'={ V with its:=[{ x0 with p:={ x0.p with o:=[],d:=0 },sl:=sl0 },{ x1 with sl:=sl1 }] })∧F (c ++ x0.p.o) s'):=by
 refine C40 ?_
 unfold L40
 intro w1
 have hb1:Blk w1 w.heap.size cl.cells:=Blk.alloc _ _ _
 have hk1:Kept No w w1:=Kept.alloc _ _ _
 clear_value w1
 intro w2
 have hb2:Blk w2 w1.heap.size An.zero.cells:=Blk.alloc _ _ _
 have hk2:Kept No w1 w2:=Kept.alloc _ _ _
 clear_value w2
 have k3:=hk1.no hk2
 have h3:=h.no k3
 have hz1:=hk1.size
 have hl2:=hb2.lt
 refine nnI ⟨_,h3.task.at (i:=2) rfl,?_⟩
 refine CallR.mono (rflushall_ok h3 hits hp0 hp1 wr hF hN) ?_
 rintro v w4 ⟨rfl,sl0,sl1,s',L',tg',hT,hG,hF'⟩
 have hb24:Blk w4 w1.heap.size An.zero.cells:=hG.blk hb2 (h.new hz1) fun e=>e
 have hn:=h.temp k3.size hG hz1 (by omega)
 refine ⟨_,rfl,st5 hb24 rfl fun w9 hb9 hk9 hs9=>ld5 (x:=An.zero) hb9 ?_⟩
 have hT9:=hT.keep hk9 fun z e=>by have e:z=w1.heap.size:=e; rw [e]; exact hn
 exact ⟨An.zero,[],L',s',tg',_,rfl,rfl,hT9,(GS.narrow k3 hG fun z e=>.inl e).priv hk9 fun z e=>.inr (by omega),AnO.none _ _ _ _ _ _,rfl,rfl,rfl,rfl,rfl,by simp,⟨sl0,sl1,rfl⟩,hF'⟩
end
def Turned (w:World) (gk:Nat) (L:KL) (Post:Int→List Int→Pu→AK→Prop) (v:Value) (w':World):Prop:=
 ∃ (an:An) (bs:List Int) (p':Pu) (sl':Sl3) (s':AK) (L':KL),v=.tuple #[.agg (cs p' sl'),.agg an.cells]∧an.e=0∧SR w L w' p' sl' gk s' L'∧RdB w' an.da an.dl an.dc bs∧(∀ z,inA an.da z→w.heap.size≤z∧z< w'.heap.size∧L'.own z=none)∧
  bs.length≤1000∧Bd p'∧ckP p'∧p'.c=false∧Post an.n bs p' s'∧(bs=[]→an.da=none∧an.dc=0)
section
variable {w : World} {p : Pu} {sl : Sl3} {L : KL} {gk : Nat} {s : AK} {d : Int} {N : Nat} {F R : List Int → AK → Prop} {c r : List Int}
theorem ttell_ok (hK:KernO w gk s L) (h:Rd3 w sl p) (hp:WrA p) (wr:AK.WrK N d F) (sk:SkK d F) (hF:F c s) (hN:c.length+p.o.length≤N) (hN2:c.length+p.o.length≤1048576) {cl:Cl} :
 CallR Tryz.prog 98 [.agg (cs p sl),hv gk d,.agg cl.cells] w (Turned w gk L fun n bs p' s'=>WrA p'∧p'.o=[]∧F (c ++ p.o) s'):=by
 refine C98 ?_
 unfold L98
 intro w1
 have hb1:Blk w1 w.heap.size (cs p sl):=Blk.alloc _ _ _
 have hk1:Kept No w w1:=Kept.alloc _ _ _
 clear_value w1
 intro w2
 have hb2:Blk w2 w1.heap.size cl.cells:=Blk.alloc _ _ _
 have hk2:Kept No w1 w2:=Kept.alloc _ _ _
 clear_value w2
 intro w3
 have hb3:Blk w3 w2.heap.size (cs zP zS):=Blk.alloc _ _ _
 have hk3:Kept No w2 w3:=Kept.alloc _ _ _
 clear_value w3
 intro w4
 have hb4:Blk w4 w3.heap.size An.zero.cells:=Blk.alloc _ _ _
 have hk4:Kept No w3 w4:=Kept.alloc _ _ _
 clear_value w4
 have hz1:=hk1.size
 have hz2:=hk2.size
 have hz3:=hk3.size
 have hz4:=hk4.size
 have hl1:=hb1.lt
 have hl2:=hb2.lt
 have hl3:=hb3.lt
 have hl4:=hb4.lt
 have k4:Kept No w w4:=((hk1.no hk2).no hk3).no hk4
 have hb14:=(((hb1.no' hk2).no' hk3).no' hk4)
 have hb24:=(hb2.no' hk3).no' hk4
 have hb34:=hb3.no' hk4
 refine ld11 hb14 (CallR.mono (tell_ok (hK.no k4) (h.no k4) hp wr sk hF hN hN2) ?_)
 rintro v w5 ⟨n,sl',s',L',rfl,hSR,hF'⟩
 have n1:L.own w.heap.size=none:=hK.new_none (Nat.le_refl _)
 have n3:L.own w2.heap.size=none:=hK.new_none (by omega)
 have n4:L.own w3.heap.size=none:=hK.new_none (by omega)
 have hb15:=hb14.keep hSR.st.kept fun e=>e n1
 have hb35:=hb34.keep hSR.st.kept fun e=>e n3
 have hb45:Blk w5 w3.heap.size An.zero.cells:=hb4.keep hSR.st.kept fun e=>e n4
 refine ⟨_,_,_,_,_,_,_,_,_,_,_,_,_,_,_,_,_,_,_,rfl,st11 (p:={ p with o:=[] }) (s:=sl') hb15 rfl fun w16 hb16 hk16=>ld11 hb16 (st11 (p:={ p with o:=[] }) (s:=sl') (hb35.keep hk16 (by omega)) rfl fun w27 hb27 hk27=>?_)⟩
 refine st5 ((hb45.keep hk16 (by omega)).keep hk27 (by omega)) rfl fun w32 hb32 hk32 hs32=>ld11 (hb27.keep hk32 (by omega)) (ld5 (x:=⟨0,n,none,0,0⟩) hb32 ?_)
 have hkk:Kept (fun z=>z=w.heap.size∨z=w2.heap.size∨z=w3.heap.size) w5 w32:=((hk16.mono fun _ _ e=>(.inl e:_=w.heap.size∨_=w2.heap.size∨_=w3.heap.size)).trans hk27 fun _ _ e=>.inr (.inl e)).trans hk32 fun _ _ e=>.inr (.inr e)
 have hS:=SR.res hK k4 hSR hkk fun z e=>by
  rcases e with e | e | e
  ·exact ⟨by omega,.inl (by omega)⟩
  ·exact ⟨by omega,.inl (by omega)⟩
  ·exact ⟨by omega,.inl (by omega)⟩
 exact ⟨⟨0,n,none,0,0⟩,[],_,sl',s',L',rfl,rfl,hS,RdB.nil _,fun z hz=>absurd hz (inA_none z),by simp,hp.settled.bd,hp.settled.ck,hp.c,⟨hp.settled,rfl,hF'⟩,fun _=>⟨rfl,rfl⟩⟩
theorem tseek_ok (hK:KernO w gk s L) (h:Rd3 w sl p) (hp:WrA p) (wr:AK.WrK N d F) (sk:SkK d F) (hF:F c s) (hN:c.length+p.o.length≤N) (hN2:c.length+p.o.length≤1048576) {cl:Cl} (ha:cl.a=0) (hb:cl.b=1) :
 CallR Tryz.prog 99 [.agg (cs p sl),hv gk d,.agg cl.cells] w (Turned w gk L fun n bs p' s'=>WrA p'∧p'.o=[]∧F (c ++ p.o) s'):=by
 refine C99 ?_
 unfold L99
 intro w1
 have hb1:Blk w1 w.heap.size (cs p sl):=Blk.alloc _ _ _
 have hk1:Kept No w w1:=Kept.alloc _ _ _
 clear_value w1
 intro w2
 have hb2:Blk w2 w1.heap.size cl.cells:=Blk.alloc _ _ _
 have hk2:Kept No w1 w2:=Kept.alloc _ _ _
 clear_value w2
 intro w3
 have hb3:Blk w3 w2.heap.size (cs zP zS):=Blk.alloc _ _ _
 have hk3:Kept No w2 w3:=Kept.alloc _ _ _
 clear_value w3
 intro w4
 have hb4:Blk w4 w3.heap.size An.zero.cells:=Blk.alloc _ _ _
 have hk4:Kept No w3 w4:=Kept.alloc _ _ _
 clear_value w4
 have hz1:=hk1.size
 have hz2:=hk2.size
 have hz3:=hk3.size
 have hz4:=hk4.size
 have hl1:=hb1.lt
 have hl2:=hb2.lt
 have hl3:=hb3.lt
 have hl4:=hb4.lt
 have k4:Kept No w w4:=((hk1.no hk2).no hk3).no hk4
 have hb14:=(((hb1.no' hk2).no' hk3).no' hk4)
 have hb24:=(hb2.no' hk3).no' hk4
 have hb34:=hb3.no' hk4
 refine ld11 hb14 ⟨_,(hb24.cell 2).trans rfl,_,(hb24.cell 3).trans rfl,?_⟩
 rw [ha,hb]
 refine CallR.mono (pseek_ok (hK.no k4) (h.no k4) hp wr sk hF hN hN2) ?_
 rintro v w5 ⟨n,p',sl',s',L',rfl,hSR,hF',hp',ho'⟩
 have n1:L.own w.heap.size=none:=hK.new_none (Nat.le_refl _)
 have n3:L.own w2.heap.size=none:=hK.new_none (by omega)
 have n4:L.own w3.heap.size=none:=hK.new_none (by omega)
 have hb15:=hb14.keep hSR.st.kept fun e=>e n1
 have hb35:=hb34.keep hSR.st.kept fun e=>e n3
 have hb45:Blk w5 w3.heap.size An.zero.cells:=hb4.keep hSR.st.kept fun e=>e n4
 refine ⟨_,_,_,_,_,_,_,_,_,_,_,_,_,_,_,_,_,_,_,rfl,st11 (p:=p') (s:=sl') hb15 rfl fun w16 hb16 hk16=>ld11 hb16 (st11 (p:=p') (s:=sl') (hb35.keep hk16 (by omega)) rfl fun w27 hb27 hk27=>?_)⟩
 refine st5 ((hb45.keep hk16 (by omega)).keep hk27 (by omega)) rfl fun w32 hb32 hk32 hs32=>ld11 (hb27.keep hk32 (by omega)) (ld5 (x:=⟨0,n,none,0,0⟩) hb32 ?_)
 have hkk:Kept (fun z=>z=w.heap.size∨z=w2.heap.size∨z=w3.heap.size) w5 w32:=((hk16.mono fun _ _ e=>(.inl e:_=w.heap.size∨_=w2.heap.size∨_=w3.heap.size)).trans hk27 fun _ _ e=>.inr (.inl e)).trans hk32 fun _ _ e=>.inr (.inr e)
 have hS:=SR.res hK k4 hSR hkk fun z e=>by
  rcases e with e | e | e
  ·exact ⟨by omega,.inl (by omega)⟩
  ·exact ⟨by omega,.inl (by omega)⟩
  ·exact ⟨by omega,.inl (by omega)⟩
 exact ⟨⟨0,n,none,0,0⟩,[],p',sl',s',L',rfl,rfl,hS,RdB.nil _,fun z hz=>absurd hz (inA_none z),by simp,hp'.bd,hp'.ck,hp'.c,⟨hp',ho',hF'⟩,fun _=>⟨rfl,rfl⟩⟩
theorem tblk_ok (hK:KernO w gk s L) (h:Rd3 w sl p) (hp:RdP p) (rd:AK.RdK d R) (hR:R r s) {xs rest:List Int} (hx:p.i ++ r=xs ++ rest) (hn:xs.length≤500) {cl:Cl} (ha:cl.a=1) (hb:cl.b=(xs.length:Int)) :
 CallR Tryz.prog 101 [.agg (cs p sl),hv gk d,.agg cl.cells] w (Turned w gk L fun n bs p' s'=>bs=xs∧RdP p'∧∃ r',R r' s'∧p'.i ++ r'=rest):=by
 refine C101 ?_
 unfold L101
 intro w1
 have hb1:Blk w1 w.heap.size (cs p sl):=Blk.alloc _ _ _
 have hk1:Kept No w w1:=Kept.alloc _ _ _
 clear_value w1
 intro w2
 have hb2:Blk w2 w1.heap.size cl.cells:=Blk.alloc _ _ _
 have hk2:Kept No w1 w2:=Kept.alloc _ _ _
 clear_value w2
 intro w3
 have hb3:Blk w3 w2.heap.size (cs zP zS):=Blk.alloc _ _ _
 have hk3:Kept No w2 w3:=Kept.alloc _ _ _
 clear_value w3
 intro w4
 have hb4:Blk w4 w3.heap.size An.zero.cells:=Blk.alloc _ _ _
 have hk4:Kept No w3 w4:=Kept.alloc _ _ _
 clear_value w4
 have hz1:=hk1.size
 have hz2:=hk2.size
 have hz3:=hk3.size
 have hz4:=hk4.size
 have hl1:=hb1.lt
 have hl2:=hb2.lt
 have hl3:=hb3.lt
 have hl4:=hb4.lt
 have k4:Kept No w w4:=((hk1.no hk2).no hk3).no hk4
 have hb14:=(((hb1.no' hk2).no' hk3).no' hk4)
 have hb24:=(hb2.no' hk3).no' hk4
 have hb34:=hb3.no' hk4
 refine ld11 hb14 ⟨_,(hb24.cell 2).trans rfl,_,(hb24.cell 3).trans rfl,?_⟩
 rw [ha,hb]
 refine CallR.mono (bread_ok (hK.no k4) (h.no k4) hp rd hR hx hn) ?_
 rintro v w5 ⟨a,k,d',i',sl',s',L',r',rfl,hSR,hbs,hin,hR',hi',hp',hnil⟩
 have n1:L.own w.heap.size=none:=hK.new_none (Nat.le_refl _)
 have n3:L.own w2.heap.size=none:=hK.new_none (by omega)
 have n4:L.own w3.heap.size=none:=hK.new_none (by omega)
 have hb15:=hb14.keep hSR.st.kept fun e=>e n1
 have hb35:=hb34.keep hSR.st.kept fun e=>e n3
 have hb45:Blk w5 w3.heap.size An.zero.cells:=hb4.keep hSR.st.kept fun e=>e n4
 refine ⟨_,_,_,_,_,_,_,_,_,_,_,_,_,_,_,_,_,_,_,_,_,_,rfl,st11 (p:={ p with d:=d',i:=i' }) (s:=sl') hb15 rfl fun w16 hb16 hk16=>ld11 hb16 (st11 (p:={ p with d:=d',i:=i' }) (s:=sl') (hb35.keep hk16 (by omega)) rfl fun w27 hb27 hk27=>?_)⟩
 refine st5 ((hb45.keep hk16 (by omega)).keep hk27 (by omega)) rfl fun w32 hb32 hk32 hs32=>ld11 (hb27.keep hk32 (by omega)) (ld5 (x:=⟨0,(xs.length:Int),a,xs.length,k⟩) hb32 ?_)
 have hkk:Kept (fun z=>z=w.heap.size∨z=w2.heap.size∨z=w3.heap.size) w5 w32:=((hk16.mono fun _ _ e=>(.inl e:_=w.heap.size∨_=w2.heap.size∨_=w3.heap.size)).trans hk27 fun _ _ e=>.inr (.inl e)).trans hk32 fun _ _ e=>.inr (.inr e)
 have hS:=SR.res hK k4 hSR hkk fun z e=>by
  rcases e with e | e | e
  ·exact ⟨by omega,.inl (by omega)⟩
  ·exact ⟨by omega,.inl (by omega)⟩
  ·exact ⟨by omega,.inl (by omega)⟩
 have hz5:=hkk.size
 exact ⟨⟨0,(xs.length:Int),a,xs.length,k⟩,xs,_,sl',s',L',rfl,rfl,hS,hbs.keep hkk fun z _ hz e=>by
  have:=(hin z hz).1
  rcases e with e | e | e <;> omega,fun z hz=>⟨by have:=(hin z hz).1; omega,by have:=(hin z hz).2.1; omega,(hin z hz).2.2⟩,by omega,hp'.bd,hp'.ck,hp'.c,⟨rfl,hp',r',hR',hi'⟩,hnil⟩
end
end Go.Proofs.YteojolihgijdhaaGreatDoor
