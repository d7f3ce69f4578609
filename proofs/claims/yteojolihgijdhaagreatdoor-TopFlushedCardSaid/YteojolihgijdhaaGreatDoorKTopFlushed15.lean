/- Part 15 of 21 of the proof of TopFlushed. Conditions: the theorem's: none. -/
import Derived.Test.YteojolihgijdhaaGreatDoorKTopFlushed14
set_option linter.unusedVariables false
set_option maxRecDepth 512
namespace Go.Proofs.YteojolihgijdhaaGreatDoor
open Go.Lw
section
variable {w : World} {p : Pu} {sl : Sl3} {L : KL} {gk : Nat} {s : AK} {d : Int} {N : Nat} {F : List Int → AK → Prop} {c : List Int}
set_option maxHeartbeats 1000000 in
theorem lput_ok (hK:KernO w gk s L) (h:Rd3 w sl p) (hp:WrP p) (wr:AK.WrK N d F) (hF:F c s) {a:Option Addr} {l k:Nat} {bs:List Int} (hb:RdB w a l k bs) (hoff:bs≠[]→∀ z,inA a z→L.own z=none) (hN:c.length+p.o.length+bs.length≤N) (hl:bs.length≤1048576) :
 CallR Tryz.prog 145 [.agg (cs p sl),hv gk d,.slice a l k] w fun v w'=>∃ o' d' sl' s' L' c',v=.tuple #[.agg (cs { p with o:=o',d:=d' } sl'),.int .i64 (l:Int),.int .i64 0]∧SR w L w' { p with o:=o',d:=d' } sl' gk s' L'∧F c' s'∧c' ++ o'=c ++ p.o ++ bs∧WrP { p with o:=o',d:=d' }:=by
 refine C145 ?_
 unfold L145
 have hlen:=hb.len
 intro w1 w2
 have hb1:Blk w1 w.heap.size (cs p sl):=Blk.alloc _ _ _
 have hk1:Kept No w w1:=Kept.alloc _ _ _
 clear_value w1
 have hb2:Blk w2 w1.heap.size (cs zP zS):=Blk.alloc _ _ _
 have hk2:Kept No w1 w2:=Kept.alloc _ _ _
 clear_value w2
 have k2:=hk1.no hk2
 have hz1:=hk1.size
 have hb12:=hb1.no' hk2
 have hwn:(if decide (((l:Nat):Int) > 1048576)=true then (5:Int) else 0)=0:=if_neg (by simp; omega)
 have ask:∀ wa,Kept No w2 wa→CallR Tryz.prog 195 [.agg (cs p sl),hv gk d,.int .i64 0] wa fun v w'=>∃ sl',v=.tuple #[.agg (cs p sl'),.int .i64 0]∧Ow3 wa w' sl' p∧Kept No wa w':=
  fun wa ka=>lask_ok (h.no (k2.no ka)) hp.bd hp.ck hp.c 0
 refine ⟨fun vs w'=>∃ g sl',vs=[.pointer (some ⟨g,0,none⟩),.int .i64 0]∧w2.heap.size≤g∧Blk w' g (cs p sl')∧Ow3 w2 w' sl' p∧(∀ b,In3 sl' b→b≠g)∧Kept No w2 w',?_,?_⟩
 ·intro w3
  have hk3:Kept No w2 w3:=Kept.drew _ _
  clear_value w3
  have fin1:∀ wa w5 sl',Kept No w2 wa→Ow3 wa w5 sl' p→Kept No wa w5→∀ w17,Blk w17 w5.heap.size (cs p sl')→Kept (·=w5.heap.size) (w5.alloc (.cells (cs zP zS) 151)) w17→
   ∃ g sl'',[Value.pointer (some ⟨w5.heap.size,0,none⟩),.int .i64 0]=[.pointer (some ⟨g,0,none⟩),.int .i64 0]∧w2.heap.size≤g∧Blk w17 g (cs p sl'')∧Ow3 w2 w17 sl'' p∧(∀ b,In3 sl'' b→b≠g)∧Kept No w2 w17:=by
   intro wa w5 sl' ka ho k5 w17 hb17 hk17
   have hza:=ka.size
   have hz5:=k5.size
   have hk6:Kept No w5 (w5.alloc (.cells (cs zP zS) 151)):=Kept.alloc _ _ _
   have hn:∀ b,In3 sl' b→b≠w5.heap.size:=fun b hb e=>by have:=ho.lt b hb; omega
   exact ⟨_,sl',rfl,by omega,hb17,((ho.base hza).no hk6).keep hk17 fun b hb e=>hn b hb e,hn,(((ka.no k5).no hk6).fresh hk17 fun x e=>by omega)⟩
  have fin2:∀ wg wa w5 sl',Kept No w2 wg→Kept No (wg.alloc (.cells (cs zP zS) 151)) wa→Ow3 wa w5 sl' p→Kept No wa w5→∀ w17,Blk w17 wg.heap.size (cs p sl')→Kept (·=wg.heap.size) w5 w17→
   ∃ g sl'',[Value.pointer (some ⟨wg.heap.size,0,none⟩),.int .i64 0]=[.pointer (some ⟨g,0,none⟩),.int .i64 0]∧w2.heap.size≤g∧Blk w17 g (cs p sl'')∧Ow3 w2 w17 sl'' p∧(∀ b,In3 sl'' b→b≠g)∧Kept No w2 w17:=by
   intro wg wa w5 sl' kg ka ho k5 w17 hb17 hk17
   have hk6:Kept No wg (wg.alloc (.cells (cs zP zS) 151)):=Kept.alloc _ _ _
   have hzg:=kg.size
   have hza:=ka.size
   have hz6:(wg.alloc (.cells (cs zP zS) 151)).heap.size=wg.heap.size+1:=by simp
   have hn:∀ b,In3 sl' b→b≠wg.heap.size:=fun b hb e=>by
    have:wa.heap.size≤b:=by
     rcases hb with hb | hb | hb
     ·exact ho.2.1.1 b hb
     ·exact ho.2.1.2.1 b hb
     ·exact ho.2.1.2.2 b hb
    omega
   exact ⟨_,sl',rfl,by omega,hb17,(ho.base (by omega)).keep hk17 fun b hb e=>hn b hb e,hn,((((kg.no hk6).no ka).no k5).fresh hk17 fun x e=>by omega)⟩
  have al:∀ wg wa,Kept No (World.alloc wg (.cells (cs zP zS) 151)) wa→Blk wa wg.heap.size (cs zP zS):=fun wg wa k=>(Blk.alloc _ _ _:Blk (World.alloc wg (.cells (cs zP zS) 151)) wg.heap.size (cs zP zS)).no' k
  have ka3:Kept No w3 (World.alloc w3 (.cells (cs zP zS) 151)):=Kept.alloc _ _ _
  refine ⟨ld11 (hb12.no' hk3) ⟨when_to ⟨_,rfl,?_⟩,?_⟩,when_to ⟨_,rfl,?_⟩,?_⟩
  ·rw [hwn]
   refine ⟨CallR.mono (ask w3 hk3) ?_,?_⟩
   ·rintro v w5 ⟨sl',rfl,ho,k5⟩
    exact ⟨_,_,_,_,_,_,_,_,_,_,_,_,_,_,_,_,_,_,rfl,st11 (p:=p) (s:=sl') (Blk.alloc w5 (cs zP zS) _) rfl (fin1 w3 w5 sl' hk3 ho k5)⟩
   ·refine CallR.mono (ask _ (hk3.no ka3)) ?_
    rintro v w5 ⟨sl',rfl,ho,k5⟩
    exact ⟨_,_,_,_,_,_,_,_,_,_,_,_,_,_,_,_,_,_,rfl,st11 (p:=p) (s:=sl') (al w3 w5 k5) rfl (fin2 w3 _ w5 sl' hk3 (Kept.refl _ _) ho k5)⟩
  ·refine when_to ⟨_,rfl,?_⟩
   rw [hwn]
   refine CallR.mono (ask _ (hk3.no ka3)) ?_
   rintro v w5 ⟨sl',rfl,ho,k5⟩
   exact ⟨_,_,_,_,_,_,_,_,_,_,_,_,_,_,_,_,_,_,rfl,st11 (p:=p) (s:=sl') (al w3 w5 k5) rfl (fin2 w3 _ w5 sl' hk3 (Kept.refl _ _) ho k5)⟩
  ·rw [hwn]
   refine ⟨ld11 (hb12.no' hk3) ⟨?_,?_⟩,ld11 (hb12.no' (hk3.no ka3)) ?_⟩
   ·refine CallR.mono (ask w3 hk3) ?_
    rintro v w5 ⟨sl',rfl,ho,k5⟩
    exact ⟨_,_,_,_,_,_,_,_,_,_,_,_,_,_,_,_,_,_,rfl,st11 (p:=p) (s:=sl') (Blk.alloc w5 (cs zP zS) _) rfl (fin1 w3 w5 sl' hk3 ho k5)⟩
   ·refine CallR.mono (ask _ (hk3.no ka3)) ?_
    rintro v w5 ⟨sl',rfl,ho,k5⟩
    exact ⟨_,_,_,_,_,_,_,_,_,_,_,_,_,_,_,_,_,_,rfl,st11 (p:=p) (s:=sl') (al w3 w5 k5) rfl (fin2 w3 _ w5 sl' hk3 (Kept.refl _ _) ho k5)⟩
   ·refine CallR.mono (ask _ (hk3.no ka3)) ?_
    rintro v w5 ⟨sl',rfl,ho,k5⟩
    exact ⟨_,_,_,_,_,_,_,_,_,_,_,_,_,_,_,_,_,_,rfl,st11 (p:=p) (s:=sl') (al w3 w5 k5) rfl (fin2 w3 _ w5 sl' hk3 (Kept.refl _ _) ho k5)⟩
  ·refine ⟨ld11 (hb12.no' (hk3.no ka3)) (when_to ⟨_,rfl,?_⟩),when_to ⟨_,rfl,ld11 (hb12.no' (hk3.no ka3)) ?_⟩⟩
   ·rw [hwn]
    refine CallR.mono (ask _ (hk3.no ka3)) ?_
    rintro v w5 ⟨sl',rfl,ho,k5⟩
    exact ⟨_,_,_,_,_,_,_,_,_,_,_,_,_,_,_,_,_,_,rfl,st11 (p:=p) (s:=sl') (al w3 w5 k5) rfl (fin2 w3 _ w5 sl' hk3 (Kept.refl _ _) ho k5)⟩
   ·rw [hwn]
    refine CallR.mono (ask _ (hk3.no ka3)) ?_
    rintro v w5 ⟨sl',rfl,ho,k5⟩
    exact ⟨_,_,_,_,_,_,_,_,_,_,_,_,_,_,_,_,_,_,rfl,st11 (p:=p) (s:=sl') (al w3 w5 k5) rfl (fin2 w3 _ w5 sl' hk3 (Kept.refl _ _) ho k5)⟩
 ·rintro _ p184 n185 w112 ⟨g,sl1,hvs,hg,hbg,hog,hng,hkg⟩
  simp only [List.cons.injEq,Value.pointer.injEq,Value.int.injEq,true_and,and_true] at hvs
  obtain ⟨rfl,rfl⟩:=hvs
  have hzg:=hkg.size
  have hl2:=hb2.lt
  have hb2g:Blk w112 w1.heap.size (cs zP zS):=hb2.no' hkg
  refine condF rfl (condE (fun hl0=>?_) (fun hl0=>?_))
  ·refine ld11 hbg (st11 (p:=p) (s:=sl1) hb2g rfl fun w123 hb123 hk123=>ld11 hb123 ?_)
   have hbs:bs=[]:=List.eq_nil_of_length_eq_zero (by omega)
   subst hbs
   have hl0:l=0:=by omega
   subst hl0
   have hf:∀ b,In3 sl1 b→w2.heap.size≤b:=fun b hb=>by
    rcases hb with hb | hb | hb
    ·exact hog.2.1.1 b hb
    ·exact hog.2.1.2.1 b hb
    ·exact hog.2.1.2.2 b hb
   have hz2:=k2.size
   have kk:=k2.no hkg
   exact ⟨p.o,p.d,sl1,s,L,c,rfl,⟨(hog.keep hk123 fun b hb e=>by have:=hf b hb; omega).base hz2,fun b hb=>hK.new_none (by have:=hf b hb; omega),(hK.no kk).keep hk123 fun x e=>by rw [e]; exact hK.new_none hz1,(KStep.of_no kk).own hk123 hz1⟩,hF,by simp,hp⟩
  ·have hm1:(p.m == 1)=false:=by rcases hp.m with e | e <;> (rw [e]; rfl)
   refine ⟨_,hbg.at (i:=2) rfl,condF hm1 ?_⟩
   have hng':L.own g=none:=hK.new_none (by have:=k2.size; omega)
   obtain ⟨I,hI⟩:∃ I:List Value→World→Prop,I=fun vs w'=>∃ (i:Nat) (o':List Int) (d':Int) (sl':Sl3) (s':AK) (L':KL) (c':List Int),vs=[.int .i64 (i:Int)]∧i≤l∧Blk w' g (cs { p with o:=o',d:=d' } sl')∧Ow3 w2 w' sl' { p with o:=o',d:=d' }∧
    (∀ b,In3 sl' b→b≠g∧L'.own b=none)∧L'.own g=none∧KernO w' gk s' L'∧KStep w2 w' L L'∧F c' s'∧c' ++ o'=c ++ p.o ++ bs.take i∧WrP { p with o:=o',d:=d' }:=⟨_,rfl⟩
   obtain ⟨mu,hmu⟩:∃ mu:List Value→World→Nat,mu=fun vs _=>match vs with | [.int _ i]=>l - i.toNat | _=>0:=⟨_,rfl⟩
   refine ⟨I,mu,?_,?_⟩
   ·rw [hI]
    have hz2:=k2.size
    refine ⟨0,p.o,p.d,sl1,s,L,c,rfl,Nat.zero_le _,hbg,hog,fun b hb=>⟨hng b hb,hK.new_none ?_⟩,hng',hK.no (k2.no hkg),.of_no hkg,hF,by simp,hp⟩
    have:w2.heap.size≤b:=by
     rcases hb with hb | hb | hb
     ·exact hog.2.1.1 b hb
     ·exact hog.2.1.2.1 b hb
     ·exact hog.2.1.2.2 b hb
    omega
   ·rintro _ n273 w147 hinv
    rw [hI] at hinv
    obtain ⟨i,o',d',sl',s',L',c',hvs,hi,hb7,ho7,hn7,hg7,hK7,st7,hF7,hc7,hp7⟩:=hinv
    simp only [List.cons.injEq,Value.int.injEq,true_and,and_true] at hvs
    subst hvs
    have hz2:=k2.size
    have st0:KStep w w147 L L':=KStep.fresh k2 st7
    have hin7:∀ b,In3 sl' b→w2.heap.size≤b:=fun b hb=>by
     rcases hb with hb | hb | hb
     ·exact ho7.2.1.1 b hb
     ·exact ho7.2.1.2.1 b hb
     ·exact ho7.2.1.2.2 b hb
    have hb27:Blk w147 w1.heap.size (cs zP zS):=hb2.keep st7.kept fun e=>e (hK.new_none hz1)
    refine condP (fun hlt=>?_) (fun hge=>?_)
    ·have hi':i< bs.length:=by omega
     obtain ⟨q,haq,hgq⟩:=(hb.keep st0.kept fun z hz hin e=>e (hoff (fun e=>by rw [e] at hi'; simp at hi') z hin)).get hi'
     rw [Int.toNat_natCast]
     refine ⟨⟨by omega,by omega⟩,nnE haq ⟨bs[i],hgq,?_⟩⟩
     obtain ⟨J,hJ⟩:∃ J:List Value→World→Prop,J=fun vs w'=>vs=[]∧∃ (o1:List Int) (d1:Int) (sl1:Sl3) (s1:AK) (L1:KL) (c1:List Int),Blk w' g (cs { p with o:=o1,d:=d1 } sl1)∧Ow3 w2 w' sl1 { p with o:=o1,d:=d1 }∧
      (∀ b,In3 sl1 b→b≠g∧L1.own b=none)∧L1.own g=none∧KernO w' gk s1 L1∧KStep w2 w' L L1∧F c1 s1∧c1 ++ o1=c ++ p.o ++ bs.take i∧WrP { p with o:=o1,d:=d1 }:=⟨_,rfl⟩
     have hcl:c'.length+o'.length=c.length+p.o.length+i:=by have:=congrArg List.length hc7; simp at this; omega
     refine ⟨J,⟨_,_,_,hb7.at (i:=4) rfl,_,hb7.at (i:=3) rfl,condE (fun e=>?_) (fun e=>?_)⟩,?_⟩
     ·refine ⟨_,hb7.at (i:=7) rfl,ld11 hb7 (CallR.mono (sflush_ok hK7 ho7.rd hp7 wr hF7 (by show c'.length+o'.length≤N; omega)) ?_)⟩
      rintro v w148 ⟨slf,sf,Lf,rfl,hSR,hFf⟩
      have hgl:=hb7.lt
      have hz7:=st7.size
      have hg8:Lf.own g=none:=(XStep.of_k (T:=No) hSR.st).own hg7 hgl
      have hfr:∀ b,In3 slf b→w147.heap.size≤b:=fun b hb=>by
       rcases hb with hb | hb | hb
       ·exact hSR.own.2.1.1 b hb
       ·exact hSR.own.2.1.2.1 b hb
       ·exact hSR.own.2.1.2.2 b hb
      refine ⟨_,_,_,_,_,_,_,_,_,_,_,_,_,_,_,_,_,_,rfl,st11 (p:={ p with o:=[],d:=0 }) (s:=slf) (hb7.keep hSR.st.kept fun e=>e hg7) rfl fun w159 hb159 hk159=>?_⟩
      refine stC_at hb159 (i:=7) (by simp [cs]) fun w160 hb160 hk160 hs160=>?_
      have hcs:(cs { p with o:=[],d:=0 } slf).setIfInBounds 7 (.int .i64 d')=cs { p with o:=[],d:=d' } slf:=rfl
      have hb160:Blk w160 g (cs { p with o:=[],d:=d' } slf):=hb160
      have hkk:Kept (·=g) w148 w160:=hk159.trans hk160 fun _ _ e=>e
      refine condF rfl ?_
      rw [hJ]
      refine ⟨rfl,[],d',slf,sf,Lf,_,hb160,(hSR.own.keep hkk fun b hb e=>by have:=hfr b hb; omega).base hz7,fun b hb=>⟨by have:=hfr b hb; omega,hSR.off b hb⟩,hg8,hSR.ker.keep hkk fun x e=>by rw [e]; exact hg8,(st7.trans hSR.st).own hkk hg,hFf,by rw [List.append_nil]; exact hc7,?_⟩
      exact ⟨hp7.w,hp7.m,hp7.z1,hp7.z2,hp7.d,by have:=hp7.z1; show (0:Int)≤p.z; have e:1≤p.z:=this; omega,hp7.i,hp7.k,hp7.b,hp7.c,fun _=>rfl⟩
     ·rw [hJ]
      exact ⟨rfl,o',d',sl',s',L',c',hb7,ho7,hn7,hg7,hK7,st7,hF7,hc7,hp7⟩
     ·rintro _ w172 hj
      rw [hJ] at hj
      obtain ⟨_,o1,d1,sl1,s1,L1,c1,hb8,ho8,hn8,hg8,hK8,st8,hF8,hc8,hp8⟩:=hj
      have hcl8:c1.length+o1.length=c.length+p.o.length+i:=by have:=congrArg List.length hc8; simp at this; omega
      refine ld11 hb8 (CallR.mono (sput_ok hK8 ho8.rd hp8 wr hF8 (by show c1.length+o1.length+1≤N; omega) bs[i]) ?_)
      rintro v w173 ⟨o9,sl9,s9,L9,c9,rfl,hSR,hF9,hc9,ho9⟩
      have hgl:=hb8.lt
      have hz8:=st8.size
      have hz9:=hSR.st.size
      have hg9:L9.own g=none:=(XStep.of_k (T:=No) hSR.st).own hg8 hgl
      have hfr:∀ b,In3 sl9 b→w172.heap.size≤b:=fun b hb=>by
       rcases hb with hb | hb | hb
       ·exact hSR.own.2.1.1 b hb
       ·exact hSR.own.2.1.2.1 b hb
       ·exact hSR.own.2.1.2.2 b hb
      refine ⟨_,_,_,_,_,_,_,_,_,_,_,_,_,_,_,_,_,_,rfl,?_⟩
      intro w174
      have hb174:Blk w174 w173.heap.size (cs zP zS):=Blk.alloc _ _ _
      have hk174:Kept No w173 w174:=Kept.alloc _ _ _
      clear_value w174
      have hbg9:Blk w174 g (cs { p with o:=o1,d:=d1 } sl1):=(hb8.keep hSR.st.kept fun e=>e hg8).no' hk174
      refine st11 (p:={ p with o:=o9,d:=2 }) (s:=sl9) hb174 rfl fun w185 hb185 hk185=>condF rfl (ld11 hb185 ?_)
      refine st11 (p:={ p with o:=o9,d:=2 }) (s:=sl9) (hbg9.keep hk185 (by omega)) rfl fun w207 hb207 hk207=>condF rfl ⟨⟨by omega,by omega⟩,?_,?_⟩
      ·rw [hI]
       have h185:Ow3 w172 w185 sl9 { p with o:=o9,d:=2 }:=(hSR.own.no hk174).keep hk185 fun b hb e=>by have:=hSR.own.lt b hb; omega
       have st185:KStep w2 w185 L L9:=((st8.trans hSR.st).no hk174).own hk185 (by omega)
       have hK185:KernO w185 gk s9 L9:=(hSR.ker.no hk174).keep hk185 fun x e=>by rw [e]; exact hSR.ker.new_none (Nat.le_refl _)
       refine ⟨i+1,o9,2,sl9,s9,L9,c9,by simp,by omega,hb207,(h185.keep hk207 fun b hb e=>by have:=hfr b hb; omega).base hz8,fun b hb=>⟨by have:=hfr b hb; omega,hSR.off b hb⟩,hg9,hK185.keep hk207 fun x e=>by rw [e]; exact hg9,st185.own hk207 hg,hF9,?_,?_⟩
       ·rw [hc9]
        show c1 ++ o1 ++ [bs[i]]=_
        rw [hc8,List.append_assoc,List.append_assoc,List.append_assoc,List.take_succ_eq_append_getElem hi']
       ·exact ⟨hp8.w,hp8.m,hp8.z1,hp8.z2,.inr rfl,ho9,hp8.i,hp8.k,hp8.b,hp8.c,fun e=>by cases e⟩
      ·rw [hmu]
       simp only
       omega
    ·obtain rfl:i=l:=by omega
     refine ld11 hb7 (st11 (p:={ p with o:=o',d:=d' }) (s:=sl') hb27 rfl fun w123 hb123 hk123=>ld11 hb123 ?_)
     have hfin:bs.take i=bs:=List.take_of_length_le (by omega)
     rw [hfin] at hc7
     exact ⟨o',d',sl',s',L',c',rfl,⟨(ho7.keep hk123 fun b hb e=>by have:=hin7 b hb; omega).base hz2,fun b hb=>(hn7 b hb).2,hK7.keep hk123 fun x e=>by rw [e]; exact (XStep.of_k (T:=No) st7).own (hK.new_none hz1) hb2.lt,st0.own hk123 hz1⟩,hF7,hc7,hp7⟩
end
def spv (gk:Nat) (d:Int):Value:=.iface 347 (.agg #[hv gk d])
theorem spy_nil {w:World} {g:Nat} {d:Int} {x y:Operand}:Sem.run Tryz.prog (Sem.bind (eqGuard .eql 179 x y (spv g d) .nilIface) (fun _=>binOp .eql 179 (spv g d) .nilIface)) w=.ok (.bool false) w:=by
 unfold spv
 kernel_rfl
theorem spy_write {w : World} {g : Nat} {d : Int} (args : Array Value) : Sem.run Tryz.prog (callMethod (spv g d) "Write" args) w = .ok (.enter 392 (#[.agg #[hv g d]] ++ args)) w :=
 call_of (by intro recv w; kernel_rfl) (by kernel_rfl) _ _ _
theorem spy_nilM {g : Nat} {d : Int} : nilM Tryz.prog (spv g d) "Write" := by
 unfold nilM spv
 intro w
 kernel_rfl
theorem spy_put {w:World} {gk:Nat} {d:Int} {a:Option Addr} {x:Int} (hb:RdB w a 1 1 [x]) :
 CallR Tryz.prog 228 [spv gk d,.slice a 1 1] w fun v w'=>v=.tuple #[.int .i64 0,.int .i64 52]∧Kept No w w':=by
 refine C228 ?_
 unfold L228
 refine ⟨_,_,spy_nil,condFa2 (condP (fun e=>by simp at e) (fun e=>?_))⟩
 intro w2
 have hk2:Kept No w w2:=Kept.alloc _ _ _
 clear_value w2
 refine ⟨fun vs w3=>vs=[.slice a 1 1]∧w3=w2,fun _ _=>0,⟨rfl,rfl⟩,?_⟩
 rintro _ a6 l6 c6 w3 ⟨hvs,rfl⟩
 simp only [List.cons.injEq,Value.slice.injEq,and_true] at hvs
 obtain ⟨rfl,rfl,rfl⟩:=hvs
 refine condP (fun hlt=>?_) (fun hge=>by simp at hge)
 intro w4
 have hk4:Kept No w3 w4:=Kept.drew _ _
 clear_value w4
 refine ⟨spy_nilM,?_⟩
 intro w5
 have hk5:Kept No w4 w5:=Kept.alloc _ _ _
 have hs5:SlO 1 w5 (some ⟨w4.heap.size,0,none⟩) 0 0 (By []):=SlO.of_blk (Blk.alloc w4 #[] _) (by simp)
 clear_value w5
 have k5:=(hk2.no hk4).no hk5
 obtain ⟨a7,c7,w6,hrun,hs6,hk6,hat,_⟩:=run_app_sl (P:=Tryz.prog) (t:=34) (t2:=34) (ty:=34) (by kernel_rfl:slTyB Tryz.prog 34 1 1=true) (by kernel_rfl) hs5 ((hb.keep k5 fun _ _ _ e=>e):RdS 1 w5 a6 1 1 (By [x])) (By_one _) (by omega) (by omega)
 have k6:Kept No w w6:=k5.fresh hk6 fun z e=>by
  rw [inA_some] at e
  have:=hk2.size
  have:=hk4.size
  omega
 have hsw:CallR Tryz.prog 392 [.agg #[hv gk d],.slice a7 (0+1) c7] w6 fun v w'=>v=.tuple #[.int .i64 0,.int .i64 52]∧Kept No w6 w':=by
  refine C392 ?_
  unfold L392
  exact ⟨rfl,Kept.alloc _ _ _⟩
 refine ⟨_,_,_,w6,hrun,_,_,_,spy_write #[.slice a7 (0+1) c7],CallR.mono hsw ?_⟩
 rintro v w8 ⟨rfl,hk8⟩
 have k8:=k6.no hk8
 refine ⟨_,_,rfl,⟨by omega,by omega⟩,fun vs w'=>vs=[.bool false]∧w'=w8,?_,?_⟩
 ·exact pass_to ⟨_,rfl,condF rfl (condF rfl ⟨rfl,rfl⟩)⟩
 ·rintro _ b16 w10 ⟨hbv,rfl⟩
  simp only [List.cons.injEq,Value.bool.injEq,and_true] at hbv
  subst hbv
  exact condF rfl (condT rfl ⟨rfl,k8⟩)
structure WrU (p:Pu):Prop where
 w:p.w=true
 m:p.m=1
 z1:1≤p.z
 z2:p.z≤65536
 d:p.d=0∨p.d=2
 o:p.o=[]
 i:p.i=[]
 k:p.k=[]
 b:p.b=false
 c:p.c=false
theorem WrU.ck {p:Pu} (h:WrU p):ckP p:=by
 obtain ⟨h1,h2,h3,h4,h5,h6,h7,h8,h9,h10⟩:=h
 unfold ckP ckV
 rw [h6,h7,h8]
 exact ⟨by omega,by omega,h3,h4,by omega,by simp; omega,fun e=>rfl,by simp,by simp,fun e=>by omega,fun _=>h1,fun e=>rfl,fun _=>rfl,fun e=>by rw [h10] at e; cases e⟩
theorem WrU.bd {p:Pu} (h:WrU p):Bd p:=by
 unfold Bd
 rw [h.o,h.i,h.k]
 exact ⟨by simp,by simp,by simp⟩
section
variable {w0 w w' : World} {L0 L : KL} {gw gk : Nat} {p : Pu} {sl : Sl3} {s : AK} {d : Int}
theorem uput_ok (h:SO w0 L0 w gw p sl (spv gk d) gk s L) (hp:WrU p) (x:Int) :
 CallR Tryz.prog 230 [pd gw,.int .u8 x] w fun v w'=>v=.int .i64 52∧SO w0 L0 w' gw { p with d:=2 } sl (spv gk d) gk s L:=by
 refine C230 ?_
 unfold L230
 refine CallR.mono (write_ok h hp.w (by rcases hp.d with e | e <;> omega)) ?_
 rintro v w1 ⟨rfl,h1⟩
 refine ⟨_,rfl,condF rfl (nnI ⟨_,h1.blk.at (i:=2) rfl,condT (by show (p.m == 1)=true; rw [hp.m]; rfl) (nnI ⟨_,h1.blk.at (i:=11) rfl,?_⟩)⟩)⟩
 intro w2
 have hb2:Blk w2 w1.heap.size #[.int .u8 x]:=Blk.alloc _ _ _
 have hk2:Kept No w1 w2:=Kept.alloc _ _ _
 have hr2:RdB w2 (some ⟨w1.heap.size,0,none⟩) 1 1 [x]:=(SlO.of_blk (sz:=1) (n:=1) hb2 (by simp)).rd
 clear_value w2
 refine CallR.mono (spy_put hr2) ?_
 rintro v w3 ⟨rfl,hk3⟩
 refine ⟨_,_,rfl,CallR.mono (noted_ok ((h1.no hk2).no hk3) (.inr rfl) hp.b) ?_⟩
 rintro v w4 ⟨rfl,h4⟩
 exact ⟨_,rfl,rfl,h4⟩
theorem startS_ok {w:World} {L:KL} (hK:KernO w gk s L) (h:Rd3 w sl p) (hbd:Bd p) (hck:ckP p) (hc:p.c=false) {K:Value→World→Prop}
 (hk:∀ w3 gw sl1,SO w L w3 gw p sl1 (spv gk d) gk s L→K (.tuple #[.pointer (some ⟨gw,0,none⟩),.int .i64 0]) w3) :
 CallR Tryz.prog 192 [.agg (cs p sl),spv gk d] w K:=by
 refine CallR.mono (begin_ok (t:=347) (u:=.agg #[hv gk d]) h hbd hck hc (fun w x y=>spy_nil)) ?_
 rintro v w3 ⟨gw,sl1,rfl,hbw,ho,hgw,hns,hk3⟩
 have hz:=hk3.size
 refine hk w3 gw sl1 ⟨hbw,ho,fun b hb=>⟨hns b hb,hK.new_none ?_⟩,hK.new_none hgw,hK.no hk3,hgw,.of_no hk3⟩
 rcases hb with hb | hb | hb
 ·exact ho.2.1.1 b hb
 ·exact ho.2.1.2.1 b hb
 ·exact ho.2.1.2.2 b hb
theorem usput_ok {w:World} {L:KL} (hK:KernO w gk s L) (h:Rd3 w sl p) (hp:WrU p) (x:Int) :
 CallR Tryz.prog 199 [.agg (cs p sl),spv gk d,.int .u8 x] w fun v w'=>∃ sl' L',v=.tuple #[.agg (cs { p with d:=2 } sl'),.int .i64 52]∧SR w L w' { p with d:=2 } sl' gk s L':=by
 refine C199 ?_
 unfold L199
 intro w1 w2
 have hb1:Blk w1 w.heap.size (cs p sl):=Blk.alloc _ _ _
 have hk1:Kept No w w1:=Kept.alloc _ _ _
 clear_value w1
 have hb2:Blk w2 w1.heap.size (cs zP zS):=Blk.alloc _ _ _
 have hk2:Kept No w1 w2:=Kept.alloc _ _ _
 clear_value w2
 have k2:=hk1.no hk2
 have hz1:=hk1.size
 have hn2:L.own w1.heap.size=none:=hK.new_none hz1
 refine ld11 (hb1.no' hk2) (startS_ok (hK.no k2) (h.no k2) hp.bd hp.ck hp.c fun w3 gw sl1 h3=>?_)
 refine ⟨_,_,rfl,condT rfl (CallR.mono (uput_ok h3 hp x) ?_)⟩
 rintro v w4 ⟨rfl,h4⟩
 refine ⟨_,rfl,ld12 h4.blk (st11 (p:={ p with d:=2 }) (s:=sl1) (h4.res hb2 hn2) rfl fun w5 hb5 hk5=>ld11 hb5 ?_)⟩
 exact ⟨sl1,L,rfl,h4.out k2 hz1 hb2.lt hn2 hk5⟩
end
section
variable {w : World} {p : Pu} {sl : Sl3} {L : KL} {gk : Nat} {s : AK} {d : Int} {N : Nat} {F : List Int → AK → Prop} {c : List Int}
set_option maxHeartbeats 1000000 in
theorem whole_ok (hK:KernO w gk s L) (h:Rd3 w sl p) (hp:WrU p) (wr:AK.WrK N d F) (hF:F c s) {a:Option Addr} {l k:Nat} {bs:List Int} (hb:RdB w a l k bs) (hoff:∀ z,inA a z→L.own z=none) (hne:bs≠[]) (hN:c.length+bs.length≤N) (hl:bs.length≤1048576) :
 CallR Tryz.prog 197 [.agg (cs p sl),hv gk d,.slice a l k] w fun v w'=>∃ sl' s' L',v=.tuple #[.agg (cs { p with d:=2 } sl'),.int .i64 (l:Int),.int .i64 0]∧SR w L w' { p with d:=2 } sl' gk s' L'∧F (c ++ bs) s':=by
 refine C197 ?_
 unfold L197
 have hlen:=hb.len
 intro w1 w2
 have hb1:Blk w1 w.heap.size (cs p sl):=Blk.alloc _ _ _
 have hk1:Kept No w w1:=Kept.alloc _ _ _
 clear_value w1
 have hb2:Blk w2 w1.heap.size (cs zP zS):=Blk.alloc _ _ _
 have hk2:Kept No w1 w2:=Kept.alloc _ _ _
 clear_value w2
 have k2:=hk1.no hk2
 have hz1:=hk1.size
 have hb12:=hb1.no' hk2
 have hbl:=AK.ne_len hne
 have put:∀ wa,Kept No w2 wa→∀ x,CallR Tryz.prog 199 [.agg (cs p sl),spv gk d,.int .u8 x] wa fun v w'=>∃ sl' L',v=.tuple #[.agg (cs { p with d:=2 } sl'),.int .i64 52]∧SR wa L w' { p with d:=2 } sl' gk s L':=
  fun wa ka x=>usput_ok (hK.no (k2.no ka)) (h.no (k2.no ka)) hp x
 refine ⟨fun vs w'=>∃ g sl' L',vs=[.pointer (some ⟨g,0,none⟩),.int .i64 52]∧w2.heap.size≤g∧Blk w' g (cs { p with d:=2 } sl')∧Ow3 w2 w' sl' { p with d:=2 }∧(∀ b,In3 sl' b→b≠g∧L'.own b=none)∧L'.own g=none∧KernO w' gk s L'∧KStep w2 w' L L',?_,?_⟩
 ·intro w3
  have hk3:Kept No w2 w3:=Kept.drew _ _
  clear_value w3
  have fin1:∀ wa w5 sl' L',Kept No w2 wa→SR wa L w5 { p with d:=2 } sl' gk s L'→∀ w17,Blk w17 w5.heap.size (cs { p with d:=2 } sl')→Kept (·=w5.heap.size) (w5.alloc (.cells (cs zP zS) 151)) w17→
   ∃ g sl'' L'',[Value.pointer (some ⟨w5.heap.size,0,none⟩),.int .i64 52]=[.pointer (some ⟨g,0,none⟩),.int .i64 52]∧w2.heap.size≤g∧Blk w17 g (cs { p with d:=2 } sl'')∧Ow3 w2 w17 sl'' { p with d:=2 }∧(∀ b,In3 sl'' b→b≠g∧L''.own b=none)∧L''.own g=none∧KernO w17 gk s L''∧KStep w2 w17 L L'':=by
   intro wa w5 sl' L' ka ho w17 hb17 hk17
   have hza:=ka.size
   have hz5:=ho.st.size
   have hk6:Kept No w5 (w5.alloc (.cells (cs zP zS) 151)):=Kept.alloc _ _ _
   have hn:∀ b,In3 sl' b→b≠w5.heap.size:=fun b hb e=>by have:=ho.own.lt b hb; omega
   have hg:L'.own w5.heap.size=none:=ho.ker.new_none (Nat.le_refl _)
   exact ⟨_,sl',L',rfl,by omega,hb17,((ho.own.base hza).no hk6).keep hk17 fun b hb e=>hn b hb e,fun b hb=>⟨hn b hb,ho.off b hb⟩,hg,(ho.ker.no hk6).keep hk17 fun x e=>by rw [e]; exact hg,((KStep.fresh ka ho.st).no hk6).own hk17 (by omega)⟩
  have fin2:∀ wg wa w5 sl' L',Kept No w2 wg→Kept No (wg.alloc (.cells (cs zP zS) 151)) wa→SR wa L w5 { p with d:=2 } sl' gk s L'→∀ w17,Blk w17 wg.heap.size (cs { p with d:=2 } sl')→Kept (·=wg.heap.size) w5 w17→
   ∃ g sl'' L'',[Value.pointer (some ⟨wg.heap.size,0,none⟩),.int .i64 52]=[.pointer (some ⟨g,0,none⟩),.int .i64 52]∧w2.heap.size≤g∧Blk w17 g (cs { p with d:=2 } sl'')∧Ow3 w2 w17 sl'' { p with d:=2 }∧(∀ b,In3 sl'' b→b≠g∧L''.own b=none)∧L''.own g=none∧KernO w17 gk s L''∧KStep w2 w17 L L'':=by
   intro wg wa w5 sl' L' kg ka ho w17 hb17 hk17
   have hk6:Kept No wg (wg.alloc (.cells (cs zP zS) 151)):=Kept.alloc _ _ _
   have hzg:=kg.size
   have hza:=ka.size
   have hz2:=k2.size
   have hz6:(wg.alloc (.cells (cs zP zS) 151)).heap.size=wg.heap.size+1:=by simp
   have hn:∀ b,In3 sl' b→b≠wg.heap.size:=fun b hb e=>by
    have:wa.heap.size≤b:=by
     rcases hb with hb | hb | hb
     ·exact ho.own.2.1.1 b hb
     ·exact ho.own.2.1.2.1 b hb
     ·exact ho.own.2.1.2.2 b hb
    omega
   have hg:L'.own wg.heap.size=none:=(XStep.of_k (T:=No) ho.st).own (hK.new_none (by omega)) (by omega)
   exact ⟨_,sl',L',rfl,by omega,hb17,(ho.own.base (by omega)).keep hk17 fun b hb e=>hn b hb e,fun b hb=>⟨hn b hb,ho.off b hb⟩,hg,ho.ker.keep hk17 fun x e=>by rw [e]; exact hg,(KStep.fresh ((kg.no hk6).no ka) ho.st).own hk17 hzg⟩
  have ka3:Kept No w3 (World.alloc w3 (.cells (cs zP zS) 151)):=Kept.alloc _ _ _
  obtain ⟨q,haq,hgq⟩:=hb.get (i:=0) (by omega)
  have hg3:w3.cell? (q.add 0)=some (.int .u8 bs[0]):=(k2.no hk3).cell hgq fun e=>e
  have hg4:(World.alloc w3 (.cells (cs zP zS) 151)).cell? (q.add 0)=some (.int .u8 bs[0]):=ka3.cell hg3 fun e=>e
  refine ⟨⟨by omega,by omega⟩,nnE haq ⟨ld11 (hb12.no' hk3) ⟨⟨_,hg3,?_,?_⟩,⟨_,hg4,?_⟩⟩,⟨_,hg3,ld11 (hb12.no' hk3) ⟨?_,?_⟩,ld11 (hb12.no' (hk3.no ka3)) ?_⟩,ld11 (hb12.no' (hk3.no ka3)) ⟨_,hg4,?_⟩,⟨_,hg4,ld11 (hb12.no' (hk3.no ka3)) ?_⟩⟩⟩
  ·refine CallR.mono (put w3 hk3 bs[0]) ?_
   rintro v w5 ⟨sl',L',rfl,ho⟩
   exact ⟨_,_,_,_,_,_,_,_,_,_,_,_,_,_,_,_,_,_,rfl,st11 (p:={ p with d:=2 }) (s:=sl') (Blk.alloc w5 (cs zP zS) _) rfl (fin1 w3 w5 sl' L' hk3 ho)⟩
  ·refine CallR.mono (put _ (hk3.no ka3) bs[0]) ?_
   rintro v w5 ⟨sl',L',rfl,ho⟩
   exact ⟨_,_,_,_,_,_,_,_,_,_,_,_,_,_,_,_,_,_,rfl,st11 (p:={ p with d:=2 }) (s:=sl') ((Blk.alloc w3 (cs zP zS) 151).keep ho.st.kept fun e=>e (hK.new_none (by have:=k2.size; have:=hk3.size; omega))) rfl (fin2 w3 _ w5 sl' L' hk3 (Kept.refl _ _) ho)⟩
  ·refine CallR.mono (put _ (hk3.no ka3) bs[0]) ?_
   rintro v w5 ⟨sl',L',rfl,ho⟩
   exact ⟨_,_,_,_,_,_,_,_,_,_,_,_,_,_,_,_,_,_,rfl,st11 (p:={ p with d:=2 }) (s:=sl') ((Blk.alloc w3 (cs zP zS) 151).keep ho.st.kept fun e=>e (hK.new_none (by have:=k2.size; have:=hk3.size; omega))) rfl (fin2 w3 _ w5 sl' L' hk3 (Kept.refl _ _) ho)⟩
  ·refine CallR.mono (put w3 hk3 bs[0]) ?_
   rintro v w5 ⟨sl',L',rfl,ho⟩
   exact ⟨_,_,_,_,_,_,_,_,_,_,_,_,_,_,_,_,_,_,rfl,st11 (p:={ p with d:=2 }) (s:=sl') (Blk.alloc w5 (cs zP zS) _) rfl (fin1 w3 w5 sl' L' hk3 ho)⟩
  ·refine CallR.mono (put _ (hk3.no ka3) bs[0]) ?_
   rintro v w5 ⟨sl',L',rfl,ho⟩
   exact ⟨_,_,_,_,_,_,_,_,_,_,_,_,_,_,_,_,_,_,rfl,st11 (p:={ p with d:=2 }) (s:=sl') ((Blk.alloc w3 (cs zP zS) 151).keep ho.st.kept fun e=>e (hK.new_none (by have:=k2.size; have:=hk3.size; omega))) rfl (fin2 w3 _ w5 sl' L' hk3 (Kept.refl _ _) ho)⟩
  ·refine CallR.mono (put _ (hk3.no ka3) bs[0]) ?_
   rintro v w5 ⟨sl',L',rfl,ho⟩
   exact ⟨_,_,_,_,_,_,_,_,_,_,_,_,_,_,_,_,_,_,rfl,st11 (p:={ p with d:=2 }) (s:=sl') ((Blk.alloc w3 (cs zP zS) 151).keep ho.st.kept fun e=>e (hK.new_none (by have:=k2.size; have:=hk3.size; omega))) rfl (fin2 w3 _ w5 sl' L' hk3 (Kept.refl _ _) ho)⟩
  ·refine CallR.mono (put _ (hk3.no ka3) bs[0]) ?_
   rintro v w5 ⟨sl',L',rfl,ho⟩
   exact ⟨_,_,_,_,_,_,_,_,_,_,_,_,_,_,_,_,_,_,rfl,st11 (p:={ p with d:=2 }) (s:=sl') ((Blk.alloc w3 (cs zP zS) 151).keep ho.st.kept fun e=>e (hK.new_none (by have:=k2.size; have:=hk3.size; omega))) rfl (fin2 w3 _ w5 sl' L' hk3 (Kept.refl _ _) ho)⟩
  ·refine CallR.mono (put _ (hk3.no ka3) bs[0]) ?_
   rintro v w5 ⟨sl',L',rfl,ho⟩
   exact ⟨_,_,_,_,_,_,_,_,_,_,_,_,_,_,_,_,_,_,rfl,st11 (p:={ p with d:=2 }) (s:=sl') ((Blk.alloc w3 (cs zP zS) 151).keep ho.st.kept fun e=>e (hK.new_none (by have:=k2.size; have:=hk3.size; omega))) rfl (fin2 w3 _ w5 sl' L' hk3 (Kept.refl _ _) ho)⟩
 ·rintro _ p180 n181 w107 ⟨g,sl1,L1,hvs,hg,hbg,ho,hn,hgL,hK1,st1⟩
  simp only [List.cons.injEq,Value.pointer.injEq,Value.int.injEq,true_and,and_true] at hvs
  obtain ⟨rfl,rfl⟩:=hvs
  have hz2:=k2.size
  have st0:KStep w w107 L L1:=KStep.fresh k2 st1
  have hoff1:∀ z,inA a z→L1.own z=none:=fun z hz=>(XStep.of_k (T:=No) st0).own (hoff z hz) (RdS.old hb (fun e=>hne (By_inj (b:=[]) e)) z hz)
  obtain ⟨s',hr,hF'⟩:=wr.put c s bs hF hN
  refine condF rfl (CallR.mono (rput_ok' hK1 d (hb.keep st0.kept fun z hz hin e=>e (hoff z hin)) (fun _=>hoff1) (wr.cnt c s hF (by omega))) ?_)
  rintro v w119 ⟨rfl,L2,hK2,st2⟩
  rw [hr] at hK2 ⊢
  have hg2:L2.own g=none:=(XStep.of_k (T:=No) st2).own hgL hbg.lt
  have hb9:=hbg.keep st2.kept fun e=>e hgL
  refine ⟨_,_,rfl,?_⟩
  refine ⟨_,hb9.at (i:=9) rfl,condF hp.b ?_⟩
  have hlt2:=ho.lt
  have ho2:Ow3 w2 w119 sl1 { p with d:=2 }:=ho.keep st2.kept fun b hb e=>e (hn b hb).2
  have hlg:=hbg.lt
  have hn2:∀ b,In3 sl1 b→b≠g∧L2.own b=none:=fun b hb=>⟨(hn b hb).1,(XStep.of_k (T:=No) st2).own (hn b hb).2 (hlt2 b hb)⟩
  have hb29:Blk w119 w1.heap.size (cs zP zS):=((hb2.keep st1.kept fun e=>e (hK.new_none hz1)).keep st2.kept fun e=>e ((XStep.of_k (T:=No) st1).own (hK.new_none hz1) hb2.lt))
  have hpb:({ p with d:=2,b:=false }:Pu)={ p with d:=2 }:=by
   have:=hp.b
   cases p
   simp only at this
   subst this
   rfl
  have hf:∀ b,In3 sl1 b→w2.heap.size≤b:=fun b hb=>by
   rcases hb with hb | hb | hb
   ·exact ho.2.1.1 b hb
   ·exact ho.2.1.2.1 b hb
   ·exact ho.2.1.2.2 b hb
  have hl2:=hb2.lt
  have hn1:L2.own w1.heap.size=none:=(XStep.of_k (T:=No) (st1.trans st2)).own (hK.new_none hz1) hl2
  have fin:∀ w130 w131,Blk w130 g (cs { p with d:=2 } sl1)→Kept (·=g) w119 w130→Blk w131 w1.heap.size (cs { p with d:=2 } sl1)→Kept (·=w1.heap.size) w130 w131→SR w L w131 { p with d:=2 } sl1 gk s' L2:=fun w130 w131 hb130 hk130 hb131 hk131=>
   ⟨((ho2.keep hk130 fun b hb e=>(hn2 b hb).1 e).keep hk131 fun b hb e=>by have:=hf b hb; omega).base hz2,fun b hb=>(hn2 b hb).2,(hK2.keep hk130 fun x e=>by rw [e]; exact hg2).keep hk131 fun x e=>by rw [e]; exact hn1,((st0.trans st2).own hk130 (by omega)).own hk131 hz1⟩
  refine condF rfl ?_
  refine stC_at hb9 (i:=9) (by simp [cs]) fun w130 hb130 hk130 hs130=>?_
  have hb130:Blk w130 g (cs { p with d:=2,b:=false } sl1):=hb130
  rw [hpb] at hb130
  refine ld11 hb130 (st11 (p:={ p with d:=2 }) (s:=sl1) (hb29.keep hk130 (by omega)) rfl fun w131 hb131 hk131=>ld11 hb131 ?_)
  refine ⟨sl1,s',L2,?_,fin w130 w131 hb130 hk130 hb131 hk131,hF'⟩
  rw [hlen]
  rfl
end
section
variable {w : World} {p : Pu} {sl : Sl3} {L : KL} {gk : Nat} {s : AK} {d : Int} {N : Nat} {F : List Int → AK → Prop} {c : List Int}
set_option maxHeartbeats 1000000 in
theorem lputU_ok (hK:KernO w gk s L) (h:Rd3 w sl p) (hp:WrU p) (wr:AK.WrK N d F) (hF:F c s) {a:Option Addr} {l k:Nat} {bs:List Int} (hb:RdB w a l k bs) (hoff:bs≠[]→∀ z,inA a z→L.own z=none) (hN:c.length+bs.length≤N) (hl:bs.length≤1048576) :
 CallR Tryz.prog 145 [.agg (cs p sl),hv gk d,.slice a l k] w fun v w'=>∃ d' sl' s' L',v=.tuple #[.agg (cs { p with d:=d' } sl'),.int .i64 (l:Int),.int .i64 0]∧SR w L w' { p with d:=d' } sl' gk s' L'∧F (c ++ bs) s'∧WrU { p with d:=d' }:=by
 refine C145 ?_
 unfold L145
 have hlen:=hb.len
 intro w1 w2
 have hb1:Blk w1 w.heap.size (cs p sl):=Blk.alloc _ _ _
 have hk1:Kept No w w1:=Kept.alloc _ _ _
 clear_value w1
 have hb2:Blk w2 w1.heap.size (cs zP zS):=Blk.alloc _ _ _
 have hk2:Kept No w1 w2:=Kept.alloc _ _ _
 clear_value w2
 have k2:=hk1.no hk2
 have hz1:=hk1.size
 have hb12:=hb1.no' hk2
 have hwn:(if decide (((l:Nat):Int) > 1048576)=true then (5:Int) else 0)=0:=if_neg (by simp; omega)
 have ask:∀ wa,Kept No w2 wa→CallR Tryz.prog 195 [.agg (cs p sl),hv gk d,.int .i64 0] wa fun v w'=>∃ sl',v=.tuple #[.agg (cs p sl'),.int .i64 0]∧Ow3 wa w' sl' p∧Kept No wa w':=
  fun wa ka=>lask_ok (h.no (k2.no ka)) hp.bd hp.ck hp.c 0
 refine ⟨fun vs w'=>∃ g sl',vs=[.pointer (some ⟨g,0,none⟩),.int .i64 0]∧w2.heap.size≤g∧Blk w' g (cs p sl')∧Ow3 w2 w' sl' p∧(∀ b,In3 sl' b→b≠g)∧Kept No w2 w',?_,?_⟩
 ·intro w3
  have hk3:Kept No w2 w3:=Kept.drew _ _
  clear_value w3
  have fin1:∀ wa w5 sl',Kept No w2 wa→Ow3 wa w5 sl' p→Kept No wa w5→∀ w17,Blk w17 w5.heap.size (cs p sl')→Kept (·=w5.heap.size) (w5.alloc (.cells (cs zP zS) 151)) w17→
   ∃ g sl'',[Value.pointer (some ⟨w5.heap.size,0,none⟩),.int .i64 0]=[.pointer (some ⟨g,0,none⟩),.int .i64 0]∧w2.heap.size≤g∧Blk w17 g (cs p sl'')∧Ow3 w2 w17 sl'' p∧(∀ b,In3 sl'' b→b≠g)∧Kept No w2 w17:=by
   intro wa w5 sl' ka ho k5 w17 hb17 hk17
   have hza:=ka.size
   have hz5:=k5.size
   have hk6:Kept No w5 (w5.alloc (.cells (cs zP zS) 151)):=Kept.alloc _ _ _
   have hn:∀ b,In3 sl' b→b≠w5.heap.size:=fun b hb e=>by have:=ho.lt b hb; omega
   exact ⟨_,sl',rfl,by omega,hb17,((ho.base hza).no hk6).keep hk17 fun b hb e=>hn b hb e,hn,(((ka.no k5).no hk6).fresh hk17 fun x e=>by omega)⟩
  have fin2:∀ wg wa w5 sl',Kept No w2 wg→Kept No (wg.alloc (.cells (cs zP zS) 151)) wa→Ow3 wa w5 sl' p→Kept No wa w5→∀ w17,Blk w17 wg.heap.size (cs p sl')→Kept (·=wg.heap.size) w5 w17→
   ∃ g sl'',[Value.pointer (some ⟨wg.heap.size,0,none⟩),.int .i64 0]=[.pointer (some ⟨g,0,none⟩),.int .i64 0]∧w2.heap.size≤g∧Blk w17 g (cs p sl'')∧Ow3 w2 w17 sl'' p∧(∀ b,In3 sl'' b→b≠g)∧Kept No w2 w17:=by
   intro wg wa w5 sl' kg ka ho k5 w17 hb17 hk17
   have hk6:Kept No wg (wg.alloc (.cells (cs zP zS) 151)):=Kept.alloc _ _ _
   have hzg:=kg.size
   have hza:=ka.size
   have hz6:(wg.alloc (.cells (cs zP zS) 151)).heap.size=wg.heap.size+1:=by simp
   have hn:∀ b,In3 sl' b→b≠wg.heap.size:=fun b hb e=>by
    have:wa.heap.size≤b:=by
     rcases hb with hb | hb | hb
     ·exact ho.2.1.1 b hb
     ·exact ho.2.1.2.1 b hb
     ·exact ho.2.1.2.2 b hb
    omega
   exact ⟨_,sl',rfl,by omega,hb17,(ho.base (by omega)).keep hk17 fun b hb e=>hn b hb e,hn,((((kg.no hk6).no ka).no k5).fresh hk17 fun x e=>by omega)⟩
  have al:∀ wg wa,Kept No (World.alloc wg (.cells (cs zP zS) 151)) wa→Blk wa wg.heap.size (cs zP zS):=fun wg wa k=>(Blk.alloc _ _ _:Blk (World.alloc wg (.cells (cs zP zS) 151)) wg.heap.size (cs zP zS)).no' k
  have ka3:Kept No w3 (World.alloc w3 (.cells (cs zP zS) 151)):=Kept.alloc _ _ _
  refine ⟨ld11 (hb12.no' hk3) ⟨when_to ⟨_,rfl,?_⟩,?_⟩,when_to ⟨_,rfl,?_⟩,?_⟩
  ·rw [hwn]
   refine ⟨CallR.mono (ask w3 hk3) ?_,?_⟩
   ·rintro v w5 ⟨sl',rfl,ho,k5⟩
    exact ⟨_,_,_,_,_,_,_,_,_,_,_,_,_,_,_,_,_,_,rfl,st11 (p:=p) (s:=sl') (Blk.alloc w5 (cs zP zS) _) rfl (fin1 w3 w5 sl' hk3 ho k5)⟩
   ·refine CallR.mono (ask _ (hk3.no ka3)) ?_
    rintro v w5 ⟨sl',rfl,ho,k5⟩
    exact ⟨_,_,_,_,_,_,_,_,_,_,_,_,_,_,_,_,_,_,rfl,st11 (p:=p) (s:=sl') (al w3 w5 k5) rfl (fin2 w3 _ w5 sl' hk3 (Kept.refl _ _) ho k5)⟩
  ·refine when_to ⟨_,rfl,?_⟩
   rw [hwn]
   refine CallR.mono (ask _ (hk3.no ka3)) ?_
   rintro v w5 ⟨sl',rfl,ho,k5⟩
   exact ⟨_,_,_,_,_,_,_,_,_,_,_,_,_,_,_,_,_,_,rfl,st11 (p:=p) (s:=sl') (al w3 w5 k5) rfl (fin2 w3 _ w5 sl' hk3 (Kept.refl _ _) ho k5)⟩
  ·rw [hwn]
   refine ⟨ld11 (hb12.no' hk3) ⟨?_,?_⟩,ld11 (hb12.no' (hk3.no ka3)) ?_⟩
   ·refine CallR.mono (ask w3 hk3) ?_
    rintro v w5 ⟨sl',rfl,ho,k5⟩
    exact ⟨_,_,_,_,_,_,_,_,_,_,_,_,_,_,_,_,_,_,rfl,st11 (p:=p) (s:=sl') (Blk.alloc w5 (cs zP zS) _) rfl (fin1 w3 w5 sl' hk3 ho k5)⟩
   ·refine CallR.mono (ask _ (hk3.no ka3)) ?_
    rintro v w5 ⟨sl',rfl,ho,k5⟩
    exact ⟨_,_,_,_,_,_,_,_,_,_,_,_,_,_,_,_,_,_,rfl,st11 (p:=p) (s:=sl') (al w3 w5 k5) rfl (fin2 w3 _ w5 sl' hk3 (Kept.refl _ _) ho k5)⟩
   ·refine CallR.mono (ask _ (hk3.no ka3)) ?_
    rintro v w5 ⟨sl',rfl,ho,k5⟩
    exact ⟨_,_,_,_,_,_,_,_,_,_,_,_,_,_,_,_,_,_,rfl,st11 (p:=p) (s:=sl') (al w3 w5 k5) rfl (fin2 w3 _ w5 sl' hk3 (Kept.refl _ _) ho k5)⟩
  ·refine ⟨ld11 (hb12.no' (hk3.no ka3)) (when_to ⟨_,rfl,?_⟩),when_to ⟨_,rfl,ld11 (hb12.no' (hk3.no ka3)) ?_⟩⟩
   ·rw [hwn]
    refine CallR.mono (ask _ (hk3.no ka3)) ?_
    rintro v w5 ⟨sl',rfl,ho,k5⟩
    exact ⟨_,_,_,_,_,_,_,_,_,_,_,_,_,_,_,_,_,_,rfl,st11 (p:=p) (s:=sl') (al w3 w5 k5) rfl (fin2 w3 _ w5 sl' hk3 (Kept.refl _ _) ho k5)⟩
   ·rw [hwn]
    refine CallR.mono (ask _ (hk3.no ka3)) ?_
    rintro v w5 ⟨sl',rfl,ho,k5⟩
    exact ⟨_,_,_,_,_,_,_,_,_,_,_,_,_,_,_,_,_,_,rfl,st11 (p:=p) (s:=sl') (al w3 w5 k5) rfl (fin2 w3 _ w5 sl' hk3 (Kept.refl _ _) ho k5)⟩
 ·rintro _ p184 n185 w112 ⟨g,sl1,hvs,hg,hbg,hog,hng,hkg⟩
  simp only [List.cons.injEq,Value.pointer.injEq,Value.int.injEq,true_and,and_true] at hvs
  obtain ⟨rfl,rfl⟩:=hvs
  have hzg:=hkg.size
  have hl2:=hb2.lt
  have hb2g:Blk w112 w1.heap.size (cs zP zS):=hb2.no' hkg
  refine condF rfl (condE (fun hl0=>?_) (fun hl0=>?_))
  ·refine ld11 hbg (st11 (p:=p) (s:=sl1) hb2g rfl fun w123 hb123 hk123=>ld11 hb123 ?_)
   have hbs:bs=[]:=List.eq_nil_of_length_eq_zero (by omega)
   subst hbs
   have hl0:l=0:=by omega
   subst hl0
   have hf:∀ b,In3 sl1 b→w2.heap.size≤b:=fun b hb=>by
    rcases hb with hb | hb | hb
    ·exact hog.2.1.1 b hb
    ·exact hog.2.1.2.1 b hb
    ·exact hog.2.1.2.2 b hb
   have hz2:=k2.size
   have kk:=k2.no hkg
   exact ⟨p.d,sl1,s,L,rfl,⟨(hog.keep hk123 fun b hb e=>by have:=hf b hb; omega).base hz2,fun b hb=>hK.new_none (by have:=hf b hb; omega),(hK.no kk).keep hk123 fun x e=>by rw [e]; exact hK.new_none hz1,(KStep.of_no kk).own hk123 hz1⟩,by simpa using hF,hp⟩
  ·have hm1:(p.m == 1)=true:=by rw [hp.m]; rfl
   have hpo:Rd3 w112 sl1 p:=hog.rd
   have hbs:bs≠[]:=fun e=>by rw [e] at hlen; simp at hlen; omega
   have kk:=k2.no hkg
   have hz2:=k2.size
   have hzg:=hkg.size
   refine ⟨_,hbg.at (i:=2) rfl,condT hm1 (ld11 hbg (CallR.mono (whole_ok (hK.no kk) hpo hp wr hF (hb.keep kk fun _ _ _ e=>e) (hoff hbs) hbs hN hl) ?_))⟩
   rintro v w135 ⟨sl9,s9,L9,rfl,hSR,hF9⟩
   have hn1:L9.own w1.heap.size=none:=(XStep.of_k (T:=No) hSR.st).own (hK.new_none hz1) (by omega)
   have hf:∀ b,In3 sl9 b→w112.heap.size≤b:=fun b hb=>by
    rcases hb with hb | hb | hb
    ·exact hSR.own.2.1.1 b hb
    ·exact hSR.own.2.1.2.1 b hb
    ·exact hSR.own.2.1.2.2 b hb
   refine ⟨_,_,_,_,_,_,_,_,_,_,_,_,_,_,_,_,_,_,_,rfl,st11 (p:={ p with d:=2 }) (s:=sl9) (hb2g.keep hSR.st.kept fun e=>e (hK.new_none hz1)) rfl fun w131 hb131 hk131=>ld11 hb131 ?_⟩
   exact ⟨2,sl9,s9,L9,rfl,⟨(hSR.own.keep hk131 fun b hb e=>by have:=hf b hb; omega).base (by omega),hSR.off,hSR.ker.keep hk131 fun x e=>by rw [e]; exact hn1,(KStep.fresh kk hSR.st).own hk131 hz1⟩,hF9,⟨hp.w,hp.m,hp.z1,hp.z2,.inr rfl,hp.o,hp.i,hp.k,hp.b,hp.c⟩⟩
end
def hiM (n1 n2:Int):Int:=IntKind.wrap .u64 ((IntKind.wrap .u64 ((IntKind.wrap .u64 ((Int.fdiv n1 (2 ^ (min (Int.toNat 32) (IntKind.bits .u64)))) * (Int.fdiv n2 (2 ^ (min (Int.toNat 32) (IntKind.bits .u64))))))+(Int.fdiv (IntKind.wrap .u64 ((IntKind.wrap .u64 ((Int.fdiv n1 (2 ^ (min (Int.toNat 32) (IntKind.bits .u64)))) * (IntKind.wrap .u64 ↑(BitVec.ofInt (IntKind.bits .u64) n2 &&& BitVec.ofInt (IntKind.bits .u64) 4294967295).toNat)))+(Int.fdiv (IntKind.wrap .u64 ((IntKind.wrap .u64 ↑(BitVec.ofInt (IntKind.bits .u64) n1 &&& BitVec.ofInt (IntKind.bits .u64) 4294967295).toNat) * (IntKind.wrap .u64 ↑(BitVec.ofInt (IntKind.bits .u64) n2 &&& BitVec.ofInt (IntKind.bits .u64) 4294967295).toNat))) (2 ^ (min (Int.toNat 32) (IntKind.bits .u64)))))) (2 ^ (min (Int.toNat 32) (IntKind.bits .u64))))))+(Int.fdiv (IntKind.wrap .u64 ((IntKind.wrap .u64 ↑(BitVec.ofInt (IntKind.bits .u64) (IntKind.wrap .u64 ((IntKind.wrap .u64 ((Int.fdiv n1 (2 ^ (min (Int.toNat 32) (IntKind.bits .u64)))) * (IntKind.wrap .u64 ↑(BitVec.ofInt (IntKind.bits .u64) n2 &&& BitVec.ofInt (IntKind.bits .u64) 4294967295).toNat)))+(Int.fdiv (IntKind.wrap .u64 ((IntKind.wrap .u64 ↑(BitVec.ofInt (IntKind.bits .u64) n1 &&& BitVec.ofInt (IntKind.bits .u64) 4294967295).toNat) * (IntKind.wrap .u64 ↑(BitVec.ofInt (IntKind.bits .u64) n2 &&& BitVec.ofInt (IntKind.bits .u64) 4294967295).toNat))) (2 ^ (min (Int.toNat 32) (IntKind.bits .u64)))))) &&& BitVec.ofInt (IntKind.bits .u64) 4294967295).toNat)+(IntKind.wrap .u64 ((IntKind.wrap .u64 ↑(BitVec.ofInt (IntKind.bits .u64) n1 &&& BitVec.ofInt (IntKind.bits .u64) 4294967295).toNat) * (Int.fdiv n2 (2 ^ (min (Int.toNat 32) (IntKind.bits .u64)))))))) (2 ^ (min (Int.toNat 32) (IntKind.bits .u64)))))
theorem hiM_one:∀ n:Fin 501,hiM 1 (n.val:Int)=0∧IntKind.wrap .u64 ((1:Int) * (n.val:Int))=(n.val:Int)∧IntKind.wrap .u64 (n.val:Int)=(n.val:Int)∧IntKind.wrap .i64 (n.val:Int)=(n.val:Int):=by decide +kernel
theorem mul_one {w:World} {n:Nat} (h:n≤500):CallR Tryz.prog 256 [.int .u64 1,.int .u64 (n:Int)] w fun v w'=>v=.tuple #[.int .u64 0,.int .u64 (n:Int)]∧w'=w:=by
 obtain ⟨h1,h2,_,_⟩:=hiM_one ⟨n,by omega⟩
 refine C256 ?_
 unfold L256
 refine ⟨by omega,by omega,by omega,by omega,by omega,?_,rfl⟩
 rw [h2]
 show (.tuple #[.int .u64 (hiM 1 (n:Int)),.int .u64 (n:Int)]:Value)=_
 rw [h1]
theorem bytes_one {w:World} {n:Nat} (h:n≤500):CallR Tryz.prog 241 [.int .i64 1,.int .i64 (n:Int)] w fun v w'=>v=.tuple #[.int .i64 (n:Int),.int .i64 0]∧w'=w:=by
 obtain ⟨_,_,h3,h4⟩:=hiM_one ⟨n,by omega⟩
 refine C241 ?_
 unfold L241
 refine condF rfl (condF (by simp) ?_)
 rw [show IntKind.wrap .u64 (n:Int)=(n:Int) from h3,show IntKind.wrap .u64 1=1 by decide]
 refine CallR.mono (mul_one h) ?_
 rintro v w1 ⟨rfl,rfl⟩
 refine ⟨_,_,rfl,condF rfl (condF (by simp; omega) ⟨?_,rfl⟩)⟩
 rw [show IntKind.wrap .i64 (n:Int)=(n:Int) from h4]
theorem Ow3.new {w0 w:World} {sl:Sl3} {p:Pu} (h:Ow3 w0 w sl p):∀ b,In3 sl b→w0.heap.size≤b:=fun b hb=>by
 rcases hb with hb | hb | hb
 ·exact h.2.1.1 b hb
 ·exact h.2.1.2.1 b hb
 ·exact h.2.1.2.2 b hb
section
variable {w w1 w2 w' w'' : World} {L L' : KL} {gk : Nat} {p : Pu} {sl : Sl3} {s s0 : AK} {d : Int}
theorem SR.pre (k:Kept No w1 w) (h:SR w L w' p sl gk s L'):SR w1 L w' p sl gk s L':=⟨h.own.base k.size,h.off,h.ker,KStep.fresh k h.st⟩
theorem SR.res (hK:KernO w gk s0 L) (k2:Kept No w w2) (h:SR w2 L w' p sl gk s L') {S:Nat→Prop} (k:Kept S w' w'') (hS:∀ z,S z→w.heap.size≤z∧(z< w2.heap.size∨w'.heap.size≤z)):SR w L w'' p sl gk s L' where
 own:=(h.own.keep k fun b hb e=>by
  have h1:=h.own.new b hb
  have h2:=h.own.lt b hb
  rcases (hS b e).2 with e | e <;> omega).base k2.size
 off:=h.off
 ker:=h.ker.keep k fun z hz=>by
  obtain ⟨e1,e2⟩:=hS z hz
  rcases e2 with e2 | e2
  ·exact (XStep.of_k (T:=No) h.st).own (hK.new_none e1) e2
  ·exact h.ker.new_none e2
 st:=⟨(KStep.fresh k2 h.st).kept.trans k fun x hx e=>by have:=(hS x e).1; omega,(KStep.fresh k2 h.st).grew⟩
theorem SR.no (h:SR w L w' p sl gk s L') (k:Kept No w' w''):SR w L w'' p sl gk s L':=⟨h.own.no k,h.off,h.ker.no k,h.st.no k⟩
end
theorem own3b {f:Nat} (hf:∀ {w:World} {a:Option Addr} {l c:Nat} {bs:List Int},RdB w a l c bs→l≤140737488355328→CallR Tryz.prog f [.slice a l c] w fun v w'=>∃ a' c',v=.slice a' l c'∧OB w' a' l c' bs∧Kept No w w'∧Fresh w a')
 {w0 w:World} {gl g:Nat} {p:Pu} {s:Sl3} (hg:w0.heap.size≤g) (hw:w0.heap.size≤w.heap.size) (hbl:Blk w gl (cs p s)) (hb:Blk w g (cs p s)) (h:Rd3 w s p) (hbd:Bd p) {K:World→Prop}
 (hk:∀ s' w',Blk w' g (cs p s')→Ow3 w0 w' s' p→(∀ b,inA s'.oa b∨inA s'.ia b∨inA s'.ka b→w.heap.size≤b)→Kept (·=g) w w'→K w') :
 ∃ (S28:World→Prop),S28 (World.drew w)∧
 let w5:=World.drew w;
 ∃ (a29:Option Addr) (l29:Nat) (c29:Nat),(∀ wS:World,S28 wS→wS.cell? (Addr.mk gl 4 none)=some ((.slice a29 l29 c29:Value)))∧
 ∃ (a30:Option Addr) (l30:Nat) (c30:Nat),(∀ wS:World,S28 wS→wS.cell? (Addr.mk gl 5 none)=some ((.slice a30 l30 c30:Value)))∧
 ∃ (a31:Option Addr) (l31:Nat) (c31:Nat),(∀ wS:World,S28 wS→wS.cell? (Addr.mk gl 6 none)=some ((.slice a31 l31 c31:Value)))∧
 CallR Tryz.prog f [.slice a29 l29 c29] w5 (fun (r33:Value) (w6:World)=>
 ∃ (a32:Option Addr) (l32:Nat) (c32:Nat),r33=.slice a32 l32 c32∧
 S28 w6∧
 CallR Tryz.prog f [.slice a30 l30 c30] w6 (fun (r35:Value) (w7:World)=>
 ∃ (a34:Option Addr) (l34:Nat) (c34:Nat),r35=.slice a34 l34 c34∧
 S28 w7∧
 CallR Tryz.prog f [.slice a31 l31 c31] w7 (fun (r37:Value) (w8:World)=>
 ∃ (a36:Option Addr) (l36:Nat) (c36:Nat),r37=.slice a36 l36 c36∧
 stC (Addr.mk g 4 none) (.slice a32 l32 c32) w8 (fun (w9:World)=>
 stC (Addr.mk g 5 none) (.slice a34 l34 c34) w9 (fun (w10:World)=>
 stC (Addr.mk g 6 none) (.slice a36 l36 c36) w10 K))))):=by
 obtain ⟨b1,b2,b3⟩:=hbd
 refine ⟨fun wS=>Blk wS gl (cs p s),hbl.drew,_,_,_,fun wS hS=>(hS.cell 4).trans rfl,_,_,_,fun wS hS=>(hS.cell 5).trans rfl,_,_,_,fun wS hS=>(hS.cell 6).trans rfl,?_⟩
 have hkd:Kept No w w.drew:=Kept.drew _ _
 have h1:=h.no hkd
 refine CallR.mono (hf h1.1 (by rw [← h.1.len]; omega)) ?_
 rintro v w6 ⟨a1,c1,rfl,ho1,hk1,hf1⟩
 have hb6:=(hbl.drew).keep hk1 (fun e=>e)
 have h6:=h1.no hk1
 refine ⟨_,_,_,rfl,hb6,CallR.mono (hf h6.2.1 (by rw [← h.2.1.len]; omega)) ?_⟩
 rintro v w7 ⟨a2,c2,rfl,ho2,hk2,hf2⟩
 have hb7:=hb6.keep hk2 (fun e=>e)
 have h7:=h6.no hk2
 refine ⟨_,_,_,rfl,hb7,CallR.mono (hf h7.2.2 (by rw [← h.2.2.len]; omega)) ?_⟩
 rintro v w8 ⟨a3,c3,rfl,ho3,hk3,hf3⟩
 have hb8:=(((hb.drew).keep hk1 (fun e=>e)).keep hk2 (fun e=>e)).keep hk3 (fun e=>e)
 have z0:(cs p s).size=11:=rfl
 have l1:=ho1.lt
 have l2:=ho2.lt
 have hgw:=hb.lt
 have y1:w.heap.size≤w6.heap.size:=Nat.le_trans hkd.size hk1.size
 have y2:w6.heap.size≤w7.heap.size:=hk2.size
 have y0:w.drew.heap.size=w.heap.size:=rfl
 refine ⟨_,_,_,rfl,?_⟩
 refine stC_blk hb8 (by omega) fun w9 h9 k9 s9=>?_
 refine stC_blk h9 (by rw [Array.size_setIfInBounds]; omega) fun w10 h10 k10 s10=>?_
 refine stC_blk h10 (by rw [Array.size_setIfInBounds,Array.size_setIfInBounds]; omega) fun w11 h11 k11 s11=>?_
 rw [cs_put] at h11
 have kx:Kept (·=g) w8 w11:=(k9.trans k10 fun _ _ e=>e).trans k11 fun _ _ e=>e
 have n1:∀ b,inA a1 b→b≠g:=fun b hb e=>by have:=hf1 b hb; omega
 have n2:∀ b,inA a2 b→b≠g:=fun b hb e=>by have:=hf2 b hb; omega
 have n3:∀ b,inA a3 b→b≠g:=fun b hb e=>by have:=hf3 b hb; omega
 refine hk ⟨a1,s.ol,c1,a2,s.il,c2,a3,s.kl,c3⟩ w11 h11 ⟨⟨((ho1.keep hk2 fun _ _ e=>e).keep hk3 fun _ _ e=>e).keep kx n1,(ho2.keep hk3 fun _ _ e=>e).keep kx n2,ho3.keep kx n3⟩,
  ⟨fun b hb=>by have:=hf1 b hb; omega,fun b hb=>by have:=hf2 b hb; omega,fun b hb=>by have:=hf3 b hb; omega⟩,
  fun b hb=>⟨fun hb2=>by have:=hf3 b hb; have:=l2 b hb2; omega,fun hb2=>by have:=hf3 b hb; have:=l1 b hb2; omega⟩,fun b hb hb2=>by have:=hf2 b hb; have:=l1 b hb2; omega⟩
  (fun b hb=>by
   rcases hb with hb | hb | hb
   ·have:=hf1 b hb; omega
   ·have:=hf2 b hb; omega
   ·have:=hf3 b hb; omega) ?_
 have kn:Kept No w w8:=((hkd.no hk1).no hk2).no hk3
 exact (kn.mono (fun _ _ e=>e.elim)).trans kx fun _ _ e=>e
section
variable {w : World} {p : Pu} {sl : Sl3} {L : KL} {gk : Nat} {s : AK} {d : Int} {R : List Int → AK → Prop} {r : List Int}
theorem basked_ok (h:Rd3 w sl p) (hbd:Bd p) (hck:ckP p) (hc:p.c=false) {n:Nat} (hn:n≤500) :
 CallR Tryz.prog 216 [.agg (cs p sl),hv gk d,.int .i64 1,.int .i64 (n:Int)] w fun v w'=>∃ sl',v=.tuple #[.agg (cs p sl'),.int .i64 (n:Int),.int .i64 0]∧Ow3 w w' sl' p∧Kept No w w':=by
 refine C216 ?_
 unfold L216
 intro w1 w2
 have hb1:Blk w1 w.heap.size (cs p sl):=Blk.alloc _ _ _
 have hk1:Kept No w w1:=Kept.alloc _ _ _
 clear_value w1
 have hb2:Blk w2 w1.heap.size (cs zP zS):=Blk.alloc _ _ _
 have hk2:Kept No w1 w2:=Kept.alloc _ _ _
 clear_value w2
 have k2:=hk1.no hk2
 have hz1:=hk1.size
 have hl1:=hb1.lt
 have hl2:=hb2.lt
 refine ld11 (hb1.no' hk2) ?_
 intro w3
 have hb3:Blk w3 w2.heap.size (cs zP zS):=Blk.alloc _ _ _
 have hk3:Kept No w2 w3:=Kept.alloc _ _ _
 clear_value w3
 have hl3:=hb3.lt
 refine st11 (p:=p) (s:=sl) hb3 rfl fun w14 hb14 hk14=>?_
 have k14:Kept No w w14:=(k2.no hk3).fresh hk14 fun x e=>by omega
 have hb1':Blk w14 w.heap.size (cs p sl):=((hb1.no' hk2).no' hk3).keep hk14 (by omega)
 have hz14:=k14.size
 have hl14:=hb14.lt
 refine own3b (f:=217) (fun h hl=>clone2_ok h hl) (w0:=w) (gl:=w.heap.size) (g:=w2.heap.size) (by omega) k14.size hb1' hb14 (h.no k14) hbd fun sl' w21 hb21 ho21 hf21 hk21=>?_
 have hb1'':=hb1'.keep hk21 (by omega)
 have k21:Kept No w w21:=k14.fresh hk21 fun x e=>by omega
 refine ld11 hb1'' (CallR.mono (check_ok p sl (h.no k21) hbd) ?_)
 rintro v w22 ⟨rfl,hk22⟩
 refine ⟨_,rfl,condF (by rw [if_pos hck]; rfl) ⟨_,_,hv_nil,condF rfl ⟨_,((hb1''.no' hk22).cell 10).trans rfl,condF hc ?_⟩⟩⟩
 refine CallR.mono (bytes_one hn) ?_
 rintro v w57 ⟨rfl,rfl⟩
 have hb2':Blk w57 w1.heap.size (cs zP zS):=(((hb2.no' hk3).keep hk14 (by omega)).keep hk21 (by omega)).no' hk22
 refine ⟨_,_,rfl,ld11 (hb21.no' hk22) (st11 (p:=p) (s:=sl') hb2' rfl fun w20 hb20 hk20=>ld11 hb20 ?_)⟩
 exact ⟨sl',rfl,(ho21.no hk22).keep hk20 fun b hb e=>by have:=hf21 b hb; omega,(k21.no hk22).fresh hk20 fun x e=>by omega⟩
end
section
variable {w : World} {p : Pu} {sl : Sl3} {L : KL} {gk : Nat} {s : AK} {d : Int} {R : List Int → AK → Prop} {r : List Int}
set_option maxHeartbeats 1000000 in
theorem bread_ok (hK:KernO w gk s L) (h:Rd3 w sl p) (hp:RdP p) (rd:AK.RdK d R) (hR:R r s) {xs rest:List Int} (hx:p.i ++ r=xs ++ rest) (hn:xs.length≤500) :
 CallR Tryz.prog 164 [.agg (cs p sl),hv gk d,.int .i64 1,.int .i64 (xs.length:Int)] w fun v w'=>∃ a k d' i' sl' s' L' r',v=.tuple #[.agg (cs { p with d:=d',i:=i' } sl'),.slice a xs.length k,.int .i64 (xs.length:Int),.int .i64 0]∧
  SR w L w' { p with d:=d',i:=i' } sl' gk s' L'∧RdB w' a xs.length k xs∧(∀ z,inA a z→w.heap.size≤z∧z< w'.heap.size∧L'.own z=none)∧R r' s'∧i' ++ r'=rest∧RdP { p with d:=d',i:=i' }∧(xs=[]→a=none∧k=0):=by
 refine C164 ?_
 unfold L164
 intro w1 w2
 have hb1:Blk w1 w.heap.size (cs p sl):=Blk.alloc _ _ _
 have hk1:Kept No w w1:=Kept.alloc _ _ _
 clear_value w1
 have hb2:Blk w2 w1.heap.size (cs zP zS):=Blk.alloc _ _ _
 have hk2:Kept No w1 w2:=Kept.alloc _ _ _
 clear_value w2
 have k2:=hk1.no hk2
 have hz1:=hk1.size
 have hz2:=k2.size
 have hl2:=hb2.lt
 refine ld11 (hb1.no' hk2) (CallR.mono (basked_ok (h.no k2) hp.bd hp.ck hp.c hn) ?_)
 rintro v w3 ⟨sl3,rfl,ho3,hk3⟩
 refine ⟨_,_,_,_,_,_,_,_,_,_,_,_,_,_,_,_,_,_,_,rfl,?_⟩
 intro w4
 have hb4:Blk w4 w3.heap.size (cs zP zS):=Blk.alloc _ _ _
 have hk4:Kept No w3 w4:=Kept.alloc _ _ _
 clear_value w4
 have hl4:=hb4.lt
 have hz3:=hk3.size
 refine st11 (p:=p) (s:=sl3) hb4 rfl fun w15 hb15 hk15=>condF rfl ?_
 have k15:Kept No w2 w15:=(hk3.no hk4).fresh hk15 fun x e=>by omega
 have hlt3:=ho3.lt
 have ho15:Ow3 w2 w15 sl3 p:=(ho3.no hk4).keep hk15 fun b hb e=>by have:=hlt3 b hb; omega
 have hb2':Blk w15 w1.heap.size (cs zP zS):=hb2.no' k15
 have hz15:=k15.size
 have fin:∀ {w38 w76:World} {i':List Int} {d':Int} {sl':Sl3} {s':AK} {L':KL},Blk w38 w3.heap.size (cs { p with d:=d',i:=i' } sl')→Ow3 w2 w38 sl' { p with d:=d',i:=i' }→(∀ b,In3 sl' b→L'.own b=none)→KernO w38 gk s' L'→KStep w2 w38 L L'→Kept (·=w1.heap.size) w38 w76→
  SR w L w76 { p with d:=d',i:=i' } sl' gk s' L':=fun hb ho hn hK' st hk=>SR.res hK k2 ⟨ho,hn,hK',st⟩ hk fun z e=>⟨by omega,.inl (by omega)⟩
 refine condE (fun e0=>?_) (fun e0=>?_)
 ·obtain rfl:xs=[]:=List.eq_nil_of_length_eq_zero (by omega)
  have hpp:({ p with d:=p.d,i:=p.i }:Pu)=p:=rfl
  refine ld11 hb15 (st11 (p:=p) (s:=sl3) hb2' rfl fun w37 hb37 hk37=>ld11 hb37 ?_)
  exact ⟨none,0,p.d,p.i,sl3,s,L,r,rfl,fin hb15 ho15 (fun b hb=>hK.new_none (by have:=ho15.new b hb; omega)) (hK.no (k2.no k15)) (.of_no k15) hk37,RdB.nil _,fun z hz=>absurd hz (inA_none z),hR,hx,hp,fun _=>⟨rfl,rfl⟩⟩
 ·obtain ⟨I,hI⟩:∃ I:List Value→World→Prop,I=fun vs w'=>∃ (i:Nat) (a:Option Addr) (k:Nat) (d':Int) (i':List Int) (sl':Sl3) (s':AK) (L':KL) (r':List Int),vs=[.int .i64 0,.slice a i k,.int .i64 (i:Int)]∧i≤xs.length∧OB w' a i k (xs.take i)∧
   (∀ z,inA a z→w2.heap.size≤z∧z≠w3.heap.size∧L'.own z=none)∧Blk w' w3.heap.size (cs { p with d:=d',i:=i' } sl')∧Ow3 w2 w' sl' { p with d:=d',i:=i' }∧(∀ b,In3 sl' b→b≠w3.heap.size∧L'.own b=none)∧L'.own w3.heap.size=none∧
   KernO w' gk s' L'∧KStep w2 w' L L'∧R r' s'∧i' ++ r'=xs.drop i ++ rest∧RdP { p with d:=d',i:=i' }:=⟨_,rfl⟩
  obtain ⟨mu,hmu⟩:∃ mu:List Value→World→Nat,mu=fun vs _=>match vs with | [_,_,.int _ i]=>xs.length - i.toNat | _=>0:=⟨_,rfl⟩
  refine ⟨I,mu,?_,?_⟩
  ·rw [hI]
   exact ⟨0,none,0,p.d,p.i,sl3,s,L,r,rfl,Nat.zero_le _,OB.nil _,fun z hz=>absurd hz (inA_none z),hb15,ho15,fun b hb=>⟨by have:=hlt3 b hb; omega,hK.new_none (by have:=ho15.new b hb; omega)⟩,hK.new_none (by omega),hK.no (k2.no k15),.of_no k15,hR,hx,hp⟩
  ·rintro _ n86 a87 l87 c87 n88 w38 hinv
   rw [hI] at hinv
   obtain ⟨i,a,k,d',i',sl',s',L',r',hvs,hi,hob,hoff,hb8,ho8,hn8,hg8,hK8,st8,hR8,hx8,hp8⟩:=hinv
   simp only [List.cons.injEq,Value.int.injEq,Value.slice.injEq,true_and,and_true] at hvs
   obtain ⟨rfl,⟨rfl,rfl,rfl⟩,rfl⟩:=hvs
   have hz8:=st8.size
   refine condP (fun hlt=>?_) (fun hge=>?_)
   ·have hi':l87< xs.length:=by omega
    have hxd:xs.drop l87=xs[l87] :: xs.drop (l87+1):=List.drop_eq_getElem_cons hi'
    rw [hxd] at hx8
    refine ld11 hb8 (CallR.mono (sget_ok hK8 ho8.rd hp8 rd hR8 (x:=xs[l87]) (xs:=xs.drop (l87+1) ++ rest) hx8) ?_)
    rintro v w39 ⟨i9,r9,sl9,s9,L9,rfl,hSR,hR9,hx9,hi9⟩
    have hgl:=hb8.lt
    have hz9:=hSR.st.size
    have hg9:L9.own w3.heap.size=none:=(XStep.of_k (T:=No) hSR.st).own hg8 hgl
    have hnew:=hSR.own.new
    have hlt9:=hSR.own.lt
    have hlto:=SlO.lt hob
    refine ⟨_,_,_,_,_,_,_,_,_,_,_,_,_,_,_,_,_,_,_,rfl,st11 (p:={ p with d:=1,i:=i9 }) (s:=sl9) (hb8.keep hSR.st.kept fun e=>e hg8) rfl fun w50 hb50 hk50=>condF rfl ?_⟩
    intro w63
    have hb63:Blk w63 w50.heap.size #[.int .u8 xs[l87]]:=Blk.alloc _ _ _
    have hk63:Kept No w50 w63:=Kept.alloc _ _ _
    have hr63:RdS 1 w63 (some ⟨w50.heap.size,0,none⟩) 1 1 (By [xs[l87]]):=(SlO.of_blk (sz:=1) (n:=1) hb63 (by simp)).rd
    clear_value w63
    have hz50:=hk50.size
    have hz63:=hk63.size
    have hob63:OB w63 a87 l87 c87 (xs.take l87):=((hob.keep hSR.st.kept fun z hz e=>e (hoff z hz).2.2).keep hk50 fun z hz e=>(hoff z hz).2.1 e).keep hk63 fun _ _ e=>e
    obtain ⟨a9,c9,w64,hrun,hs64,hk64,hat,_⟩:=run_app_sl (P:=Tryz.prog) (t:=34) (t2:=34) (ty:=34) (by kernel_rfl:slTyB Tryz.prog 34 1 1=true) (by kernel_rfl) hob63 hr63 (By_one _) (by omega) (by omega)
    have hs64':OB w64 a9 (l87+1) c9 (xs.take (l87+1)):=by
     have e1:By (xs.take l87) ++ By [xs[l87]]=By (xs.take (l87+1)):=by
      rw [← By_append,List.take_succ_eq_append_getElem hi']
     rw [e1] at hs64
     exact hs64
    have hin9:∀ z,inA a9 z→inA a87 z∨w63.heap.size≤z:=fun z hz=>by
     rcases hat.in hz with e | e
     ·exact .inl e
     ·exact .inr (by omega)
    have ho50:Ow3 w38 w50 sl9 { p with d:=1,i:=i9 }:=hSR.own.keep hk50 fun b hb e=>by have:=hnew b hb; omega
    have ho64:Ow3 w38 w64 sl9 { p with d:=1,i:=i9 }:=(ho50.no hk63).keep hk64 fun b hb e=>by have:=hnew b hb; have:=hlto b e; omega
    have st50:KStep w2 w50 L L9:=(st8.trans hSR.st).own hk50 (by omega)
    have hK50:KernO w50 gk s9 L9:=hSR.ker.keep hk50 fun x e=>by rw [e]; exact hg9
    have hoff9:∀ z,inA a87 z→L9.own z=none:=fun z hz=>(XStep.of_k (T:=No) hSR.st).own (hoff z hz).2.2 (hlto z hz)
    have hK64:KernO w64 gk s9 L9:=(hK50.no hk63).keep hk64 fun x e=>hoff9 x e
    have st64:KStep w2 w64 L L9:=⟨(st50.no hk63).kept.trans hk64 fun x hx e=>by have:=(hoff x e).1; omega,(st50.no hk63).grew⟩
    refine ⟨a9,l87+1,c9,w64,hrun,by unfold inI; omega,?_,?_⟩
    ·rw [hI]
     refine ⟨l87+1,a9,c9,1,i9,sl9,s9,L9,r9,by simp,by omega,hs64',fun z hz=>?_,(hb50.no' hk63).keep hk64 fun e=>(hoff _ e).2.1 rfl,ho64.base hz8,fun b hb=>⟨by have:=hnew b hb; omega,hSR.off b hb⟩,hg9,hK64,st64,hR9,hx9,?_⟩
     ·rcases hin9 z hz with e | e
      ·exact ⟨(hoff z e).1,(hoff z e).2.1,hoff9 z e⟩
      ·exact ⟨by omega,by omega,hSR.ker.new_none (by omega)⟩
     ·exact ⟨hp8.r,hp8.m,hp8.z1,hp8.z2,.inr rfl,hp8.o,hi9,hp8.k,hp8.e,hp8.b,hp8.c,fun e=>by cases e⟩
    ·rw [hmu]
     simp only
     omega
   ·obtain rfl:l87=xs.length:=by omega
    intro w65
    have hk65:Kept No w38 w65:=Kept.drew _ _
    clear_value w65
    have hb65:Blk w65 w1.heap.size (cs zP zS):=(hb2.keep st8.kept fun e=>e (hK.new_none hz1)).no' hk65
    refine ld11 (hb8.no' hk65) ⟨by omega,by rw [Int.tdiv_one]; unfold inI; omega,?_⟩
    refine st11 (p:={ p with d:=d',i:=i' }) (s:=sl') hb65 rfl fun w76 hb76 hk76=>ld11 hb76 ?_
    rw [Int.tdiv_one]
    rw [List.take_length] at hob
    rw [List.drop_length,List.nil_append] at hx8
    have hlto:=SlO.lt hob
    have hz65:=hk65.size
    have hz76:=hk76.size
    exact ⟨a87,c87,d',i',sl',s',L',r',rfl,fin (hb8.no' hk65) (ho8.no hk65) (fun b hb=>(hn8 b hb).2) (hK8.no hk65) (st8.no hk65) hk76,((hob.keep hk65 fun _ _ e=>e).keep hk76 fun z hz e=>by have:=(hoff z hz).1; omega).rd,fun z hz=>⟨by have:=(hoff z hz).1; omega,by have:=hlto z hz; omega,(hoff z hz).2.2⟩,hR8,hx8,hp8,fun e=>absurd (by rw [e]; rfl) e0⟩
end
structure WrA (p:Pu):Prop where
 w:p.w=true
 m1:1≤p.m
 m3:p.m≤3
 z1:1≤p.z
 z2:p.z≤65536
 d:p.d=0∨p.d=2
 o:(p.o.length:Int)≤p.z
 i:p.i=[]
 k:p.k=[]
 b:p.b=false
 c:p.c=false
 d0:p.d=0→p.o=[]
 u:p.m=1→p.o=[]
theorem WrA.toP {p:Pu} (h:WrA p) (hm:p.m≠1):WrP p:=⟨h.w,by have:=h.m1; have:=h.m3; omega,h.z1,h.z2,h.d,h.o,h.i,h.k,h.b,h.c,h.d0⟩
theorem WrA.toU {p:Pu} (h:WrA p) (hm:p.m=1):WrU p:=⟨h.w,hm,h.z1,h.z2,h.d,h.u hm,h.i,h.k,h.b,h.c⟩
theorem WrP.toA {p:Pu} (h:WrP p):WrA p:=⟨h.w,by rcases h.m with e | e <;> omega,by rcases h.m with e | e <;> omega,h.z1,h.z2,h.d,h.o,h.i,h.k,h.b,h.c,h.d0,fun e=>by rcases h.m with e' | e' <;> omega⟩
theorem WrU.toA {p:Pu} (h:WrU p):WrA p:=⟨h.w,by have:=h.m; omega,by have:=h.m; omega,h.z1,h.z2,h.d,by rw [h.o]; have:=h.z1; show (0:Int)≤_; omega,h.i,h.k,h.b,h.c,fun _=>h.o,fun _=>h.o⟩
theorem WrA.ck {p:Pu} (h:WrA p):ckP p:=by
 by_cases hm:p.m=1
 ·exact (h.toU hm).ck
 ·exact (h.toP hm).ck
theorem WrA.bd {p:Pu} (h:WrA p):Bd p:=by
 by_cases hm:p.m=1
 ·exact (h.toU hm).bd
 ·exact (h.toP hm).bd
theorem WrA.flushed {p:Pu} (h:WrA p):WrA { p with o:=[],d:=0 }:=⟨h.w,h.m1,h.m3,h.z1,h.z2,.inl rfl,by have:=h.z1; show (0:Int)≤p.z; omega,h.i,h.k,h.b,h.c,fun _=>rfl,fun _=>rfl⟩
theorem WrA.settled {p:Pu} (h:WrA p):WrA { p with o:=[] }:=⟨h.w,h.m1,h.m3,h.z1,h.z2,h.d,by have:=h.z1; show (0:Int)≤p.z; omega,h.i,h.k,h.b,h.c,fun _=>rfl,fun _=>rfl⟩
section
variable {w : World} {p : Pu} {sl : Sl3} {L : KL} {gk : Nat} {s : AK} {d : Int} {N : Nat} {F : List Int → AK → Prop} {c : List Int}
theorem lputA_ok (hK:KernO w gk s L) (h:Rd3 w sl p) (hp:WrA p) (wr:AK.WrK N d F) (hF:F c s) {a:Option Addr} {l k:Nat} {bs:List Int} (hb:RdB w a l k bs) (hoff:bs≠[]→∀ z,inA a z→L.own z=none) (hN:c.length+p.o.length+bs.length≤N) (hl:bs.length≤1048576) :
 CallR Tryz.prog 145 [.agg (cs p sl),hv gk d,.slice a l k] w fun v w'=>∃ o' d' sl' s' L' c',v=.tuple #[.agg (cs { p with o:=o',d:=d' } sl'),.int .i64 (l:Int),.int .i64 0]∧SR w L w' { p with o:=o',d:=d' } sl' gk s' L'∧F c' s'∧c' ++ o'=c ++ p.o ++ bs∧WrA { p with o:=o',d:=d' }:=by
 by_cases hm:p.m=1
 ·refine CallR.mono (lputU_ok hK h (hp.toU hm) wr hF hb hoff (by omega) hl) ?_
  rintro v w' ⟨d',sl',s',L',rfl,h1,h2,h3⟩
  have ho:=hp.u hm
  refine ⟨p.o,d',sl',s',L',c ++ bs,rfl,h1,h2,by rw [ho]; simp,h3.toA⟩
 ·refine CallR.mono (lput_ok hK h (hp.toP hm) wr hF hb hoff hN hl) ?_
  rintro v w' ⟨o',d',sl',s',L',c',rfl,h1,h2,h3,h4⟩
  exact ⟨o',d',sl',s',L',c',rfl,h1,h2,h3,h4.toA⟩
theorem sflushA_ok (hK:KernO w gk s L) (h:Rd3 w sl p) (hp:WrA p) (wr:AK.WrK N d F) (hF:F c s) (hN:c.length+p.o.length≤N) :
 CallR Tryz.prog 198 [.agg (cs p sl),hv gk d] w fun v w'=>∃ sl' s' L',v=.tuple #[.agg (cs { p with o:=[],d:=0 } sl'),.int .i64 0]∧SR w L w' { p with o:=[],d:=0 } sl' gk s' L'∧F (c ++ p.o) s':=by
 by_cases hm:p.m=1
 ·have ho:=hp.u hm
  refine C198 ?_
  unfold L198
  intro w1 w2
  have hb1:Blk w1 w.heap.size (cs p sl):=Blk.alloc _ _ _
  have hk1:Kept No w w1:=Kept.alloc _ _ _
  clear_value w1
  have hb2:Blk w2 w1.heap.size (cs zP zS):=Blk.alloc _ _ _
  have hk2:Kept No w1 w2:=Kept.alloc _ _ _
  clear_value w2
  have k2:=hk1.no hk2
  have hz1:=hk1.size
  have hn2:L.own w1.heap.size=none:=hK.new_none hz1
  refine ld11 (hb1.no' hk2) (start_ok (hK.no k2) (h.no k2) hp.bd hp.ck hp.c fun w3 gw sl1 h3=>?_)
  refine ⟨_,_,rfl,condT rfl (nnI ⟨_,h3.blk.at (i:=7) rfl,condE (fun e=>?_) (fun e=>?_)⟩)⟩
  ·refine CallR.mono (deliver_ok h3 hp.b wr hF hN) ?_
   rintro v w4 ⟨rfl,sl',s',L',h4,hF4,_⟩
   refine ⟨_,rfl,condT rfl (nnI (stC_at h4.blk (i:=7) (by simp [cs12]) fun w5 hb5 hk5 hs5=>?_))⟩
   have h5:SO w2 L w5 gw { p with o:=[],d:=0 } sl' (hv gk d) gk s' L':=h4.upd hk5 hb5 h4.own h4.ns
   refine ld12 h5.blk (st11 (p:={ p with o:=[],d:=0 }) (s:=sl') (h5.res hb2 hn2) rfl fun w6 hb6 hk6=>ld11 hb6 ?_)
   exact ⟨sl',s',L',rfl,h5.out k2 hz1 hb2.lt hn2 hk6,hF4⟩
  ·have hd:p.d=0:=by
    rcases hp.d with e' | e'
    ·exact e'
    ·exact absurd e' e
   have hpp:({ p with o:=[],d:=0 }:Pu)=p:=by cases p; simp only at hd ho; subst hd ho; rfl
   rw [ho,List.append_nil,hpp]
   refine ld12 h3.blk (st11 (p:=p) (s:=sl1) (h3.res hb2 hn2) rfl fun w6 hb6 hk6=>ld11 hb6 ?_)
   exact ⟨sl1,s,L,rfl,h3.out k2 hz1 hb2.lt hn2 hk6,hF⟩
 ·exact sflush_ok hK h (hp.toP hm) wr hF hN
set_option maxHeartbeats 1000000 in
theorem settled_ok (hK:KernO w gk s L) (h:Rd3 w sl p) (hp:WrA p) (wr:AK.WrK N d F) (hF:F c s) (hN:c.length+p.o.length≤N) :
 CallR Tryz.prog 214 [.agg (cs p sl),hv gk d,.bool false] w fun v w'=>∃ sl' s' L',v=.tuple #[.agg (cs { p with o:=[] } sl'),.int .i64 0]∧SR w L w' { p with o:=[] } sl' gk s' L'∧F (c ++ p.o) s':=by
 refine C214 ?_
 unfold L214
 intro w1 w2
 have hb1:Blk w1 w.heap.size (cs p sl):=Blk.alloc _ _ _
 have hk1:Kept No w w1:=Kept.alloc _ _ _
 clear_value w1
 have hb2:Blk w2 w1.heap.size (cs zP zS):=Blk.alloc _ _ _
 have hk2:Kept No w1 w2:=Kept.alloc _ _ _
 clear_value w2
 have k2:=hk1.no hk2
 have hz1:=hk1.size
 have hl1:=hb1.lt
 have hl2:=hb2.lt
 refine ld11 (hb1.no' hk2) ?_
 intro w3
 have hb3:Blk w3 w2.heap.size (cs zP zS):=Blk.alloc _ _ _
 have hk3:Kept No w2 w3:=Kept.alloc _ _ _
 clear_value w3
 have hl3:=hb3.lt
 refine st11 (p:=p) (s:=sl) hb3 rfl fun w14 hb14 hk14=>?_
 have k14:Kept No w w14:=(k2.no hk3).fresh hk14 fun x e=>by omega
 have hb1':Blk w14 w.heap.size (cs p sl):=((hb1.no' hk2).no' hk3).keep hk14 (by omega)
 have hb2':Blk w14 w1.heap.size (cs zP zS):=(hb2.no' hk3).keep hk14 (by omega)
 have hz14:=k14.size
 have hl14:=hb14.lt
 obtain ⟨B1,B2,B3⟩:=hp.bd
 have hlen:p.o.length=sl.ol∧p.i.length=sl.il∧p.k.length=sl.kl:=⟨h.1.len,h.2.1.len,h.2.2.len⟩
 obtain ⟨I,hI⟩:∃ I:List Value→World→Prop,I=fun vs w'=>Kept (·=w2.heap.size) w14 w'∧((vs=[.int .i64 0]∧Blk w' w2.heap.size (cs p sl))∨
  (vs=[.int .i64 1]∧∃ a1 c1,Blk w' w2.heap.size (cs p { sl with oa:=a1,oc:=c1 })∧OB w' a1 sl.ol c1 p.o∧Fresh w14 a1)∨
  (vs=[.int .i64 2]∧∃ a1 c1 a2 c2,Blk w' w2.heap.size (cs p { sl with oa:=a1,oc:=c1,ia:=a2,ic:=c2 })∧OB w' a1 sl.ol c1 p.o∧Fresh w14 a1∧OB w' a2 sl.il c2 p.i∧Fresh w14 a2∧(∀ b,inA a2 b→¬ inA a1 b))∨
  (vs=[.int .i64 3]∧∃ sl',Blk w' w2.heap.size (cs p sl')∧Ow3 w14 w' sl' p)):=⟨_,rfl⟩
 obtain ⟨mu,hmu⟩:∃ mu:List Value→World→Nat,mu=fun vs _=>match vs with | [.int _ i]=>3 - i.toNat | _=>0:=⟨_,rfl⟩
 refine ⟨I,mu,?_,?_⟩
 ·rw [hI]
  exact ⟨Kept.refl _ _,.inl ⟨rfl,hb14⟩⟩
 ·rintro _ n27 w15 hinv
  rw [hI] at hinv
  obtain ⟨hk15,hinv⟩:=hinv
  have k15:Kept No w w15:=k14.fresh hk15 fun x e=>by omega
  have h15:=h.no k15
  have hz15:=hk15.size
  have nf:∀ {a:Option Addr},Fresh w14 a→∀ b,inA a b→b≠w2.heap.size:=fun hf b hb e=>by have:=hf b hb; omega
  rcases hinv with ⟨hvs,hb⟩ | ⟨hvs,a1,c1,hb,ho1,hf1⟩ | ⟨hvs,a1,c1,a2,c2,hb,ho1,hf1,ho2,hf2,hd2⟩ | ⟨hvs,sl1,hb,ho⟩
  ·simp only [List.cons.injEq,Value.int.injEq,true_and,and_true] at hvs
   subst hvs
   refine condT (by decide) ⟨⟨by omega,by omega⟩,_,rfl,nnI ⟨_,_,_,(hb.cell 4).trans rfl,CallR.mono (clone2_ok h15.1 (by omega)) ?_⟩⟩
   rintro v w16 ⟨a',c',rfl,ho',hk',hf'⟩
   have hf'':Fresh w14 a':=fun b hb=>Nat.le_trans hz15 (hf' b hb)
   refine ⟨_,_,_,rfl,nnI (stC_blk (hb.no' hk') (by simp [cs]) fun w17 hb17 hk17 hs17=>⟨by unfold inI; omega,?_,by rw [hmu]; simp⟩)⟩
   rw [hI]
   exact ⟨(hk15.no hk').trans hk17 fun _ _ e=>e,.inr (.inl ⟨rfl,a',c',hb17,ho'.keep hk17 fun b hb=>nf hf'' b hb,hf''⟩)⟩
  ·simp only [List.cons.injEq,Value.int.injEq,true_and,and_true] at hvs
   subst hvs
   refine condT (by decide) ⟨⟨by omega,by omega⟩,_,rfl,nnI ⟨_,_,_,(hb.cell 5).trans rfl,CallR.mono (clone2_ok h15.2.1 (by show sl.il≤_; omega)) ?_⟩⟩
   rintro v w16 ⟨a',c',rfl,ho',hk',hf'⟩
   have hf'':Fresh w14 a':=fun b hb=>Nat.le_trans hz15 (hf' b hb)
   have hlt1:=SlO.lt ho1
   refine ⟨_,_,_,rfl,nnI (stC_blk (hb.no' hk') (by simp [cs]) fun w17 hb17 hk17 hs17=>⟨by unfold inI; omega,?_,by rw [hmu]; simp⟩)⟩
   rw [hI]
   exact ⟨(hk15.no hk').trans hk17 fun _ _ e=>e,.inr (.inr (.inl ⟨rfl,a1,c1,a',c',hb17,(ho1.keep hk' fun _ _ e=>e).keep hk17 fun b hb=>nf hf1 b hb,hf1,ho'.keep hk17 fun b hb=>nf hf'' b hb,hf'',fun b hb e=>by have:=hf' b hb; have:=hlt1 b e; omega⟩))⟩
  ·simp only [List.cons.injEq,Value.int.injEq,true_and,and_true] at hvs
   subst hvs
   refine condT (by decide) ⟨⟨by omega,by omega⟩,_,rfl,nnI ⟨_,_,_,(hb.cell 6).trans rfl,CallR.mono (clone2_ok h15.2.2 (by show sl.kl≤_; omega)) ?_⟩⟩
   rintro v w16 ⟨a',c',rfl,ho',hk',hf'⟩
   have hf'':Fresh w14 a':=fun b hb=>Nat.le_trans hz15 (hf' b hb)
   have hlt1:=SlO.lt ho1
   have hlt2:=SlO.lt ho2
   refine ⟨_,_,_,rfl,nnI (stC_blk (hb.no' hk') (by simp [cs]) fun w17 hb17 hk17 hs17=>⟨by unfold inI; omega,?_,by rw [hmu]; simp⟩)⟩
   rw [hI]
   refine ⟨(hk15.no hk').trans hk17 fun _ _ e=>e,.inr (.inr (.inr ⟨rfl,⟨a1,sl.ol,c1,a2,sl.il,c2,a',sl.kl,c'⟩,hb17,?_⟩))⟩
   exact ⟨⟨(ho1.keep hk' fun _ _ e=>e).keep hk17 fun b hb=>nf hf1 b hb,(ho2.keep hk' fun _ _ e=>e).keep hk17 fun b hb=>nf hf2 b hb,ho'.keep hk17 fun b hb=>nf hf'' b hb⟩,⟨hf1,hf2,hf''⟩,
    fun b hb=>⟨fun e=>by have:=hf' b hb; have:=hlt2 b e; omega,fun e=>by have:=hf' b hb; have:=hlt1 b e; omega⟩,hd2⟩
  ·simp only [List.cons.injEq,Value.int.injEq,true_and,and_true] at hvs
   subst hvs
   refine condF (by decide) ?_
   have hb1'':=hb1'.keep hk15 (by omega)
   have hb2'':=hb2'.keep hk15 (by omega)
   refine ld11 hb1'' (CallR.mono (check_ok p sl h15 hp.bd) ?_)
   rintro v w18 ⟨rfl,hk18⟩
   have k18:=k15.no hk18
   have hb1a:=hb1''.no' hk18
   have hba:=hb.no' hk18
   have hb2a:=hb2''.no' hk18
   have hz18:=hk18.size
   refine ⟨_,rfl,condF (by rw [if_pos hp.ck]; rfl) ⟨_,_,hv_nil,condF rfl ⟨_,(hb1a.cell 10).trans rfl,condF hp.c (condF rfl ⟨_,_,_,(hb1a.cell 4).trans rfl,?_⟩)⟩⟩⟩
   refine condE (fun e=>?_) (fun e=>?_)
   ·have ho0:p.o=[]:=List.eq_nil_of_length_eq_zero (by omega)
    have hpp:({ p with o:=[] }:Pu)=p:=by cases p; simp only at ho0; subst ho0; rfl
    rw [hpp,ho0,List.append_nil]
    refine ld11 hba (st11 (p:=p) (s:=sl1) hb2a rfl fun w20 hb20 hk20=>ld11 hb20 ?_)
    have ho18:Ow3 w14 w18 sl1 p:=ho.no hk18
    have hnew:=ho18.new
    refine ⟨sl1,s,L,rfl,⟨(ho18.keep hk20 fun b hb e=>by have:=hnew b hb; omega).base hz14,fun b hb=>hK.new_none (by have:=hnew b hb; omega),(hK.no k18).keep hk20 fun x e=>by rw [e]; exact hK.new_none (by omega),(KStep.of_no k18).own hk20 (by omega)⟩,hF⟩
   ·refine ld11 hb1a (CallR.mono (sflushA_ok (hK.no k18) (h.no k18) hp wr hF hN) ?_)
    rintro v w75 ⟨sl',s',L',rfl,hSR,hF'⟩
    have gk1:L.own w1.heap.size=none:=hK.new_none (by omega)
    have gk2:L.own w2.heap.size=none:=hK.new_none (by omega)
    refine ⟨_,_,_,_,_,_,_,_,_,_,_,_,_,_,_,_,_,_,rfl,st11 (p:={ p with o:=[],d:=0 }) (s:=sl') (hba.keep hSR.st.kept fun e=>e gk2) rfl fun w86 hb86 hk86=>?_⟩
    have hb1b:Blk w86 w.heap.size (cs p sl):=(hb1a.keep hSR.st.kept fun e=>e (hK.new_none (Nat.le_refl _))).keep hk86 (by omega)
    refine ⟨_,(hb1b.cell 7).trans rfl,stC_blk hb86 (by simp [cs]) fun w87 hb87 hk87 hs87=>?_⟩
    have hb87:Blk w87 w2.heap.size (cs { p with o:=[] } sl'):=hb87
    have hb2b:Blk w87 w1.heap.size (cs zP zS):=((hb2a.keep hSR.st.kept fun e=>e gk1).keep hk86 (by omega)).keep hk87 (by omega)
    refine ld11 hb87 (st11 (p:={ p with o:=[] }) (s:=sl') hb2b rfl fun w98 hb98 hk98=>ld11 hb98 ?_)
    have hkk:Kept (fun z=>z=w2.heap.size∨z=w1.heap.size) w75 w98:=((hk86.trans hk87 fun _ _ e=>e).mono fun _ _ e=>.inl e).trans hk98 fun _ _ e=>.inr e
    have hzk:=k18.size
    have hSR':SR w18 L w75 { p with o:=[] } sl' gk s' L':=⟨hSR.own,hSR.off,hSR.ker,hSR.st⟩
    refine ⟨sl',s',L',rfl,SR.res hK k18 hSR' hkk fun z e=>?_,hF'⟩
    rcases e with e | e
    ·exact ⟨by omega,.inl (by omega)⟩
    ·exact ⟨by omega,.inl (by omega)⟩
theorem hv_seek {w : World} {g : Nat} {d : Int} (args : Array Value) : Sem.run Tryz.prog (callMethod (hv g d) "Seek" args) w = .ok (.enter 154 (#[.agg #[pd g, .int .i64 d]] ++ args)) w :=
 call_of (by intro recv w; kernel_rfl) (by kernel_rfl) _ _ _
def SkK (d:Int) (F:List Int→AK→Prop):Prop:=∀ c s off wh,F c s→c.length≤1048576→((wh=1∧off=0)∨(wh=0∧off=(c.length:Int)))→∃ s',s.seek d off wh=((c.length:Int),0,s')∧F c s'
theorem skK2 (q:Nat):SkK 1 (fun c s=>AK.K2 s c q):=fun c s off wh h hc ho=>by
 obtain ⟨s',h1,h2,_⟩:=h.seek hc ho
 exact ⟨s',h1,h2⟩
theorem here_ok (hK:KernO w gk s L) (h:Rd3 w sl p) (hi:p.i=[]) (hk0:p.k=[]) (sk:SkK d F) (hF:F c s) (hN:c.length≤1048576) :
 CallR Tryz.prog 215 [.agg (cs p sl),hv gk d] w fun v w'=>v=.tuple #[.int .i64 (c.length:Int),.int .i64 0]∧∃ s' L',KernO w' gk s' L'∧KStep w w' L L'∧F c s':=by
 refine C215 ?_
 unfold L215
 intro w1
 have hb1:Blk w1 w.heap.size (cs p sl):=Blk.alloc _ _ _
 have hk1:Kept No w w1:=Kept.alloc _ _ _
 clear_value w1
 obtain ⟨s',hr,hF'⟩:=sk c s 0 1 hF hN (.inl ⟨rfl,rfl⟩)
 refine ⟨_,_,_,hv_seek _,CallR.mono (hseek_ok (hK.no hk1) d 0 1) ?_⟩
 rintro v w3 ⟨rfl,L',hK',st⟩
 rw [hr] at hK' ⊢
 have hl5:sl.il=0:=by have:=h.2.1.len; rw [hi] at this; exact this.symm
 have hl6:sl.kl=0:=by have:=h.2.2.len; rw [hk0] at this; exact this.symm
 have hb3:Blk w3 w.heap.size (cs p sl):=hb1.keep st.kept fun e=>e (hK.new_none (Nat.le_refl _))
 refine ⟨_,_,rfl,condF rfl ⟨_,_,_,(hb3.cell 5).trans rfl,?_,_,_,_,(hb3.cell 6).trans rfl,?_,?_,s',L',hK',st.fresh hk1,hF'⟩⟩
 ·unfold inI; dsimp only; omega
 ·unfold inI; dsimp only; omega
 ·dsimp only
  rw [hl5,hl6]
  simp
theorem tell_ok (hK:KernO w gk s L) (h:Rd3 w sl p) (hp:WrA p) (wr:AK.WrK N d F) (sk:SkK d F) (hF:F c s) (hN:c.length+p.o.length≤N) (hN2:c.length+p.o.length≤1048576) :
 CallR Tryz.prog 161 [.agg (cs p sl),hv gk d] w fun v w'=>∃ n sl' s' L',v=.tuple #[.agg (cs { p with o:=[] } sl'),.int .i64 n,.int .i64 0]∧SR w L w' { p with o:=[] } sl' gk s' L'∧F (c ++ p.o) s':=by
 refine C161 ?_
 unfold L161
 intro w1 w2
 have hb1:Blk w1 w.heap.size (cs p sl):=Blk.alloc _ _ _
 have hk1:Kept No w w1:=Kept.alloc _ _ _
 clear_value w1
 have hb2:Blk w2 w1.heap.size (cs zP zS):=Blk.alloc _ _ _
 have hk2:Kept No w1 w2:=Kept.alloc _ _ _
 clear_value w2
 have k2:=hk1.no hk2
 have hz1:=hk1.size
 have hl2:=hb2.lt
 refine ld11 (hb1.no' hk2) (CallR.mono (settled_ok (hK.no k2) (h.no k2) hp wr hF hN) ?_)
 rintro v w3 ⟨sl3,s3,L3,rfl,hSR,hF3⟩
 refine ⟨_,_,_,_,_,_,_,_,_,_,_,_,_,_,_,_,_,_,rfl,?_⟩
 intro w4
 have hb4:Blk w4 w3.heap.size (cs zP zS):=Blk.alloc _ _ _
 have hk4:Kept No w3 w4:=Kept.alloc _ _ _
 clear_value w4
 have hl4:=hb4.lt
 have hz3:=hSR.st.size
 refine st11 (p:={ p with o:=[] }) (s:=sl3) hb4 rfl fun w15 hb15 hk15=>condF rfl (ld11 hb15 ?_)
 have hlt3:=hSR.own.lt
 have ho15:Ow3 w2 w15 sl3 { p with o:=[] }:=(hSR.own.no hk4).keep hk15 fun b hb e=>by have:=hlt3 b hb; omega
 have hn3:L3.own w3.heap.size=none:=hSR.ker.new_none (Nat.le_refl _)
 have hK15:KernO w15 gk s3 L3:=(hSR.ker.no hk4).keep hk15 fun x e=>by rw [e]; exact hn3
 have st15:KStep w2 w15 L L3:=(hSR.st.no hk4).own hk15 (by omega)
 refine CallR.mono (here_ok hK15 ho15.rd hp.i hp.k sk hF3 (by rw [List.length_append]; exact hN2)) ?_
 rintro v w27 ⟨rfl,s',L',hK27,st27,hF'⟩
 have hb27:Blk w27 w3.heap.size (cs { p with o:=[] } sl3):=hb15.keep st27.kept fun e=>e hn3
 have st2:KStep w2 w27 L L':=st15.trans st27
 have hb2':Blk w27 w1.heap.size (cs zP zS):=hb2.keep st2.kept fun e=>e (hK.new_none hz1)
 refine ⟨_,_,rfl,condF rfl (condF (by simp; omega) (ld11 hb27 (st11 (p:={ p with o:=[] }) (s:=sl3) hb2' rfl fun w60 hb60 hk60=>ld11 hb60 ?_)))⟩
 have hoff:∀ b,In3 sl3 b→L'.own b=none:=fun b hb=>(XStep.of_k (T:=No) st27).own (hSR.off b hb) (ho15.lt b hb)
 have ho27:Ow3 w2 w27 sl3 { p with o:=[] }:=ho15.keep st27.kept fun b hb e=>e (hSR.off b hb)
 refine ⟨_,sl3,s',L',rfl,SR.res hK k2 ⟨ho27,hoff,hK27,st2⟩ hk60 fun z e=>⟨by omega,.inl (by omega)⟩,hF'⟩
set_option maxHeartbeats 1000000 in
theorem pseek_ok (hK:KernO w gk s L) (h:Rd3 w sl p) (hp:WrA p) (wr:AK.WrK N d F) (sk:SkK d F) (hF:F c s) (hN:c.length+p.o.length≤N) (hN2:c.length+p.o.length≤1048576) :
 CallR Tryz.prog 162 [.agg (cs p sl),hv gk d,.int .i64 0,.int .i64 1] w fun v w'=>∃ n p' sl' s' L',v=.tuple #[.agg (cs p' sl'),.int .i64 n,.int .i64 0]∧SR w L w' p' sl' gk s' L'∧F (c ++ p.o) s'∧WrA p'∧p'.o=[]:=by
 refine C162 ?_
 unfold L162
 intro w1 w2
 have hb1:Blk w1 w.heap.size (cs p sl):=Blk.alloc _ _ _
 have hk1:Kept No w w1:=Kept.alloc _ _ _
 clear_value w1
 have hb2:Blk w2 w1.heap.size (cs zP zS):=Blk.alloc _ _ _
 have hk2:Kept No w1 w2:=Kept.alloc _ _ _
 clear_value w2
 have k2:=hk1.no hk2
 have hz1:=hk1.size
 have hl2:=hb2.lt
 refine ld11 (hb1.no' hk2) (condF (by decide) (CallR.mono (settled_ok (hK.no k2) (h.no k2) hp wr hF hN) ?_))
 rintro v w3 ⟨sl3,s3,L3,rfl,hSR,hF3⟩
 refine ⟨_,_,_,_,_,_,_,_,_,_,_,_,_,_,_,_,_,_,rfl,?_⟩
 intro w4
 have hb4:Blk w4 w3.heap.size (cs zP zS):=Blk.alloc _ _ _
 have hk4:Kept No w3 w4:=Kept.alloc _ _ _
 clear_value w4
 have hl4:=hb4.lt
 have hz3:=hSR.st.size
 refine st11 (p:={ p with o:=[] }) (s:=sl3) hb4 rfl fun w15 hb15 hk15=>condF rfl ?_
 have hlt3:=hSR.own.lt
 have ho15:Ow3 w2 w15 sl3 { p with o:=[] }:=(hSR.own.no hk4).keep hk15 fun b hb e=>by have:=hlt3 b hb; omega
 have hn3:L3.own w3.heap.size=none:=hSR.ker.new_none (Nat.le_refl _)
 have hK15:KernO w15 gk s3 L3:=(hSR.ker.no hk4).keep hk15 fun x e=>by rw [e]; exact hn3
 have st15:KStep w2 w15 L L3:=(hSR.st.no hk4).own hk15 (by omega)
 have hcl:(c ++ p.o).length≤1048576:=by rw [List.length_append]; exact hN2
 obtain ⟨J,hJ⟩:∃ J:List Value→World→Prop,J=fun vs w'=>vs=[.int .i64 ((c ++ p.o).length:Int),.int .i64 0]∧∃ s' L',KernO w' gk s' L'∧KStep w15 w' L3 L'∧F (c ++ p.o) s':=⟨_,rfl⟩
 refine ⟨J,condT rfl (ld11 hb15 (CallR.mono (here_ok hK15 ho15.rd hp.i hp.k sk hF3 hcl) ?_)),?_⟩
 ·rintro v w27 ⟨rfl,s',L',hK27,st27,hF'⟩
  refine ⟨_,_,rfl,condF rfl ⟨by unfold inI; omega,condF (by simp; omega) ⟨by unfold inI; omega,condF (by simp; omega) ⟨by unfold inI; omega,?_⟩⟩⟩⟩
  rw [hJ]
  exact ⟨by simp,s',L',hK27,st27,hF'⟩
 ·rintro _ n309 n310 w149 hj
  rw [hJ] at hj
  obtain ⟨hvs,s4,L4,hK4,st4,hF4⟩:=hj
  simp only [List.cons.injEq,Value.int.injEq,true_and,and_true] at hvs
  obtain ⟨rfl,rfl⟩:=hvs
  obtain ⟨s',hr,hF'⟩:=sk (c ++ p.o) s4 _ 0 hF4 hcl (.inr ⟨rfl,rfl⟩)
  refine ⟨_,_,_,hv_seek _,CallR.mono (hseek_ok hK4 d _ 0) ?_⟩
  rintro v w151 ⟨rfl,L',hK',st⟩
  rw [hr] at hK' ⊢
  have st5:KStep w15 w151 L3 L':=st4.trans st
  have st6:KStep w2 w151 L L':=st15.trans st5
  have hb5:Blk w151 w3.heap.size (cs { p with o:=[] } sl3):=hb15.keep st5.kept fun e=>e hn3
  have hb25:Blk w151 w1.heap.size (cs zP zS):=hb2.keep st6.kept fun e=>e (hK.new_none hz1)
  refine ⟨_,_,rfl,condF rfl ?_⟩
  refine stC_blk hb5 (by simp [cs]) fun w163 hb163 hk163 _=>?_
  refine stC_blk hb163 (by simp [cs]) fun w164 hb164 hk164 _=>?_
  refine stC_blk hb164 (by simp [cs]) fun w165 hb165 hk165 _=>?_
  refine stC_blk hb165 (by simp [cs]) fun w166 hb166 hk166 _=>?_
  refine stC_blk hb166 (by simp [cs]) fun w167 hb167 hk167 _=>?_
  have hb167:Blk w167 w3.heap.size (cs ({ p with o:=[],i:=[],k:=[],d:=0,e:=false }:Pu) Sl3.no):=hb167
  have hkk:Kept (·=w3.heap.size) w151 w167:=(((hk163.trans hk164 fun _ _ e=>e).trans hk165 fun _ _ e=>e).trans hk166 fun _ _ e=>e).trans hk167 fun _ _ e=>e
  have hz6:=st5.size
  have hb2a:Blk w167 w1.heap.size (cs zP zS):=hb25.keep hkk (by omega)
  refine ld11 hb167 (st11 (p:={ p with o:=[],i:=[],k:=[],d:=0,e:=false }) (s:=Sl3.no) hb2a rfl fun w178 hb178 hk178=>ld11 hb178 ?_)
  have hk2S:Kept (fun z=>z=w3.heap.size∨z=w1.heap.size) w151 w178:=(hkk.mono fun _ _ e=>.inl e).trans hk178 fun _ _ e=>.inr e
  have hno:∀ b,¬ In3 Sl3.no b:=fun b hb=>by
   rcases hb with hb | hb | hb <;> exact inA_none b hb
  refine ⟨_,_,Sl3.no,s',L',rfl,⟨⟨⟨OB.nil _,OB.nil _,OB.nil _⟩,⟨Fresh.none _,Fresh.none _,Fresh.none _⟩,fun b hb=>absurd hb (inA_none b),fun b hb=>absurd hb (inA_none b)⟩,fun b hb=>absurd hb (hno b),hK'.keep hk2S fun z e=>?_,⟨(KStep.fresh k2 st6).kept.trans hk2S fun x hx e=>by omega,(KStep.fresh k2 st6).grew⟩⟩,hF',?_,rfl⟩
  ·rcases e with rfl | rfl
   ·exact (XStep.of_k (T:=No) st5).own hn3 hb15.lt
   ·exact (XStep.of_k (T:=No) st6).own (hK.new_none hz1) hl2
  ·exact ⟨hp.w,hp.m1,hp.m3,hp.z1,hp.z2,.inl rfl,by have:=hp.z1; show (0:Int)≤p.z; omega,rfl,rfl,hp.b,hp.c,fun _=>rfl,fun _=>rfl⟩
end
end Go.Proofs.YteojolihgijdhaaGreatDoor
