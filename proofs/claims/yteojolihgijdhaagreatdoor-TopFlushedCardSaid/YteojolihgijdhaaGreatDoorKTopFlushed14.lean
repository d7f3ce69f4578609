/- Part 14 of 21 of the proof of TopFlushed. Conditions: the theorem's: none. -/
import Derived.Test.YteojolihgijdhaaGreatDoorKTopFlushed6
import Derived.Test.YteojolihgijdhaaGreatDoorKTopFlushed7
import Derived.Test.YteojolihgijdhaaGreatDoorKTopFlushed13
set_option linter.unusedVariables false
set_option maxRecDepth 512
namespace Go.Proofs.YteojolihgijdhaaGreatDoor
open Go.Lw
theorem addT_ok {w w1:World} {gk:Nat} {s:AK} {L:KL} (h:KernO w gk s L) (k:Kept No w w1) {b:Nat} {F R:Nat→Prop} {LL:List (List Int)} {scr:List Int} (hO:TermO F R w1 b LL scr) (hF:∀ z,F z∨R z→w.heap.size≤z)
 {nm:ByteArray} (h1:∀ f ∈ s.files,f.1≠nm) (h2:∀ f ∈ s.terms,f.1≠nm) (hl:s.files.length+s.terms.length< 256) :
 ∃ w2 L',(Instr.mapUpdate 76 (.map (some L.rt)) (.string nm) (pd b)).run Tryz.prog w1=.ok () w2∧KernO w2 gk (s.addT nm (.term LL scr)) L'∧KStep w w2 L L'∧Kept (·=L.rt) w1 w2:=by
 have hT:Tryz.prog.underlying 76=some (.map 9 87):=by kernel_rfl
 have hI:Tryz.prog.underlying 9=some .string:=by kernel_rfl
 obtain ⟨hn,st⟩:=h.newStep k (R:=R) (o:=.term LL scr) hO (fun z hz=>hF z (.inl hz)) (fun z hz=>⟨hF z (.inr hz),TermO.lt hO z (.inr hz),by
  obtain ⟨la,ll,lc,i,sa,sl,sc,raw,_,_,_,_,_,_,_,hR,_⟩:=hO
  exact hR z hz⟩)
 obtain ⟨w2,hrun,hm,hk2,hs2⟩:=update_new hT hI (hn.mt) (k:=.string nm) trivial (fun x hx e=>by
  obtain ⟨y,hy,rfl⟩:=List.mem_map.1 hx
  simp only [Value.string.injEq] at e
  exact h2 y hy e) (pd b)
 have hok:=h.ok.addT (o:=.term LL scr) rfl h1 h2 hl
 have hb:(L.addO s.nob b F R).loc s.nob=b:=if_pos rfl
 obtain ⟨h3,st3⟩:=hn.mtStep (fs:=s.terms ++ [(nm,s.nob)]) hk2 (by
  show MapO w2 _ .string ((s.terms ++ [(nm,s.nob)]).map fun f=>(Value.string f.1,pd ((L.addO s.nob b F R).loc f.2)))
  rw [List.map_append]
  show MapO w2 _ .string (_ ++ [(Value.string nm,pd ((L.addO s.nob b F R).loc s.nob))])
  rw [hb]
  exact hm) hok
 exact ⟨w2,_,hrun,h3,st.trans st3,hk2⟩
open Classical in
noncomputable def KL.first (gk rf rt rd pg:Nat) (a:Option Addr):KL:=
 { own:=fun z=>if z=gk then some .kern else if z=rf then some .mf else if z=rt then some .mt else if z=rd then some .md else if z=pg then some .plan else if inA a z then some .flts else none
   loc:=fun _=>0,dloc:=fun _=>0,rf:=rf,rt:=rt,rd:=rd,pg:=pg }
theorem KL.first_some {gk rf rt rd pg z:Nat} {a:Option Addr} (h:(KL.first gk rf rt rd pg a).own z≠none):z=gk∨z=rf∨z=rt∨z=rd∨z=pg∨inA a z:=by
 unfold KL.first at h
 dsimp only at h
 by_cases h1:z=gk
 ·exact .inl h1
 rw [if_neg h1] at h
 by_cases h2:z=rf
 ·exact .inr (.inl h2)
 rw [if_neg h2] at h
 by_cases h3:z=rt
 ·exact .inr (.inr (.inl h3))
 rw [if_neg h3] at h
 by_cases h4:z=rd
 ·exact .inr (.inr (.inr (.inl h4)))
 rw [if_neg h4] at h
 by_cases h5:z=pg
 ·exact .inr (.inr (.inr (.inr (.inl h5))))
 rw [if_neg h5] at h
 by_cases h6:inA a z
 ·exact .inr (.inr (.inr (.inr (.inr h6))))
 rw [if_neg h6] at h
 exact absurd rfl h
theorem first_ok {w:World} {gk rf rt rd pg:Nat} {a:Option Addr} {l c:Nat} {ps:List (Int × Int)} (hb:Blk w gk #[.bool true,.map (some rf),.map (some rt),.map (some rd),.int .i64 1,pd pg,.int .i64 0,.int .i64 0])
 (m1:MapO w rf .string []) (m2:MapO w rt .string []) (m3:MapO w rd (.int .i64) []) (hp:PlO w pg a l c ps) (ha:∀ b,inA a b→b< w.heap.size∧b≠gk∧b≠rf∧b≠rt∧b≠rd∧b≠pg)
 (hd:rf≠gk∧rt≠gk∧rd≠gk∧pg≠gk∧rt≠rf∧rd≠rf∧pg≠rf∧rd≠rt∧pg≠rt∧pg≠rd) (hl:ps.length≤4096) (hm:∀ p ∈ ps,mayP p):KernO w gk (AK.empty ps) (KL.first gk rf rt rd pg a):=by
 obtain ⟨d1,d2,d3,d4,d5,d6,d7,d8,d9,d10⟩:=hd
 exact
  { blk:=hb,mf:=m1,mt:=m2,md:=m3
    pl:=⟨a,l,c,hp,fun b hb=>by
     obtain ⟨_,e1,e2,e3,e4,e5⟩:=ha b hb
     show (if b=gk then _ else _)=_
     rw [if_neg e1,if_neg e2,if_neg e3,if_neg e4,if_neg e5,if_pos hb]⟩
    ob:=fun i hi=>by exact absurd hi (Nat.not_lt_zero i)
    ds:=fun d hd=>by cases hd
    oK:=if_pos rfl
    oF:=by show (KL.first gk rf rt rd pg a).own rf=_; unfold KL.first; dsimp only; rw [if_neg d1,if_pos rfl]
    oT:=by show (KL.first gk rf rt rd pg a).own rt=_; unfold KL.first; dsimp only; rw [if_neg d2,if_neg d5,if_pos rfl]
    oD:=by show (KL.first gk rf rt rd pg a).own rd=_; unfold KL.first; dsimp only; rw [if_neg d3,if_neg d6,if_neg d8,if_pos rfl]
    oP:=by show (KL.first gk rf rt rd pg a).own pg=_; unfold KL.first; dsimp only; rw [if_neg d4,if_neg d7,if_neg d9,if_neg d10,if_pos rfl]
    od:=fun d hd=>by cases hd
    lt:=fun z hz=>by
     rcases KL.first_some hz with rfl | rfl | rfl | rfl | rfl | e
     ·exact hb.lt
     ·exact m1.lt
     ·exact m2.lt
     ·exact m3.lt
     ·exact hp.blk.lt
     ·exact (ha z e).1
    ok:=AK.ok_empty hl hm }
namespace AK
theorem withF_ok_next {fs:List (ByteArray × List Int)} {ts:List (ByteArray × List (List Int))} {ps:List (Int × Int)} (h:CkOk fs ts ps) {i:Nat} (hi:i< fs.length) :
 (∀ f ∈ (withF (fs.take i) (empty ps)).files,f.1≠fs[i].1)∧(∀ f ∈ (withF (fs.take i) (empty ps)).terms,f.1≠fs[i].1)∧(withF (fs.take i) (empty ps)).files.length+(withF (fs.take i) (empty ps)).terms.length< 256:=by
 obtain ⟨h1,h2,_⟩:=withF_names (fs.take i) (empty ps)
 have hnd:=h.nd
 rw [List.nodup_append] at hnd
 have hnd:=hnd.1
 have h1:(withF (fs.take i) (empty ps)).files.map (·.1)=(fs.take i).map (·.1):=by rw [h1]; rfl
 refine ⟨fun f hf e=>?_,fun f hf=>by rw [h2] at hf; exact absurd hf (by simp [empty]),?_⟩
 ·have hm:fs[i].1 ∈ (fs.take i).map (·.1):=by rw [← h1,← e]; exact List.mem_map.2 ⟨f,hf,rfl⟩
  rw [← List.take_append_drop i fs,List.map_append,List.nodup_append] at hnd
  exact hnd.2.2 _ hm _ (List.mem_map.2 ⟨fs[i],by rw [List.drop_eq_getElem_cons hi]; exact List.mem_cons_self,rfl⟩) rfl
 ·have e1:=congrArg List.length h1
  rw [List.length_map,List.length_map,List.length_take] at e1
  rw [h2]
  show _+0< 256
  have:=h.len
  omega
theorem withT_ok_next {fs:List (ByteArray × List Int)} {ts:List (ByteArray × List (List Int))} {ps:List (Int × Int)} (h:CkOk fs ts ps) {i:Nat} (hi:i< ts.length) :
 (∀ f ∈ (withT (ts.take i) (withF fs (empty ps))).files,f.1≠ts[i].1)∧(∀ f ∈ (withT (ts.take i) (withF fs (empty ps))).terms,f.1≠ts[i].1)∧(withT (ts.take i) (withF fs (empty ps))).files.length+(withT (ts.take i) (withF fs (empty ps))).terms.length< 256:=by
 obtain ⟨h1,h2,_⟩:=withF_names fs (empty ps)
 obtain ⟨g1,g2,_⟩:=withT_names (ts.take i) (withF fs (empty ps))
 have hnd:=h.nd
 rw [List.nodup_append] at hnd
 obtain ⟨_,hnt,hx⟩:=hnd
 have h1:(withF fs (empty ps)).files.map (·.1)=fs.map (·.1):=by rw [h1]; rfl
 have g1:(withT (ts.take i) (withF fs (empty ps))).terms.map (·.1)=(ts.take i).map (·.1):=by rw [g1,h2]; rfl
 refine ⟨fun f hf e=>?_,fun f hf e=>?_,?_⟩
 ·rw [g2] at hf
  have hm:ts[i].1 ∈ fs.map (·.1):=by rw [← h1,← e]; exact List.mem_map.2 ⟨f,hf,rfl⟩
  exact hx _ hm ts[i].1 (List.mem_map.2 ⟨ts[i],List.getElem_mem hi,rfl⟩) rfl
 ·have hm:ts[i].1 ∈ (ts.take i).map (·.1):=by rw [← g1,← e]; exact List.mem_map.2 ⟨f,hf,rfl⟩
  rw [← List.take_append_drop i ts,List.map_append,List.nodup_append] at hnt
  exact hnt.2.2 _ hm _ (List.mem_map.2 ⟨ts[i],by rw [List.drop_eq_getElem_cons hi]; exact List.mem_cons_self,rfl⟩) rfl
 ·have e1:=congrArg List.length h1
  have e2:=congrArg List.length g1
  rw [List.length_map,List.length_map] at e1 e2
  rw [List.length_take] at e2
  rw [g2]
  have:=h.len
  omega
end AK
set_option maxHeartbeats 2000000 in
theorem kernNew_ok {w:World} {af:Option Addr} {lf cf:Nat} {fs:List (ByteArray × List Int)} {ef:List (ByteArray × Slc)} (hf:RdN RB w af lf cf fs ef) {at_:Option Addr} {lt ct:Nat} {ts:List (ByteArray × List (List Int))} {et:List (ByteArray × Slc)} (ht:RdN RL w at_ lt ct ts et)
 {ap:Option Addr} {lp cp:Nat} {ps:List (Int × Int)} (hp:RdS 2 w ap lp cp (Fv ps)) (hlf:lf≤140737488355328) (hlt:lt≤140737488355328) :
 CallR Tryz.prog 10 [.agg #[.slice af lf cf,.slice at_ lt ct,.slice ap lp cp]] w fun v w'=>Kept No w w'∧((checkK fs ts ps≠0∧v=.tuple #[.pointer none,.int .i64 (checkK fs ts ps)])∨
  (checkK fs ts ps=0∧∃ gk L,v=.tuple #[pd gk,.int .i64 0]∧KernO w' gk (AK.new fs ts ps) L∧∀ z,L.own z≠none→w.heap.size≤z)):=by
 refine C10 ?_
 unfold L10
 have hfl:fs.length=lf:=by have:=hf.rd.1; rw [Nv_len,hf.len] at this; omega
 have htl:ts.length=lt:=by have:=ht.rd.1; rw [Nv_len,ht.len] at this; omega
 intro w1
 have hb1:Blk w1 w.heap.size #[.slice af lf cf,.slice at_ lt ct,.slice ap lp cp]:=Blk.alloc _ _ _
 have hk1:Kept No w w1:=Kept.alloc _ _ _
 clear_value w1
 refine ⟨_,_,_,_,_,_,_,_,_,(hb1.cell 0).trans rfl,(hb1.cell 1).trans rfl,(hb1.cell 2).trans rfl,?_⟩
 refine CallR.mono (kcheck_ok (hf.no (fun _ _ _ _ h k=>h.no k) hk1) (ht.no (fun _ _ _ _ h k=>h.no k) hk1) (hp.keep hk1 fun _ _ _ e=>e) hlf hlt) ?_
 rintro v w2 ⟨rfl,hk2⟩
 have k2:=hk1.no hk2
 refine ⟨_,rfl,condN (fun hne=>⟨k2,.inl ⟨hne,rfl⟩⟩) (fun he=>?_)⟩
 have hck:=AK.check_zero he
 intro w3 w4 w5 w6
 have m3:MapO w3 w2.heap.size .string []:=MapO.new w2 _
 have hk3:Kept No w2 w3:=Kept.alloc _ _ _
 have hs3:w3.heap.size=w2.heap.size+1:=by simp [w3]
 clear_value w3
 have m4:MapO w4 w3.heap.size .string []:=MapO.new w3 _
 have hk4:Kept No w3 w4:=Kept.alloc _ _ _
 have hs4:w4.heap.size=w3.heap.size+1:=by simp [w4]
 clear_value w4
 have m5:MapO w5 w4.heap.size (.int .i64) []:=MapO.new w4 _
 have hk5:Kept No w4 w5:=Kept.alloc _ _ _
 have hs5:w5.heap.size=w4.heap.size+1:=by simp [w5]
 clear_value w5
 have hb6:Blk w6 w5.heap.size #[.bool true,.map (some w2.heap.size),.map (some w3.heap.size),.map (some w4.heap.size),.int .i64 1,.pointer none,.int .i64 0,.int .i64 0]:=Blk.alloc _ _ _
 have hk6:Kept No w5 w6:=Kept.alloc _ _ _
 have hs6:w6.heap.size=w5.heap.size+1:=by simp [w6]
 clear_value w6
 have k26:Kept No w2 w6:=((hk3.no hk4).no hk5).no hk6
 have k6:=k2.no k26
 have hc6:=(hb1.keep hk2 fun e=>e).keep k26 fun e=>e
 have hz1:=hb1.lt
 have hz2:=hk2.size
 refine ⟨_,_,_,(hc6.cell 2).trans rfl,CallR.mono (fnew_ok (hp.keep k6 fun _ _ _ e=>e)) ?_⟩
 rintro v w7 ⟨⟨hne,_⟩ | ⟨_,pg,a',c',rfl,hpl,hpg,ha'⟩,hk7⟩
 ·exact absurd hck.ck hne
 refine ⟨_,_,rfl,stC_blk (hb6.keep hk7 fun e=>e) (by simp) fun w8 hb8 hk8 hs8=>?_⟩
 have hb8:Blk w8 w5.heap.size #[.bool true,.map (some w2.heap.size),.map (some w3.heap.size),.map (some w4.heap.size),.int .i64 1,pd pg,.int .i64 0,.int .i64 0]:=hb8
 have hpglt:=hpl.blk.lt
 have k8:Kept No w w8:=(k6.no hk7).fresh hk8 fun x e=>by omega
 have hc8:=(hc6.keep hk7 fun e=>e).keep hk8 (by omega)
 have m38:=((((m3.keep hk4 fun e=>e).keep hk5 fun e=>e).keep hk6 fun e=>e).keep hk7 fun e=>e).keep hk8 (by omega)
 have m48:=(((m4.keep hk5 fun e=>e).keep hk6 fun e=>e).keep hk7 fun e=>e).keep hk8 (by omega)
 have m58:=((m5.keep hk6 fun e=>e).keep hk7 fun e=>e).keep hk8 (by omega)
 have hpl8:=hpl.keep hk8 (by omega) (fun b _ hb e=>by have:=(ha' b hb).1; omega)
 have h8:KernO w8 w5.heap.size (AK.empty ps) (KL.first w5.heap.size w2.heap.size w3.heap.size w4.heap.size pg a'):=
  first_ok hb8 m38 m48 m58 hpl8 (fun b hb=>by have:=ha' b hb; have:=hpl.ne b hb; omega) ⟨by omega,by omega,by omega,by omega,by omega,by omega,by omega,by omega,by omega,by omega⟩ hck.pl hck.pm
 have hfirst:∀ z,(KL.first w5.heap.size w2.heap.size w3.heap.size w4.heap.size pg a').own z≠none→w1.heap.size≤z:=by
  intro z hz
  rcases KL.first_some hz with rfl | rfl | rfl | rfl | rfl | e
  ·omega
  ·omega
  ·omega
  ·omega
  ·omega
  ·have:=(ha' z e).1; omega
 generalize KL.first w5.heap.size w2.heap.size w3.heap.size w4.heap.size pg a'=L0 at h8 hfirst
 generalize w5.heap.size=gk at *
 have hz8:=k8.size
 have fin:∀ {w':World} {L':KL},KStep w8 w' L0 L'→Kept No w w'∧(∀ z,L'.own z≠none→w.heap.size≤z)∧Blk w' w.heap.size #[.slice af lf cf,.slice at_ lt ct,.slice ap lp cp]:=by
  intro w' L' st
  refine ⟨k8.trans st.kept fun x hx e=>by have:=hfirst x e; omega,fun z hz=>?_,hc8.keep st.kept fun e=>by have:=hfirst _ e; omega⟩
  rcases st.grew z hz with e | e
  ·have:=hfirst z e; omega
  ·omega
 refine ⟨_,_,_,(hc8.cell 0).trans rfl,?_⟩
 refine ⟨fun vs w'=>∃ (i:Nat) (L':KL),vs=[.int .i64 (i:Int)]∧i≤lf∧KernO w' gk (AK.withF (fs.take i) (AK.empty ps)) L'∧KStep w8 w' L0 L',
  fun vs _=>lf - ix vs,⟨0,L0,rfl,by omega,h8,KStep.refl _ _⟩,?_⟩
 rintro _ n16 w9 ⟨i,L9,hvs,hi,h9,st9⟩
 simp only [List.cons.injEq,Value.int.injEq,true_and,and_true] at hvs
 subst hvs
 obtain ⟨k9,hge9,hc9⟩:=fin st9
 refine condP (fun hlt=>?_) (fun hge=>?_)
 ·have hi':i< fs.length:=by omega
  obtain ⟨q,sl,haq,e1,e2,hR,_⟩:=(hf.no (fun _ _ _ _ h k=>h.no k) k9).at hi'
  refine ⟨⟨by omega,by omega⟩,nnE2 haq ⟨fs[i].1,sl.1,sl.2.1,sl.2.2,by simpa using e1,by simpa using e2,?_⟩⟩
  refine newPair fun w12 hb12 hk12 hz12=>?_
  refine ⟨fun wS=>Kept No w12 wS,Kept.drew _ _,?_⟩
  intro w13
  have hk13:Kept No w12 w13:=Kept.drew _ _
  clear_value w13
  have h12:=h9.no hk12
  have h13:=h12.no hk13
  refine ⟨_,fun wS hS=>((h12.no hS).blk.cell 1).trans rfl,_,fun wS hS=>((hb12.keep hS fun e=>e).cell 0).trans rfl,_,_,_,fun wS hS=>((hb12.keep hS fun e=>e).cell 1).trans rfl,?_⟩
  have hR13:RB w13 sl fs[i].2:=(hR.no hk12).no hk13
  have hfl2:=(hck.fs fs[i] (List.getElem_mem hi')).2
  have hsl:fs[i].2.length=sl.2.1:=RdB.len hR13
  refine CallR.mono (finew_ok hR13 (by omega)) ?_
  rintro v w14 (⟨hbig,_⟩ | ⟨_,b,F,rfl,hO,hk14,hF⟩)
  ·omega
  obtain ⟨q1,q2,q3⟩:=AK.withF_ok_next hck hi'
  obtain ⟨w15,L15,hrun,h15,st15,_,_⟩:=addF_ok h13 hk14 hO hF (nm:=fs[i].1) q1 q2 q3
  have hT:fs.take (i+1)=fs.take i ++ [fs[i]]:=by rw [List.take_add_one,List.getElem?_eq_getElem hi']; rfl
  refine ⟨_,_,rfl,hk13.no hk14,w15,hrun,⟨by omega,by omega⟩,⟨i+1,L15,rfl,by omega,?_,(st9.no hk12).trans (st15.fresh hk13)⟩,?_⟩
  ·rw [hT,AK.withF_snoc]; exact h15
  ·simp only [ix]; omega
 ·have hil:i=fs.length:=by omega
  rw [List.take_of_length_le (by omega)] at h9
  refine ⟨_,_,_,(hc9.cell 1).trans rfl,?_⟩
  refine ⟨fun vs w'=>∃ (j:Nat) (L':KL),vs=[.int .i64 (j:Int)]∧j≤lt∧KernO w' gk (AK.withT (ts.take j) (AK.withF fs (AK.empty ps))) L'∧KStep w8 w' L0 L',
   fun vs _=>lt - ix vs,⟨0,L9,rfl,by omega,h9,st9⟩,?_⟩
  rintro _ n30 w16 ⟨j,L16',hvs,hj,h16,st16⟩
  simp only [List.cons.injEq,Value.int.injEq,true_and,and_true] at hvs
  subst hvs
  obtain ⟨k16,hge16,hc16⟩:=fin st16
  refine condP (fun hlt=>?_) (fun hge=>?_)
  ·have hj':j< ts.length:=by omega
   obtain ⟨q,sl,haq,e1,e2,hR,_⟩:=(ht.no (fun _ _ _ _ h k=>h.no k) k16).at hj'
   refine ⟨⟨by omega,by omega⟩,nnE2 haq ⟨ts[j].1,sl.1,sl.2.1,sl.2.2,by simpa using e1,by simpa using e2,?_⟩⟩
   refine newPair fun w19 hb19 hk19 hz19=>?_
   refine ⟨fun wS=>Kept No w19 wS,Kept.drew _ _,?_⟩
   intro w20
   have hk20:Kept No w19 w20:=Kept.drew _ _
   clear_value w20
   have h19:=h16.no hk19
   have h20:=h19.no hk20
   refine ⟨_,fun wS hS=>((h19.no hS).blk.cell 2).trans rfl,_,fun wS hS=>((hb19.keep hS fun e=>e).cell 0).trans rfl,_,_,_,fun wS hS=>((hb19.keep hS fun e=>e).cell 1).trans rfl,?_⟩
   have hR20:RL w20 sl ts[j].2:=(hR.no hk19).no hk20
   have hnt:=(hck.ts ts[j] (List.getElem_mem hj')).2
   refine CallR.mono (tnew_ok hR20.1 hR20.2) ?_
   rintro v w21 ⟨hk21,⟨hne,_⟩ | ⟨_,b,F,R,rfl,hO,hFR⟩⟩
   ·exact absurd hnt hne
   obtain ⟨q1,q2,q3⟩:=AK.withT_ok_next hck hj'
   obtain ⟨w22,L22,hrun,h22,st22,_⟩:=addT_ok h20 hk21 hO hFR (nm:=ts[j].1) q1 q2 q3
   have hT:ts.take (j+1)=ts.take j ++ [ts[j]]:=by rw [List.take_add_one,List.getElem?_eq_getElem hj']; rfl
   refine ⟨_,_,rfl,hk20.no hk21,w22,hrun,⟨by omega,by omega⟩,⟨j+1,L22,rfl,by omega,?_,(st16.no hk19).trans (st22.fresh hk20)⟩,?_⟩
   ·rw [hT,AK.withT_snoc]; exact h22
   ·simp only [ix]; omega
  ·rw [List.take_of_length_le (by omega)] at h16
   exact ⟨k16,.inr ⟨he,gk,L16',rfl,h16,hge16⟩⟩
end Go.Proofs.YteojolihgijdhaaGreatDoor
namespace Go.Proofs.YteojolihgijdhaaGreatDoor
open Go.Lw
def hv (gk:Nat) (d:Int):Value:=.iface 232 (.agg #[pd gk,.int .i64 d])
theorem hv_nil {w:World} {g:Nat} {d:Int} {x y:Operand}:Sem.run Tryz.prog (Sem.bind (eqGuard .eql 179 x y (hv g d) .nilIface) (fun _=>binOp .eql 179 (hv g d) .nilIface)) w=.ok (.bool false) w:=by
 unfold hv
 kernel_rfl
theorem hv_read {w : World} {g : Nat} {d : Int} (args : Array Value) : Sem.run Tryz.prog (callMethod (hv g d) "Read" args) w = .ok (.enter 152 (#[.agg #[pd g, .int .i64 d]] ++ args)) w :=
 call_of (by intro recv w; kernel_rfl) (by kernel_rfl) _ _ _
theorem hread_ok {w:World} {gk:Nat} {s:AK} {L:KL} (h:KernO w gk s L) (d n:Int) (hc:s.c0≤4611686018427387904) :
 CallR Tryz.prog 152 [.agg #[pd gk,.int .i64 d],.int .i64 n] w fun v w'=>∃ a l c L',v=.tuple #[.slice a l c,.int .i64 (s.read d n).2.1]∧OB w' a l c (s.read d n).1∧Fresh w a∧KernO w' gk (s.read d n).2.2 L'∧KStep w w' L L'∧(∀ z,inA a z→L'.own z=none):=by
 refine C152 ?_
 unfold L152
 intro w1
 have hb1:Blk w1 w.heap.size #[pd gk,.int .i64 d]:=Blk.alloc _ _ _
 have hk1:Kept No w w1:=Kept.alloc _ _ _
 clear_value w1
 have hz:=hk1.size
 refine ⟨_,(hb1.cell 0).trans rfl,_,(hb1.cell 1).trans rfl,CallR.mono (kernRead_ok (h.no hk1) d n hc) ?_⟩
 rintro v w2 ⟨a,l,c,L',rfl,ob,hf,h2,st,hap⟩
 exact ⟨a,l,c,_,rfl,a,l,c,L',rfl,ob,fun b hb=>by have:=hf b hb; omega,h2,st.fresh hk1,hap⟩
theorem pass_to {w:World} {e:Int} {Q:Value→World→Prop} (hq:Q (.bool (decide (e=22∨e=23))) w):CallR Tryz.prog 251 [.int .i64 e] w Q:=by
 refine C251 ?_
 unfold L251
 refine condI (fun h=>?_) (fun h=>?_)
 ·have h:e=22:=by simpa using h
  subst h; exact hq
 ·have h:¬ e=22:=by simpa using h
  have e2:(e == 23)=decide (e=22∨e=23):=by
   by_cases h3:e=23
   ·subst h3; rfl
   ·simp [h,h3]
  rw [e2]; exact hq
theorem out_ok {w:World} {b k:Nat} (h:Blk w b #[.int .i64 (k:Int)]) (hk:k≤8192):CallR Tryz.prog 252 [pd b] w fun v w'=>v=.bool (decide (8192≤k+1))∧Blk w' b #[.int .i64 ((k+1:Nat):Int)]∧Kept (·=b) w w':=by
 refine C252 ?_
 unfold L252
 refine nnI ⟨_,h.at0 rfl,⟨by omega,by omega⟩,nnI (stC_blk h (by simp) fun w1 hb1 hk1 hs1=>?_)⟩
 have hb1:Blk w1 b #[.int .i64 ((k:Int)+1)]:=hb1
 refine nnI ⟨_,hb1.at0 rfl,?_,hb1,hk1⟩
 congr 1
 exact decide_eq_decide.2 (by omega)
def mu0 (b:Nat) (w:World):Nat:=match w.cell? ⟨b,0,none⟩ with
 | some (.int _ k)=>8192 - k.toNat
 | _=>0
theorem mu0_of {w:World} {b k:Nat} (h:Blk w b #[.int .i64 (k:Int)]):mu0 b w=8192 - k:=by
 unfold mu0
 rw [(h.cell 0).trans rfl]
 simp
theorem rsome_ok {w:World} {gk:Nat} {s:AK} {L:KL} (h:KernO w gk s L) (d n:Int) (hc:s.c0≤4611686010000000000) :
 CallR Tryz.prog 275 [hv gk d,.int .i64 n] w fun v w'=>∃ a l c L',v=.tuple #[.slice a l c,.int .i64 (s.rsome d n).2.1]∧OB w' a l c (s.rsome d n).1∧Fresh w a∧KernO w' gk (s.rsome d n).2.2 L'∧KStep w w' L L'∧(∀ z,inA a z→L'.own z=none):=by
 refine C275 ?_
 unfold L275
 have hr:s.rsome d n=if n< 1∨n > 1048576 then ([],4,s) else AK.someN 8192 s d n:=rfl
 have bad:n< 1∨n > 1048576→∃ a l c L',(.tuple #[.slice none 0 0,.int .i64 4]:Value)=.tuple #[.slice a l c,.int .i64 (s.rsome d n).2.1]∧OB w a l c (s.rsome d n).1∧Fresh w a∧KernO w gk (s.rsome d n).2.2 L'∧KStep w w L L'∧(∀ z,inA a z→L'.own z=none):=by
  intro e
  rw [hr,if_pos e]
  exact ⟨none,0,0,L,rfl,OB.nil _,Fresh.none _,h,KStep.refl _ _,fun z hz=>absurd hz (inA_none z)⟩
 refine ⟨_,_,hv_nil,condFa2 (condP (fun e=>bad (.inl e)) (fun e1=>condP (fun e=>bad (.inr e)) (fun e2=>?_)))⟩
 rw [if_neg (by omega)] at hr
 intro w2
 have hb2:Blk w2 w.heap.size #[.int .i64 ((0:Nat):Int)]:=Blk.alloc _ _ _
 have hk2:Kept No w w2:=Kept.alloc _ _ _
 have hs2:w2.heap.size=w.heap.size+1:=by simp [w2]
 clear_value w2
 have h2:=h.no hk2
 refine ⟨fun vs w3=>∃ (k:Nat) (s':AK) (L':KL),vs=[]∧k< 8192∧s.rsome d n=AK.someN (8192 - k) s' d n∧KernO w3 gk s' L'∧KStep w w3 L L'∧L'.own w.heap.size=none∧Blk w3 w.heap.size #[.int .i64 (k:Int)]∧s'.c0≤s.c0+(k:Int),
  fun _ w'=>mu0 w.heap.size w',⟨0,s,L,rfl,by omega,hr,h2,.of_no hk2,h.new_none (Nat.le_refl _),hb2,by omega⟩,?_⟩
 rintro _ w3 ⟨k,s',L',_,hk,hrk,h3,st3,hpo,hb3,hck⟩
 refine ⟨_,_,_,hv_read #[.int .i64 n],CallR.mono (hread_ok h3 d n (by omega)) ?_⟩
 rintro v w5 ⟨a,l,c,L5,rfl,ob,hf,h5,st5,hap5⟩
 have st25:=st3.trans st5
 have hb3lt:=hb3.lt
 have hb5:Blk w5 w.heap.size #[.int .i64 (k:Int)]:=hb3.keep st5.kept fun e=>e hpo
 have hpo5:L5.own w.heap.size=none:=by
  cases ho:L5.own w.heap.size with
  | none=>rfl
  | some t=>
   exfalso
   rcases st5.grew w.heap.size (by rw [ho]; simp) with e | e
   ·exact e hpo
   ·omega
 obtain ⟨k',hk'⟩:∃ k',8192 - k=k'+1:=⟨8192 - k - 1,by omega⟩
 rw [hk'] at hrk
 have hrk:s.rsome d n=if (s'.read d n).2.1=22∨(s'.read d n).2.1=23 then AK.someN k' (s'.read d n).2.2 d n else s'.read d n:=hrk
 obtain ⟨_,hc5,_⟩:=AK.read_cs s' d n
 have hz3:=st3.size
 refine ⟨_,_,_,_,rfl,pass_to ⟨_,rfl,condP (fun hp=>?_) (fun hp=>?_)⟩⟩
 ·rw [if_pos hp] at hrk
  refine CallR.mono (out_ok hb5 (by omega)) ?_
  rintro v w7 ⟨rfl,hb7,hk7⟩
  have h7:KernO w7 gk (s'.read d n).2.2 L5:=h5.keep hk7 fun x e=>by rw [e]; exact hpo5
  have st7:KStep w w7 L L5:=st25.own hk7 (Nat.le_refl _)
  refine ⟨_,rfl,condP (fun hge=>?_) (fun hlt=>?_)⟩
  ·have:k'=0:=by omega
   subst this
   rw [hrk]
   exact ⟨none,0,0,L5,rfl,OB.nil _,Fresh.none _,h7,st7,fun z hz=>absurd hz (inA_none z)⟩
  ·refine ⟨⟨k+1,_,L5,rfl,by omega,by rw [hrk,show 8192 - (k+1)=k' by omega],h7,st7,hpo5,hb7,by omega⟩,?_⟩
   show mu0 _ w7< mu0 _ w3
   rw [mu0_of hb7,mu0_of hb3]
   omega
 ·rw [if_neg hp] at hrk
  rw [hrk]
  refine condN (fun hne=>?_) (fun he=>?_)
  ·refine ⟨none,0,0,L5,rfl,?_,Fresh.none _,h5,st25,fun z hz=>absurd hz (inA_none z)⟩
   rw [AK.read_err hne]; exact OB.nil _
  ·have hlen:=AK.read_len (s:=s') (d:=d) (n:=n) (by omega)
   have hol:=ob.len
   refine condF (by rw [decide_eq_false]; omega) ⟨a,l,c,L5,by rw [he],ob,fun b hb=>by have:=hf b hb; omega,h5,st25,hap5⟩
theorem rdN_nil {α:Type} {R:World→Slc→α→Prop} {w:World}:RdN R w none 0 0 ([]:List (ByteArray × α)) []:=
 ⟨RdS.nil 2 w,rfl,fun i h1 h2=>by simp at h1⟩
namespace AK
def putN:Nat→AK→Int→List Int→Nat→Nat→Int × Int × AK
 | 0,s,d,b,done,p=>((done:Int),0,s)
 | k+1,s,d,b,done,p=>
  if b.length≤done then ((b.length:Int),0,s) else
  if (s.write d (b.drop done)).2.1=22∨(s.write d (b.drop done)).2.1=23∨((s.write d (b.drop done)).2.1=0∧(s.write d (b.drop done)).1=0) then
   (if 8192≤p+1 then ((done:Int),81,(s.write d (b.drop done)).2.2) else putN k (s.write d (b.drop done)).2.2 d b done (p+1))
  else if (s.write d (b.drop done)).2.1≠0 then ((done:Int),(s.write d (b.drop done)).2.1,(s.write d (b.drop done)).2.2)
  else if (s.write d (b.drop done)).1< 0∨((b.drop done).length:Int)< (s.write d (b.drop done)).1 then ((done:Int),82,(s.write d (b.drop done)).2.2)
  else putN k (s.write d (b.drop done)).2.2 d b (done+(s.write d (b.drop done)).1.toNat) 0
theorem putN_succ (k:Nat) (s:AK) (d:Int) (b:List Int) (done p:Nat):putN (k+1) s d b done p =
 if b.length≤done then ((b.length:Int),0,s) else
 if (s.write d (b.drop done)).2.1=22∨(s.write d (b.drop done)).2.1=23∨((s.write d (b.drop done)).2.1=0∧(s.write d (b.drop done)).1=0) then
  (if 8192≤p+1 then ((done:Int),81,(s.write d (b.drop done)).2.2) else putN k (s.write d (b.drop done)).2.2 d b done (p+1))
 else if (s.write d (b.drop done)).2.1≠0 then ((done:Int),(s.write d (b.drop done)).2.1,(s.write d (b.drop done)).2.2)
 else if (s.write d (b.drop done)).1< 0∨((b.drop done).length:Int)< (s.write d (b.drop done)).1 then ((done:Int),82,(s.write d (b.drop done)).2.2)
 else putN k (s.write d (b.drop done)).2.2 d b (done+(s.write d (b.drop done)).1.toNat) 0:=rfl
def rput (s:AK) (d:Int) (b:List Int):Int × Int × AK:=if 1048576< b.length then (0,5,s) else putN (8192 * b.length+8193) s d b 0 0
end AK
theorem hv_write {w : World} {g : Nat} {d : Int} (args : Array Value) : Sem.run Tryz.prog (callMethod (hv g d) "Write" args) w = .ok (.enter 153 (#[.agg #[pd g, .int .i64 d]] ++ args)) w :=
 call_of (by intro recv w; kernel_rfl) (by kernel_rfl) _ _ _
theorem hv_nilM {g : Nat} {d : Int} : nilM Tryz.prog (hv g d) "Write" := by
 unfold nilM hv
 intro w
 kernel_rfl
theorem hwrite_ok {w:World} {gk:Nat} {s:AK} {L:KL} (h:KernO w gk s L) (d:Int) {a:Option Addr} {l c:Nat} {ds:List Int} (hd:RdB w a l c ds) (hap:ds≠[]→∀ k,inA a k→L.own k=none) (hc:s.c1≤4611686018427387904) :
 CallR Tryz.prog 153 [.agg #[pd gk,.int .i64 d],.slice a l c] w fun v w'=>v=.tuple #[.int .i64 (s.write d ds).1,.int .i64 (s.write d ds).2.1]∧∃ L',KernO w' gk (s.write d ds).2.2 L'∧KStep w w' L L':=by
 refine C153 ?_
 unfold L153
 intro w1
 have hb1:Blk w1 w.heap.size #[pd gk,.int .i64 d]:=Blk.alloc _ _ _
 have hk1:Kept No w w1:=Kept.alloc _ _ _
 clear_value w1
 refine ⟨_,(hb1.cell 0).trans rfl,_,(hb1.cell 1).trans rfl,CallR.mono (kernWrite_ok (h.no hk1) d (hd.keep hk1 fun _ _ _ e=>e) hap hc) ?_⟩
 rintro v w2 ⟨rfl,L',h2,st⟩
 exact ⟨_,_,rfl,rfl,L',h2,st.fresh hk1⟩
theorem tup2 {x y e:Int} (h:x=y):(.tuple #[.int .i64 x,.int .i64 e]:Value)=.tuple #[.int .i64 y,.int .i64 e]:=by rw [h]
theorem rput_ok {w:World} {gk:Nat} {s:AK} {L:KL} (h:KernO w gk s L) (d:Int) {a:Option Addr} {l c:Nat} {bs:List Int} (hb:RdB w a l c bs) (hold:bs≠[]→∀ z,z< w.heap.size→inA a z→L.own z=none) (hc:s.c1≤4611686000000000000) :
 CallR Tryz.prog 228 [hv gk d,.slice a l c] w fun v w'=>v=.tuple #[.int .i64 (s.rput d bs).1,.int .i64 (s.rput d bs).2.1]∧∃ L',KernO w' gk (s.rput d bs).2.2 L'∧KStep w w' L L':=by
 refine C228 ?_
 unfold L228
 have hlen:=hb.len
 have hr:s.rput d bs=if 1048576< bs.length then (0,5,s) else AK.putN (8192 * bs.length+8193) s d bs 0 0:=rfl
 refine ⟨_,_,hv_nil,condFa2 (condP (fun e=>?_) (fun e=>?_))⟩
 ·rw [hr,if_pos (by omega)]; exact ⟨rfl,L,h,KStep.refl _ _⟩
 rw [if_neg (by omega)] at hr
 intro w2
 have hb2:Blk w2 w.heap.size #[.int .i64 ((0:Nat):Int)]:=Blk.alloc _ _ _
 have hk2:Kept No w w2:=Kept.alloc _ _ _
 clear_value w2
 have h2:=h.no hk2
 have hz2:=hb2.lt
 have hcl:l≤c:=hb.2.1
 refine ⟨fun vs w3=>∃ (ar:Option Addr) (done p k:Nat) (s':AK) (L':KL),vs=[.slice ar (l - done) (c - done)]∧RdB w ar (l - done) (c - done) (bs.drop done)∧(∀ z,inA ar z→inA a z)∧done≤l∧p< 8192∧s.rput d bs=AK.putN k s' d bs done p∧8192 * (l - done)+(8192 - p)< k∧k≤8192 * l+8193∧KernO w3 gk s' L'∧KStep w w3 L L'∧L'.own w.heap.size=none∧Blk w3 w.heap.size #[.int .i64 (p:Int)]∧s'.c1+(k:Int)≤s.c1+(8192 * (l:Int)+8193),
  fun vs w'=>match vs with | [.slice _ l' _]=>8192 * l'+mu0 w.heap.size w' | _=>0,
  ⟨a,0,0,8192 * l+8193,s,L,rfl,hb,fun z hz=>hz,by omega,by omega,by rw [hr,hlen],by omega,by omega,h2,.of_no hk2,h.new_none (Nat.le_refl _),hb2,by omega⟩,?_⟩
 rintro _ a6 l6 c6 w3 ⟨ar,done,p,k,s',L',hvs,hbr,har,hdone,hp,hrel,hk,hkm,h3,st3,hpo,hb3,hc3⟩
 simp only [List.cons.injEq,Value.slice.injEq,and_true] at hvs
 obtain ⟨rfl,rfl,rfl⟩:=hvs
 obtain ⟨k',rfl⟩:∃ k',k=k'+1:=⟨k - 1,by omega⟩
 rw [AK.putN_succ] at hrel
 have hz3:=st3.size
 refine condP (fun hlt=>?_) (fun hge=>?_)
 ·rw [if_neg (by omega)] at hrel
  have hk4:Kept No w3 w3.drew:=Kept.drew _ _
  intro w4
  have hk4:Kept No w3 w4:=Kept.drew _ _
  clear_value w4
  refine ⟨hv_nilM,?_⟩
  intro w5
  have hk5:Kept No w4 w5:=Kept.alloc _ _ _
  have hs5:SlO 1 w5 (some ⟨w4.heap.size,0,none⟩) 0 0 (By []):=SlO.of_blk (Blk.alloc w4 #[] _) (by simp)
  have hz5:w5.heap.size=w4.heap.size+1:=by simp [w5]
  clear_value w5
  have k5:=hk4.no hk5
  have hne0:bs≠[]:=fun e=>by rw [e] at hlen; simp at hlen; omega
  have hrest:RdB w5 a6 (l - done) (c - done) (bs.drop done):=(hbr.keep st3.kept fun z hz hin e=>e (hold hne0 z hz (har z hin))).keep k5 fun _ _ _ e=>e
  have hrl:(bs.drop done).length=l - done:=by rw [List.length_drop]; omega
  obtain ⟨a7,c7,w6,hrun,hs6,hk6,hat,_⟩:=run_app_sl (P:=Tryz.prog) (t:=34) (t2:=34) (ty:=34) (by kernel_rfl:slTyB Tryz.prog 34 1 1=true) (by kernel_rfl) hs5 (hrest:RdS 1 w5 a6 (l - done) (c - done) (By (bs.drop done))) (By_one _) (by omega) (by omega)
  simp only [Nat.zero_add] at hrun hs6
  rw [show By [] ++ By (bs.drop done)=By (bs.drop done) from rfl] at hs6
  have k6:Kept No w3 w6:=k5.fresh hk6 fun x e=>by rw [inA_some] at e; have:=hk4.size; omega
  have h6:=h3.no k6
  have hz4:=hk4.size
  have ha7:∀ z,inA a7 z→L'.own z=none:=fun z hz=>h3.new_none (by
   rcases hat.in hz with e | e
   ·rw [inA_some] at e; omega
   ·omega)
  refine ⟨_,_,_,w6,hrun,_,_,_,hv_write #[.slice a7 (l - done) c7],CallR.mono (hwrite_ok h6 d (SlO.rd hs6) (fun _=>ha7) (by omega)) ?_⟩
  rintro v w8 ⟨rfl,L8,h8,st8⟩
  obtain ⟨_,_,hcw,_⟩:=AK.write_cs s' d (bs.drop done)
  generalize hgw:s'.write d (bs.drop done)=r at hrel h8 hcw ⊢
  obtain ⟨rn,re,rs⟩:=r
  dsimp only at hrel h8 hcw ⊢
  have hb8:Blk w8 w.heap.size #[.int .i64 (p:Int)]:=(hb3.keep k6 fun e=>e).keep st8.kept fun e=>e hpo
  have hpo8:L8.own w.heap.size=none:=by
   have:=hb3.lt
   have:=k6.size
   cases ho:L8.own w.heap.size with
   | none=>rfl
   | some t=>
    exfalso
    rcases st8.grew w.heap.size (by rw [ho]; simp) with e | e
    ·exact e hpo
    ·omega
  have st38:=(st3.no k6).trans st8
  refine ⟨_,_,rfl,⟨by omega,by omega⟩,fun vs w'=>∃ b:Bool,vs=[.bool b]∧w'=w8∧b=decide (re=22∨re=23∨(re=0∧rn=0)),?_,?_⟩
  ·refine pass_to ⟨_,rfl,condP (fun h1=>⟨_,rfl,rfl,?_⟩) (fun h1=>condI (fun h2=>⟨_,rfl,rfl,?_⟩) (fun h2=>⟨_,rfl,rfl,?_⟩))⟩
   ·rw [decide_eq_true h1,decide_eq_true]; omega
   ·have h2:re=0:=by simpa using h2
    by_cases h3:rn=0
    ·rw [decide_eq_true (.inr (.inr ⟨h2,h3⟩):re=22∨re=23∨(re=0∧rn=0))]; simp [h3]
    ·rw [decide_eq_false (by omega:¬ (re=22∨re=23∨(re=0∧rn=0)))]; simp [h3]
   ·have h2:¬ re=0:=by simpa using h2
    rw [decide_eq_false (by omega:¬ (re=22∨re=23∨(re=0∧rn=0)))]
  ·rintro _ b16 w10 ⟨b,hbv,rfl,hbe⟩
   simp only [List.cons.injEq,Value.bool.injEq,and_true] at hbv
   subst hbv
   subst hbe
   refine condP (fun hpass=>?_) (fun hpass=>?_)
   ·rw [if_pos hpass] at hrel
    refine CallR.mono (out_ok hb8 (by omega)) ?_
    rintro v w11 ⟨rfl,hb11,hk11⟩
    have h11:KernO w11 gk rs L8:=h8.keep hk11 fun x e=>by rw [e]; exact hpo8
    have st11:=st38.own hk11 (Nat.le_refl _)
    refine ⟨_,rfl,condP (fun hge=>?_) (fun hlt2=>?_)⟩
    ·rw [if_pos hge] at hrel
     rw [hrel]
     exact ⟨tup2 (by omega),L8,h11,st11⟩
    ·rw [if_neg hlt2] at hrel
     refine ⟨⟨a6,done,p+1,k',rs,L8,rfl,hbr,har,hdone,by omega,hrel,by omega,by omega,h11,st11,hpo8,hb11,by omega⟩,?_⟩
     show 8192 * (l - done)+mu0 _ w11< 8192 * (l - done)+mu0 _ w3
     rw [mu0_of hb11,mu0_of hb3]
     omega
   ·rw [if_neg hpass] at hrel
    refine condN (fun hne=>?_) (fun he=>?_)
    ·rw [if_pos hne] at hrel
     rw [hrel]
     exact ⟨tup2 (by omega),L8,h8,st38⟩
    rw [if_neg (fun e=>e he)] at hrel
    have bad:rn< 0∨((bs.drop done).length:Int)< rn→(.tuple #[.int .i64 (((l:Nat):Int) - (((l - done:Nat)):Int)),.int .i64 82]:Value)=.tuple #[.int .i64 (s.rput d bs).1,.int .i64 (s.rput d bs).2.1]∧∃ L',KernO w10 gk (s.rput d bs).2.2 L'∧KStep w w10 L L':=by
     intro hb
     rw [if_pos hb] at hrel
     rw [hrel]
     exact ⟨tup2 (by omega),L8,h8,st38⟩
    refine condP (fun h1=>bad (.inl h1)) (fun h1=>condP (fun h2=>bad (.inr (by omega))) (fun h2=>?_))
    rw [if_neg (by omega)] at hrel
    have hrn:rn≠0:=fun e=>hpass (.inr (.inr ⟨he,e⟩))
    refine ⟨⟨by omega,by omega⟩,stC_blk hb8 (by simp) fun w12 hb12 hk12 hs12=>?_⟩
    have hb12:Blk w12 w.heap.size #[.int .i64 ((0:Nat):Int)]:=by simpa using hb12
    refine ⟨⟨adv a6 rn.toNat (c - done) 1,done+rn.toNat,0,k',rs,L8,?_,?_,fun z hz=>har z (inA_adv.1 hz),by omega,by omega,hrel,by omega,by omega,h8.keep hk12 fun x e=>by rw [e]; exact hpo8,st38.own hk12 (Nat.le_refl _),hpo8,hb12,by omega⟩,?_⟩
    ·rw [show l - done - rn.toNat=l - (done+rn.toNat) by omega,show c - done - rn.toNat=c - (done+rn.toNat) by omega]
    ·have:=hbr.from rn.toNat (by omega)
     rw [List.drop_drop,show l - done - rn.toNat=l - (done+rn.toNat) by omega,show c - done - rn.toNat=c - (done+rn.toNat) by omega] at this
     exact this
    ·show 8192 * (l - done - rn.toNat)+mu0 _ w12< 8192 * (l - done)+mu0 _ w3
     rw [mu0_of hb12,mu0_of hb3]
     omega
 ·rw [if_pos (by omega)] at hrel
  rw [hrel]
  exact ⟨by rw [hlen],L',h3,st3⟩
theorem lay_end0 (bs ds:List Int):lay bs bs.length ds=bs ++ ds:=by
 refine ext_getD' (by rw [lay_len,List.length_append]; omega) fun k hk=>?_
 rw [lay_getD,List.getD_eq_getElem?_getD,List.getD_eq_getElem?_getD,List.getD_eq_getElem?_getD,List.getElem?_append]
 by_cases h:k< bs.length
 ·rw [if_neg (by omega),if_pos h]
 ·rw [lay_len] at hk
  rw [if_pos (by omega),if_neg h]
theorem take_app_drop (xs:List Int) (i m:Nat):xs.take i ++ (xs.drop i).take m=xs.take (i+m):=(List.take_add).symm
namespace AK
structure RFr (d:Int) (s s':AK):Prop where
 files:s'.files=s.files
 terms:s'.terms=s.terms
 objs:s'.objs=s.objs
 desc:∀ d',d'≠d→s'.desc d'=s.desc d'
 next:s'.next=s.next
 c1:s'.c1=s.c1
theorem RFr.refl (d:Int) (s:AK):RFr d s s:=⟨rfl,rfl,rfl,fun _ _=>rfl,rfl,rfl⟩
theorem RFr.trans {d:Int} {s s1 s2:AK} (h:RFr d s s1) (k:RFr d s1 s2):RFr d s s2:=
 ⟨k.files.trans h.files,k.terms.trans h.terms,k.objs.trans h.objs,fun d' hd=>(k.desc d' hd).trans (h.desc d' hd),k.next.trans h.next,k.c1.trans h.c1⟩
theorem read_fr {s:AK} {d n:Int} {i:Nat} {bs:List Int} {fl at_:Int} (h:FD s d i bs fl at_) (hb:bitI fl 1=1) (h1:1≤n) (h2:n≤1048576):RFr d s (s.read d n).2.2:=by
 obtain ⟨hd,hx⟩:=h.ex
 rw [read_file hx h.ob hb h1 h2]
 split
 ·exact ⟨rfl,rfl,rfl,fun _ _=>rfl,rfl,rfl⟩
 ·exact ⟨rfl,rfl,rfl,fun d' hd'=>desc_setD_ne (s:=s.met0) hd',rfl,rfl⟩
theorem someN_fr:∀ (k:Nat) {s:AK} {d n:Int} {i:Nat} {bs:List Int} {fl at_:Int},FD s d i bs fl at_→bitI fl 1=1→1≤n→n≤1048576→RFr d s (someN k s d n).2.2
 | 0,s,d,n,i,bs,fl,at_,h,hb,h1,h2=>.refl _ _
 | k+1,s,d,n,i,bs,fl,at_,h,hb,h1,h2=>by
  have hr:=read_fr h hb h1 h2
  unfold someN
  split
  ·rename_i he
   obtain ⟨r1,r2⟩:=read_fd h hb h1 h2
   by_cases hz:(metF s.ps n).2≠0
   ·rw [r1 hz] at hr ⊢
    obtain ⟨hd,hx⟩:=h.ex
    have h':FD s.met0 d i bs fl at_:=⟨⟨hd,hx⟩,h.ob,h.a0⟩
    exact hr.trans (someN_fr k h' hb h1 h2)
   ·obtain ⟨_,q2,_⟩:=r2 (Decidable.not_not.1 hz)
    rw [q2] at he; omega
  ·exact hr
theorem rsome_fr {s:AK} {d n:Int} {i:Nat} {bs:List Int} {fl at_:Int} (h:FD s d i bs fl at_) (hb:bitI fl 1=1) (h1:1≤n) (h2:n≤1048576):RFr d s (s.rsome d n).2.2:=by
 unfold rsome
 rw [if_neg (by omega)]
 exact someN_fr 8192 h hb h1 h2
theorem FD.fr {s s':AK} {d':Int} {i:Nat} {bs:List Int} {fl at_ d:Int} (h:FD s d' i bs fl at_) (f:RFr d s s') (hd:d'≠d):FD s' d' i bs fl at_:=by
 obtain ⟨hd2,hx⟩:=h.ex
 exact ⟨⟨hd2,(f.desc d' hd).trans hx⟩,by rw [f.objs]; exact h.ob,h.a0⟩
theorem putAr2 {X done m l:Nat} (h:l=X - done) (h2:m≤l) (hd:done≤X):done+m≤X:=by omega
end AK
namespace AK
structure KW (s:AK) (c:List Int):Prop where
 w:FD s 1 0 c 26 (c.length:Int)
 pm:∀ p ∈ s.ps,mayP p
 pl:s.ps.length≤4096
 c1:s.c1+(s.ps.length:Int)≤(c.length:Int)+4096
structure WFr (s s':AK):Prop where
 files:s'.files=s.files
 terms:s'.terms=s.terms
 objs:∀ j,j≠0→s'.objs j=s.objs j
 desc:∀ d,d≠1→s'.desc d=s.desc d
 next:s'.next=s.next
 c0:s'.c0=s.c0
 ps:s'.ps.length≤s.ps.length
 len:s'.descs.length=s.descs.length
theorem WFr.refl (s:AK):WFr s s:=⟨rfl,rfl,fun _ _=>rfl,fun _ _=>rfl,rfl,rfl,Nat.le_refl _,rfl⟩
theorem WFr.trans {s s1 s2:AK} (h:WFr s s1) (k:WFr s1 s2):WFr s s2:=
 ⟨k.files.trans h.files,k.terms.trans h.terms,fun j hj=>(k.objs j hj).trans (h.objs j hj),fun d hd=>(k.desc d hd).trans (h.desc d hd),k.next.trans h.next,k.c0.trans h.c0,Nat.le_trans k.ps h.ps,k.len.trans h.len⟩
theorem len_setD (s:AK) (d a h:Int):(s.setD d a h).descs.length=s.descs.length:=by unfold setD; simp
theorem ne_len {α:Type} {l:List α} (h:l≠[]):1≤l.length:=by
 cases l with
 | nil=>exact absurd rfl h
 | cons a r=>simp
theorem KW.putN:∀ (k:Nat) {s:AK} {c x:List Int} {done p:Nat},KW s (c ++ x.take done)→done≤x.length→c.length+x.length≤1048576→p+s.ps.length< 8192→8192 * (x.length - done)+(8192 - p)≤k→
 ∃ s',AK.putN k s 1 x done p=((x.length:Int),0,s')∧KW s' (c ++ x)∧WFr s s'
 | 0,s,c,x,done,p,h,hd,hx,hpp,hk=>by omega
 | k+1,s,c,x,done,p,h,hd,hx,hpp,hk=>by
  rw [putN_succ]
  by_cases hdone:x.length≤done
  ·rw [if_pos hdone]
   refine ⟨s,rfl,?_,WFr.refl _⟩
   rw [List.take_of_length_le hdone] at h
   exact h
  ·rw [if_neg hdone]
   have hrl:(x.drop done).length=x.length - done:=List.length_drop
   have hcl:(c ++ x.take done).length=c.length+done:=by rw [List.length_append,List.length_take]; omega
   have hw0:=h.w
   rw [hcl] at hw0
   obtain ⟨w1,w2⟩:=write_fd (at_:=c.length+done) hw0 (by kernel_rfl) (by kernel_rfl) (ds:=x.drop done) (fun e=>by rw [e] at hrl; simp at hrl; omega) (by omega) (by omega) h.pm
   have hdp:∀ p ∈ s.ps.drop 1,mayP p:=fun p hq=>h.pm p (List.mem_of_mem_drop hq)
   have hc1:=h.c1
   rw [hcl] at hc1
   rcases metF_ok h.pm (n:=((x.drop done).length:Int)) (by omega) with ⟨e,_,_⟩ | ⟨_,e,hne⟩
   ·obtain ⟨m,hm,m1,m2,hd2,hdx,hw⟩:=w2 e
    rw [hw]
    dsimp only
    rw [if_neg (by omega),if_neg (by omega),if_neg (by omega)]
    have hfd:=FD.of_write (s:=s) (d:=1) (i:=0) (bs:=c ++ x.take done) (bs2:=lay (c ++ x.take done) (c.length+done) ((x.drop done).take m)) (m:=m) hdx
    have hl2:lay (c ++ x.take done) (c.length+done) ((x.drop done).take m)=c ++ x.take (done+m):=by
     have:=lay_end0 (c ++ x.take done) ((x.drop done).take m)
     rw [hcl] at this
     rw [this,List.append_assoc,take_app_drop]
    rw [hl2] at hfd ⊢
    have htn:done+Int.toNat (m:Int)=done+m:=by omega
    rw [htn]
    have hA:done+m≤x.length:=putAr2 hrl m2 hd
    clear hm hw w1 w2
    have hcl2:(c ++ x.take (done+m)).length=c.length+(done+m):=by rw [List.length_append,List.length_take,Nat.min_eq_left hA]
    generalize hs2:(s.met1.setO 0 (.file (c ++ x.take (done+m)))).setD 1 (((c.length+done:Nat):Int)+(m:Int)) hd2=s2 at hfd ⊢
    have hps:s2.ps=s.ps.drop 1:=by rw [← hs2]; rfl
    have hpl:s2.ps.length=s.ps.length - 1:=by rw [hps,List.length_drop]
    have hcc:s2.c1=s.c1+1:=by rw [← hs2]; rfl
    have hfr:WFr s s2:=by
     rw [← hs2]
     exact ⟨rfl,rfl,fun j hj=>objs_setO_ne _ _ hj,fun d hd=>(desc_setD_ne (s:=s.met1.setO 0 (.file (c ++ x.take (done+m)))) hd).trans rfl,rfl,rfl,by show (s.ps.drop 1).length≤_; rw [List.length_drop]; omega,by rw [len_setD]; rfl⟩
    have hkw:KW s2 (c ++ x.take (done+m)):=⟨by rw [hcl2]; rw [show c.length+(done+m)=c.length+done+m by omega]; exact hfd,by rw [hps]; exact hdp,by rw [hpl]; have:=h.pl; omega,by rw [hcl2,hpl,hcc]; have:=h.pl; omega⟩
    obtain ⟨s',r1,r2,r3⟩:=KW.putN k (p:=0) hkw (by omega) hx (by rw [hpl]; omega) (by omega)
    exact ⟨s',r1,r2,hfr.trans r3⟩
   ·have hz:(metF s.ps ((x.drop done).length:Int)).2≠0:=by omega
    rw [w1 hz]
    dsimp only
    have hl:1≤s.ps.length:=ne_len hne
    rw [if_pos (by omega),if_neg (by omega)]
    obtain ⟨hd2,hdx⟩:=h.w.ex
    have hpl:s.met1.ps.length=s.ps.length - 1:=by show (s.ps.drop 1).length=_; rw [List.length_drop]
    have hcc:s.met1.c1=s.c1+1:=rfl
    have h':KW s.met1 (c ++ x.take done):=⟨⟨⟨hd2,hdx⟩,h.w.ob,h.w.a0⟩,hdp,by rw [hpl]; have:=h.pl; omega,by rw [hpl,hcc,hcl]; omega⟩
    clear w1 w2
    obtain ⟨s',r1,r2,r3⟩:=KW.putN k (p:=p+1) h' hd hx (by rw [hpl]; omega) (by omega)
    have hfr:WFr s s.met1:=⟨rfl,rfl,fun _ _=>rfl,fun _ _=>rfl,rfl,rfl,by rw [hpl]; omega,rfl⟩
    exact ⟨s',r1,r2,hfr.trans r3⟩
theorem KW.put {s:AK} {c:List Int} (h:KW s c) (x:List Int) (hx:c.length+x.length≤1048576):∃ s',s.rput 1 x=((x.length:Int),0,s')∧KW s' (c ++ x)∧WFr s s':=by
 unfold rput
 rw [if_neg (by omega)]
 have hp:=h.pl
 exact KW.putN (8192 * x.length+8193) (done:=0) (p:=0) (by simpa using h) (by omega) hx (by omega) (by omega)
structure K2 (s:AK) (c:List Int) (q:Nat):Prop where
 kw:KW s c
 r:FD s 2 0 c 1 (q:Int)
 qc:q≤c.length
 c0:s.c0+(s.ps.length:Int)≤(q:Int)+4096
theorem K2.put {s:AK} {c:List Int} {q:Nat} (h:K2 s c q) (x:List Int) (hx:c.length+x.length≤1048576):∃ s',s.rput 1 x=((x.length:Int),0,s')∧K2 s' (c ++ x) q∧WFr s s':=by
 obtain ⟨s',h1,h2,h3⟩:=h.kw.put x hx
 obtain ⟨hd,hy⟩:=h.r.ex
 have hq:=h.qc
 have hc:=h.c0
 have hps:=h3.ps
 refine ⟨s',h1,⟨h2,⟨⟨hd,(h3.desc 2 (by omega)).trans hy⟩,h2.w.ob,h.r.a0⟩,by rw [List.length_append]; omega,by rw [h3.c0]; omega⟩,h3⟩
theorem K2.some {s:AK} {c:List Int} {q:Nat} (h:K2 s c q) (hq:q< c.length) {n:Int} (h1:1≤n) (h2:n≤1048576) :
 ∃ bs s',s.rsome 2 n=(bs,0,s')∧bs≠[]∧(bs.length:Int)≤n∧c.drop q=bs ++ c.drop (q+bs.length)∧K2 s' c (q+bs.length):=by
 obtain ⟨m,m1,m2,r1,r2,r3,r4,r5,r6,r7,r8⟩:=rsome_fd h.r (by kernel_rfl) h1 h2 h.kw.pm h.kw.pl
 have fr:=rsome_fr h.r (by kernel_rfl) h1 h2
 have hp:piece c (q:Int) m=(c.drop q).take m.toNat:=by unfold piece; rw [Int.toNat_natCast]
 rw [hp] at r1 r3
 have hlen:((c.drop q).take m.toNat).length=min m.toNat (c.length - q):=by rw [List.length_take,List.length_drop]
 generalize hb:(c.drop q).take m.toNat=bs at r1 r3 hlen
 have hbt:bs=(c.drop q).take bs.length:=by rw [hlen,← hb,← List.length_drop]; simp
 have hps:(s.rsome 2 n).2.2.ps.length≤s.ps.length:=r5
 refine ⟨bs,(s.rsome 2 n).2.2,?_,?_,by omega,?_,?_⟩
 ·rw [← r1,← r2]
 ·intro e; rw [e] at hlen; simp at hlen; omega
 ·conv=>lhs; rw [← List.take_append_drop bs.length (c.drop q)]
  rw [← hbt,List.drop_drop]
 ·have hw:=h.kw.w
  have hc:=h.c0
  have hc1:=h.kw.c1
  have hpl:=h.kw.pl
  refine ⟨⟨hw.fr fr (by omega),r4,by omega,by rw [r7]; omega⟩,?_,by omega,by omega⟩
  have:((q+bs.length:Nat):Int)=(q:Int)+(bs.length:Int):=by omega
  rw [this]
  exact r3
theorem seek_at {s:AK} {c:List Int} {wh:Int} (h:KW s c) (hl:c.length≤1048576) {off:Int} (ho:(wh=1∧off=0)∨(wh=0∧off=(c.length:Int))):∃ hd,s.seek 1 off wh=((c.length:Int),0,s.setD 1 (c.length:Int) hd)∧s.desc 1=some ⟨1,0,26,(c.length:Int),hd⟩:=by
 obtain ⟨hd,hx⟩:=h.w.ex
 refine ⟨hd,?_,hx⟩
 unfold seek
 rw [if_neg (fun e=>e (find_of hx (bit0 _))),hx]
 dsimp only
 rw [show s.objs 0=.file c from h.w.ob]
 dsimp only
 rcases ho with ⟨rfl,rfl⟩ | ⟨rfl,rfl⟩
 ·rw [if_neg (by omega),if_neg (by omega),if_pos rfl,if_neg (by omega),Int.add_zero]
 ·rw [if_neg (by omega),if_pos rfl,if_neg (by omega),Int.zero_add]
theorem KW.seek {s:AK} {c:List Int} (h:KW s c) (hl:c.length≤1048576) {off wh:Int} (ho:(wh=1∧off=0)∨(wh=0∧off=(c.length:Int))):∃ s',s.seek 1 off wh=((c.length:Int),0,s')∧KW s' c∧WFr s s':=by
 obtain ⟨hd,h1,hx⟩:=seek_at h hl ho
 refine ⟨_,h1,⟨⟨⟨hd,desc_setD_same hx⟩,h.w.ob,h.w.a0⟩,h.pm,h.pl,h.c1⟩,⟨rfl,rfl,fun _ _=>rfl,fun d hd=>desc_setD_ne hd,rfl,rfl,Nat.le_refl _,len_setD _ _ _ _⟩⟩
theorem K2.seek {s:AK} {c:List Int} {q:Nat} (h:K2 s c q) (hl:c.length≤1048576) {off wh:Int} (ho:(wh=1∧off=0)∨(wh=0∧off=(c.length:Int))):∃ s',s.seek 1 off wh=((c.length:Int),0,s')∧K2 s' c q∧WFr s s':=by
 obtain ⟨s',h1,h2,h3⟩:=h.kw.seek hl ho
 obtain ⟨hd,hy⟩:=h.r.ex
 have hc:=h.c0
 have hps:=h3.ps
 exact ⟨s',h1,⟨h2,⟨⟨hd,(h3.desc 2 (by omega)).trans hy⟩,h2.w.ob,h.r.a0⟩,h.qc,by rw [h3.c0]; omega⟩,h3⟩
structure WrK (N:Nat) (d:Int) (F:List Int→AK→Prop):Prop where
 put:∀ c s x,F c s→c.length+x.length≤N→∃ s',s.rput d x=((x.length:Int),0,s')∧F (c ++ x) s'
 cnt:∀ c s,F c s→c.length≤N→s.c1≤4611686000000000000
structure RdK (d:Int) (R:List Int→AK→Prop):Prop where
 some:∀ r s n,R r s→r≠[]→1≤n→n≤1048576→∃ bs r' s',s.rsome d n=(bs,0,s')∧bs≠[]∧(bs.length:Int)≤n∧r=bs ++ r'∧R r' s'
 cnt:∀ r s,R r s→s.c0≤4611686000000000000
theorem wrK2 (q:Nat):WrK 1048576 1 (fun c s=>K2 s c q):=
 ⟨fun c s x h hx=>let ⟨s',h1,h2,_⟩:=h.put x hx; ⟨s',h1,h2⟩,fun c s h hc=>by have:=h.kw.c1; omega⟩
theorem rdK2 {c:List Int} (hc:c.length≤1048576):RdK 2 (fun r s=>∃ q,r=c.drop q∧K2 s c q):=
 ⟨fun r s n ⟨q,hr,h⟩ hne h1 h2=>by
  have hq:q< c.length:=by
   have:=ne_len hne
   rw [hr,List.length_drop] at this
   omega
  obtain ⟨bs,s',g1,g2,g3,g4,g5⟩:=h.some hq h1 h2
  exact ⟨bs,_,s',g1,g2,g3,by rw [hr]; exact g4,_,rfl,g5⟩,fun r s ⟨q,_,h⟩=>by have:=h.c0; have:=h.qc; omega⟩
end AK
structure XStep (T:Nat→Prop) (w w':World) (L L':KL):Prop where
 kept:Kept (fun z=>L.own z≠none∨T z) w w'
 grew:∀ z,L'.own z≠none→L.own z≠none∨w.heap.size≤z
theorem XStep.refl (T:Nat→Prop) (w:World) (L:KL):XStep T w w L L:=⟨Kept.refl _ _,fun _ h=>.inl h⟩
theorem XStep.of_no {T:Nat→Prop} {w w':World} {L:KL} (k:Kept No w w'):XStep T w w' L L:=⟨k.mono fun _ _ e=>e.elim,fun _ h=>.inl h⟩
theorem XStep.of_k {T:Nat→Prop} {w w':World} {L L':KL} (k:KStep w w' L L'):XStep T w w' L L':=⟨k.kept.mono fun _ _ e=>.inl e,k.grew⟩
theorem XStep.of_t {T:Nat→Prop} {w w':World} {L:KL} (k:Kept T w w'):XStep T w w' L L:=⟨k.mono fun _ _ e=>.inr e,fun _ h=>.inl h⟩
theorem XStep.mono {T T':Nat→Prop} {w w':World} {L L':KL} (h:XStep T w w' L L') (ht:∀ z,z< w.heap.size→T z→T' z):XStep T' w w' L L':=
 ⟨h.kept.mono fun z hz e=>e.imp id (ht z hz),h.grew⟩
theorem XStep.size {T:Nat→Prop} {w w':World} {L L':KL} (h:XStep T w w' L L'):w.heap.size≤w'.heap.size:=h.kept.size
theorem XStep.trans {T:Nat→Prop} {w w1 w2:World} {L L1 L2:KL} (h:XStep T w w1 L L1) (k:XStep T w1 w2 L1 L2):XStep T w w2 L L2:=
 ⟨h.kept.trans k.kept fun x hx e=>by
  rcases e with e | e
  ·rcases h.grew x e with e | e
   ·exact .inl e
   ·omega
  ·exact .inr e,fun z hz=>by
  rcases k.grew z hz with e | e
  ·exact h.grew z e
  ·exact .inr (Nat.le_trans h.kept.size e)⟩
theorem XStep.own {T:Nat→Prop} {w w':World} {L L':KL} (h:XStep T w w' L L') {z:Nat} (hz:L.own z=none) (hl:z< w.heap.size):L'.own z=none:=by
 cases ho:L'.own z with
 | none=>rfl
 | some t=>
  exfalso
  rcases h.grew z (by rw [ho]; simp) with e | e
  ·exact e hz
  ·omega
theorem XStep.priv {T:Nat→Prop} {w w1 w2:World} {L L1:KL} (h:XStep T w w1 L L1) {S:Nat→Prop} (k:Kept S w1 w2) (hS:∀ x,S x→T x∨w.heap.size≤x):XStep T w w2 L L1:=
 ⟨h.kept.trans k fun x hx e=>by
  rcases hS x e with e | e
  ·exact .inr e
  ·omega,h.grew⟩
theorem XStep.no {T:Nat→Prop} {w w1 w2:World} {L L1:KL} (h:XStep T w w1 L L1) (k:Kept No w1 w2):XStep T w w2 L L1:=h.trans (.of_no k)
theorem XStep.k {T:Nat→Prop} {w w1 w2:World} {L L1 L2:KL} (h:XStep T w w1 L L1) (k:KStep w1 w2 L1 L2):XStep T w w2 L L2:=h.trans (.of_k k)
theorem XStep.narrow {T:Nat→Prop} {w w0 w1:World} {L L1:KL} (h0:Kept No w w0) (h:XStep T w0 w1 L L1) (hT:∀ z,T z→w.heap.size≤z):KStep w w1 L L1:=by
 refine ⟨(h0.mono fun _ _ e=>e.elim).trans h.kept fun x hx e=>?_,fun z hz=>?_⟩
 ·rcases e with e | e
  ·exact e
  ·have:=hT x e; omega
 ·rcases h.grew z hz with e | e
  ·exact .inl e
  ·have:=h0.size; exact .inr (by omega)
def Off (L:KL) (a:Option Addr):Prop:=∀ z,inA a z→L.own z=none
theorem Off.nil (L:KL):Off L none:=fun z hz=>absurd hz (inA_none z)
theorem Off.step {T:Nat→Prop} {w w':World} {L L':KL} {a:Option Addr} (h:Off L a) (st:XStep T w w' L L') (hl:∀ z,inA a z→z< w.heap.size):Off L' a:=fun z hz=>st.own (h z hz) (hl z hz)
theorem Off.fresh {w:World} {gk:Nat} {s:AK} {L:KL} (h:KernO w gk s L) {a:Option Addr} (hf:Fresh w a):Off L a:=fun z hz=>h.new_none (hf z hz)
end Go.Proofs.YteojolihgijdhaaGreatDoor
namespace Go.Lw
theorem Blk.no' {w w':World} {g:Nat} {cur:Array Value} (h:Blk w g cur) (k:Kept No w w'):Blk w' g cur:=h.keep k fun e=>e
end Go.Lw
namespace Go.Proofs.YteojolihgijdhaaGreatDoor
open Go.Lw
theorem clone3_ok {w:World} {a:Option Addr} {l c:Nat} {bs:List Int} (h:RdB w a l c bs) (hl:l≤140737488355328) :
 CallR Tryz.prog 47 [.slice a l c] w fun v w'=>∃ a' c',v=.slice a' l c'∧OB w' a' l c' bs∧Kept No w w'∧Fresh w a':=by
 refine CallR.mono (clone_ok h hl) ?_
 rintro v w' ⟨a',c',rfl,h1,h2,h3,_⟩
 rw [h.len] at h1
 exact ⟨a',c',rfl,h1,h2,h3⟩
def cs12 (p:Pu) (s:Sl3) (v:Value):Array Value:=#[.bool p.r,.bool p.w,.int .i64 p.m,.int .i64 p.z,.slice s.oa s.ol s.oc,.slice s.ia s.il s.ic,.slice s.ka s.kl s.kc,.int .i64 p.d,.bool p.e,.bool p.b,.bool p.c,v]
theorem cs12_put {p:Pu} {s:Sl3} {v:Value} {a1 a2 a3:Option Addr} {l1 l2 l3 c1 c2 c3:Nat} :
 (((cs12 p s v).setIfInBounds 4 (.slice a1 l1 c1)).setIfInBounds 5 (.slice a2 l2 c2)).setIfInBounds 6 (.slice a3 l3 c3)=cs12 p ⟨a1,l1,c1,a2,l2,c2,a3,l3,c3⟩ v:=rfl
theorem begin_ok {w:World} {p:Pu} {s:Sl3} {t:TypeId} {u:Value} (h:Rd3 w s p) (hbd:Bd p) (hck:ckP p) (hc:p.c=false)
 (hnil:∀ w x y,Sem.run Tryz.prog (Sem.bind (eqGuard .eql 179 x y (.iface t u) .nilIface) (fun _=>binOp .eql 179 (.iface t u) .nilIface)) w=.ok (.bool false) w) :
 CallR Tryz.prog 192 [.agg (cs p s),.iface t u] w fun v w'=>∃ gw s',v=.tuple #[.pointer (some ⟨gw,0,none⟩),.int .i64 0]∧Blk w' gw (cs12 p s' (.iface t u))∧Ow3 w w' s' p∧w.heap.size≤gw∧(∀ b,inA s'.oa b∨inA s'.ia b∨inA s'.ka b→b≠gw)∧Kept No w w':=by
 refine C192 ?_
 unfold L192
 intro w1
 have hb1:Blk w1 w.heap.size (cs p s):=Blk.alloc _ _ _
 have hk1:Kept No w w1:=Kept.alloc _ _ _
 clear_value w1
 refine ld11 hb1 ?_
 intro w2
 have hb2:Blk w2 w1.heap.size (cs12 p s (.iface t u)):=Blk.alloc _ _ _
 have hk2:Kept No w1 w2:=Kept.alloc _ _ _
 clear_value w2
 have hb12:=hb1.no' hk2
 have k2:=hk1.no hk2
 have hlt1:=hb1.lt
 have hlt2:=hb2.lt
 obtain ⟨B1,B2,B3⟩:=hbd
 refine ⟨fun wS=>Blk wS w.heap.size (cs p s),hb12.drew,_,_,_,fun wS hS=>(hS.cell 4).trans rfl,_,_,_,fun wS hS=>(hS.cell 5).trans rfl,_,_,_,fun wS hS=>(hS.cell 6).trans rfl,?_⟩
 have hkd:Kept No w2 w2.drew:=Kept.drew _ _
 have h1:=h.no (k2.no hkd)
 refine CallR.mono (clone3_ok h1.1 (by rw [← h1.1.len]; omega)) ?_
 rintro v w6 ⟨a1,c1,rfl,ho1,hk6,hf1⟩
 have hb6:=(hb12.drew).no' hk6
 have h6:=h1.no hk6
 refine ⟨_,_,_,rfl,hb6,CallR.mono (clone3_ok h6.2.1 (by rw [← h1.2.1.len]; omega)) ?_⟩
 rintro v w7 ⟨a2,c2,rfl,ho2,hk7,hf2⟩
 have hb7:=hb6.no' hk7
 have h7:=h6.no hk7
 refine ⟨_,_,_,rfl,hb7,CallR.mono (clone3_ok h7.2.2 (by rw [← h1.2.2.len]; omega)) ?_⟩
 rintro v w8 ⟨a3,c3,rfl,ho3,hk8,hf3⟩
 have kd8:Kept No w2 w8:=((hkd.no hk6).no hk7).no hk8
 have hb8:=hb12.no' kd8
 have hb28:=hb2.no' kd8
 have l1:=ho1.lt
 have l2:=ho2.lt
 have y0:w2.drew.heap.size=w2.heap.size:=rfl
 have y1:w2.heap.size≤w6.heap.size:=by have:=hk6.size; omega
 have y2:w6.heap.size≤w7.heap.size:=hk7.size
 refine ⟨_,_,_,rfl,?_⟩
 refine stC_blk hb28 (by simp [cs12]) fun w9 h9 k9 s9=>?_
 refine stC_blk h9 (by simp [cs12]) fun w10 h10 k10 s10=>?_
 refine stC_blk h10 (by simp [cs12]) fun w11 h11 k11 s11=>?_
 rw [cs12_put] at h11
 have kx:Kept (·=w1.heap.size) w8 w11:=(k9.trans k10 fun _ _ e=>e).trans k11 fun _ _ e=>e
 have n1:∀ b,inA a1 b→b≠w1.heap.size:=fun b hb e=>by have:=hf1 b hb; omega
 have n2:∀ b,inA a2 b→b≠w1.heap.size:=fun b hb e=>by have:=hf2 b hb; omega
 have n3:∀ b,inA a3 b→b≠w1.heap.size:=fun b hb e=>by have:=hf3 b hb; omega
 have hO:Ow3 w w11 ⟨a1,s.ol,c1,a2,s.il,c2,a3,s.kl,c3⟩ p:=⟨⟨((ho1.keep hk7 fun _ _ e=>e).keep hk8 fun _ _ e=>e).keep kx n1,(ho2.keep hk8 fun _ _ e=>e).keep kx n2,ho3.keep kx n3⟩,
  ⟨fun b hb=>by have:=hf1 b hb; omega,fun b hb=>by have:=hf2 b hb; omega,fun b hb=>by have:=hf3 b hb; omega⟩,
  fun b hb=>⟨fun hb2=>by have:=hf3 b hb; have:=l2 b hb2; omega,fun hb2=>by have:=hf3 b hb; have:=l1 b hb2; omega⟩,fun b hb hb2=>by have:=hf2 b hb; have:=l1 b hb2; omega⟩
 have k11:Kept No w w11:=(k2.no kd8).fresh kx (fun x e=>by omega)
 have hb11:=hb8.keep kx (by omega)
 refine ld11 hb11 (CallR.mono (check_ok p s (h.no k11) ⟨B1,B2,B3⟩) ?_)
 rintro v w12 ⟨rfl,hk12⟩
 refine ⟨_,rfl,condF (by rw [if_pos hck]; rfl) ⟨_,_,hnil _ _ _,condF rfl ⟨_,((hb11.no' hk12).cell 10).trans rfl,condF hc ?_⟩⟩⟩
 refine ⟨w1.heap.size,_,rfl,h11.no' hk12,hO.no hk12,by omega,fun b hb=>?_,k11.no hk12⟩
 rcases hb with hb | hb | hb
 ·exact n1 b hb
 ·exact n2 b hb
 ·exact n3 b hb
abbrev In3 (s:Sl3) (b:Nat):Prop:=inA s.oa b∨inA s.ia b∨inA s.ka b
structure SO (w0:World) (L0:KL) (w:World) (gw:Nat) (p:Pu) (sl:Sl3) (v:Value) (gk:Nat) (s:AK) (L:KL):Prop where
 blk:Blk w gw (cs12 p sl v)
 own:Ow3 w0 w sl p
 ns:∀ b,In3 sl b→b≠gw∧L.own b=none
 ng:L.own gw=none
 ker:KernO w gk s L
 g0:w0.heap.size≤gw
 st:KStep w0 w L0 L
section
variable {w0 w w' : World} {L0 L : KL} {gw gk : Nat} {p : Pu} {sl : Sl3} {v : Value} {s : AK}
theorem Ow3.lt (h:Ow3 w0 w sl p):∀ b,In3 sl b→b< w.heap.size:=fun b hb=>by
 rcases hb with hb | hb | hb
 ·exact SlO.lt h.1.1 b hb
 ·exact SlO.lt h.1.2.1 b hb
 ·exact SlO.lt h.1.2.2 b hb
theorem SO.no (h:SO w0 L0 w gw p sl v gk s L) (k:Kept No w w'):SO w0 L0 w' gw p sl v gk s L:=
 ⟨h.blk.no' k,h.own.no k,h.ns,h.ng,h.ker.no k,h.g0,h.st.no k⟩
theorem SO.upd (h:SO w0 L0 w gw p sl v gk s L) {p':Pu} {sl':Sl3} (k:Kept (·=gw) w w') (hb:Blk w' gw (cs12 p' sl' v)) (ho:Ow3 w0 w sl' p') (hn:∀ b,In3 sl' b→b≠gw∧L.own b=none):SO w0 L0 w' gw p' sl' v gk s L:=
 ⟨hb,ho.keep k fun b hb e=>(hn b hb).1 e,hn,h.ng,h.ker.keep k fun x e=>by rw [e]; exact h.ng,h.g0,h.st.own k h.g0⟩
theorem SO.kstep (h:SO w0 L0 w gw p sl v gk s L) {s':AK} {L':KL} (hk:KernO w' gk s' L') (st:KStep w w' L L'):SO w0 L0 w' gw p sl v gk s' L':=
 ⟨h.blk.keep st.kept fun e=>e h.ng,h.own.keep st.kept fun b hb e=>e (h.ns b hb).2,fun b hb=>⟨(h.ns b hb).1,(XStep.of_k (T:=No) st).own (h.ns b hb).2 (h.own.lt b hb)⟩,
  (XStep.of_k (T:=No) st).own h.ng h.blk.lt,hk,h.g0,h.st.trans st⟩
theorem noted_ok (h:SO w0 L0 w gw p sl v gk s L) {e:Int} (he:e=0∨e=52) (hb:p.b=false):CallR Tryz.prog 229 [pd gw,.int .i64 e] w fun r w'=>r=.int .i64 e∧SO w0 L0 w' gw p sl v gk s L:=by
 refine C229 ?_
 unfold L229
 have hp:({ p with b:=false }:Pu)=p:=by cases p; simp only at hb; subst hb; rfl
 have fin:∀ w1,Blk w1 gw ((cs12 p sl v).setIfInBounds 9 (.bool false))→Kept (·=gw) w w1→SO w0 L0 w1 gw p sl v gk s L:=fun w1 h1 k1=>by
  refine h.upd k1 ?_ h.own h.ns
  have:(cs12 p sl v).setIfInBounds 9 (.bool false)=cs12 { p with b:=false } sl v:=rfl
  rw [this,hp] at h1
  exact h1
 refine nnI ⟨_,h.blk.at (i:=9) rfl,condF hb ?_⟩
 rcases he with rfl | rfl
 ·exact condF rfl (nnI (stC_at h.blk (i:=9) (by simp [cs12]) fun w1 h1 k1 s1=>⟨rfl,fin w1 h1 k1⟩))
 ·exact condT rfl (nnI (stC_at h.blk (i:=9) (by simp [cs12]) fun w1 h1 k1 s1=>⟨rfl,fin w1 h1 k1⟩))
end
theorem rput_ok' {w:World} {gk:Nat} {s:AK} {L:KL} (h:KernO w gk s L) (d:Int) {a:Option Addr} {l c:Nat} {bs:List Int} (hb:RdB w a l c bs) (hold:bs≠[]→∀ z,inA a z→L.own z=none) (hc:s.c1≤4611686000000000000) :
 CallR Tryz.prog 228 [hv gk d,.slice a l c] w fun v w'=>v=.tuple #[.int .i64 (s.rput d bs).1,.int .i64 (s.rput d bs).2.1]∧∃ L',KernO w' gk (s.rput d bs).2.2 L'∧KStep w w' L L':=
 rput_ok h d hb (fun hne z _ hz=>hold hne z hz) hc
section
variable {w0 w w' : World} {L0 L : KL} {gw gk : Nat} {p : Pu} {sl : Sl3} {s : AK} {d : Int} {N : Nat} {F : List Int → AK → Prop} {c : List Int}
theorem deliver_ok (h:SO w0 L0 w gw p sl (hv gk d) gk s L) (hbb:p.b=false) (wr:AK.WrK N d F) (hF:F c s) (hN:c.length+p.o.length≤N) :
 CallR Tryz.prog 193 [pd gw] w fun v w'=>v=.int .i64 0∧∃ sl' s' L',SO w0 L0 w' gw { p with o:=[] } sl' (hv gk d) gk s' L'∧F (c ++ p.o) s'∧sl'.ol=0:=by
 refine C193 ?_
 unfold L193
 intro w1
 have hk1:Kept No w w1:=Kept.drew _ _
 clear_value w1
 have h1:=h.no hk1
 obtain ⟨s',hr,hF'⟩:=wr.put c s p.o hF hN
 refine nnI ⟨_,h1.blk.at (i:=11) rfl,nnI ⟨_,_,_,h1.blk.at (i:=4) rfl,CallR.mono (rput_ok' h1.ker d h1.own.1.1.rd (fun _ z hz=>(h1.ns z (.inl hz)).2) (wr.cnt c s hF (by omega))) ?_⟩⟩
 rintro v w2 ⟨rfl,L2,hk2,st2⟩
 rw [hr] at hk2 ⊢
 have h2:=h1.kstep hk2 st2
 have hol:=h2.own.1.1.len
 have htn:Int.toNat ((p.o.length:Nat):Int)=p.o.length:=Int.toNat_natCast _
 refine ⟨_,_,rfl,nnI ⟨_,_,_,h2.blk.at (i:=4) rfl,⟨by dsimp only; omega,by dsimp only; omega⟩,nnI (stC_at h2.blk (i:=4) (by simp [cs12]) fun w3 h3 k3 s3=>?_)⟩⟩
 dsimp only at h3 ⊢
 rw [htn] at h3
 have hcs:(cs12 p sl (hv gk d)).setIfInBounds 4 (.slice (adv sl.oa p.o.length sl.oc 1) (sl.ol - p.o.length) (sl.oc - p.o.length))=cs12 { p with o:=[] } { sl with oa:=adv sl.oa p.o.length sl.oc 1,ol:=sl.ol - p.o.length,oc:=sl.oc - p.o.length } (hv gk d):=rfl
 rw [hcs] at h3
 have hob:OB w2 (adv sl.oa p.o.length sl.oc 1) (sl.ol - p.o.length) (sl.oc - p.o.length) []:=by
  have:=h2.own.1.1.from p.o.length (by omega)
  rw [List.drop_length] at this
  exact this
 have hO:Ow3 w0 w2 { sl with oa:=adv sl.oa p.o.length sl.oc 1,ol:=sl.ol - p.o.length,oc:=sl.oc - p.o.length } { p with o:=[] }:=
  ⟨⟨hob,h2.own.1.2⟩,⟨fun b hb=>h2.own.2.1.1 b (inA_adv.1 hb),h2.own.2.1.2⟩,fun b hb=>⟨(h2.own.2.2.1 b hb).1,fun hb2=>(h2.own.2.2.1 b hb).2 (inA_adv.1 hb2)⟩,fun b hb hb2=>h2.own.2.2.2 b hb (inA_adv.1 hb2)⟩
 have h4:=h2.upd k3 h3 hO (fun b hb=>h2.ns b (by
  rcases hb with hb | hb
  ·exact .inl (inA_adv.1 hb)
  ·exact .inr hb))
 refine CallR.mono (noted_ok h4 (.inl rfl) hbb) ?_
 rintro v w4 ⟨rfl,h5⟩
 exact ⟨_,rfl,rfl,_,s',L2,h5,hF',by show sl.ol - p.o.length=0; omega⟩
theorem write_ok {v:Value} (h:SO w0 L0 w gw p sl v gk s L) (hw:p.w=true) (hd:p.d≠1):CallR Tryz.prog 253 [pd gw] w fun r w'=>r=.int .i64 0∧SO w0 L0 w' gw { p with d:=2 } sl v gk s L:=by
 refine C253 ?_
 unfold L253
 refine nnI ⟨_,h.blk.at (i:=1) rfl,condF (by rw [hw]; rfl) (nnI ⟨_,h.blk.at (i:=7) rfl,condF (by simpa using hd) ?_⟩)⟩
 intro n w1
 have hk1:Kept No w w1:=Kept.drewN _ _ _
 clear_value w1
 have h1:=h.no hk1
 refine nnI (stC_at h1.blk (i:=7) (by simp [cs12]) fun w3 h3 k3 s3=>⟨rfl,h1.upd k3 h3 h1.own h1.ns⟩)
structure WrP (p:Pu):Prop where
 w:p.w=true
 m:p.m=2∨p.m=3
 z1:1≤p.z
 z2:p.z≤65536
 d:p.d=0∨p.d=2
 o:(p.o.length:Int)≤p.z
 i:p.i=[]
 k:p.k=[]
 b:p.b=false
 c:p.c=false
 d0:p.d=0→p.o=[]
theorem wput_ok (h:SO w0 L0 w gw p sl (hv gk d) gk s L) (hp:WrP p) (wr:AK.WrK N d F) (hF:F c s) (hN:c.length+p.o.length+1≤N) (x:Int) :
 CallR Tryz.prog 230 [pd gw,.int .u8 x] w fun v w'=>v=.int .i64 0∧∃ o' sl' s' L' c',SO w0 L0 w' gw { p with o:=o',d:=2 } sl' (hv gk d) gk s' L'∧F c' s'∧c' ++ o'=c ++ p.o ++ [x]∧(o'.length:Int)≤p.z:=by
 refine C230 ?_
 unfold L230
 refine CallR.mono (write_ok h hp.w (by rcases hp.d with e | e <;> omega)) ?_
 rintro v w1 ⟨rfl,h1⟩
 refine ⟨_,rfl,condF rfl (nnI ⟨_,h1.blk.at (i:=2) rfl,condF (by rcases hp.m with e | e <;> (show (p.m == 1)=false; rw [e]; rfl)) ?_⟩)⟩
 refine ⟨fun vs w'=>vs=[]∧∃ o1 sl1 s1 L1 c1,SO w0 L0 w' gw { p with o:=o1,d:=2 } sl1 (hv gk d) gk s1 L1∧F c1 s1∧c1 ++ o1=c ++ p.o∧(o1.length:Int)+1≤p.z,?_,?_⟩
 ·refine nnI ⟨_,_,_,h1.blk.at (i:=4) rfl,nnI ⟨_,h1.blk.at (i:=3) rfl,?_⟩⟩
  intro n w5
  have hk5:Kept No w1 w5:=Kept.drewN _ _ _
  clear_value w5
  have h5:=h1.no hk5
  have hol:p.o.length=sl.ol:=h5.own.1.1.len
  have ho:=hp.o
  refine condE (fun e=>?_) (fun e=>⟨rfl,p.o,sl,s,L,c,h5,hF,rfl,by have e:¬ ((sl.ol:Nat):Int)=p.z:=e; omega⟩)
  refine CallR.mono (deliver_ok h5 hp.b wr hF (by show c.length+p.o.length≤N; omega)) ?_
  rintro v w6 ⟨rfl,sl6,s6,L6,h6,hF6,hz6⟩
  exact ⟨_,rfl,condF rfl ⟨rfl,[],sl6,s6,L6,_,h6,hF6,by simp,by have:=hp.z1; simp; omega⟩⟩
 ·rintro _ w7 ⟨_,o1,sl1,s1,L1,c1,h7,hF7,hc7,ho7⟩
  have hcl:c1.length+o1.length=c.length+p.o.length:=by have:=congrArg List.length hc7; simpa using this
  have hol:o1.length=sl1.ol:=h7.own.1.1.len
  have hz2:=hp.z2
  refine nnI ⟨_,_,_,h7.blk.at (i:=4) rfl,?_⟩
  intro w8
  have hb8:Blk w8 w7.heap.size #[.int .u8 x]:=Blk.alloc _ _ _
  have hk8:Kept No w7 w8:=Kept.alloc _ _ _
  have hr8:RdS 1 w8 (some ⟨w7.heap.size,0,none⟩) 1 1 (By [x]):=(SlO.of_blk (sz:=1) (n:=1) hb8 (by simp)).rd
  clear_value w8
  have h8:=h7.no hk8
  obtain ⟨a9,c9,w9,hrun,hs9,hk9,hat,_⟩:=run_app_sl (P:=Tryz.prog) (t:=34) (t2:=34) (ty:=34) (by kernel_rfl:slTyB Tryz.prog 34 1 1=true) (by kernel_rfl) (xs:=By o1) h8.own.1.1 hr8 (By_one _) (by omega) (by omega)
  have hs9:OB w9 a9 (sl1.ol+1) c9 (o1 ++ [x]):=by
   have:By o1 ++ By [x]=By (o1 ++ [x]):=by unfold By; simp
   rw [this] at hs9; exact hs9
  have hin9:∀ b,inA a9 b→inA sl1.oa b∨w8.heap.size≤b:=fun b hb=>by
   rcases hat.in hb with e | e
   ·exact .inl e
   ·exact .inr (by omega)
  have hz8:=hk8.size
  have hz9:=hk9.size
  have hn9:∀ b,inA a9 b→b≠gw∧L1.own b=none:=fun b hb=>by
   rcases hin9 b hb with e | e
   ·exact h7.ns b (.inl e)
   ·exact ⟨by have:=h7.blk.lt; omega,h7.ker.new_none (by omega)⟩
  have h9:Blk w9 gw (cs12 { p with o:=o1,d:=2 } sl1 (hv gk d)):=h8.blk.keep hk9 fun e=>(h7.ns gw (.inl e)).1 rfl
  have st9:KStep w0 w9 L0 L1:=⟨h8.st.kept.trans hk9 fun b hb e=>by have:=h7.own.2.1.1 b e; omega,h8.st.grew⟩
  refine ⟨a9,sl1.ol+1,c9,w9,hrun,nnI (stC_at h9 (i:=4) (by simp [cs12]) fun w10 h10 k10 s10=>?_)⟩
  have hcs:(cs12 { p with o:=o1,d:=2 } sl1 (hv gk d)).setIfInBounds 4 (.slice a9 (sl1.ol+1) c9)=cs12 { p with o:=o1 ++ [x],d:=2 } { sl1 with oa:=a9,ol:=sl1.ol+1,oc:=c9 } (hv gk d):=rfl
  rw [hcs] at h10
  have hO9:Ow3 w0 w9 { sl1 with oa:=a9,ol:=sl1.ol+1,oc:=c9 } { p with o:=o1 ++ [x],d:=2 }:=
   ⟨⟨hs9,h8.own.1.2.1.keep hk9 fun b hb e=>h7.own.2.2.2 b hb e,h8.own.1.2.2.keep hk9 fun b hb e=>(h7.own.2.2.1 b hb).2 e⟩,
    ⟨fun b hb=>by
     rcases hin9 b hb with e | e
     ·exact h7.own.2.1.1 b e
     ·have:=h8.st.size; omega,h7.own.2.1.2⟩,
    fun b hb=>⟨(h7.own.2.2.1 b hb).1,fun e=>by
     rcases hin9 b e with e | e
     ·exact (h7.own.2.2.1 b hb).2 e
     ·have:=h8.own.lt b (.inr (.inr hb)); omega⟩,
    fun b hb e=>by
     rcases hin9 b e with e | e
     ·exact h7.own.2.2.2 b hb e
     ·have:=h8.own.lt b (.inr (.inl hb)); omega⟩
  have hN9:∀ b,In3 { sl1 with oa:=a9,ol:=sl1.ol+1,oc:=c9 } b→b≠gw∧L1.own b=none:=fun b hb=>by
   rcases hb with hb | hb
   ·exact hn9 b hb
   ·exact h7.ns b (.inr hb)
  have hK9:KernO w9 gk s1 L1:=h8.ker.keep hk9 fun b e=>(h7.ns b (.inl e)).2
  have h10:SO w0 L0 w10 gw { p with o:=o1 ++ [x],d:=2 } { sl1 with oa:=a9,ol:=sl1.ol+1,oc:=c9 } (hv gk d) gk s1 L1:=
   ⟨h10,hO9.keep k10 fun b hb e=>(hN9 b hb).1 e,hN9,h7.ng,hK9.keep k10 fun b e=>by rw [e]; exact h7.ng,h7.g0,st9.own k10 h7.g0⟩
  have hlen:(((o1 ++ [x]).length:Nat):Int)≤p.z:=by simp; omega
  have hcc:c1 ++ (o1 ++ [x])=c ++ p.o ++ [x]:=by rw [← List.append_assoc,hc7]
  have del:∀ w11,SO w0 L0 w11 gw { p with o:=o1 ++ [x],d:=2 } { sl1 with oa:=a9,ol:=sl1.ol+1,oc:=c9 } (hv gk d) gk s1 L1→
   CallR Tryz.prog 193 [pd gw] w11 fun v w'=>∃ n:Int,v=.int .i64 n∧((.int .i64 n:Value)=.int .i64 0∧∃ o' sl' s' L' c',SO w0 L0 w' gw { p with o:=o',d:=2 } sl' (hv gk d) gk s' L'∧F c' s'∧c' ++ o'=c ++ p.o ++ [x]∧(o'.length:Int)≤p.z):=fun w11 h11=>by
   refine CallR.mono (deliver_ok h11 hp.b wr hF7 (by show c1.length+(o1 ++ [x]).length≤N; simp; omega)) ?_
   rintro v w12 ⟨rfl,sl',s',L',h12,hF12,_⟩
   exact ⟨_,rfl,rfl,[],sl',s',L',_,h12,hF12,by rw [List.append_nil]; exact hcc,by have:=hp.z1; simp; omega⟩
  have stay:∀ w11,SO w0 L0 w11 gw { p with o:=o1 ++ [x],d:=2 } { sl1 with oa:=a9,ol:=sl1.ol+1,oc:=c9 } (hv gk d) gk s1 L1→
   ((.int .i64 0:Value)=.int .i64 0∧∃ o' sl' s' L' c',SO w0 L0 w11 gw { p with o:=o',d:=2 } sl' (hv gk d) gk s' L'∧F c' s'∧c' ++ o'=c ++ p.o ++ [x]∧(o'.length:Int)≤p.z):=fun w11 h11=>
   ⟨rfl,_,_,_,_,_,h11,hF7,hcc,hlen⟩
  refine nnI ⟨_,_,_,h10.blk.at (i:=4) rfl,nnI ⟨_,h10.blk.at (i:=3) rfl,condE (fun e=>?_) (fun e=>nnI ⟨_,h10.blk.at (i:=2) rfl,condE (fun e2=>?_) (fun e2=>?_)⟩)⟩⟩
  ·intro n w11
   have hk11:Kept No w10 w11:=Kept.drewN _ _ _
   clear_value w11
   exact del w11 (h10.no hk11)
  ·intro n w11
   have hk11:Kept No w10 w11:=Kept.drewN _ _ _
   clear_value w11
   exact condE (fun e3=>del w11 (h10.no hk11)) (fun e3=>stay w11 (h10.no hk11))
  ·intro n w11
   have hk11:Kept No w10 w11:=Kept.drewN _ _ _
   clear_value w11
   exact stay w11 (h10.no hk11)
end
theorem nnE {p:Option Addr} {q:Addr} {K:Addr→Prop} (h:p=some q) (hk:K q):nn p K:=by subst h; exact hk
structure RdP (p:Pu):Prop where
 r:p.r=true
 m:p.m=3
 z1:1≤p.z
 z2:p.z≤65536
 d:p.d=0∨p.d=1
 o:p.o=[]
 i:p.i.length≤65536
 k:p.k=[]
 e:p.e=false
 b:p.b=false
 c:p.c=false
 d0:p.d=0→p.i=[]
section
variable {w0 w w' : World} {L0 L : KL} {gw gk : Nat} {p : Pu} {sl : Sl3} {s : AK} {d : Int} {R : List Int → AK → Prop} {r : List Int}
theorem fill_ok (h:SO w0 L0 w gw p sl (hv gk d) gk s L) (he:p.e=false) (hb:p.b=false) (hm:p.m=3) (hz1:1≤p.z) (hz2:p.z≤65536) (hi:p.i=[]) (rd:AK.RdK d R) (hR:R r s) (hne:r≠[]) :
 CallR Tryz.prog 254 [pd gw] w fun v w'=>v=.int .i64 0∧∃ bs r' sl' s' L',SO w0 L0 w' gw { p with i:=bs } sl' (hv gk d) gk s' L'∧R r' s'∧bs≠[]∧(bs.length:Int)≤p.z∧r=bs ++ r':=by
 refine C254 ?_
 unfold L254
 refine nnI ⟨_,h.blk.at (i:=8) rfl,condF he (nnI ⟨_,h.blk.at (i:=3) rfl,?_⟩)⟩
 refine ⟨fun vs w'=>vs=[.int .i64 p.z]∧w'=w,nnI ⟨_,h.blk.at (i:=2) rfl,condF (by rw [hm]; rfl) ⟨rfl,rfl⟩⟩,?_⟩
 rintro _ n9 w1 ⟨hn,rfl⟩
 simp only [List.cons.injEq,Value.int.injEq,true_and,and_true] at hn
 subst hn
 obtain ⟨bs,r',s',hr,hbne,hbl,hrr,hR'⟩:=rd.some r s p.z hR hne hz1 (by omega)
 refine nnI ⟨_,h.blk.at (i:=11) rfl,CallR.mono (rsome_ok h.ker d p.z (by have:=rd.cnt r s hR; omega)) ?_⟩
 rintro v w2 ⟨a,l,c,L2,rfl,ob,hf,hk2,st2,hap⟩
 rw [hr] at ob hk2 ⊢
 have h2:=h.kstep hk2 st2
 have hol:bs.length=l:=ob.len
 have hbl1:1≤bs.length:=AK.ne_len hbne
 refine ⟨_,_,_,_,rfl,condT rfl (condE (fun e=>by omega) (fun _=>nnI ⟨_,_,_,h2.blk.at (i:=5) rfl,?_⟩))⟩
 have hil:p.i.length=sl.il:=h2.own.1.2.1.len
 rw [hi] at hil
 have hil:sl.il=0:=hil.symm
 obtain ⟨a9,c9,w9,hrun,hs9,hk9,hat,_⟩:=run_app_sl (P:=Tryz.prog) (t:=34) (t2:=34) (ty:=34) (by kernel_rfl:slTyB Tryz.prog 34 1 1=true) (by kernel_rfl) (xs:=By p.i) h2.own.1.2.1 ob.rd (By_one _) (by omega) (by omega)
 have hs9:OB w9 a9 (sl.il+l) c9 bs:=by
  rw [hi] at hs9; exact hs9
 have hin9:∀ b,inA a9 b→inA sl.ia b∨w2.heap.size≤b:=fun b hb=>by
  rcases hat.in hb with e | e
  ·exact .inl e
  ·exact .inr (by omega)
 have hz9:=hk9.size
 have hn9:∀ b,inA a9 b→b≠gw∧L2.own b=none:=fun b hb=>by
  rcases hin9 b hb with e | e
  ·exact h2.ns b (.inr (.inl e))
  ·exact ⟨by have:=h2.blk.lt; omega,h2.ker.new_none e⟩
 have h9:Blk w9 gw (cs12 p sl (hv gk d)):=h2.blk.keep hk9 fun e=>(h2.ns gw (.inr (.inl e))).1 rfl
 have st9:KStep w0 w9 L0 L2:=⟨h2.st.kept.trans hk9 fun b hb e=>by have:=h2.own.2.1.2.1 b e; omega,h2.st.grew⟩
 refine ⟨a9,sl.il+l,c9,w9,hrun,nnI (stC_at h9 (i:=5) (by simp [cs12]) fun w10 h10 k10 s10=>?_)⟩
 have hcs:(cs12 p sl (hv gk d)).setIfInBounds 5 (.slice a9 (sl.il+l) c9)=cs12 { p with i:=bs } { sl with ia:=a9,il:=sl.il+l,ic:=c9 } (hv gk d):=rfl
 rw [hcs] at h10
 have hO9:Ow3 w0 w9 { sl with ia:=a9,il:=sl.il+l,ic:=c9 } { p with i:=bs }:=
  ⟨⟨h2.own.1.1.keep hk9 fun b hb e=>h2.own.2.2.2 b e hb,hs9,h2.own.1.2.2.keep hk9 fun b hb e=>(h2.own.2.2.1 b hb).1 e⟩,
   ⟨h2.own.2.1.1,fun b hb=>by
    rcases hin9 b hb with e | e
    ·exact h2.own.2.1.2.1 b e
    ·have:=h2.st.size; omega,h2.own.2.1.2.2⟩,
   fun b hb=>⟨fun e=>by
    rcases hin9 b e with e | e
    ·exact (h2.own.2.2.1 b hb).1 e
    ·have:=h2.own.lt b (.inr (.inr hb)); omega,(h2.own.2.2.1 b hb).2⟩,
   fun b hb e=>by
    rcases hin9 b hb with e' | e'
    ·exact h2.own.2.2.2 b e' e
    ·have:=h2.own.lt b (.inl e); omega⟩
 have hN9:∀ b,In3 { sl with ia:=a9,il:=sl.il+l,ic:=c9 } b→b≠gw∧L2.own b=none:=fun b hb=>by
  rcases hb with hb | hb | hb
  ·exact h2.ns b (.inl hb)
  ·exact hn9 b hb
  ·exact h2.ns b (.inr (.inr hb))
 have hK9:KernO w9 gk s' L2:=h2.ker.keep hk9 fun b e=>(h2.ns b (.inr (.inl e))).2
 have h10:SO w0 L0 w10 gw { p with i:=bs } { sl with ia:=a9,il:=sl.il+l,ic:=c9 } (hv gk d) gk s' L2:=
  ⟨h10,hO9.keep k10 fun b hb e=>(hN9 b hb).1 e,hN9,h2.ng,hK9.keep k10 fun b e=>by rw [e]; exact h2.ng,h2.g0,st9.own k10 h2.g0⟩
 refine CallR.mono (noted_ok h10 (.inl rfl) hb) ?_
 rintro v w11 ⟨rfl,h11⟩
 exact ⟨_,rfl,rfl,bs,r',_,s',L2,h11,hR',hbne,hbl,hrr⟩
theorem take_ok {v:Value} (h:SO w0 L0 w gw p sl v gk s L) {x:Int} {xs:List Int} (hi:p.i=x :: xs) {K:Int→World→Prop}
 (hk:∀ w' sl',SO w0 L0 w' gw { p with i:=xs } sl' v gk s L→K x w') :
 nn (some ⟨gw,0,none⟩) (fun (q20:Addr)=>∃ (a21:Option Addr) (l21:Nat) (c21:Nat),w.cell? (Addr.add q20 5)=some ((.slice a21 l21 c21:Value))∧(0≤(0:Int)∧(0:Int)< ((l21:Nat):Int))∧
  nn a21 (fun (q22:Addr)=>∃ (n23:Int),w.cell? (Addr.add q22 (Int.toNat 0))=some ((.int .u8 n23:Value))∧
  nn (some ⟨gw,0,none⟩) (fun (q24:Addr)=>∃ (a25:Option Addr) (l25:Nat) (c25:Nat),w.cell? (Addr.add q24 5)=some ((.slice a25 l25 c25:Value))∧(0≤(1:Int)∧(1:Int)≤((l25:Nat):Int))∧
  nn (some ⟨gw,0,none⟩) (fun (q26:Addr)=>stC (Addr.add q26 5) (.slice (adv a25 (Int.toNat 1) c25 1) (l25 - Int.toNat 1) (c25 - Int.toNat 1)) w (fun (w4:World)=>K n23 w4))))):=by
 have hil:p.i.length=sl.il:=h.own.1.2.1.len
 have hl1:p.i.length=xs.length+1:=by rw [hi]; rfl
 have hi':0< p.i.length:=by omega
 obtain ⟨q,haq,hgq⟩:=h.own.1.2.1.rd.get hi'
 have hx:p.i[0]=x:=by simp [hi]
 rw [hx] at hgq
 refine nnI ⟨_,_,_,h.blk.at (i:=5) rfl,⟨by omega,by omega⟩,nnE haq ⟨x,hgq,nnI ⟨_,_,_,h.blk.at (i:=5) rfl,⟨by omega,by omega⟩,nnI ?_⟩⟩⟩
 refine stC_at h.blk (i:=5) (by simp [cs12]) fun w4 hb4 hk4 hs4=>?_
 have hcs:(cs12 p sl v).setIfInBounds 5 (.slice (adv sl.ia (Int.toNat 1) sl.ic 1) (sl.il - Int.toNat 1) (sl.ic - Int.toNat 1))=cs12 { p with i:=xs } { sl with ia:=adv sl.ia 1 sl.ic 1,il:=sl.il - 1,ic:=sl.ic - 1 } v:=rfl
 rw [hcs] at hb4
 have hob:OB w (adv sl.ia 1 sl.ic 1) (sl.il - 1) (sl.ic - 1) xs:=by
  have:=h.own.1.2.1.from 1 (by omega)
  rw [hi] at this
  exact this
 refine hk w4 _ (h.upd hk4 hb4 ⟨⟨h.own.1.1,hob,h.own.1.2.2⟩,⟨h.own.2.1.1,fun b hb=>h.own.2.1.2.1 b (inA_adv.1 hb),h.own.2.1.2.2⟩,fun b hb=>⟨fun e=>(h.own.2.2.1 b hb).1 (inA_adv.1 e),(h.own.2.2.1 b hb).2⟩,fun b hb e=>h.own.2.2.2 b (inA_adv.1 hb) e⟩ fun b hb=>?_)
 rcases hb with hb | hb | hb
 ·exact h.ns b (.inl hb)
 ·exact h.ns b (.inr (.inl (inA_adv.1 hb)))
 ·exact h.ns b (.inr (.inr hb))
theorem get_ok (h:SO w0 L0 w gw p sl (hv gk d) gk s L) (hp:RdP p) (rd:AK.RdK d R) (hR:R r s) {x:Int} {xs:List Int} (hx:p.i ++ r=x :: xs) :
 CallR Tryz.prog 233 [pd gw] w fun v w'=>v=.tuple #[.int .u8 x,.int .i64 0]∧∃ i' r' sl' s' L',SO w0 L0 w' gw { p with d:=1,i:=i' } sl' (hv gk d) gk s' L'∧R r' s'∧i' ++ r'=xs∧i'.length≤65536:=by
 refine C233 ?_
 unfold L233
 refine nnI ⟨_,h.blk.at0 rfl,condF (by rw [hp.r]; rfl) (nnI ⟨_,h.blk.at (i:=7) rfl,condF (by rcases hp.d with e | e <;> (show (p.d == 2)=false; rw [e]; rfl)) (nnI (stC_at h.blk (i:=7) (by simp [cs12]) fun w1 hb1 hk1 hs1=>?_))⟩)⟩
 have hcs:(cs12 p sl (hv gk d)).setIfInBounds 7 (.int .i64 1)=cs12 { p with d:=1 } sl (hv gk d):=rfl
 rw [hcs] at hb1
 have h1:SO w0 L0 w1 gw { p with d:=1 } sl (hv gk d) gk s L:=h.upd hk1 hb1 h.own h.ns
 have hkl:p.k.length=sl.kl:=h1.own.1.2.2.len
 rw [hp.k] at hkl
 have hkl:sl.kl=0:=hkl.symm
 have hil:p.i.length=sl.il:=h1.own.1.2.1.len
 refine nnI ⟨_,_,_,h1.blk.at (i:=6) rfl,condF (by rw [hkl]; rfl) (nnI ⟨_,_,_,h1.blk.at (i:=5) rfl,condE (fun e=>?_) (fun e=>?_)⟩)⟩
 ·have hi0:p.i=[]:=List.eq_nil_of_length_eq_zero (by omega)
  rw [hi0,List.nil_append] at hx
  refine CallR.mono (fill_ok h1 hp.e hp.b hp.m hp.z1 hp.z2 hi0 rd hR (by rw [hx]; simp)) ?_
  rintro v w3 ⟨rfl,bs,r',sl',s',L',h3,hR',hbne,hbl,hrr⟩
  refine ⟨_,rfl,condF rfl ?_⟩
  obtain ⟨y,ys,rfl⟩:∃ y ys,bs=y :: ys:=by
   cases bs with
   | nil=>exact absurd rfl hbne
   | cons y ys=>exact ⟨y,ys,rfl⟩
  rw [hx] at hrr
  simp only [List.cons_append,List.cons.injEq] at hrr
  obtain ⟨rfl,rfl⟩:=hrr
  refine take_ok h3 rfl (K:=fun n w4=>((.tuple #[.int .u8 n,.int .i64 0]:Value)=.tuple #[.int .u8 x,.int .i64 0]∧∃ i' r'_1 sl' s' L',SO w0 L0 w4 gw { p with d:=1,i:=i' } sl' (hv gk d) gk s' L'∧R r'_1 s'∧i' ++ r'_1=ys ++ r'∧i'.length≤65536)) fun w4 sl4 h4=>?_
  exact ⟨rfl,ys,r',sl4,s',L',h4,hR',rfl,by have:=hp.z2; simp at hbl; omega⟩
 ·obtain ⟨ys,hi⟩:∃ ys,p.i=x :: ys:=by
   cases hpi:p.i with
   | nil=>rw [hpi] at hil; simp at hil; omega
   | cons y ys=>
    rw [hpi,List.cons_append,List.cons.injEq] at hx
    exact ⟨ys,by rw [hx.1]⟩
  rw [hi,List.cons_append,List.cons.injEq] at hx
  refine take_ok h1 hi (K:=fun n w4=>((.tuple #[.int .u8 n,.int .i64 0]:Value)=.tuple #[.int .u8 x,.int .i64 0]∧∃ i' r'_1 sl' s' L',SO w0 L0 w4 gw { p with d:=1,i:=i' } sl' (hv gk d) gk s' L'∧R r'_1 s'∧i' ++ r'_1=xs∧i'.length≤65536)) fun w4 sl4 h4=>?_
  exact ⟨rfl,ys,r,sl4,s,L,h4,hR,hx.2,by have:=hp.i; rw [hi] at this; simp at this; omega⟩
end
theorem ld12 {w:World} {g:Nat} {p:Pu} {s:Sl3} {v:Value} (h:Blk w g (cs12 p s v)) {K:Bool→Bool→Int→Int→Option Addr→Nat→Nat→Option Addr→Nat→Nat→Option Addr→Nat→Nat→Int→Bool→Bool→Bool→Prop} (hk:K p.r p.w p.m p.z s.oa s.ol s.oc s.ia s.il s.ic s.ka s.kl s.kc p.d p.e p.b p.c) :
 nn (some ⟨g,0,none⟩) fun q=>∃ (b0:Bool) (b1:Bool) (n2:Int) (n3:Int) (a4:Option Addr) (l4:Nat) (c4:Nat) (a5:Option Addr) (l5:Nat) (c5:Nat) (a6:Option Addr) (l6:Nat) (c6:Nat) (n7:Int) (b8:Bool) (b9:Bool) (b10:Bool),w.cell? q=some (.bool b0)∧w.cell? (Addr.add q 1)=some (.bool b1)∧w.cell? (Addr.add q 2)=some (.int .i64 n2)∧w.cell? (Addr.add q 3)=some (.int .i64 n3)∧w.cell? (Addr.add q 4)=some (.slice a4 l4 c4)∧w.cell? (Addr.add q 5)=some (.slice a5 l5 c5)∧w.cell? (Addr.add q 6)=some (.slice a6 l6 c6)∧w.cell? (Addr.add q 7)=some (.int .i64 n7)∧w.cell? (Addr.add q 8)=some (.bool b8)∧w.cell? (Addr.add q 9)=some (.bool b9)∧w.cell? (Addr.add q 10)=some (.bool b10)∧K b0 b1 n2 n3 a4 l4 c4 a5 l5 c5 a6 l6 c6 n7 b8 b9 b10:=
 nnI ⟨_,_,_,_,_,_,_,_,_,_,_,_,_,_,_,_,_,h.at0 rfl,h.at (i:=1) rfl,h.at (i:=2) rfl,h.at (i:=3) rfl,h.at (i:=4) rfl,h.at (i:=5) rfl,h.at (i:=6) rfl,h.at (i:=7) rfl,h.at (i:=8) rfl,h.at (i:=9) rfl,h.at (i:=10) rfl,hk⟩
def zP:Pu:=⟨false,false,0,0,[],[],[],0,false,false,false⟩
def zS:Sl3:=⟨none,0,0,none,0,0,none,0,0⟩
structure SR (w:World) (L:KL) (w':World) (p:Pu) (sl:Sl3) (gk:Nat) (s:AK) (L':KL):Prop where
 own:Ow3 w w' sl p
 off:∀ b,In3 sl b→L'.own b=none
 ker:KernO w' gk s L'
 st:KStep w w' L L'
section
variable {w w2 w4 w5 : World} {L0 L : KL} {gw gk g2 : Nat} {p : Pu} {sl : Sl3} {v : Value} {s : AK} {d : Int}
theorem SO.out (h:SO w2 L0 w4 gw p sl v gk s L) (hk:Kept No w w2) (hg:w.heap.size≤g2) (hg2:g2< w2.heap.size) (hL0:L0.own g2=none) (k5:Kept (·=g2) w4 w5):SR w L0 w5 p sl gk s L where
 own:=(h.own.keep k5 fun b hb e=>by
  have hf:w2.heap.size≤b:=by
   rcases hb with hb | hb | hb
   ·exact h.own.2.1.1 b hb
   ·exact h.own.2.1.2.1 b hb
   ·exact h.own.2.1.2.2 b hb
  omega).base hk.size
 off:=fun b hb=>(h.ns b hb).2
 ker:=h.ker.keep k5 fun x e=>by rw [e]; exact (XStep.of_k (T:=No) h.st).own hL0 hg2
 st:=(KStep.fresh hk h.st).own k5 hg
theorem SO.res (h:SO w2 L0 w4 gw p sl v gk s L) {g:Nat} {cur:Array Value} (hb:Blk w2 g cur) (hL0:L0.own g=none):Blk w4 g cur:=hb.keep h.st.kept fun e=>e hL0
theorem start_ok {w:World} {L:KL} (hK:KernO w gk s L) (h:Rd3 w sl p) (hbd:Bd p) (hck:ckP p) (hc:p.c=false) {K:Value→World→Prop}
 (hk:∀ w3 gw sl1,SO w L w3 gw p sl1 (hv gk d) gk s L→K (.tuple #[.pointer (some ⟨gw,0,none⟩),.int .i64 0]) w3) :
 CallR Tryz.prog 192 [.agg (cs p sl),hv gk d] w K:=by
 refine CallR.mono (begin_ok (t:=232) (u:=.agg #[pd gk,.int .i64 d]) h hbd hck hc (fun w x y=>hv_nil)) ?_
 rintro v w3 ⟨gw,sl1,rfl,hbw,ho,hgw,hns,hk3⟩
 have hz:=hk3.size
 refine hk w3 gw sl1 ⟨hbw,ho,fun b hb=>⟨hns b hb,hK.new_none ?_⟩,hK.new_none hgw,hK.no hk3,hgw,.of_no hk3⟩
 rcases hb with hb | hb | hb
 ·exact ho.2.1.1 b hb
 ·exact ho.2.1.2.1 b hb
 ·exact ho.2.1.2.2 b hb
end
theorem WrP.ck {p:Pu} (h:WrP p):ckP p:=by
 obtain ⟨h1,h2,h3,h4,h5,h6,h7,h8,h9,h10,h11⟩:=h
 unfold ckP ckV
 rw [h7,h8]
 refine ⟨by omega,by omega,h3,h4,by omega,h6,fun e=>by omega,by simp,by simp,fun e=>by omega,fun _=>h1,fun e=>?_,fun _=>rfl,fun e=>by rw [h10] at e; cases e⟩
 have:=h11 (by omega)
 rw [this]; rfl
theorem WrP.bd {p:Pu} (h:WrP p):Bd p:=by
 have h4:=h.z2
 have h6:=h.o
 unfold Bd
 rw [h.i,h.k]
 exact ⟨by omega,by simp,by simp⟩
theorem RdP.ck {p:Pu} (h:RdP p):ckP p:=by
 obtain ⟨h1,h2,h3,h4,h5,h6,h7,h8,h9,h10,h11,h12⟩:=h
 unfold ckP ckV
 rw [h6,h8]
 refine ⟨by omega,by omega,h3,h4,by omega,by simp; omega,fun e=>rfl,by omega,by simp,fun _=>h1,fun e=>by omega,fun e=>rfl,fun e=>?_,fun e=>by rw [h11] at e; cases e⟩
 have:=h12 (by omega)
 rw [this]; rfl
theorem RdP.bd {p:Pu} (h:RdP p):Bd p:=by
 have h7:=h.i
 unfold Bd
 rw [h.o,h.k]
 exact ⟨by simp,by omega,by simp⟩
section
variable {w : World} {L : KL} {gk : Nat} {p : Pu} {sl : Sl3} {s : AK} {d : Int} {N : Nat} {F R : List Int → AK → Prop} {c r : List Int}
theorem sput_ok (hK:KernO w gk s L) (h:Rd3 w sl p) (hp:WrP p) (wr:AK.WrK N d F) (hF:F c s) (hN:c.length+p.o.length+1≤N) (x:Int) :
 CallR Tryz.prog 199 [.agg (cs p sl),hv gk d,.int .u8 x] w fun v w'=>∃ o' sl' s' L' c',v=.tuple #[.agg (cs { p with o:=o',d:=2 } sl'),.int .i64 0]∧SR w L w' { p with o:=o',d:=2 } sl' gk s' L'∧F c' s'∧c' ++ o'=c ++ p.o ++ [x]∧(o'.length:Int)≤p.z:=by
 refine C199 ?_
 unfold L199
 intro w1 w2
 have hb1:Blk w1 w.heap.size (cs p sl):=Blk.alloc _ _ _
 have hk1:Kept No w w1:=Kept.alloc _ _ _
 clear_value w1
 have hb2:Blk w2 w1.heap.size (cs zP zS):=Blk.alloc _ _ _
 have hk2:Kept No w1 w2:=Kept.alloc _ _ _
 clear_value w2
 have k2:=hk1.no hk2
 have hz1:=hk1.size
 have hn2:L.own w1.heap.size=none:=hK.new_none hz1
 refine ld11 (hb1.no' hk2) (start_ok (hK.no k2) (h.no k2) hp.bd hp.ck hp.c fun w3 gw sl1 h3=>?_)
 refine ⟨_,_,rfl,condT rfl (CallR.mono (wput_ok h3 hp wr hF hN x) ?_)⟩
 rintro v w4 ⟨rfl,o',sl',s',L',c',h4,hF4,hc4,ho4⟩
 refine ⟨_,rfl,ld12 h4.blk (st11 (p:={ p with o:=o',d:=2 }) (s:=sl') (h4.res hb2 hn2) rfl fun w5 hb5 hk5=>ld11 hb5 ?_)⟩
 exact ⟨o',sl',s',L',c',rfl,h4.out k2 hz1 hb2.lt hn2 hk5,hF4,hc4,ho4⟩
theorem sget_ok (hK:KernO w gk s L) (h:Rd3 w sl p) (hp:RdP p) (rd:AK.RdK d R) (hR:R r s) {x:Int} {xs:List Int} (hx:p.i ++ r=x :: xs) :
 CallR Tryz.prog 202 [.agg (cs p sl),hv gk d] w fun v w'=>∃ i' r' sl' s' L',v=.tuple #[.agg (cs { p with d:=1,i:=i' } sl'),.int .u8 x,.int .i64 0]∧SR w L w' { p with d:=1,i:=i' } sl' gk s' L'∧R r' s'∧i' ++ r'=xs∧i'.length≤65536:=by
 refine C202 ?_
 unfold L202
 intro w1 w2
 have hb1:Blk w1 w.heap.size (cs p sl):=Blk.alloc _ _ _
 have hk1:Kept No w w1:=Kept.alloc _ _ _
 clear_value w1
 have hb2:Blk w2 w1.heap.size (cs zP zS):=Blk.alloc _ _ _
 have hk2:Kept No w1 w2:=Kept.alloc _ _ _
 clear_value w2
 have k2:=hk1.no hk2
 have hz1:=hk1.size
 have hn2:L.own w1.heap.size=none:=hK.new_none hz1
 refine ld11 (hb1.no' hk2) (start_ok (hK.no k2) (h.no k2) hp.bd hp.ck hp.c fun w3 gw sl1 h3=>?_)
 refine ⟨_,_,rfl,condF rfl (CallR.mono (get_ok h3 hp rd hR hx) ?_)⟩
 rintro v w4 ⟨rfl,i',r',sl',s',L',h4,hR4,hx4,hi4⟩
 refine ⟨_,_,rfl,ld12 h4.blk (st11 (p:={ p with d:=1,i:=i' }) (s:=sl') (h4.res hb2 hn2) rfl fun w5 hb5 hk5=>ld11 hb5 ?_)⟩
 exact ⟨i',r',sl',s',L',rfl,h4.out k2 hz1 hb2.lt hn2 hk5,hR4,hx4,hi4⟩
theorem sflush_ok (hK:KernO w gk s L) (h:Rd3 w sl p) (hp:WrP p) (wr:AK.WrK N d F) (hF:F c s) (hN:c.length+p.o.length≤N) :
 CallR Tryz.prog 198 [.agg (cs p sl),hv gk d] w fun v w'=>∃ sl' s' L',v=.tuple #[.agg (cs { p with o:=[],d:=0 } sl'),.int .i64 0]∧SR w L w' { p with o:=[],d:=0 } sl' gk s' L'∧F (c ++ p.o) s':=by
 refine C198 ?_
 unfold L198
 intro w1 w2
 have hb1:Blk w1 w.heap.size (cs p sl):=Blk.alloc _ _ _
 have hk1:Kept No w w1:=Kept.alloc _ _ _
 clear_value w1
 have hb2:Blk w2 w1.heap.size (cs zP zS):=Blk.alloc _ _ _
 have hk2:Kept No w1 w2:=Kept.alloc _ _ _
 clear_value w2
 have k2:=hk1.no hk2
 have hz1:=hk1.size
 have hn2:L.own w1.heap.size=none:=hK.new_none hz1
 refine ld11 (hb1.no' hk2) (start_ok (hK.no k2) (h.no k2) hp.bd hp.ck hp.c fun w3 gw sl1 h3=>?_)
 refine ⟨_,_,rfl,condT rfl (nnI ⟨_,h3.blk.at (i:=7) rfl,condE (fun e=>?_) (fun e=>?_)⟩)⟩
 ·refine CallR.mono (deliver_ok h3 hp.b wr hF hN) ?_
  rintro v w4 ⟨rfl,sl',s',L',h4,hF4,_⟩
  refine ⟨_,rfl,condT rfl (nnI (stC_at h4.blk (i:=7) (by simp [cs12]) fun w5 hb5 hk5 hs5=>?_))⟩
  have h5:SO w2 L w5 gw { p with o:=[],d:=0 } sl' (hv gk d) gk s' L':=h4.upd hk5 hb5 h4.own h4.ns
  refine ld12 h5.blk (st11 (p:={ p with o:=[],d:=0 }) (s:=sl') (h5.res hb2 hn2) rfl fun w6 hb6 hk6=>ld11 hb6 ?_)
  exact ⟨sl',s',L',rfl,h5.out k2 hz1 hb2.lt hn2 hk6,hF4⟩
 ·have hd:p.d=0:=by
   rcases hp.d with e' | e'
   ·exact e'
   ·exact absurd e' e
  have ho:=hp.d0 hd
  have hpp:({ p with o:=[],d:=0 }:Pu)=p:=by cases p; simp only at hd ho; subst hd ho; rfl
  rw [ho,List.append_nil,hpp]
  refine ld12 h3.blk (st11 (p:=p) (s:=sl1) (h3.res hb2 hn2) rfl fun w6 hb6 hk6=>ld11 hb6 ?_)
  exact ⟨sl1,s,L,rfl,h3.out k2 hz1 hb2.lt hn2 hk6,hF⟩
theorem sflushR_ok (hK:KernO w gk s L) (h:Rd3 w sl p) (hp:RdP p) :
 CallR Tryz.prog 198 [.agg (cs p sl),hv gk d] w fun v w'=>∃ sl' L',v=.tuple #[.agg (cs p sl'),.int .i64 0]∧SR w L w' p sl' gk s L':=by
 refine C198 ?_
 unfold L198
 intro w1 w2
 have hb1:Blk w1 w.heap.size (cs p sl):=Blk.alloc _ _ _
 have hk1:Kept No w w1:=Kept.alloc _ _ _
 clear_value w1
 have hb2:Blk w2 w1.heap.size (cs zP zS):=Blk.alloc _ _ _
 have hk2:Kept No w1 w2:=Kept.alloc _ _ _
 clear_value w2
 have k2:=hk1.no hk2
 have hz1:=hk1.size
 have hn2:L.own w1.heap.size=none:=hK.new_none hz1
 refine ld11 (hb1.no' hk2) (start_ok (hK.no k2) (h.no k2) hp.bd hp.ck hp.c fun w3 gw sl1 h3=>?_)
 refine ⟨_,_,rfl,condT rfl (nnI ⟨_,h3.blk.at (i:=7) rfl,condF (by rcases hp.d with e | e <;> (show (p.d == 2)=false; rw [e]; rfl)) ?_⟩)⟩
 refine ld12 h3.blk (st11 (p:=p) (s:=sl1) (h3.res hb2 hn2) rfl fun w6 hb6 hk6=>ld11 hb6 ?_)
 exact ⟨sl1,L,rfl,h3.out k2 hz1 hb2.lt hn2 hk6⟩
end
theorem clone2_ok {w:World} {a:Option Addr} {l c:Nat} {bs:List Int} (h:RdB w a l c bs) (hl:l≤140737488355328) :
 CallR Tryz.prog 217 [.slice a l c] w fun v w'=>∃ a' c',v=.slice a' l c'∧OB w' a' l c' bs∧Kept No w w'∧Fresh w a':=by
 refine C217 ?_
 unfold L217
 have hlen:=h.len
 refine condI (fun hn=>?_) (fun hn=>?_)
 ·have ha:a=none:=by simpa using hn
  obtain ⟨h1,_,h3⟩:=RdS.isNone h ha
  have:bs=[]:=List.eq_nil_of_length_eq_zero (by omega)
  subst this h1 ha
  exact ⟨none,0,rfl,OB.nil w,Kept.refl _ _,Fresh.none w⟩
 ·intro w1
  have hk1:Kept No w w1:=Kept.alloc _ w _
  have hs0:SlO 1 w1 (some ⟨w.heap.size,0,none⟩) 0 0 (By []):=SlO.of_blk (Blk.alloc w #[] _) (by simp)
  obtain ⟨a',c',w2,hrun,hs,hk,hat,hnn⟩:=run_app_sl (P:=Tryz.prog) (t:=34) (t2:=34) (ty:=34) (by kernel_rfl:slTyB Tryz.prog 34 1 1=true) (by kernel_rfl) hs0 (RdB.keep h hk1 (fun _ _ _ e=>e)) (By_one bs) (by omega) (by omega)
  simp only [Nat.zero_add] at hrun hs
  refine ⟨a',l,c',w2,hrun,a',c',rfl,?_,?_,?_⟩
  ·exact hs
  ·exact hk1.trans hk (fun b hb hin=>by rw [inA_some] at hin; subst hin; omega)
  ·exact hat.fresh (fun b hb=>by rw [inA_some] at hb; omega) (by exact hk1.size)
theorem cs_put {p:Pu} {s:Sl3} {a1 a2 a3:Option Addr} {l1 l2 l3 c1 c2 c3:Nat} :
 (((cs p s).setIfInBounds 4 (.slice a1 l1 c1)).setIfInBounds 5 (.slice a2 l2 c2)).setIfInBounds 6 (.slice a3 l3 c3)=cs p ⟨a1,l1,c1,a2,l2,c2,a3,l3,c3⟩:=rfl
theorem own3 {f:Nat} (hf:∀ {w:World} {a:Option Addr} {l c:Nat} {bs:List Int},RdB w a l c bs→l≤140737488355328→CallR Tryz.prog f [.slice a l c] w fun v w'=>∃ a' c',v=.slice a' l c'∧OB w' a' l c' bs∧Kept No w w'∧Fresh w a')
 {w0 w:World} {g:Nat} {p:Pu} {s:Sl3} (hg:w0.heap.size≤g) (hw:w0.heap.size≤w.heap.size) (hb:Blk w g (cs p s)) (h:Rd3 w s p) (hbd:Bd p) {K:World→Prop}
 (hk:∀ s' w',Blk w' g (cs p s')→Ow3 w0 w' s' p→(∀ b,inA s'.oa b∨inA s'.ia b∨inA s'.ka b→w.heap.size≤b)→Kept (·=g) w w'→K w') :
 ∃ (S28:World→Prop),S28 (World.drew w)∧
 let w5:=World.drew w;
 ∃ (a29:Option Addr) (l29:Nat) (c29:Nat),(∀ wS:World,S28 wS→wS.cell? (Addr.mk g 4 none)=some ((.slice a29 l29 c29:Value)))∧
 ∃ (a30:Option Addr) (l30:Nat) (c30:Nat),(∀ wS:World,S28 wS→wS.cell? (Addr.mk g 5 none)=some ((.slice a30 l30 c30:Value)))∧
 ∃ (a31:Option Addr) (l31:Nat) (c31:Nat),(∀ wS:World,S28 wS→wS.cell? (Addr.mk g 6 none)=some ((.slice a31 l31 c31:Value)))∧
 CallR Tryz.prog f [.slice a29 l29 c29] w5 (fun (r33:Value) (w6:World)=>
 ∃ (a32:Option Addr) (l32:Nat) (c32:Nat),r33=.slice a32 l32 c32∧
 S28 w6∧
 CallR Tryz.prog f [.slice a30 l30 c30] w6 (fun (r35:Value) (w7:World)=>
 ∃ (a34:Option Addr) (l34:Nat) (c34:Nat),r35=.slice a34 l34 c34∧
 S28 w7∧
 CallR Tryz.prog f [.slice a31 l31 c31] w7 (fun (r37:Value) (w8:World)=>
 ∃ (a36:Option Addr) (l36:Nat) (c36:Nat),r37=.slice a36 l36 c36∧
 stC (Addr.mk g 4 none) (.slice a32 l32 c32) w8 (fun (w9:World)=>
 stC (Addr.mk g 5 none) (.slice a34 l34 c34) w9 (fun (w10:World)=>
 stC (Addr.mk g 6 none) (.slice a36 l36 c36) w10 K))))):=by
 obtain ⟨b1,b2,b3⟩:=hbd
 refine ⟨fun wS=>Blk wS g (cs p s),hb.drew,_,_,_,fun wS hS=>(hS.cell 4).trans rfl,_,_,_,fun wS hS=>(hS.cell 5).trans rfl,_,_,_,fun wS hS=>(hS.cell 6).trans rfl,?_⟩
 have hkd:Kept No w w.drew:=Kept.drew _ _
 have h1:=h.no hkd
 refine CallR.mono (hf h1.1 (by rw [← h.1.len]; omega)) ?_
 rintro v w6 ⟨a1,c1,rfl,ho1,hk1,hf1⟩
 have hb6:=(hb.drew).keep hk1 (fun e=>e)
 have h6:=h1.no hk1
 refine ⟨_,_,_,rfl,hb6,CallR.mono (hf h6.2.1 (by rw [← h.2.1.len]; omega)) ?_⟩
 rintro v w7 ⟨a2,c2,rfl,ho2,hk2,hf2⟩
 have hb7:=hb6.keep hk2 (fun e=>e)
 have h7:=h6.no hk2
 refine ⟨_,_,_,rfl,hb7,CallR.mono (hf h7.2.2 (by rw [← h.2.2.len]; omega)) ?_⟩
 rintro v w8 ⟨a3,c3,rfl,ho3,hk3,hf3⟩
 have hb8:=hb7.keep hk3 (fun e=>e)
 have z0:(cs p s).size=11:=rfl
 have l1:=ho1.lt
 have l2:=ho2.lt
 have hgw:=hb.lt
 have y1:w.heap.size≤w6.heap.size:=Nat.le_trans hkd.size hk1.size
 have y2:w6.heap.size≤w7.heap.size:=hk2.size
 have y0:w.drew.heap.size=w.heap.size:=rfl
 refine ⟨_,_,_,rfl,?_⟩
 refine stC_blk hb8 (by omega) fun w9 h9 k9 s9=>?_
 refine stC_blk h9 (by rw [Array.size_setIfInBounds]; omega) fun w10 h10 k10 s10=>?_
 refine stC_blk h10 (by rw [Array.size_setIfInBounds,Array.size_setIfInBounds]; omega) fun w11 h11 k11 s11=>?_
 rw [cs_put] at h11
 have kx:Kept (·=g) w8 w11:=(k9.trans k10 fun _ _ e=>e).trans k11 fun _ _ e=>e
 have n1:∀ b,inA a1 b→b≠g:=fun b hb e=>by have:=hf1 b hb; omega
 have n2:∀ b,inA a2 b→b≠g:=fun b hb e=>by have:=hf2 b hb; omega
 have n3:∀ b,inA a3 b→b≠g:=fun b hb e=>by have:=hf3 b hb; omega
 refine hk ⟨a1,s.ol,c1,a2,s.il,c2,a3,s.kl,c3⟩ w11 h11 ⟨⟨((ho1.keep hk2 fun _ _ e=>e).keep hk3 fun _ _ e=>e).keep kx n1,(ho2.keep hk3 fun _ _ e=>e).keep kx n2,ho3.keep kx n3⟩,
  ⟨fun b hb=>by have:=hf1 b hb; omega,fun b hb=>by have:=hf2 b hb; omega,fun b hb=>by have:=hf3 b hb; omega⟩,
  fun b hb=>⟨fun hb2=>by have:=hf3 b hb; have:=l2 b hb2; omega,fun hb2=>by have:=hf3 b hb; have:=l1 b hb2; omega⟩,fun b hb hb2=>by have:=hf2 b hb; have:=l1 b hb2; omega⟩
  (fun b hb=>by
   rcases hb with hb | hb | hb
   ·have:=hf1 b hb; omega
   ·have:=hf2 b hb; omega
   ·have:=hf3 b hb; omega) ?_
 have kn:Kept No w w8:=((hkd.no hk1).no hk2).no hk3
 exact (kn.mono (fun _ _ e=>e.elim)).trans kx fun _ _ e=>e
def Sl3.no:Sl3:=⟨none,0,0,none,0,0,none,0,0⟩
section
variable {w : World} {p : Pu} {sl : Sl3}
theorem rown_ok (h:Rd3 w sl p) (hbd:Bd p) :
 CallR Tryz.prog 158 [.agg (cs p sl)] w fun v w'=>∃ sl',v=.agg (cs p sl')∧Ow3 w w' sl' p∧Kept No w w':=by
 refine C158 ?_
 unfold L158
 intro w1 w2
 have hb1:Blk w1 w.heap.size (cs p sl):=Blk.alloc _ _ _
 have hk1:Kept No w w1:=Kept.alloc _ _ _
 clear_value w1
 have hb2:Blk w2 w1.heap.size (cs zP zS):=Blk.alloc _ _ _
 have hk2:Kept No w1 w2:=Kept.alloc _ _ _
 clear_value w2
 have k2:=hk1.no hk2
 have hz1:=hk1.size
 have hl1:=hb1.lt
 have hl2:=hb2.lt
 refine own3 (f:=47) (fun h hl=>clone3_ok h hl) (w0:=w) (Nat.le_refl _) k2.size (hb1.no' hk2) (h.no k2) hbd fun sl' w9 hb9 ho9 hf9 hk9=>?_
 refine ld11 hb9 (st11 (p:=p) (s:=sl') (hb2.keep hk9 (by omega)) rfl fun w20 hb20 hk20=>ld11 hb20 ?_)
 exact ⟨sl',rfl,ho9.keep hk20 fun b hb e=>by have:=hf9 b hb; omega,(k2.fresh hk9 fun x e=>by omega).fresh hk20 fun x e=>by omega⟩
theorem when_to {b:Bool} {e:Int} {Q:Value→World→Prop} (hq:Q (.int .i64 (if b=true then e else 0)) w):CallR Tryz.prog 196 [.bool b,.int .i64 e] w Q:=by
 refine C196 ?_
 unfold L196
 cases b with
 | true=>exact hq
 | false=>exact hq
variable {gk : Nat} {d : Int}
theorem lask_ok (h:Rd3 w sl p) (hbd:Bd p) (hck:ckP p) (hc:p.c=false) (n:Int) :
 CallR Tryz.prog 195 [.agg (cs p sl),hv gk d,.int .i64 n] w fun v w'=>∃ sl',v=.tuple #[.agg (cs p sl'),.int .i64 n]∧Ow3 w w' sl' p∧Kept No w w':=by
 refine C195 ?_
 unfold L195
 intro w1 w2
 have hb1:Blk w1 w.heap.size (cs p sl):=Blk.alloc _ _ _
 have hk1:Kept No w w1:=Kept.alloc _ _ _
 clear_value w1
 have hb2:Blk w2 w1.heap.size (cs zP zS):=Blk.alloc _ _ _
 have hk2:Kept No w1 w2:=Kept.alloc _ _ _
 clear_value w2
 have k2:=hk1.no hk2
 have hz1:=hk1.size
 have hl1:=hb1.lt
 have hl2:=hb2.lt
 refine ld11 (hb1.no' hk2) (CallR.mono (check_ok p sl (h.no k2) hbd) ?_)
 rintro v w3 ⟨rfl,hk3⟩
 have k3:=k2.no hk3
 have hb13:=(hb1.no' hk2).no' hk3
 refine ⟨_,rfl,condF (by rw [if_pos hck]; rfl) ⟨_,_,hv_nil,condF rfl ⟨_,(hb13.cell 10).trans rfl,condF hc ?_⟩⟩⟩
 refine own3 (f:=217) (fun h hl=>clone2_ok h hl) (w0:=w) (Nat.le_refl _) k3.size hb13 (h.no k3) hbd fun sl' w9 hb9 ho9 hf9 hk9=>?_
 have hz3:=hk3.size
 refine ld11 hb9 (st11 (p:=p) (s:=sl') ((hb2.no' hk3).keep hk9 (by omega)) rfl fun w20 hb20 hk20=>ld11 hb20 ?_)
 exact ⟨sl',rfl,ho9.keep hk20 fun b hb e=>by have:=hf9 b hb; omega,(k3.fresh hk9 fun x e=>by omega).fresh hk20 fun x e=>by omega⟩
end
end Go.Proofs.YteojolihgijdhaaGreatDoor
