/- Part 17 of 21 of the proof of TopFlushed. Conditions: the theorem's: none. -/
import Derived.Test.YteojolihgijdhaaGreatDoorKTopFlushed16
set_option linter.unusedVariables false
set_option maxRecDepth 512
namespace Go.Proofs.YteojolihgijdhaaGreatDoor
open Go.Lw
structure TmpN (w2 w':World) (g:Nat) (p:Pu) (sl:Sl3):Prop where
 ge:w2.heap.size≤g
 blk:Blk w' g (cs p sl)
 own:Ow3 w2 w' sl p
 ng:∀ b,In3 sl b→b≠g
 no:Kept No w2 w'
section
variable {w2 wa wg w5 w17 : World} {p : Pu} {sl : Sl3} {c : Array Value} {t : TypeId}
theorem tmpN1 (ka:Kept No w2 wa) (ho:Ow3 wa w5 sl p) (k5:Kept No wa w5) (hb17:Blk w17 w5.heap.size (cs p sl)) (hk17:Kept (·=w5.heap.size) (w5.alloc (.cells c t)) w17):TmpN w2 w17 w5.heap.size p sl:=by
 have hza:=ka.size
 have hz5:=k5.size
 have hk6:Kept No w5 (w5.alloc (.cells c t)):=Kept.alloc _ _ _
 have hn:∀ b,In3 sl b→b≠w5.heap.size:=fun b hb e=>by have:=ho.lt b hb; omega
 exact ⟨by omega,hb17,((ho.base hza).no hk6).keep hk17 fun b hb e=>hn b hb e,hn,((ka.no k5).no hk6).fresh hk17 fun x e=>by omega⟩
theorem tmpN2 (kg:Kept No w2 wg) (ho:Ow3 (wg.alloc (.cells c t)) w5 sl p) (k5:Kept No (wg.alloc (.cells c t)) w5) (hb17:Blk w17 wg.heap.size (cs p sl)) (hk17:Kept (·=wg.heap.size) w5 w17):TmpN w2 w17 wg.heap.size p sl:=by
 have hk6:Kept No wg (wg.alloc (.cells c t)):=Kept.alloc _ _ _
 have hzg:=kg.size
 have hz6:(wg.alloc (.cells c t)).heap.size=wg.heap.size+1:=by simp
 have hnew:=ho.new
 have hn:∀ b,In3 sl b→b≠wg.heap.size:=fun b hb e=>by have:=hnew b hb; omega
 exact ⟨hzg,hb17,(ho.base (by omega)).keep hk17 fun b hb e=>hn b hb e,hn,((kg.no hk6).no k5).fresh hk17 fun x e=>by omega⟩
end
section
variable {w : World} {L : KL} {gk : Nat} {s : AK} {tg : Nat → Nat} {V : TV}
set_option maxHeartbeats 4000000 in
theorem tchange_ok (h:TO w gk L s tg V) {i:Nat} {x:It} (hx:V.its[i]?=some x) (hbd:Bd x.p) {cl:Cl} (hfd:cl.fd=(i:Int)) {k:Nat} (hB:bodyB Tryz.prog k=true) {Post:Int→List Int→Pu→AK→Prop}
 (hf:∀ wa sl1,Kept No w wa→Rd3 wa sl1 x.p→CallR Tryz.prog k [.agg (cs x.p sl1),hv gk x.d,.agg cl.cells] wa (Turned wa gk L Post)) :
 CallR Tryz.prog 46 [pd V.gt,.agg cl.cells,.func (.func k) #[] #[]] w (Did w gk L tg V fun n bs s' V'=>∃ p' sl',V'={ V with its:=V.its.set i { x with p:=p',sl:=sl' } }∧Post n bs p' s'):=by
 refine C46 ?_
 unfold L46
 intro w1
 have hb1:Blk w1 w.heap.size #[pd V.gt]:=Blk.alloc _ _ _
 have hk1:Kept No w w1:=Kept.alloc _ _ _
 clear_value w1
 intro w2
 have hb2:Blk w2 w1.heap.size cl.cells:=Blk.alloc _ _ _
 have hk2:Kept No w1 w2:=Kept.alloc _ _ _
 clear_value w2
 intro w3
 have hb3:Blk w3 w2.heap.size An.zero.cells:=Blk.alloc _ _ _
 have hk3:Kept No w2 w3:=Kept.alloc _ _ _
 clear_value w3
 have k3:Kept No w w3:=(hk1.no hk2).no hk3
 have hz1:=hk1.size
 have hz2:=hk2.size
 have hz3:=hk3.size
 have hl1:=hb1.lt
 have hl2:=hb2.lt
 have hl3:=hb3.lt
 have hb13:=(hb1.no' hk2).no' hk3
 have hb23:=hb2.no' hk3
 have callS:∀ wa,Kept No w3 wa→CallR Tryz.prog 106 [pd V.rg,.int .i64 cl.fd] wa fun v w'=>∃ sl',v=.tuple #[.agg (cs x.p sl'),.int .i64 0]∧Ow3 wa w' sl' x.p∧Kept No wa w':=fun wa ka=>by
  rw [hfd]
  exact rstate_ok (h.no (k3.no ka)) hx hbd
 obtain ⟨J,hJ⟩:∃ J:List Value→World→Prop,J=fun vs w'=>∃ g sl',vs=[pd g,.int .i64 0]∧TmpN w3 w' g x.p sl':=⟨_,rfl⟩
 refine ⟨J,?_,?_⟩
 ·intro w4
  have hk4:Kept No w3 w4:=Kept.drew _ _
  clear_value w4
  have kA:Kept No w4 (World.alloc w4 (.cells (cs zP zS) 151)):=Kept.alloc _ _ _
  have k4:=k3.no hk4
  have h4:=h.no k4
  have hA:=h4.no kA
  have e13:w4.cell? ⟨w.heap.size,0,none⟩=some (pd V.gt):=(hb13.no' hk4).at0 rfl
  have e1A:(World.alloc w4 (.cells (cs zP zS) 151)).cell? ⟨w.heap.size,0,none⟩=some (pd V.gt):=((hb13.no' hk4).no' kA).at0 rfl
  have e23:w4.cell? (Addr.add ⟨V.gt,0,none⟩ 2)=some (pd V.rg):=h4.task.at (i:=2) rfl
  have e2A:(World.alloc w4 (.cells (cs zP zS) 151)).cell? (Addr.add ⟨V.gt,0,none⟩ 2)=some (pd V.rg):=hA.task.at (i:=2) rfl
  have e33:w4.cell? ⟨w1.heap.size,1,none⟩=some (.int .i64 cl.fd):=((hb23.no' hk4).cell 1).trans rfl
  have e3A:(World.alloc w4 (.cells (cs zP zS) 151)).cell? ⟨w1.heap.size,1,none⟩=some (.int .i64 cl.fd):=(((hb23.no' hk4).no' kA).cell 1).trans rfl
  have call3:=callS w4 hk4
  have callA:=callS _ (hk4.no kA)
  repeat' first
   | refine CallR.mono call3 ?_
     rintro v w5 ⟨sl',rfl,ho,k5⟩
     refine ⟨_,_,_,_,_,_,_,_,_,_,_,_,_,_,_,_,_,_,rfl,st11 (p:=x.p) (s:=sl') (Blk.alloc w5 (cs zP zS) _) rfl fun w17 hb17 hk17=>?_⟩
     rw [hJ]
     exact ⟨_,sl',rfl,tmpN1 hk4 ho k5 hb17 hk17⟩
   | refine CallR.mono callA ?_
     rintro v w5 ⟨sl',rfl,ho,k5⟩
     refine ⟨_,_,_,_,_,_,_,_,_,_,_,_,_,_,_,_,_,_,rfl,st11 (p:=x.p) (s:=sl') ((Blk.alloc w4 (cs zP zS) 151).no' k5) rfl fun w17 hb17 hk17=>?_⟩
     rw [hJ]
     exact ⟨_,sl',rfl,tmpN2 hk4 ho k5 hb17 hk17⟩
   | refine ⟨_,e13,nnI ?_⟩
   | refine ⟨_,e1A,nnI ?_⟩
   | refine ⟨_,e23,?_⟩
   | refine ⟨_,e2A,?_⟩
   | refine ⟨_,e33,?_⟩
   | refine ⟨_,e3A,?_⟩
   | refine And.intro ?_ ?_
 ·rintro _ p238 n239 w197 hj
  rw [hJ] at hj
  obtain ⟨g,sl1,hvs,hT⟩:=hj
  simp only [List.cons.injEq,Value.int.injEq,Value.pointer.injEq,true_and,and_true] at hvs
  obtain ⟨rfl,rfl⟩:=hvs
  refine condF rfl ?_
  intro w203
  have hk203:Kept No w197 w203:=Kept.drew _ _
  clear_value w203
  have k203':Kept No w3 w203:=hT.no.no hk203
  have k203:Kept No w w203:=k3.no k203'
  have h203:=h.no k203
  refine ⟨_,(hb13.no' k203').at0 rfl,nnI ⟨_,h203.task.at (i:=2) rfl,_,((hb23.no' k203').cell 1).trans rfl,?_⟩⟩
  rw [hfd]
  refine rraw_ok h203 hx ⟨_,_,rfl,?_⟩
  obtain ⟨J2,hJ2⟩:∃ J:List Value→World→Prop,J=fun vs w'=>∃ g2 sl',vs=[pd g2]∧TmpN w203 w' g2 x.p sl':=⟨_,rfl⟩
  refine ⟨J2,?_,?_⟩
  ·intro w4
   have hk4:Kept No w203 w4:=Kept.drew _ _
   clear_value w4
   have kA:Kept No w4 (World.alloc w4 (.cells (cs zP zS) 151)):=Kept.alloc _ _ _
   have hk4':=k203'.no hk4
   have k4:=k3.no hk4'
   have h4:=h.no k4
   have hA:=h4.no kA
   have e13:w4.cell? ⟨w.heap.size,0,none⟩=some (pd V.gt):=(hb13.no' hk4').at0 rfl
   have e1A:(World.alloc w4 (.cells (cs zP zS) 151)).cell? ⟨w.heap.size,0,none⟩=some (pd V.gt):=((hb13.no' hk4').no' kA).at0 rfl
   have e23:w4.cell? (Addr.add ⟨V.gt,0,none⟩ 2)=some (pd V.rg):=h4.task.at (i:=2) rfl
   have e2A:(World.alloc w4 (.cells (cs zP zS) 151)).cell? (Addr.add ⟨V.gt,0,none⟩ 2)=some (pd V.rg):=hA.task.at (i:=2) rfl
   have e33:w4.cell? ⟨w1.heap.size,1,none⟩=some (.int .i64 cl.fd):=((hb23.no' hk4').cell 1).trans rfl
   have e3A:(World.alloc w4 (.cells (cs zP zS) 151)).cell? ⟨w1.heap.size,1,none⟩=some (.int .i64 cl.fd):=(((hb23.no' hk4').no' kA).cell 1).trans rfl
   have call3:=callS w4 hk4'
   have callA:=callS _ (hk4'.no kA)
   repeat' first
    | refine CallR.mono call3 ?_
      rintro v w5 ⟨sl',rfl,ho,k5⟩
      refine ⟨_,_,_,_,_,_,_,_,_,_,_,_,_,_,_,_,_,_,rfl,st11 (p:=x.p) (s:=sl') (Blk.alloc w5 (cs zP zS) _) rfl fun w17 hb17 hk17=>?_⟩
      rw [hJ2]
      exact ⟨_,sl',rfl,tmpN1 hk4 ho k5 hb17 hk17⟩
    | refine CallR.mono callA ?_
      rintro v w5 ⟨sl',rfl,ho,k5⟩
      refine ⟨_,_,_,_,_,_,_,_,_,_,_,_,_,_,_,_,_,_,rfl,st11 (p:=x.p) (s:=sl') ((Blk.alloc w4 (cs zP zS) 151).no' k5) rfl fun w17 hb17 hk17=>?_⟩
      rw [hJ2]
      exact ⟨_,sl',rfl,tmpN2 hk4 ho k5 hb17 hk17⟩
    | refine ⟨_,e13,nnI ?_⟩
    | refine ⟨_,e1A,nnI ?_⟩
    | refine ⟨_,e23,?_⟩
    | refine ⟨_,e2A,?_⟩
    | refine ⟨_,e33,?_⟩
    | refine ⟨_,e3A,?_⟩
    | refine And.intro ?_ ?_
  ·rintro _ p478 w398 hj2
   rw [hJ2] at hj2
   obtain ⟨g2,sl2,hvs,hT2⟩:=hj2
   simp only [List.cons.injEq,Value.pointer.injEq,and_true] at hvs
   subst hvs
   have k398':Kept No w3 w398:=k203'.no hT2.no
   have k398:Kept No w w398:=k3.no k398'
   have hbg:Blk w398 g (cs x.p sl1):=(hT.blk.no' hk203).no' hT2.no
   have hr1:Rd3 w398 sl1 x.p:=(hT.own.rd.no hk203).no hT2.no
   refine ld11 hbg (ld9 (hb23.no' k398') ⟨k,#[],#[],rfl,hB,CallR.mono (hf w398 sl1 k398 hr1) ?_⟩)
   rintro v w399 ⟨an,bs,p',sl',s',L',rfl,he,hSR,hbs,hin,hbl,hbd',hck',hc',hpost,hnil⟩
   have hz398:=k398'.size
   have hge:=hT.ge
   have hlg:=hbg.lt
   have hnew:=hSR.own.new
   have hlt:=hSR.own.lt
   have nL:∀ z,w.heap.size≤z→¬ (L.own z≠none):=fun z hz e=>e (h.ker.new_none hz)
   have h399:TO w399 gk L' s' tg V:=(h.no k398).kern hSR.ker (.of_k hSR.st) fun z (e:No z)=>e.elim
   have g399:GS No w398 w399 L L' tg tg:=GS.of_x (.of_k hSR.st) tg fun z hz=>by have:=(h.own z hz).2; have:=k398.size; omega
   have nOT:∀ z,w.heap.size≤z→z< w398.heap.size→¬ OT L' tg z:=fun z z1 z2=>h.temp k398.size g399 z1 z2
   refine ⟨_,_,_,_,_,_,_,_,_,_,_,_,_,_,_,_,_,_,_,_,_,_,_,_,_,_,rfl,?_⟩
   refine st11 (p:=p') (s:=sl') (hbg.keep hSR.st.kept (nL _ (by omega))) rfl fun w410 hb410 hk410=>?_
   have hb3':Blk w410 w2.heap.size An.zero.cells:=(((hb3.no' k398')).keep hSR.st.kept (nL _ (by omega))).keep hk410 (by omega)
   refine st5 hb3' rfl fun w415 hb415 hk415 hs415=>?_
   have hb415:Blk w415 w2.heap.size an.cells:=hb415
   intro w416
   have hk416:Kept No w415 w416:=Kept.drew _ _
   clear_value w416
   have hkk:Kept (fun z=>z=g∨z=w2.heap.size) w399 w416:=((hk410.mono fun _ _ e=>(.inl e:_=g∨_=w2.heap.size)).trans hk415 fun _ _ e=>.inr e).no hk416
   have hkS:∀ z,(z=g∨z=w2.heap.size)→w.heap.size≤z∧z< w398.heap.size:=fun z e=>by
    rcases e with e | e <;> exact ⟨by omega,by omega⟩
   have h416:TO w416 gk L' s' tg V:=h399.keep hkk fun z e=>nOT z (hkS z e).1 (hkS z e).2
   have hb16:Blk w416 w.heap.size #[pd V.gt]:=((hb13.no' k398').keep hSR.st.kept (nL _ (Nat.le_refl _))).keep hkk (by omega)
   have hb26:Blk w416 w1.heap.size cl.cells:=((hb23.no' k398').keep hSR.st.kept (nL _ hz1)).keep hkk (by omega)
   have hbg6:Blk w416 g (cs p' sl'):=(hb410.keep hk415 (by omega)).no' hk416
   have ho416:Rd3 w416 sl' p':=(hSR.own.keep hkk fun b hb e=>by have:=hnew b hb; have:=(hkS b e).2; omega).rd
   refine ⟨_,hb16.at0 rfl,nnI ⟨_,h416.task.at (i:=2) rfl,_,(hb26.cell 1).trans rfl,ld11 hbg6 ?_⟩⟩
   rw [hfd]
   refine CallR.mono (rswap_ok h416 hx ho416 hbd' hck' hc') ?_
   rintro v w417 ⟨rfl,sl3,h417,g417,hnew3⟩
   have hz399:=hSR.st.size
   have hz416:=hkk.size
   have nOT':∀ z,w.heap.size≤z→z< w398.heap.size→¬ OT L' (tg7 tg sl3) z:=fun z z1 z2=>g417.free (nOT z z1 z2) (by omega)
   have hb317:Blk w417 w2.heap.size an.cells:=g417.blk (hb415.no' hk416) (nOT _ (by omega) (by omega)) fun e=>e
   refine ⟨_,rfl,ld5 hb317 (st5 hb317 rfl fun w422 hb422 hk422 hs422=>?_)⟩
   have hb422:Blk w422 w2.heap.size an.cells:=hb422
   refine C108 ?_
   unfold L108
   refine ⟨false,w422,by kernel_rfl,condF rfl (ld5 hb422 ?_)⟩
   have h422:=h417.keep hk422 fun z e=>by have e:z=w2.heap.size:=e; rw [e]; exact nOT' _ (by omega) (by omega)
   have gA:GS No w w399 L L' tg tg:=(GS.of_no k398 No L tg).trans g399
   have gB:GS No w w416 L L' tg tg:=gA.priv hkk fun z e=>.inr (hkS z e).1
   have gD:=(gB.trans g417).priv hk422 fun z e=>.inr (by have e:z=w2.heap.size:=e; omega)
   have hk398s:=k398.size
   have nOTd:∀ z,inA an.da z→¬ OT L' tg z:=fun z hz e=>by
    rcases e with e | e
    ·exact e (hin z hz).2.2
    ·have:=(h.own z e).2; have:=(hin z hz).1; omega
   refine ⟨an,bs,L',s',_,_,rfl,he,h422,gD,⟨?_,fun z hz=>⟨by have:=(hin z hz).1; omega,g417.free (nOTd z hz) (by have:=(hin z hz).2.1; omega),?_⟩,hnil⟩,rfl,rfl,rfl,rfl,rfl,hbl,p',sl3,rfl,hpost⟩
   ·refine ((hbs.keep hkk fun z _ hz e=>?_).keep g417.kept fun z _ hz e=>?_).keep hk422 fun z _ hz e=>?_
    ·have:=(hin z hz).1; have:=(hkS z e).2; omega
    ·rcases e with e | e
     ·exact nOTd z hz e
     ·exact e
    ·have:=(hin z hz).1; omega
   ·have:=(hin z hz).2.1
    have:=g417.size
    have:=hk422.size
    omega
end
def kf (l:List (Int × Value)):List (Value × Value):=l.map fun x=>(.int .i64 x.1,x.2)
theorem kf_snoc (l:List (Int × Value)) (k:Int) (v:Value):kf (l ++ [(k,v)])=kf l ++ [(.int .i64 k,v)]:=by simp [kf]
theorem kf_out {l:List (Int × Value)} {k:Int} (h:∀ x ∈ l,x.1≠k):∀ x ∈ kf l,x.1≠.int .i64 k:=fun x hx e=>by
 obtain ⟨y,hy,rfl⟩:=List.mem_map.1 hx
 simp only [Value.int.injEq,true_and] at e
 exact h y hy e
theorem uC:∃ kt et,Tryz.prog.underlying 102=some (.map kt et)∧Tryz.prog.underlying kt=some (.int .i64):=⟨3,105,by kernel_rfl,by kernel_rfl⟩
theorem uD:∃ kt et,Tryz.prog.underlying 70=some (.map kt et)∧Tryz.prog.underlying kt=some (.int .i64):=⟨3,68,by kernel_rfl,by kernel_rfl⟩
theorem upd_to {mty:TypeId} (hm:∃ kt et,Tryz.prog.underlying mty=some (.map kt et)∧Tryz.prog.underlying kt=some (.int .i64)) {w:World} {r:Nat} {l:List (Int × Value)} (h:MapO w r (.int .i64) (kf l)) (k:Int) (hout:∀ x ∈ l,x.1≠k) (v:Value) {K:World→Prop}
 (hk:∀ w',MapO w' r (.int .i64) (kf (l ++ [(k,v)]))→Kept (·=r) w w'→w'.heap.size=w.heap.size→K w'):∃ w',Sem.run Tryz.prog (Instr.mapUpdate mty (.map (some r)) (.int .i64 k) v) w=.ok () w'∧K w':=by
 obtain ⟨kt,et,h1,h2⟩:=hm
 obtain ⟨w',hr,hM,hk',hs⟩:=update_new (P:=Tryz.prog) h1 h2 h (k:=.int .i64 k) rfl (kf_out hout) v
 refine ⟨w',hr,hk w' ?_ hk' hs⟩
 rw [kf_snoc]
 exact hM
abbrev fv (k:Nat):Value:=.func (.func k) #[] #[]
theorem oneC_fv {k:Nat} {K:Prop} (h:K):oneC (fv k) K:=h
def chL:List (Int × Nat):=[(8,96),(9,97),(10,98),(11,99),(12,100),(13,101),(14,102),(15,103),(16,104),(28,105)]
def chF (l:List (Int × Nat)):List (Int × Value):=l.map fun x=>(x.1,fv x.2)
theorem changes_ok {w:World}:CallR Tryz.prog 44 [] w fun v w'=>v=.map (some w.heap.size)∧MapO w' w.heap.size (.int .i64) (kf (chF chL))∧Kept No w w':=by
 refine C44 ?_
 unfold L44
 intro w1
 have hM:MapO w1 w.heap.size (.int .i64) (kf []):=MapO.new w _
 have hk1:Kept No w w1:=Kept.alloc _ _ _
 clear_value w1
 refine upd_to uC hM 8 (by simp) _ fun w2 m2 k2 s2=>?_
 refine upd_to uC m2 9 (by simp) _ fun w3 m3 k3 s3=>?_
 refine upd_to uC m3 10 (by simp) _ fun w4 m4 k4 s4=>?_
 refine upd_to uC m4 11 (by simp) _ fun w5 m5 k5 s5=>?_
 refine upd_to uC m5 12 (by simp) _ fun w6 m6 k6 s6=>?_
 refine upd_to uC m6 13 (by simp) _ fun w7 m7 k7 s7=>?_
 refine upd_to uC m7 14 (by simp) _ fun w8 m8 k8 s8=>?_
 refine upd_to uC m8 15 (by simp) _ fun w9 m9 k9 s9=>?_
 refine upd_to uC m9 16 (by simp) _ fun w10 m10 k10 s10=>?_
 refine upd_to uC m10 28 (by simp) _ fun w11 m11 k11 s11=>?_
 have kk:Kept (·=w.heap.size) w1 w11:=((((((((k2.trans k3 fun _ _ e=>e).trans k4 fun _ _ e=>e).trans k5 fun _ _ e=>e).trans k6 fun _ _ e=>e).trans k7 fun _ _ e=>e).trans k8 fun _ _ e=>e).trans k9 fun _ _ e=>e).trans k10 fun _ _ e=>e).trans k11 fun _ _ e=>e
 exact ⟨rfl,m11,hk1.fresh kk fun x e=>by omega⟩
def doL:List (Int × Value):=[(1,fv 25),(2,fv 26),(3,fv 27),(4,fv 28),(5,fv 29),(6,fv 30),(7,fv 31),(17,fv 32),(18,fv 33),(19,fv 34),(20,fv 35),(21,fv 36),(22,fv 37),(23,fv 38),(24,fv 39),(25,fv 40),(26,fv 41),(27,fv 42),(29,fv 43),(30,fv 43)]
def clo (b:Nat):Value:=.func (.func 45) #[] #[pd b]
structure Doers (w w':World) (r:Nat) (m:List (Int × Value)):Prop where
 ge:w.heap.size≤r
 map:MapO w' r (.int .i64) (kf m)
 base:∀ x ∈ doL,x ∈ m
 chg:∀ x ∈ chL,∃ b,(x.1,clo b) ∈ m∧Blk w' b #[fv x.2]
 no:Kept No w w'
def mapLen (w:World) (r:Nat):Nat:=match w.heap[r]? with
 | some (.map es _)=>es.size
 | _=>0
theorem mapLen_eq {w:World} {r:Nat} {d:TypeDesc} {m:List (Value × Value)} (h:MapO w r d m):mapLen w r=m.length:=by
 obtain ⟨es,clock,hb,_,_,rfl⟩:=h
 unfold mapLen
 rw [hb]
 simp
set_option maxHeartbeats 1000000 in
theorem doers_ok {w:World}:CallR Tryz.prog 15 [] w fun v w'=>∃ r m,v=.map (some r)∧Doers w w' r m:=by
 refine C15 ?_
 unfold L15
 intro w1
 have hM:MapO w1 w.heap.size (.int .i64) (kf []):=MapO.new w _
 have hk1:Kept No w w1:=Kept.alloc _ _ _
 clear_value w1
 refine upd_to uD hM 1 (by simp) _ fun w2 m2 k2 s2=>?_
 refine upd_to uD m2 2 (by simp) _ fun w3 m3 k3 s3=>?_
 refine upd_to uD m3 3 (by simp) _ fun w4 m4 k4 s4=>?_
 refine upd_to uD m4 4 (by simp) _ fun w5 m5 k5 s5=>?_
 refine upd_to uD m5 5 (by simp) _ fun w6 m6 k6 s6=>?_
 refine upd_to uD m6 6 (by simp) _ fun w7 m7 k7 s7=>?_
 refine upd_to uD m7 7 (by simp) _ fun w8 m8 k8 s8=>?_
 refine upd_to uD m8 17 (by simp) _ fun w9 m9 k9 s9=>?_
 refine upd_to uD m9 18 (by simp) _ fun w10 m10 k10 s10=>?_
 refine upd_to uD m10 19 (by simp) _ fun w11 m11 k11 s11=>?_
 refine upd_to uD m11 20 (by simp) _ fun w12 m12 k12 s12=>?_
 refine upd_to uD m12 21 (by simp) _ fun w13 m13 k13 s13=>?_
 refine upd_to uD m13 22 (by simp) _ fun w14 m14 k14 s14=>?_
 refine upd_to uD m14 23 (by simp) _ fun w15 m15 k15 s15=>?_
 refine upd_to uD m15 24 (by simp) _ fun w16 m16 k16 s16=>?_
 refine upd_to uD m16 25 (by simp) _ fun w17 m17 k17 s17=>?_
 refine upd_to uD m17 26 (by simp) _ fun w18 m18 k18 s18=>?_
 refine upd_to uD m18 27 (by simp) _ fun w19 m19 k19 s19=>?_
 refine upd_to uD m19 29 (by simp) _ fun w20 m20 k20 s20=>?_
 refine upd_to uD m20 30 (by simp) _ fun w21 m21 k21 s21=>?_
 have kA:Kept (·=w.heap.size) w1 w11:=((((((((k2.trans k3 fun _ _ e=>e).trans k4 fun _ _ e=>e).trans k5 fun _ _ e=>e).trans k6 fun _ _ e=>e).trans k7 fun _ _ e=>e).trans k8 fun _ _ e=>e).trans k9 fun _ _ e=>e).trans k10 fun _ _ e=>e).trans k11 fun _ _ e=>e
 have kB:Kept (·=w.heap.size) w11 w21:=((((((((k12.trans k13 fun _ _ e=>e).trans k14 fun _ _ e=>e).trans k15 fun _ _ e=>e).trans k16 fun _ _ e=>e).trans k17 fun _ _ e=>e).trans k18 fun _ _ e=>e).trans k19 fun _ _ e=>e).trans k20 fun _ _ e=>e).trans k21 fun _ _ e=>e
 have k1:Kept No w w21:=hk1.fresh (kA.trans kB fun _ _ e=>e) fun x e=>by omega
 have hD:MapO w21 w.heap.size (.int .i64) (kf doL):=m21
 clear kA kB k2 k3 k4 k5 k6 k7 k8 k9 k10 k11 k12 k13 k14 k15 k16 k17 k18 k19 k20 k21 m2 m3 m4 m5 m6 m7 m8 m9 m10 m11 m12 m13 m14 m15 m16 m17 m18 m19 m20 m21 hM hk1 s2 s3 s4 s5 s6 s7 s8 s9 s10 s11 s12 s13 s14 s15 s16 s17 s18 s19 s20 s21
 refine CallR.mono changes_ok ?_
 rintro v w22 ⟨rfl,hC,hk22⟩
 obtain ⟨kt,et,hu1,hu2⟩:=uC
 obtain ⟨w23,hrun,hR,hk23,hs23⟩:=range_map (P:=Tryz.prog) hu1 hC
 refine ⟨_,rfl,w23,hrun,?_⟩
 have k23:Kept No w21 w23:=hk22.no hk23
 have hz1:=k1.size
 have hz22:=hk22.size
 have hl21:=hD.lt
 have hlC:=hC.lt
 obtain ⟨I,hI⟩:∃ I:List Value→World→Prop,I=fun vs w'=>∃ (ds:List (Int × Nat × Nat)) (lf:List (Int × Nat)),vs=[]∧RngO w' w21.heap.size w22.heap.size (.int .i64) (kf (chF chL)) (kf (chF lf))∧MapO w' w.heap.size (.int .i64) (kf (doL ++ ds.map fun d=>(d.1,clo d.2.2)))∧
  (∀ d ∈ ds,w23.heap.size≤d.2.2∧Blk w' d.2.2 #[fv d.2.1])∧((ds.map fun d=>(d.1,d.2.1)) ++ lf).Perm chL∧Kept (·=w.heap.size) w21 w'∧w23.heap.size≤w'.heap.size:=⟨_,rfl⟩
 refine ⟨I,fun _ w'=>30 - mapLen w' w.heap.size,?_,?_⟩
 ·rw [hI]
  refine ⟨[],chL,rfl,hR,?_,fun d hd=>by simp at hd,by simp,k23.mono fun _ _ e=>e.elim,Nat.le_refl _⟩
  rw [List.map_nil,List.append_nil]
  exact hD.keep k23 fun e=>e
 ·rintro _ w24 hinv
  rw [hI] at hinv
  obtain ⟨ds,lf,_,hR4,hM4,hd4,hp4,hk4,hz4⟩:=hinv
  rcases next_map (P:=Tryz.prog) hR4 0 with ⟨hl,hrun4⟩ | ⟨p,l1,l2,w26,hl,hpm,hrun4,hR5,hk5,hz5,hent⟩
  ·left
   have hlf:lf=[]:=by
    have:=congrArg List.length hl
    simp [kf,chF] at this
    exact this
   subst hlf
   rw [List.append_nil] at hp4
   refine ⟨w24,hrun4,w.heap.size,_,rfl,Nat.le_refl _,hM4,fun x hx=>List.mem_append_left _ hx,fun x hx=>?_,k1.fresh hk4 fun z e=>by omega⟩
   obtain ⟨d,hd,e⟩:=List.mem_map.1 (hp4.mem_iff.2 hx)
   subst e
   exact ⟨d.2.2,List.mem_append_right _ (List.mem_map.2 ⟨d,hd,rfl⟩),(hd4 d hd).2⟩
  ·right
   have hl':kf (chF lf)=l1 ++ p :: l2:=hl
   have hlm:lf.map (fun x=>((.int .i64 x.1,fv x.2):Value × Value))=l1 ++ p :: l2:=by
    rw [← hl']; simp [kf,chF]
   obtain ⟨lf1,lf2',e1,e2,e3⟩:=List.map_eq_append_iff.1 hlm
   obtain ⟨q,lf2,e4,e5,e6⟩:=List.map_eq_cons_iff.1 e3
   subst e1 e4 e2 e6
   subst e5
   have hpl:(ds.map fun d=>(d.1,d.2.1)).length+(lf1.length+(lf2.length+1))=10:=by
    have:=hp4.length_eq
    simpa [chL] using this
   rw [List.length_map] at hpl
   have hnd:(((ds.map fun d=>(d.1,d.2.1)) ++ (lf1 ++ q :: lf2)).map (·.1)).Nodup:=(hp4.map _).nodup_iff.2 (by decide)
   have hqn:∀ x ∈ ds.map (fun d=>((d.1,clo d.2.2):Int × Value)),x.1≠q.1:=fun x hx e=>by
    obtain ⟨d,hd,rfl⟩:=List.mem_map.1 hx
    rw [List.map_append,List.nodup_append] at hnd
    exact hnd.2.2 d.1 (List.mem_map.2 ⟨(d.1,d.2.1),List.mem_map.2 ⟨d,hd,rfl⟩,rfl⟩) q.1 (by simp) e
   have hqc:q ∈ chL:=hp4.mem_iff.1 (by simp)
   have hqd:∀ x ∈ doL,x.1≠q.1:=by
    intro x hx
    have h1:x.1 ∈ doL.map (·.1):=List.mem_map.2 ⟨x,hx,rfl⟩
    have h2:q.1 ∈ chL.map (·.1):=List.mem_map.2 ⟨q,hqc,rfl⟩
    intro e
    rw [e] at h1
    revert h1
    have h3:∀ y ∈ chL.map (·.1),y ∉ doL.map (·.1):=by decide
    exact h3 _ h2
   refine ⟨_,_,w26,hrun4,.inr ⟨q.1,fv q.2,w26,hent,?_⟩⟩
   intro w32
   have hb32:Blk w32 w26.heap.size #[.nilFunc]:=Blk.alloc _ _ _
   have hk32:Kept No w26 w32:=Kept.alloc _ _ _
   clear_value w32
   have hl32:=hb32.lt
   refine oneC_fv (stC_blk hb32 (by simp) fun w33 hb33 hk33 hs33=>?_)
   have hb33:Blk w33 w26.heap.size #[fv q.2]:=hb33
   have k33:Kept (·=w22.heap.size) w24 w33:=(hk5.no hk32).trans hk33 fun z hz e=>by omega
   have hM33:=hM4.keep k33 (by omega)
   refine upd_to uD hM33 q.1 (fun x hx=>?_) _ fun w34 m34 k34 s34=>?_
   ·rcases List.mem_append.1 hx with hx | hx
    ·exact hqd x hx
    ·exact hqn x hx
   ·have hz33:=hk33.size
    have hz32:=hk32.size
    refine ⟨?_,?_⟩
    ·rw [hI]
     refine ⟨ds ++ [(q.1,q.2,w26.heap.size)],lf1 ++ lf2,rfl,?_,?_,?_,?_,?_,by omega⟩
     ·have:kf (chF (lf1 ++ lf2))=List.map (fun x=>((.int .i64 x.1,fv x.2):Value × Value)) lf1 ++ List.map (fun x=>((.int .i64 x.1,fv x.2):Value × Value)) lf2:=by simp [kf,chF]; rfl
      rw [this]
      exact ((hR5.keep hk32 (fun e=>e) fun e=>e).keep hk33 (by omega) (by omega)).keep k34 (by omega) (by omega)
     ·rw [List.map_append,← List.append_assoc]
      exact m34
     ·intro d hd
      rcases List.mem_append.1 hd with hd | hd
      ·obtain ⟨h1,h2⟩:=hd4 d hd
       exact ⟨h1,(h2.keep k33 (by omega)).keep k34 (by omega)⟩
      ·simp only [List.mem_singleton] at hd
       subst hd
       exact ⟨by show w23.heap.size≤w26.heap.size; omega,hb33.keep k34 (by omega)⟩
     ·refine List.Perm.trans ?_ hp4
      rw [List.map_append,List.append_assoc]
      refine List.Perm.append_left _ ?_
      rw [List.map_cons,List.map_nil,List.singleton_append]
      exact (List.perm_middle (a:=q) (l₁:=lf1) (l₂:=lf2)).symm
     ·exact (hk4.trans k33 fun z hz e=>by omega).trans k34 fun z hz e=>e
    ·show 30 - mapLen w34 w.heap.size< 30 - mapLen w24 w.heap.size
     rw [mapLen_eq hM4,mapLen_eq m34]
     simp only [kf,List.length_map,List.length_append,List.length_cons,List.length_nil,doL]
     omega
section
variable {w : World} {L : KL} {gk : Nat} {s : AK} {tg : Nat → Nat} {V : TV}
theorem AnO.keep {w0 w w':World} {an:An} {bs:List Int} (h:AnO w0 w L tg an bs) {S:Nat→Prop} (k:Kept S w w') (hS:∀ z,S z→z< w0.heap.size):AnO w0 w' L tg an bs:=
 ⟨h.rd.keep k fun z _ hz e=>by have:=(h.off z hz).1; have:=hS z e; omega,fun z hz=>⟨(h.off z hz).1,(h.off z hz).2.1,Nat.lt_of_lt_of_le (h.off z hz).2.2 k.size⟩,h.nil⟩
theorem AnO.base {w1 w0 w:World} {an:An} {bs:List Int} (h:AnO w1 w L tg an bs) (hs:w0.heap.size≤w1.heap.size):AnO w0 w L tg an bs:=
 ⟨h.rd,fun z hz=>⟨by have:=(h.off z hz).1; omega,(h.off z hz).2⟩,h.nil⟩
theorem tdo1_ok (h:TO w gk L s tg V) {cl:Cl} {bq k:Nat} (hbq:Blk w bq #[fv k]) {Post:Int→List Int→AK→TV→Prop} (hc:∀ wa,Kept No w wa→CallR Tryz.prog 46 [pd V.gt,.agg cl.cells,fv k] wa (Did wa gk L tg V Post)) :
 CallR Tryz.prog 45 [pd V.gt,.agg cl.cells,pd bq] w (Did w gk L tg V Post):=by
 refine C45 ?_
 unfold L45
 intro w1
 have hb1:Blk w1 w.heap.size cl.cells:=Blk.alloc _ _ _
 have hk1:Kept No w w1:=Kept.alloc _ _ _
 clear_value w1
 intro w2
 have hb2:Blk w2 w1.heap.size An.zero.cells:=Blk.alloc _ _ _
 have hk2:Kept No w1 w2:=Kept.alloc _ _ _
 clear_value w2
 have k2:=hk1.no hk2
 have hz1:=hk1.size
 have hl2:=hb2.lt
 refine ld9 (hb1.no' hk2) ⟨_,(hbq.no' k2).at0 rfl,CallR.mono (hc w2 k2) ?_⟩
 rintro v w3 ⟨an,bs,L',s',tg',V',rfl,he,hT,hG,hA,e1,e2,e3,e4,e5,hbl,hP⟩
 have hn:¬ OT L' tg' w1.heap.size:=h.temp k2.size hG hz1 hl2
 have hb23:=hG.blk hb2 (h.new hz1) fun e=>e
 refine ⟨_,_,_,_,_,_,_,_,_,rfl,st5 hb23 rfl fun w8 hb8 hk8 hs8=>?_⟩
 have hb8:Blk w8 w1.heap.size an.cells:=hb8
 refine ld5 hb8 ?_
 exact ⟨an,bs,L',s',tg',V',rfl,he,hT.keep hk8 fun z e=>by have e:z=w1.heap.size:=e; rw [e]; exact hn,(GS.narrow k2 hG fun z e=>.inl e).priv hk8 fun z e=>.inr (by have e:z=w1.heap.size:=e; omega),
  (hA.keep hk8 fun z e=>by have e:z=w1.heap.size:=e; omega).base k2.size,e1,e2,e3,e4,e5,hbl,hP⟩
theorem aclone_nil {w:World} {Q:Value→World→Prop} (hq:Q (.slice none 0 0) w):CallR Tryz.prog 48 [.slice none 0 0] w Q:=by
 refine C48 ?_
 unfold L48
 exact condT rfl hq
theorem clone_ok' {w:World} {a:Option Addr} {l c:Nat} {bs:List Int} (h:RdB w a l c bs) (hl:l≤140737488355328) :
 CallR Tryz.prog 47 [.slice a l c] w fun v w'=>∃ a' c',v=.slice a' l c'∧OB w' a' l c' bs∧Kept No w w'∧Fresh w a'∧(a=none→a'=none∧c'=0):=by
 refine CallR.mono (clone_ok h hl) ?_
 rintro v w' ⟨a',c',rfl,h1,h2,h3,h4⟩
 rw [h.len] at h1
 refine ⟨a',c',rfl,h1,h2,h3,fun e=>⟨h4.2 e,?_⟩⟩
 exact (RdS.isNone h1.rd (h4.2 e)).2.1
theorem copied_ok2 {an:An} {bs:List Int} (hr:RdB w an.da an.dl an.dc bs) (hl:bs.length≤1000) :
 CallR Tryz.prog 16 [.agg an.cells] w fun v w'=>∃ an':An,v=.agg an'.cells∧Kept No w w'∧(an.da=none→an'=⟨an.e,an.n,none,an.dl,0⟩):=by
 refine C16 ?_
 unfold L16
 intro w1
 have hb1:Blk w1 w.heap.size an.cells:=Blk.alloc _ _ _
 have hk1:Kept No w w1:=Kept.alloc _ _ _
 clear_value w1
 intro w2
 have hb2:Blk w2 w1.heap.size An.zero.cells:=Blk.alloc _ _ _
 have hk2:Kept No w1 w2:=Kept.alloc _ _ _
 clear_value w2
 have hz1:=hk1.size
 have hl1:=hb1.lt
 have hl2:=hb2.lt
 have hlen:=hr.len
 have hb12:=hb1.no' hk2
 have k2:=hk1.no hk2
 refine ⟨fun wS=>Blk wS w.heap.size an.cells,hb12.drew,?_⟩
 intro w3
 have hk3:Kept No w2 w3:=Kept.drew _ _
 clear_value w3
 have k3:=k2.no hk3
 refine ⟨_,_,_,fun wS hS=>(hS.cell 3).trans rfl,_,_,_,fun wS hS=>(hS.cell 4).trans rfl,?_⟩
 refine CallR.mono (clone_ok' (hr.keep k3 fun _ _ _ e=>e) (by omega)) ?_
 rintro v w4 ⟨a',c',rfl,ho4,hk4,hf4,hnone⟩
 have hb14:=(hb12.no' hk3).no' hk4
 refine ⟨_,_,_,rfl,hb14,aclone_nil ⟨_,_,_,rfl,?_⟩⟩
 refine stC_blk hb14 (by simp [An.cells]) fun w6 hb6 hk6 _=>?_
 refine stC_blk hb6 (by simp [An.cells]) fun w7 hb7 hk7 _=>?_
 have hb7:Blk w7 w.heap.size (An.cells ⟨an.e,an.n,a',an.dl,c'⟩):=hb7
 have hb27:Blk w7 w1.heap.size An.zero.cells:=(((hb2.no' hk3).no' hk4).keep hk6 (by omega)).keep hk7 (by omega)
 refine ld5 hb7 (st5 hb27 rfl fun w12 hb12 hk12 _=>?_)
 have hb12:Blk w12 w1.heap.size (An.cells ⟨an.e,an.n,a',an.dl,c'⟩):=hb12
 refine ld5 hb12 ⟨_,rfl,?_,fun e=>?_⟩
 rotate_left
 ·obtain ⟨e1,e2⟩:=hnone e
  rw [e1,e2]
 exact (((k3.no hk4).fresh hk6 fun z e=>by omega).fresh hk7 fun z e=>by omega).fresh hk12 fun z e=>by omega
theorem tnone_to2 (h:TO w gk L s tg V) {Q:Value→World→Prop} (hq:Q (.bool false) w):CallR Tryz.prog 14 [pd V.gt] w Q:=by
 refine C14 ?_
 unfold L14
 exact condF rfl (nnI ⟨_,h.task.at0 rfl,hq⟩)
open Classical in
noncomputable def tg6 (tg:Nat→Nat) (a:Option Addr) (z:Nat):Nat:=if inA a z then 6 else tg z
theorem tg6_in {a:Option Addr} {z:Nat} (h:inA a z):tg6 tg a z=6:=if_pos h
theorem tg6_out {a:Option Addr} {z:Nat} (h:¬ inA a z):tg6 tg a z=tg z:=if_neg h
theorem tg6_ne {a:Option Addr} {z:Nat} (h:tg6 tg a z≠0):inA a z∨tg z≠0:=by
 by_cases e:inA a z
 ·exact .inl e
 ·rw [tg6_out e] at h; exact .inr h
theorem TO.setAns (h:TO w gk L s tg V) {w1 w2:World} {a':Option Addr} {l' c':Nat} {xs':List Value} (k1:Kept (inA V.aa) w w1) (hs:SlO 5 w1 a' l' c' xs') (hin:∀ z,inA a' z→inA V.aa z∨(w.heap.size≤z)) (k2:Kept (·=V.gt) w1 w2)
 (hb:Blk w2 V.gt (TV.cells { V with aa:=a',al:=l',ac:=c',xs:=xs' } gk)):TO w2 gk L s (tg6 tg a') { V with aa:=a',al:=l',ac:=c',xs:=xs' }:=by
 have kk:Kept (fun z=>inA V.aa z∨z=V.gt) w w2:=(k1.mono fun _ _ e=>(.inl e:inA V.aa _∨_=V.gt)).trans k2 fun _ _ e=>.inr e
 have ne:∀ z,tg z≠6→tg z≠1→¬ (inA V.aa z∨z=V.gt):=fun z h6 h1 e=>by
  rcases e with e | e
  ·exact h6 (h.taa z e)
  ·rw [e] at h1; exact h1 h.tgt
 have old:∀ {z},tg z≠0→tg6 tg a' z=tg z:=fun {z} hz=>by
  by_cases e:inA a' z
  ·rw [tg6_in e]
   rcases hin z e with e | e
   ·exact (h.taa z e).symm
   ·have:=(h.own z hz).2; omega
  ·exact tg6_out e
 have hlt:=SlO.lt hs
 have hgt:∀ z,inA a' z→z≠V.gt:=fun z hz e=>by
  rcases hin z hz with e' | e'
  ·have:=h.taa z e'; rw [e,h.tgt] at this; omega
  ·have:=(h.own V.gt (by rw [h.tgt]; decide)).2; omega
 exact {
  ker:=h.ker.keep kk fun z e=>by
   rcases e with e | e
   ·exact (h.own z (by rw [h.taa z e]; decide)).1
   ·rw [e]; exact (h.own V.gt (by rw [h.tgt]; decide)).1
  task:=hb
  reg:=h.reg.keep kk (ne _ (by rw [h.trg]; omega) (by rw [h.trg]; omega))
  items:=h.items.keep kk fun z hz=>ne z (by rw [h.tai z hz]; omega) (by rw [h.tai z hz]; omega)
  it:=fun i x hx=>⟨(h.it i x hx).1.keep kk (ne _ (by rw [(h.tit i x hx).1]; omega) (by rw [(h.tit i x hx).1]; omega)),(h.it i x hx).2.keep kk fun z _ hz=>ne z (by rw [(h.tit i x hx).2 z hz]; omega) (by rw [(h.tit i x hx).2 z hz]; omega)⟩
  tab:=h.tab.keep kk (ne _ (by rw [h.tt]; omega) (by rw [h.tt]; omega))
  map:=h.map.keep kk (ne _ (by rw [h.trh]; omega) (by rw [h.trh]; omega))
  ans:=hs.keep k2 fun z hz=>hgt z hz
  tgt:=by rw [old (by rw [h.tgt]; decide)]; exact h.tgt
  tt:=by rw [old (by rw [h.tt]; decide)]; exact h.tt
  trg:=by rw [old (by rw [h.trg]; decide)]; exact h.trg
  trh:=by rw [old (by rw [h.trh]; decide)]; exact h.trh
  tai:=fun z hz=>by rw [old (by rw [h.tai z hz]; decide)]; exact h.tai z hz
  taa:=fun z hz=>tg6_in hz
  tit:=fun j y hy=>⟨by rw [old (by rw [(h.tit j y hy).1]; omega)]; exact (h.tit j y hy).1,fun z hz=>by rw [old (by rw [(h.tit j y hy).2 z hz]; decide)]; exact (h.tit j y hy).2 z hz⟩
  len:=h.len
  own:=fun z hz=>by
   rcases tg6_ne hz with e | e
   ·rcases hin z e with e' | e'
    ·have:=h.own z (by rw [h.taa z e']; decide)
     exact ⟨this.1,Nat.lt_of_lt_of_le this.2 kk.size⟩
    ·exact ⟨h.ker.new_none e',Nat.lt_of_lt_of_le (hlt z e) k2.size⟩
   ·exact ⟨(h.own z e).1,Nat.lt_of_lt_of_le (h.own z e).2 kk.size⟩ }
def Done (w:World) (gk:Nat) (L:KL) (tg:Nat→Nat) (V:TV) (Post:Int→List Int→AK→TV→Prop) (v:Value) (w':World):Prop:=
 ∃ (an:An) (bs:List Int) (L':KL) (s':AK) (tg':Nat→Nat) (V0:TV) (a':Option Addr) (c':Nat) (xs':List Value),v=.agg an.cells∧an.e=0∧TO w' gk L' s' tg' { V0 with aa:=a',al:=V.al+1,ac:=c',xs:=xs' }∧GS No w w' L L' tg tg'∧AnO w w' L' tg' an bs∧V0.gt=V.gt∧Post an.n bs s' V0∧(bs=[]→xs'=V.xs ++ (An.cells ⟨an.e,an.n,none,0,0⟩).toList)
def Way (w:World) (gk:Nat) (L:KL) (tg:Nat→Nat) (V:TV) (cl:Cl) (Post:Int→List Int→AK→TV→Prop):Prop:=
 ∀ wa wb r m,Kept No w wa→Doers wa wb r m→∃ (k:Nat) (xs:Array Value),(cl.op,.func (.func k) #[] xs) ∈ m∧bodyB Tryz.prog k=true∧CallR Tryz.prog k ([pd V.gt,.agg cl.cells] ++ xs.toList) wb (Did wb gk L tg V Post)
theorem way_do {cl:Cl} {k:Nat} {Post:Int→List Int→AK→TV→Prop} (hk:(cl.op,fv k) ∈ doL) (hB:bodyB Tryz.prog k=true) (hc:∀ wa,Kept No w wa→CallR Tryz.prog k [pd V.gt,.agg cl.cells] wa (Did wa gk L tg V Post)):Way w gk L tg V cl Post:=
 fun wa wb r m ka D=>⟨k,#[],D.base _ hk,hB,hc wb (ka.no D.no)⟩
theorem way_ch (h:TO w gk L s tg V) {cl:Cl} {k:Nat} {Post:Int→List Int→AK→TV→Prop} (hk:(cl.op,k) ∈ chL) (hc:∀ wa,Kept No w wa→CallR Tryz.prog 46 [pd V.gt,.agg cl.cells,fv k] wa (Did wa gk L tg V Post)):Way w gk L tg V cl Post:=
 fun wa wb r m ka D=>by
  obtain ⟨b,hb,hbl⟩:=D.chg _ hk
  exact ⟨45,#[pd b],hb,by kernel_rfl,tdo1_ok (h.no (ka.no D.no)) hbl fun wc kc=>hc wc ((ka.no D.no).no kc)⟩
set_option maxHeartbeats 1000000 in
theorem tdo_ok (h:TO w gk L s tg V) (hal:V.al≤1000000) {cl:Cl} {Post:Int→List Int→AK→TV→Prop} (way:Way w gk L tg V cl Post) :
 CallR Tryz.prog 7 [pd V.gt,.agg cl.cells] w (Done w gk L tg V Post):=by
 refine C7 ?_
 unfold L7
 intro w1
 have hb1:Blk w1 w.heap.size cl.cells:=Blk.alloc _ _ _
 have hk1:Kept No w w1:=Kept.alloc _ _ _
 clear_value w1
 intro w2
 have hb2:Blk w2 w1.heap.size An.zero.cells:=Blk.alloc _ _ _
 have hk2:Kept No w1 w2:=Kept.alloc _ _ _
 clear_value w2
 have k2:=hk1.no hk2
 have h2:=h.no k2
 have hz1:=hk1.size
 have hl1:=hb1.lt
 have hl2:=hb2.lt
 refine tnone_to2 h2 ⟨_,rfl,condF rfl (nnI ⟨_,h2.task.at (i:=11) rfl,condF rfl ?_⟩)⟩
 intro w14
 have hb14:Blk w14 w2.heap.size An.zero.cells:=Blk.alloc _ _ _
 have hk14:Kept No w2 w14:=Kept.alloc _ _ _
 clear_value w14
 have hl14:=hb14.lt
 refine st5 hb14 rfl fun w19 hb19 hk19 hs19=>?_
 have k19:Kept No w w19:=(k2.no hk14).fresh hk19 fun z e=>by have:=k2.size; omega
 have hk2s:=k2.size
 have hb119:Blk w19 w.heap.size cl.cells:=((hb1.no' hk2).no' hk14).keep hk19 (by omega)
 have hb219:Blk w19 w1.heap.size An.zero.cells:=(hb2.no' hk14).keep hk19 (by omega)
 have hl19:=hb19.lt
 obtain ⟨J,hJ⟩:∃ J:List Value→World→Prop,J=fun vs w'=>vs=[]∧∃ (an:An) (bs:List Int) (L':KL) (s':AK) (tg':Nat→Nat) (V':TV),Blk w' w2.heap.size an.cells∧Blk w' w1.heap.size An.zero.cells∧¬ OT L' tg' w1.heap.size∧an.e=0∧TO w' gk L' s' tg' V'∧GS No w w' L L' tg tg'∧AnO w19 w' L' tg' an bs∧
  V'.gt=V.gt∧V'.aa=V.aa∧V'.al=V.al∧V'.ac=V.ac∧V'.xs=V.xs∧bs.length≤1000∧Post an.n bs s' V'∧w19.heap.size≤w'.heap.size:=⟨_,rfl⟩
 have tgs:∀ z,inA V.aa z→tg z=6:=h.taa
 refine ⟨J,?_,?_⟩
 ·refine ⟨fun wS=>Blk wS w.heap.size cl.cells,hb119.drew,?_⟩
  intro w20
  have hk20:Kept No w19 w20:=Kept.drew _ _
  clear_value w20
  refine ⟨_,fun wS hS=>(hS.cell 0).trans rfl,CallR.mono doers_ok ?_⟩
  rintro v w21 ⟨r,m,rfl,D⟩
  have k20:=k19.no hk20
  obtain ⟨k,xs,hm,hB,hcall⟩:=way w20 w21 r m k20 D
  have k1921:Kept No w19 w21:=hk20.no D.no
  have hb121:=hb119.no' k1921
  obtain ⟨kt,et,hu1,hu2⟩:=uD
  have hin:((.int .i64 cl.op,.func (.func k) #[] xs):Value × Value) ∈ kf m:=List.mem_map.2 ⟨_,hm,rfl⟩
  refine ⟨_,rfl,hb121,_,_,_,lookup_in hu1 hu2 D.map (k:=.int .i64 cl.op) rfl hin true,condT rfl (ld9 hb121 ⟨k,#[],xs,rfl,hB,CallR.mono hcall ?_⟩)⟩
  rintro v w22 ⟨an,bs,L',s',tg',V',rfl,he,hT,hG,hA,e1,e2,e3,e4,e5,hbl,hP⟩
  have hz21:=k1921.size
  have nn:∀ z,w.heap.size≤z→z< w21.heap.size→¬ OT L' tg' z:=fun z z1 z2=>h.temp (k20.no D.no).size hG z1 z2
  have hb22:=hG.blk (hb19.no' k1921) (h.new hk2s) fun e=>e
  refine ⟨_,_,_,_,_,_,_,_,_,rfl,st5 hb22 rfl fun w28 hb28 hk28 hs28=>?_⟩
  have hb28:Blk w28 w2.heap.size an.cells:=hb28
  rw [hJ]
  have hGs:=hG.size
  have gg:GS No w w28 L L' tg tg':=(GS.narrow (k20.no D.no) hG fun z e=>.inl e).priv hk28 fun z e=>.inr (by have e:z=w2.heap.size:=e; omega)
  exact ⟨rfl,an,bs,L',s',tg',V',hb28,(hG.blk (hb219.no' k1921) (h.new hz1) fun e=>e).keep hk28 (by omega),nn _ hz1 (by omega),he,hT.keep hk28 fun z e=>by have e:z=w2.heap.size:=e; rw [e]; exact nn _ hk2s (by omega),gg,(hA.keep hk28 fun z e=>by have e:z=w2.heap.size:=e; omega).base hz21,e1,e2,e3,e4,e5,hbl,hP,by omega⟩
 ·rintro _ w29 hj
  rw [hJ] at hj
  obtain ⟨_,an,bs,L',s',tg',V',hb29,hb229,n1,he,hT,hG,hA,e1,e2,e3,e4,e5,hbl,hP,hz29⟩:=hj
  have ht29:=hT.task
  rw [e1] at ht29
  have hk19s:=k19.size
  refine ⟨fun wS=>Blk wS V.gt (V'.cells gk)∧Blk wS w2.heap.size an.cells,⟨ht29.drew,hb29.drew⟩,?_⟩
  intro w30
  have hk30:Kept No w29 w30:=Kept.drew _ _
  clear_value w30
  refine nnI ⟨_,_,_,fun wS hS=>hS.1.at (i:=5) rfl,?_⟩
  refine ⟨_,_,_,_,_,_,_,_,_,fun wS hS=>⟨(hS.2.cell 0).trans rfl,(hS.2.cell 1).trans rfl,(hS.2.cell 2).trans rfl,(hS.2.cell 3).trans rfl,(hS.2.cell 4).trans rfl,trivial⟩,?_⟩
  refine CallR.mono (copied_ok2 (an:=an) (hA.rd.keep hk30 fun _ _ _ e=>e) hbl) ?_
  rintro v w31 ⟨an',rfl,hk31,hcop⟩
  refine ⟨_,_,_,_,_,_,_,_,_,rfl,⟨(ht29.no' hk30).no' hk31,(hb29.no' hk30).no' hk31⟩,?_⟩
  intro w32
  have hb32:Blk w32 w31.heap.size an'.cells:=Blk.alloc _ _ _
  have hk32:Kept No w31 w32:=Kept.alloc _ _ _
  clear_value w32
  have k32:Kept No w29 w32:=(hk30.no hk31).no hk32
  have ht32:=ht29.no' k32
  have hb232:=hb29.no' k32
  have h32:=hT.no k32
  have hr32:RdS 5 w32 (some ⟨w31.heap.size,0,none⟩) 1 1 an'.cells.toList:=(SlO.of_blk (sz:=5) (n:=1) hb32 rfl).rd
  have hone:∀ u ∈ an'.cells.toList,u.oneCell'=true:=by
   intro u hu
   simp only [An.cells,List.mem_cons,List.not_mem_nil,or_false] at hu
   rcases hu with rfl | rfl | rfl | rfl | rfl <;> rfl
  obtain ⟨a',c',w33,hrun,hs33,hk33,hat,_⟩:=run_app_sl (P:=Tryz.prog) (t:=45) (t2:=45) (ty:=45) (by kernel_rfl:slTyB Tryz.prog 45 5 72=true) (by kernel_rfl) h32.ans hr32 hone (by rw [e3]; omega) (by rw [e3]; omega)
  refine ⟨⟨ht32,hb232⟩,a',_,c',w33,hrun,?_⟩
  have hz32:=k32.size
  have hin:∀ z,inA a' z→inA V'.aa z∨w32.heap.size≤z:=fun z hz=>by
   rcases hat.in hz with e | e
   ·exact .inl e
   ·exact .inr (by omega)
  have aat:∀ z,inA V'.aa z→z< w.heap.size∧tg z=6:=fun z hz=>by
   rw [e2] at hz
   have:=h.taa z hz
   exact ⟨(h.own z (by rw [this]; decide)).2,this⟩
  have hgtl:V.gt< w.heap.size:=(h.own V.gt (by rw [h.tgt]; decide)).2
  have hgtn:¬ inA V'.aa V.gt:=fun e=>by have:=(aat _ e).2; rw [h.tgt] at this; omega
  have ht33:Blk w33 V.gt (V'.cells gk):=ht32.keep hk33 hgtn
  refine nnI (stC_at ht33 (i:=5) (by simp [TV.cells]) fun w34 hb34 hk34 hs34=>?_)
  have hb34:Blk w34 V.gt (TV.cells { V' with aa:=a',al:=V'.al+1,ac:=c',xs:=V'.xs ++ an'.cells.toList } gk):=hb34
  have h34:TO w34 gk L' s' (tg6 tg' a') { V' with aa:=a',al:=V'.al+1,ac:=c',xs:=V'.xs ++ an'.cells.toList }:=h32.setAns (w1:=w33) hk33 hs33 hin (by rw [e1]; exact hk34) (by rw [e1]; exact hb34)
  have hb234:Blk w34 w2.heap.size an.cells:=(hb232.keep hk33 fun e=>by have:=(aat _ e).1; omega).keep hk34 (by omega)
  have hb134:Blk w34 w1.heap.size An.zero.cells:=(hb229.no' k32).keep hk33 (fun e=>by have:=(aat _ e).1; omega) |>.keep hk34 (by omega)
  refine ⟨_,(hb234.cell 0).trans rfl,condF (by rw [he]; rfl) (ld5 hb234 (st5 hb134 rfl fun w46 hb46 hk46 hs46=>?_))⟩
  have hb46:Blk w46 w1.heap.size an.cells:=hb46
  refine ld5 hb46 ?_
  have nT:∀ z,w.heap.size≤z→z< w29.heap.size→¬ OT L' tg' z→¬ OT L' (tg6 tg' a') z:=fun z z1 z2 hn e=>by
   rcases e with e | e
   ·exact hn (.inl e)
   ·rcases tg6_ne e with e | e
    ·rcases hin z e with e | e
     ·have:=(aat z e).1; omega
     ·omega
    ·exact hn (.inr e)
  have kA:Kept (fun z=>z< w19.heap.size) w29 w46:=(((k32.mono fun _ _ e=>(e.elim:_< w19.heap.size)).trans hk33 fun z _ e=>by have:=(aat z e).1; omega).trans hk34 fun z _ e=>by omega).trans hk46 fun z _ e=>by omega
  have hal34:V'.al+1=V.al+1:=by rw [e3]
  rw [hal34] at h34
  refine ⟨an,bs,L',s',_,V',a',c',_,rfl,he,h34.keep hk46 fun z e=>by have e:z=w1.heap.size:=e; rw [e]; exact nT _ hz1 (by omega) n1,?_,?_,e1,hP,fun e=>?_⟩
  rotate_left 2
  ·have hdl:=hA.rd.len
   rw [e] at hdl
   have hdl:an.dl=0:=hdl.symm
   rw [hcop (hA.nil e).1,hdl,e5]
  ·refine ⟨?_,fun z hz=>?_⟩
   ·refine (((hG.no k32).kept.trans hk33 fun z hz e=>?_).trans hk34 fun z hz e=>?_).trans hk46 fun z hz e=>?_
    ·exact .inl (.inr (by rw [(aat z e).2]; decide))
    ·have e:z=V.gt:=e
     rw [e]
     exact .inl (.inr (by rw [h.tgt]; decide))
    ·omega
   ·rcases hz with e | e
    ·exact hG.grew z (.inl e)
    ·rcases tg6_ne e with e | e
     ·rcases hin z e with e | e
      ·exact .inl (.inr (by rw [(aat z e).2]; decide))
      ·exact .inr (by omega)
     ·exact hG.grew z (.inr e)
  ·have hA':=hA.keep kA fun z e=>e
   exact ⟨hA'.rd,fun z hz=>⟨by have:=(hA.off z hz).1; omega,nT z (by have:=(hA.off z hz).1; omega) (hA.off z hz).2.2 (hA.off z hz).2.1,(hA'.off z hz).2.2⟩,hA.nil⟩
end
section
variable {w : World} {L : KL} {gk : Nat} {s : AK} {d : Int} {tg : Nat → Nat} {V : TV}
open Classical in
noncomputable def tgAdd (tg:Nat→Nat) (g n:Nat) (ai:Option Addr) (sl:Sl3) (z:Nat):Nat:=if z=g then 10+n else if inA ai z then 5 else tg7 tg sl z
theorem TO.addIt (h:TO w gk L s tg V) (hn:V.its.length< 64) {w':World} (k:Kept (fun z=>inA V.ai z∨z=V.rg) w w') {x:It} {ai':Option Addr} {ci':Nat} (hreg:Blk w' V.rg (TV.rcells { V with its:=V.its ++ [x],ai:=ai',ci:=ci' }))
 (hsl:SlO 1 w' ai' (V.its ++ [x]).length ci' ((V.its ++ [x]).map fun y=>pd y.g)) (hb:Blk w' x.g (x.cells gk V.its.length)) (hr:Rd3 w' x.sl x.p) (hg:w.heap.size≤x.g) (hin:∀ z,inA ai' z→(inA V.ai z∨w.heap.size≤z)∧z≠x.g) (hs:∀ z,In3 x.sl z→w.heap.size≤z∧z< w'.heap.size∧z≠x.g∧¬ inA ai' z) :
 TO w' gk L s (tgAdd tg x.g V.its.length ai' x.sl) { V with its:=V.its ++ [x],ai:=ai',ci:=ci' }∧GS No w w' L L tg (tgAdd tg x.g V.its.length ai' x.sl):=by
 have hl:∀ z,tg z≠0→z< w.heap.size:=fun z hz=>(h.own z hz).2
 have old:∀ {z},tg z≠0→tgAdd tg x.g V.its.length ai' x.sl z=tg z:=fun {z} hz=>by
  have h1:=hl z hz
  unfold tgAdd
  rw [if_neg (by omega)]
  by_cases e:inA ai' z
  ·rw [if_pos e]
   rcases (hin z e).1 with e | e
   ·exact (h.tai z e).symm
   ·omega
  ·rw [if_neg e]
   exact tg7_out fun e=>by have:=(hs z e).1; omega
 have hne:∀ z,tgAdd tg x.g V.its.length ai' x.sl z≠0→z=x.g∨inA ai' z∨In3 x.sl z∨tg z≠0:=fun z hz=>by
  unfold tgAdd at hz
  split at hz
  ·rename_i e; exact .inl e
  ·split at hz
   ·rename_i e; exact .inr (.inl e)
   ·rcases tg7_ne hz with e | e
    ·exact .inr (.inr (.inl e))
    ·exact .inr (.inr (.inr e))
 have ne:∀ z,tg z≠5→tg z≠3→¬ (inA V.ai z∨z=V.rg):=fun z h5 h3 e=>by
  rcases e with e | e
  ·exact h5 (h.tai z e)
  ·rw [e] at h3; exact h3 h.trg
 have hsll:=SlO.lt hsl
 have hgl:=hb.lt
 have hz:=k.size
 have hget:∀ j y,(V.its ++ [x])[j]?=some y→(j=V.its.length∧y=x)∨V.its[j]?=some y:=fun j y hy=>by
  rcases Nat.lt_trichotomy j V.its.length with e | e | e
  ·rw [List.getElem?_append_left e] at hy; exact .inr hy
  ·subst e
   rw [List.getElem?_append_right (Nat.le_refl _),Nat.sub_self] at hy
   exact .inl ⟨rfl,(Option.some.inj hy).symm⟩
  ·rw [List.getElem?_eq_none (by simp; omega)] at hy; cases hy
 refine ⟨{
  ker:=h.ker.keep k fun z e=>by
   rcases e with e | e
   ·exact (h.own z (by rw [h.tai z e]; decide)).1
   ·rw [e]; exact (h.own V.rg (by rw [h.trg]; decide)).1
  task:=h.task.keep k (ne _ (by rw [h.tgt]; omega) (by rw [h.tgt]; omega))
  reg:=hreg
  items:=hsl
  it:=fun j y hy=>by
   rcases hget j y hy with ⟨rfl,rfl⟩ | hy
   ·exact ⟨hb,hr⟩
   ·exact ⟨(h.it j y hy).1.keep k (ne _ (by rw [(h.tit j y hy).1]; omega) (by rw [(h.tit j y hy).1]; omega)),(h.it j y hy).2.keep k fun z _ hz=>ne z (by rw [(h.tit j y hy).2 z hz]; omega) (by rw [(h.tit j y hy).2 z hz]; omega)⟩
  tab:=h.tab.keep k (ne _ (by rw [h.tt]; omega) (by rw [h.tt]; omega))
  map:=h.map.keep k (ne _ (by rw [h.trh]; omega) (by rw [h.trh]; omega))
  ans:=h.ans.keep k fun z hz=>ne z (by rw [h.taa z hz]; omega) (by rw [h.taa z hz]; omega)
  tgt:=by rw [old (by rw [h.tgt]; decide)]; exact h.tgt
  tt:=by rw [old (by rw [h.tt]; decide)]; exact h.tt
  trg:=by rw [old (by rw [h.trg]; decide)]; exact h.trg
  trh:=by rw [old (by rw [h.trh]; decide)]; exact h.trh
  tai:=fun z hz=>by
   unfold tgAdd
   rw [if_neg (hin z hz).2,if_pos hz]
  taa:=fun z hz=>by rw [old (by rw [h.taa z hz]; decide)]; exact h.taa z hz
  tit:=fun j y hy=>by
   rcases hget j y hy with ⟨rfl,rfl⟩ | hy
   ·refine ⟨if_pos rfl,fun z hz=>?_⟩
    unfold tgAdd
    rw [if_neg (hs z hz).2.2.1,if_neg (hs z hz).2.2.2]
    exact tg7_in hz
   ·exact ⟨by rw [old (by rw [(h.tit j y hy).1]; omega)]; exact (h.tit j y hy).1,fun z hz=>by rw [old (by rw [(h.tit j y hy).2 z hz]; decide)]; exact (h.tit j y hy).2 z hz⟩
  len:=by dsimp only; rw [List.length_append]; simp; omega
  own:=fun z hz=>by
   rcases hne z hz with e | e | e | e
   ·subst e; exact ⟨h.ker.new_none hg,hgl⟩
   ·rcases (hin z e).1 with e' | e'
    ·have:=h.own z (by rw [h.tai z e']; decide)
     exact ⟨this.1,by omega⟩
    ·exact ⟨h.ker.new_none e',hsll z e⟩
   ·exact ⟨h.ker.new_none (hs z e).1,(hs z e).2.1⟩
   ·exact ⟨(h.own z e).1,by have:=hl z e; omega⟩ },⟨k.mono fun z _ e=>?_,fun z e=>?_⟩⟩
 ·left
  rcases e with e | e
  ·exact .inr (by rw [h.tai z e]; decide)
  ·rw [e]; exact .inr (by rw [h.trg]; decide)
 ·rcases e with e | e
  ·exact .inl (.inl e)
  ·rcases hne z e with e | e | e | e
   ·right; omega
   ·rcases (hin z e).1 with e' | e'
    ·exact .inl (.inr (by rw [h.tai z e']; decide))
    ·exact .inr e'
   ·exact .inr (hs z e).1
   ·exact .inl (.inr e)
set_option maxHeartbeats 1000000 in
theorem radd_ok (h:TO w gk L s tg V) (hov:V.ov=false) (hn:V.its.length< 64) {p:Pu} {sl:Sl3} (hr:Rd3 w sl p) (hbd:Bd p) (hck:ckP p) (hc:p.c=false) (b:Bool) :
 CallR Tryz.prog 95 [pd V.rg,.agg (cs p sl),hv gk d,.bool b] w fun v w'=>v=.tuple #[.int .i64 (V.its.length:Int),.int .i64 0]∧∃ g sl' ai' ci' tg',TO w' gk L s tg' { V with its:=V.its ++ [⟨g,p,sl',d,b⟩],ai:=ai',ci:=ci' }∧GS No w w' L L tg tg':=by
 refine C95 ?_
 unfold L95
 intro w1
 have hb1:Blk w1 w.heap.size (cs p sl):=Blk.alloc _ _ _
 have hk1:Kept No w w1:=Kept.alloc _ _ _
 clear_value w1
 have h1:=h.no hk1
 refine rnone_to h1 ⟨_,rfl,condF rfl (nnI ⟨_,h1.reg.at (i:=4) rfl,condF hov (ld11 hb1 (CallR.mono (check_ok p sl (hr.no hk1) hbd) ?_))⟩)⟩
 rintro v w3 ⟨rfl,hk3⟩
 have k3:=hk1.no hk3
 have h3:=h.no k3
 have hb13:=hb1.no' hk3
 refine ⟨_,rfl,condF (by rw [if_pos hck]; rfl) ⟨_,_,hv_nil,condF rfl ⟨_,(hb13.cell 10).trans rfl,condF hc (nnI ⟨_,_,_,h3.reg.at (i:=1) rfl,condF (by simp; omega) ?_⟩)⟩⟩⟩
 refine ⟨fun wS=>Blk wS V.rg V.rcells∧Blk wS w.heap.size (cs p sl),⟨h3.reg.drew,hb13.drew⟩,?_⟩
 intro w5
 have hk5:Kept No w3 w5:=Kept.drew _ _
 clear_value w5
 have k5:=k3.no hk5
 refine nnI ⟨_,fun wS hS=>hS.1.at (i:=2) rfl,?_⟩
 refine ⟨_,_,_,_,_,_,_,_,_,_,_,_,_,_,_,_,_,fun wS hS=>⟨(hS.2.cell 0).trans rfl,(hS.2.cell 1).trans rfl,(hS.2.cell 2).trans rfl,(hS.2.cell 3).trans rfl,(hS.2.cell 4).trans rfl,(hS.2.cell 5).trans rfl,(hS.2.cell 6).trans rfl,(hS.2.cell 7).trans rfl,(hS.2.cell 8).trans rfl,(hS.2.cell 9).trans rfl,(hS.2.cell 10).trans rfl,trivial⟩,?_⟩
 refine CallR.mono (rown_ok (hr.no k5) hbd) ?_
 rintro v w6 ⟨sl',rfl,ho,hk6⟩
 have k6:=k5.no hk6
 have h6:=h.no k6
 refine ⟨_,_,_,_,_,_,_,_,_,_,_,_,_,_,_,_,_,rfl,⟨h6.reg,(hb13.no' hk5).no' hk6⟩,?_⟩
 intro w7
 have hb7:Blk w7 w6.heap.size (It.cells gk V.its.length ⟨w6.heap.size,p,sl',d,b⟩):=Blk.alloc _ _ _
 have hk7:Kept No w6 w7:=Kept.alloc _ _ _
 clear_value w7
 have h7:=h6.no hk7
 refine nnI ⟨_,_,_,h7.reg.at (i:=1) rfl,?_⟩
 intro w8
 have hb8:Blk w8 w7.heap.size #[pd w6.heap.size]:=Blk.alloc _ _ _
 have hk8:Kept No w7 w8:=Kept.alloc _ _ _
 have hr8:RdS 1 w8 (some ⟨w7.heap.size,0,none⟩) 1 1 [pd w6.heap.size]:=(SlO.of_blk (sz:=1) (n:=1) hb8 rfl).rd
 clear_value w8
 have h8:=h7.no hk8
 have hlen:=h.len
 obtain ⟨a',c',w9,hrun,hs9,hk9,hat,_⟩:=run_app_sl (P:=Tryz.prog) (t:=95) (t2:=95) (ty:=95) (by kernel_rfl:slTyB Tryz.prog 95 1 8=true) (by kernel_rfl) h8.items hr8 (fun u hu=>by simp only [List.mem_singleton] at hu; subst hu; rfl) (by omega) (by omega)
 refine ⟨a',_,c',w9,hrun,?_⟩
 have k8:Kept No w w8:=(k6.no hk7).no hk8
 have ait:∀ z,inA V.ai z→z< w.heap.size∧tg z=5:=fun z hz=>⟨(h.own z (by rw [h.tai z hz]; decide)).2,h.tai z hz⟩
 have hrgl:V.rg< w.heap.size:=(h.own V.rg (by rw [h.trg]; decide)).2
 have hrgn:¬ inA V.ai V.rg:=fun e=>by have:=(ait _ e).2; rw [h.trg] at this; omega
 have hz8:=k8.size
 have hz6:=k6.size
 have hz7:=hk7.size
 have hl7:=hb7.lt
 have hl8:=hb8.lt
 refine nnI (stC_at (h8.reg.keep hk9 hrgn) (i:=1) (by simp [TV.rcells]) fun w10 hb10 hk10 hs10=>?_)
 refine nnI ⟨_,hb10.at (i:=2) rfl,by unfold inI; omega,nnI (stC_at hb10 (i:=2) (by simp [TV.rcells]) fun w11 hb11 hk11 hs11=>?_)⟩
 have hinA:∀ z,inA a' z→inA V.ai z∨w8.heap.size≤z:=fun z hz=>by
  rcases hat.in hz with e | e
  ·exact .inl e
  ·exact .inr (by omega)
 have kI:∀ {cur:Array Value} {g:Nat},Blk w8 g cur→w.heap.size≤g→Blk w11 g cur:=fun hb hg=>((hb.keep hk9 fun e=>by have:=(ait _ e).1; omega).keep hk10 (by omega)).keep hk11 (by omega)
 have hb7':=kI (hb7.no' hk8) hz6
 have k9:Kept (fun z=>inA V.ai z∨z=V.rg) w w11:=((((k8.mono fun _ _ e=>(e.elim:inA V.ai _∨_=V.rg)).trans hk9 fun _ _ e=>.inl e).trans hk10 fun _ _ e=>.inr e).trans hk11 fun _ _ e=>.inr e)
 have hnew:=ho.new
 have hlt:=ho.lt
 have hz5:=k5.size
 have hrl:Rd3 w11 sl' p:=((((ho.rd.no hk7).no hk8).keep hk9 fun z _ hz e=>by have:=(ait z e).1; have:=hnew z hz; omega).keep hk10 fun z _ hz e=>by have:=hnew z hz; omega).keep hk11 fun z _ hz e=>by have:=hnew z hz; omega
 have hlenA:(V.its ++ [(⟨w6.heap.size,p,sl',d,b⟩:It)]).length=V.its.length+1:=by simp
 have hreg:Blk w11 V.rg (TV.rcells { V with its:=V.its ++ [(⟨w6.heap.size,p,sl',d,b⟩:It)],ai:=a',ci:=c' }):=by
  unfold TV.rcells
  dsimp only
  rw [hlenA]
  exact hb11
 have hsl:SlO 1 w11 a' (V.its ++ [(⟨w6.heap.size,p,sl',d,b⟩:It)]).length c' ((V.its ++ [(⟨w6.heap.size,p,sl',d,b⟩:It)]).map fun y=>pd y.g):=by
  rw [hlenA,List.map_append]
  have hrg':∀ z,inA a' z→z≠V.rg:=fun z hz e=>by
   rcases hinA z hz with e' | e'
   ·exact hrgn (e ▸ e')
   ·omega
  exact (hs9.keep hk10 hrg').keep hk11 hrg'
 obtain ⟨hT,hG⟩:=h.addIt hn k9 (x:=⟨w6.heap.size,p,sl',d,b⟩) hreg hsl hb7' hrl hz6 (fun z hz=>⟨(hinA z hz).imp id fun e=>by omega,fun e=>by
  have e:z=w6.heap.size:=e
  rcases hinA z hz with e' | e'
  ·have:=(ait z e').1; omega
  ·omega⟩) (fun z hz=>⟨by have:=hnew z hz; omega,by have:=hlt z hz; have:=k9.size; have:=hk9.size; omega,by show z≠w6.heap.size; have:=hlt z hz; omega,fun e=>by
  have h1:=hnew z hz
  have h2:=hlt z hz
  rcases hinA z e with e' | e'
  ·have:=(ait z e').1; omega
  ·omega⟩)
 exact ⟨_,(hb7'.at0 rfl),rfl,_,sl',a',c',_,hT,hG⟩
theorem TO.setMap (h:TO w gk L s tg V) {w':World} {hs':List (Value × Value)} (k:Kept (·=V.rh) w w') (hm:MapO w' V.rh (.int .i64) hs'):TO w' gk L s tg { V with hs:=hs' }:=by
 have ne:∀ z,tg z≠4→z≠V.rh:=fun z h4 e=>by rw [e] at h4; exact h4 h.trh
 exact {
  ker:=h.ker.keep k fun z e=>by rw [e]; exact (h.own V.rh (by rw [h.trh]; decide)).1
  task:=h.task.keep k (ne _ (by rw [h.tgt]; omega))
  reg:=h.reg.keep k (ne _ (by rw [h.trg]; omega))
  items:=h.items.keep k fun z hz=>ne z (by rw [h.tai z hz]; omega)
  it:=fun i x hx=>⟨(h.it i x hx).1.keep k (ne _ (by rw [(h.tit i x hx).1]; omega)),(h.it i x hx).2.keep k fun z _ hz=>ne z (by rw [(h.tit i x hx).2 z hz]; omega)⟩
  tab:=h.tab.keep k (ne _ (by rw [h.tt]; omega))
  map:=hm
  ans:=h.ans.keep k fun z hz=>ne z (by rw [h.taa z hz]; omega)
  tgt:=h.tgt,tt:=h.tt,trg:=h.trg,trh:=h.trh,tai:=h.tai,taa:=h.taa,tit:=h.tit,len:=h.len
  own:=fun z hz=>⟨(h.own z hz).1,Nat.lt_of_lt_of_le (h.own z hz).2 k.size⟩ }
theorem uH:∃ kt et,Tryz.prog.underlying 60=some (.map kt et)∧Tryz.prog.underlying kt=some (.int .i64):=⟨3,161,by kernel_rfl,by kernel_rfl⟩
theorem tadd_ok (h:TO w gk L s tg V) (hov:V.ov=false) (hn:V.its.length< 64) {p:Pu} {sl:Sl3} (hr:Rd3 w sl p) (hbd:Bd p) (hck:ckP p) (hc:p.c=false) (hoff:∀ z,In3 sl z→L.own z=none) {s1:AK} (hkeep:s.keep d=(0,s1)) {hl:List (Int × Value)} (hhs:V.hs=kf hl) (hh:∀ x ∈ hl,x.1≠(V.its.length:Int)) (fd:Int) :
 CallR Tryz.prog 75 [pd V.gt,.agg (cs p sl),.agg #[.int .i64 d,.int .i64 fd]] w fun v w'=>v=.tuple #[.int .i64 (V.its.length:Int),.int .i64 0]∧∃ g sl' ai' ci' tg' L' b,TO w' gk L' s1 tg' { V with its:=V.its ++ [⟨g,p,sl',d,b⟩],ai:=ai',ci:=ci',hs:=kf (hl ++ [((V.its.length:Int),.agg #[.int .i64 d,.int .i64 fd])]) }∧GS No w w' L L' tg tg':=by
 refine C75 ?_
 unfold L75
 intro w1
 have hb1:Blk w1 w.heap.size (cs p sl):=Blk.alloc _ _ _
 have hk1:Kept No w w1:=Kept.alloc _ _ _
 clear_value w1
 intro w2
 have hb2:Blk w2 w1.heap.size #[.int .i64 d,.int .i64 fd]:=Blk.alloc _ _ _
 have hk2:Kept No w1 w2:=Kept.alloc _ _ _
 clear_value w2
 intro w3
 have hk3:Kept No w2 w3:=Kept.drew _ _
 clear_value w3
 have k3:=(hk1.no hk2).no hk3
 have h3:=h.no k3
 have hz1:=hk1.size
 have hl1:=hb1.lt
 have hl2:=hb2.lt
 have hz3:=hk3.size
 refine nnI ⟨_,h3.task.at0 rfl,_,((hb2.no' hk3).cell 0).trans rfl,CallR.mono (kernKeep_ok h3.ker d) ?_⟩
 rintro v w4 ⟨rfl,L',hK4,st4⟩
 rw [hkeep] at hK4 ⊢
 have h4:TO w4 gk L' s1 tg V:=h3.kern hK4 (.of_k st4) fun z (e:No z)=>e.elim
 have nL:∀ z,w.heap.size≤z→¬ (L.own z≠none):=fun z hz e=>e (h.ker.new_none hz)
 have hb14:Blk w4 w.heap.size (cs p sl):=((hb1.no' hk2).no' hk3).keep st4.kept (nL _ (Nat.le_refl _))
 have hb24:Blk w4 w1.heap.size #[.int .i64 d,.int .i64 fd]:=(hb2.no' hk3).keep st4.kept (nL _ hz1)
 have g4:GS No w w4 L L' tg tg:=(GS.of_no k3 No L tg).trans (GS.of_x (.of_k st4) tg fun z hz=>by have:=(h.own z hz).2; have:=k3.size; omega)
 have hr4:Rd3 w4 sl p:=(hr.no k3).keep st4.kept fun z hz hin e=>e (hoff z hin)
 refine ⟨_,rfl,condF rfl ?_⟩
 refine ⟨fun wS=>Blk wS V.gt (V.cells gk)∧Blk wS w.heap.size (cs p sl)∧Blk wS w1.heap.size #[.int .i64 d,.int .i64 fd],⟨h4.task.drew,hb14.drew,hb24.drew⟩,?_⟩
 intro w5
 have hk5:Kept No w4 w5:=Kept.drew _ _
 clear_value w5
 refine nnI ⟨_,fun wS hS=>hS.1.at (i:=2) rfl,?_⟩
 refine ⟨_,_,_,_,_,_,_,_,_,_,_,_,_,_,_,_,_,fun wS hS=>⟨(hS.2.1.cell 0).trans rfl,(hS.2.1.cell 1).trans rfl,(hS.2.1.cell 2).trans rfl,(hS.2.1.cell 3).trans rfl,(hS.2.1.cell 4).trans rfl,(hS.2.1.cell 5).trans rfl,(hS.2.1.cell 6).trans rfl,(hS.2.1.cell 7).trans rfl,(hS.2.1.cell 8).trans rfl,(hS.2.1.cell 9).trans rfl,(hS.2.1.cell 10).trans rfl,trivial⟩,?_⟩
 refine nnI ⟨_,fun wS hS=>hS.1.at0 rfl,_,fun wS hS=>(hS.2.2.cell 0).trans rfl,nnI ⟨_,fun wS hS=>hS.1.at0 rfl,_,fun wS hS=>(hS.2.2.cell 0).trans rfl,?_⟩⟩
 have h5:=h4.no hk5
 refine CallR.mono (kind_ok h5.ker d) ?_
 rintro v w6 ⟨rfl,hk6⟩
 have k6:=hk5.no hk6
 have h6:=h4.no k6
 refine ⟨_,rfl,⟨h6.task,hb14.no' k6,hb24.no' k6⟩,CallR.mono (radd_ok (d:=d) h6 hov hn (hr4.no k6) hbd hck hc _) ?_⟩
 rintro v w7 ⟨rfl,g,sl',ai',ci',tg',hT,hG⟩
 refine ⟨_,_,rfl,condF rfl ?_⟩
 intro w10
 have hk10:Kept No w7 w10:=Kept.drew _ _
 clear_value w10
 have hT10:=hT.no hk10
 have nOT:¬ OT L' tg w1.heap.size:=(GS.of_x (T:=No) (.of_k st4) tg fun z hz=>by have:=(h.own z hz).2; have:=k3.size; omega).free (h.new hz1) (by omega)
 have hb210:Blk w10 w1.heap.size #[.int .i64 d,.int .i64 fd]:=(hG.blk (hb24.no' k6) nOT fun e=>e).no' hk10
 refine nnI ⟨_,hT10.task.at (i:=3) rfl,_,_,(hb210.cell 0).trans rfl,(hb210.cell 1).trans rfl,?_⟩
 have hM:MapO w10 V.rh (.int .i64) (kf hl):=by rw [← hhs]; exact hT10.map
 refine upd_to uH hM _ hh _ fun w11 hM11 hk11 hs11=>⟨rfl,g,sl',ai',ci',tg',L',_,hT10.setMap hk11 hM11,?_⟩
 have gg:=((g4.no k6).trans hG).no hk10
 exact gg.trans ⟨hk11.mono fun z _ e=>.inl (.inr (by have e:z=V.rh:=e; rw [e]; have:=hT.trh; dsimp only at this; rw [this]; decide)),fun z e=>.inl e⟩
end
def orI (n:Int) (i:Int):Int:=IntKind.wrap .i64 ↑(BitVec.ofInt (IntKind.bits .i64) n ||| BitVec.ofInt (IntKind.bits .i64) (IntKind.wrap .i64 ((1:Int) * 2 ^ (min (Int.toNat i) (IntKind.bits .i64))))).toNat
def flI (m:Md):Nat→Int
 | 0=>0
 | i+1=>if m.at i then orI (flI m i) (i:Int) else flI m i
theorem oflags_ok {w:World} (m:Md):CallR Tryz.prog 71 [.agg m.cs] w fun v w'=>v=(if (printM m).2≠0 then .tuple #[.int .i64 0,.int .i64 (printM m).2] else .tuple #[.int .i64 (flI m 6),.int .i64 0])∧Kept No w w':=by
 refine C71 ?_
 unfold L71
 intro w1
 have hb1:Blk w1 w.heap.size m.cs:=Blk.alloc _ _ _
 have hk1:Kept No w w1:=Kept.alloc _ _ _
 clear_value w1
 refine ld8 hb1 ((ocheck_ok m).mono fun v w2 ⟨hv,hk2⟩=>⟨_,hv,?_⟩)
 have hb2:=hb1.keep hk2 (fun e=>e)
 have hk02:=hk1.no hk2
 refine condI (fun hne=>⟨?_,hk02⟩) (fun heq=>?_)
 ·have:(printM m).2≠0:=by simpa using hne
  rw [if_pos this]
 ·have he:¬ (printM m).2≠0:=by simpa using heq
  rw [if_neg he]
  refine ⟨_,(hb2.cell 0).trans rfl,_,(hb2.cell 1).trans rfl,_,(hb2.cell 2).trans rfl,_,(hb2.cell 3).trans rfl,_,(hb2.cell 4).trans rfl,_,(hb2.cell 5).trans rfl,?_⟩
  refine ⟨fun vs w'=>∃ i:Nat,vs=[.int .i64 (flI m i),.int .i64 (i:Int)]∧i≤6∧w'=w2,fun vs _=>match vs with | [_,.int _ i]=>(6 - i).toNat | _=>0,⟨0,rfl,by omega,rfl⟩,?_⟩
  intro _ n27 n28 w3 hI
  obtain ⟨i,hvs,hi,hw⟩:=hI
  simp only [List.cons.injEq,Value.int.injEq,true_and,and_true] at hvs
  obtain ⟨rfl,rfl⟩:=hvs
  rw [hw]
  refine condP (fun hlt=>?_) (fun hge=>?_)
  ·have hi6:i< 6:=by omega
   have hat:(#[.bool m.r,.bool m.w,.bool m.a,.bool m.c,.bool m.t,.bool m.x]:Array Value)[Int.toNat (i:Int)]?=some (.bool (m.at i)):=by
    match i,hi6 with
    | 0,_=>rfl
    | 1,_=>rfl
    | 2,_=>rfl
    | 3,_=>rfl
    | 4,_=>rfl
    | 5,_=>rfl
   have hmu:((6:Int) - ((i:Int)+1)).toNat< ((6:Int) - (i:Int)).toNat:=by omega
   refine ⟨⟨by omega,by omega⟩,_,hat,condI (fun hb=>⟨by omega,by unfold inI; omega,⟨i+1,?_,by omega,rfl⟩,hmu⟩) (fun hb=>⟨by unfold inI; omega,⟨i+1,?_,by omega,rfl⟩,hmu⟩)⟩
   ·have:flI m (i+1)=orI (flI m i) (i:Int):=by
     show (if m.at i then _ else _)=_
     rw [if_pos hb]
    rw [this]; rfl
   ·have:flI m (i+1)=flI m i:=by
     show (if m.at i then _ else _)=_
     rw [if_neg (by rw [hb]; simp)]
    rw [this]; rfl
  ·have:i=6:=by omega
   subst this
   exact ⟨rfl,hk02⟩
def newP (m:Md) (mo z:Int):Pu:=⟨m.r,m.w,mo,z,[],[],[],0,false,false,false⟩
theorem snew_ok {w:World} {m:Md} (hm:(printM m).2=0) {mo z:Int} (h1:1≤mo) (h2:mo≤3) (h3:1≤z) (h4:z≤65536) :
 CallR Tryz.prog 70 [.agg m.cs,.int .i64 mo,.int .i64 z] w fun v w'=>v=.tuple #[.agg (cs (newP m mo z) zS),.int .i64 0]∧Kept No w w':=by
 refine C70 ?_
 unfold L70
 intro w1
 have hb1:Blk w1 w.heap.size m.cs:=Blk.alloc _ _ _
 have hk1:Kept No w w1:=Kept.alloc _ _ _
 clear_value w1
 intro w2
 have hb2:Blk w2 w1.heap.size (cs zP zS):=Blk.alloc _ _ _
 have hk2:Kept No w1 w2:=Kept.alloc _ _ _
 clear_value w2
 have hz1:=hk1.size
 refine ld8 (hb1.no' hk2) ((ocheck_ok m).mono fun v w3 ⟨hv,hk3⟩=>⟨_,hv,condF (by rw [hm]; rfl) ?_⟩)
 refine CallR.mono (buf_ok mo z) ?_
 rintro v w15 ⟨rfl,rfl⟩
 refine ⟨_,rfl,condF (by rw [if_neg (by omega),if_neg (by omega)]; rfl) ?_⟩
 have hb13:=(hb1.no' hk2).no' hk3
 refine ⟨_,(hb13.cell 0).trans rfl,_,(hb13.cell 1).trans rfl,?_⟩
 refine st11 (p:=newP m mo z) (s:=zS) (hb2.no' hk3) rfl fun w37 hb37 hk37=>ld11 hb37 ⟨rfl,?_⟩
 exact ((hk1.no hk2).no hk3).fresh hk37 fun x e=>by omega
section
variable {w : World} {L : KL} {gk : Nat} {s : AK} {d : Int} {tg : Nat → Nat} {V : TV}
theorem TO.setTab (h:TO w gk L s tg V) {w':World} {L':KL} {s':AK} {tb':List (Int × Bool)} (hT:TabO w' V.t gk tb') (hk:KernO w' gk s' L') (st:TStep V.t w w' L L'):TO w' gk L' s' tg { V with tb:=tb' }:=by
 have ne:∀ z,tg z≠0→tg z≠2→¬ (L.own z≠none∨z=V.t):=fun z h0 h2 e=>by
  rcases e with e | e
  ·exact e (h.own z h0).1
  ·rw [e] at h2; exact h2 h.tt
 have k:=st.kept
 exact {
  ker:=hk
  task:=h.task.keep k (ne _ (by rw [h.tgt]; omega) (by rw [h.tgt]; omega))
  reg:=h.reg.keep k (ne _ (by rw [h.trg]; omega) (by rw [h.trg]; omega))
  items:=h.items.keep k fun z hz=>ne z (by rw [h.tai z hz]; omega) (by rw [h.tai z hz]; omega)
  it:=fun i x hx=>⟨(h.it i x hx).1.keep k (ne _ (by rw [(h.tit i x hx).1]; omega) (by rw [(h.tit i x hx).1]; omega)),(h.it i x hx).2.keep k fun z _ hz=>ne z (by rw [(h.tit i x hx).2 z hz]; omega) (by rw [(h.tit i x hx).2 z hz]; omega)⟩
  tab:=hT
  map:=h.map.keep k (ne _ (by rw [h.trh]; omega) (by rw [h.trh]; omega))
  ans:=h.ans.keep k fun z hz=>ne z (by rw [h.taa z hz]; omega) (by rw [h.taa z hz]; omega)
  tgt:=h.tgt,tt:=h.tt,trg:=h.trg,trh:=h.trh,tai:=h.tai,taa:=h.taa,tit:=h.tit,len:=h.len
  own:=fun z hz=>⟨st.own (h.own z hz).1 (h.own z hz).2,Nat.lt_of_lt_of_le (h.own z hz).2 k.size⟩ }
theorem GS.of_tab (h:TO w gk L s tg V) {w':World} {L':KL} (st:TStep V.t w w' L L'):GS No w w' L L' tg tg:=
 ⟨st.kept.mono fun z _ e=>.inl (by
  rcases e with e | e
  ·exact .inl e
  ·rw [e]; exact .inr (by rw [h.tt]; decide)),fun z e=>by
  rcases e with e | e
  ·exact (st.grew z e).imp .inl id
  ·exact .inl (.inr e)⟩
structure OpenS (s:AK) (tb:List (Int × Bool)) (cl:Cl) (m:Md) (fl fd d:Int) (s2:AK) (tb2:List (Int × Bool)):Prop where
 parse:∃ pos,parsed cl.md=.tuple #[.agg m.cs,.int .i64 0,.int .i64 pos]
 size:cl.md.size≤140737488351232
 print:(printM m).2=0
 flag:flI m 6=fl
 a1:1≤cl.a
 a3:cl.a≤3
 b1:1≤cl.b
 b2:cl.b≤65536
 next:s.next≤4611686018427387904
 op:∃ s1 tb1 e,tOpen tb s cl.tx fl=(fd,0,tb1,s1)∧tMark tb1 fd m.k=(e,tb2)∧s1.keep d=(0,s2)
 desc:∃ b,tAt tb2 fd=some (d,b)
theorem newP_ck {m:Md} {mo z:Int} (h1:1≤mo) (h2:mo≤3) (h3:1≤z) (h4:z≤65536):ckP (newP m mo z):=by
 unfold ckP ckV newP
 simp
 omega
theorem zS_in {z:Nat} (h:In3 zS z):False:=by
 rcases h with h | h | h <;> exact inA_none z h
set_option maxHeartbeats 1000000 in
theorem topenT_ok (h:TO w gk L s tg V) (hov:V.ov=false) (hn:V.its.length< 64) {cl:Cl} {m:Md} {fl fd:Int} {s2:AK} {tb2:List (Int × Bool)} (O:OpenS s V.tb cl m fl fd d s2 tb2) {hl:List (Int × Value)} (hhs:V.hs=kf hl) (hh:∀ x ∈ hl,x.1≠(V.its.length:Int)) :
 CallR Tryz.prog 25 [pd V.gt,.agg cl.cells] w (Did w gk L tg V fun n bs s' V'=>n=(V.its.length:Int)∧bs=[]∧s'=s2∧∃ g sl' ai' ci' b,V'={ V with its:=V.its ++ [⟨g,newP m cl.a cl.b,sl',d,b⟩],ai:=ai',ci:=ci',tb:=tb2,hs:=kf (hl ++ [((V.its.length:Int),.agg #[.int .i64 d,.int .i64 fd])]) }):=by
 obtain ⟨pos,hparse⟩:=O.parse
 obtain ⟨s1,tb1,e,hop,hmark,hkeep⟩:=O.op
 obtain ⟨bd,hdesc⟩:=O.desc
 refine C25 ?_
 unfold L25
 intro w1
 have hb1:Blk w1 w.heap.size cl.cells:=Blk.alloc _ _ _
 have hk1:Kept No w w1:=Kept.alloc _ _ _
 clear_value w1
 intro w2
 have hb2:Blk w2 w1.heap.size An.zero.cells:=Blk.alloc _ _ _
 have hk2:Kept No w1 w2:=Kept.alloc _ _ _
 clear_value w2
 have hz1:=hk1.size
 have hl1:=hb1.lt
 have hl2:=hb2.lt
 refine ⟨_,((hb1.no' hk2).cell 5).trans rfl,(oparse_ok cl.md O.size).mono fun v w3 ⟨hv,hk3⟩=>?_⟩
 rw [hparse] at hv
 have hz3:=hk3.size
 refine ⟨_,_,_,_,_,_,_,_,_,_,hv,?_⟩
 intro w4
 have hb4:Blk w4 w3.heap.size Md.no.cs:=Blk.alloc _ _ _
 have hk4:Kept No w3 w4:=Kept.alloc _ _ _
 clear_value w4
 have hl4:=hb4.lt
 refine st8 hb4 rfl fun w12 hb12 hk12 hs12=>condF rfl ?_
 have hb12:Blk w12 w3.heap.size m.cs:=hb12
 have k3:Kept No w w3:=(hk1.no hk2).no hk3
 have k12:Kept No w w12:=(k3.no hk4).fresh hk12 fun z e=>by have:=k3.size; omega
 have hb112:Blk w12 w.heap.size cl.cells:=(((hb1.no' hk2).no' hk3).no' hk4).keep hk12 (by omega)
 have hb212:Blk w12 w1.heap.size An.zero.cells:=((hb2.no' hk3).no' hk4).keep hk12 (by omega)
 refine ld8 hb12 ⟨_,(hb112.cell 2).trans rfl,_,(hb112.cell 3).trans rfl,CallR.mono (snew_ok O.print O.a1 O.a3 O.b1 O.b2) ?_⟩
 rintro v w18 ⟨rfl,hk18⟩
 refine ⟨_,_,_,_,_,_,_,_,_,_,_,_,_,_,_,_,_,_,rfl,?_⟩
 intro w19
 have hb19:Blk w19 w18.heap.size (cs zP zS):=Blk.alloc _ _ _
 have hk19:Kept No w18 w19:=Kept.alloc _ _ _
 clear_value w19
 have hz18:=hk18.size
 have hl19:=hb19.lt
 have hl12:=hb12.lt
 refine st11 (p:=newP m cl.a cl.b) (s:=zS) hb19 rfl fun w30 hb30 hk30=>condF rfl ?_
 have kk:∀ {cur:Array Value} {g:Nat},Blk w12 g cur→Blk w30 g cur:=fun hb=>((hb.no' hk18).no' hk19).keep hk30 (by have:=hb.lt; omega)
 have k30:Kept No w w30:=((k12.no hk18).no hk19).fresh hk30 fun z e=>by have:=k12.size; omega
 refine ld8 (kk hb12) ((oflags_ok m).mono fun v w36 ⟨hv,hk36⟩=>?_)
 rw [if_neg (by rw [O.print]; simp),O.flag] at hv
 refine ⟨_,_,hv,?_⟩
 intro w37
 have hk37:Kept No w36 w37:=Kept.drew _ _
 clear_value w37
 have k37':Kept No w30 w37:=hk36.no hk37
 have k37:Kept No w w37:=k30.no k37'
 have h37:=h.no k37
 have hb37:∀ {cur:Array Value} {g:Nat},Blk w12 g cur→Blk w37 g cur:=fun hb=>(kk hb).no' k37'
 refine nnI ⟨_,h37.task.at (i:=1) rfl,_,((hb37 hb112).cell 4).trans rfl,?_⟩
 refine CallR.mono (topen_ok h37.tab h37.ker (h37.own V.t (by rw [h.tt]; decide)).1 cl.tx fl O.next) ?_
 rintro v w38 ⟨rfl,L1,hT38,hK38,st38⟩
 rw [hop] at hT38 hK38 ⊢
 have h38:=h37.setTab hT38 hK38 st38
 have g38:GS No w w38 L L1 tg tg:=(GS.of_no k37 No L tg).trans (GS.of_tab h37 st38)
 have nOT:∀ z,w.heap.size≤z→¬ OT L tg z:=fun z hz=>h.new hz
 have g38':=GS.of_tab h37 st38
 have hb38:∀ {cur:Array Value} {g:Nat},Blk w37 g cur→w.heap.size≤g→Blk w38 g cur:=fun hb hg=>g38'.blk hb (nOT _ hg) fun e=>e
 refine ⟨_,_,rfl,condF rfl ?_⟩
 intro w44
 have hk44:Kept No w38 w44:=Kept.drew _ _
 clear_value w44
 have h44:=h38.no hk44
 have hz3':=k3.size
 have hbm:Blk w44 w3.heap.size m.cs:=(hb38 (hb37 hb12) (by omega)).no' hk44
 refine nnI ⟨_,h44.task.at (i:=1) rfl,_,(hbm.cell 7).trans rfl,CallR.mono (tmark_ok h44.tab fd m.k) ?_⟩
 rintro v w45 ⟨rfl,hT45,hk45⟩
 dsimp only at hT45 hk45
 rw [hmark] at hT45 ⊢
 have st45:TStep V.t w44 w45 L1 L1:=TStep.of_t hk45
 have h45:=h44.setTab (tb':=tb2) hT45 (h44.ker.keep hk45 fun z e=>by rw [e]; exact (h44.own V.t (by rw [h.tt]; decide)).1) st45
 have g45':GS No w44 w45 L1 L1 tg tg:=GS.of_tab h44 st45
 refine ⟨_,rfl,nnI ⟨_,h45.task.at (i:=1) rfl,CallR.mono (tdesc_ok h45.tab fd) ?_⟩⟩
 rintro v w46 ⟨rfl,hd⟩
 rw [show tAt ({ V with tb:=tb2 }:TV).tb fd=some (d,bd) from hdesc] at hd
 obtain ⟨x,hx,rfl⟩:∃ x,some (d,bd)=some x∧v=.tuple #[.int .i64 x.1,.int .i64 0]:=by
  rcases hd with ⟨e,_⟩ | hd
  ·cases e
  ·exact hd
 cases hx
 have g45:GS No w w46 L L1 tg tg:=(g38.no hk44).trans g45'
 have n1:∀ z,w.heap.size≤z→z< w37.heap.size→¬ OT L1 tg z:=fun z z1 z2=>g38'.free (nOT z z1) z2
 have hz38:=st38.kept.size
 have hb46:∀ {cur:Array Value} {g:Nat},Blk w37 g cur→w.heap.size≤g→Blk w46 g cur:=fun {cur g} hb hg=>g45'.blk ((hb38 hb hg).no' hk44) (n1 g hg hb.lt) fun e=>e
 have hz30:=k37'.size
 have hl30:=hb30.lt
 have hz12:=k12.size
 have hbs:Blk w46 w18.heap.size (cs (newP m cl.a cl.b) zS):=hb46 (hb30.no' k37') (by omega)
 refine ⟨_,_,rfl,ld11 hbs ?_⟩
 refine CallR.mono (tadd_ok (d:=d) h45 hov hn (p:=newP m cl.a cl.b) (sl:=zS) ⟨RdB.nil _,RdB.nil _,RdB.nil _⟩ ⟨by simp [newP],by simp [newP],by simp [newP]⟩ (newP_ck O.a1 O.a3 O.b1 O.b2) rfl (fun z hz=>(zS_in hz).elim) hkeep hhs hh fd) ?_
 rintro v w47 ⟨rfl,g,sl',ai',ci',tg',L',b,hT47,g47⟩
 have hba46:Blk w46 w1.heap.size An.zero.cells:=hb46 (hb37 hb212) hz1
 have hl37:w1.heap.size< w37.heap.size:=(hb37 hb212).lt
 have nA:¬ OT L1 tg w1.heap.size:=n1 _ hz1 hl37
 have hba47:=g47.blk hba46 nA fun e=>e
 have nA':¬ OT L' tg' w1.heap.size:=g47.free nA hba46.lt
 refine ⟨_,_,rfl,?_⟩
 refine stC_blk hba47 (by simp [An.cells]) fun w48 hb48 hk48 _=>?_
 refine stC_blk hb48 (by simp [An.cells]) fun w49 hb49 hk49 _=>?_
 have hb49:Blk w49 w1.heap.size (An.cells ⟨0,(V.its.length:Int),none,0,0⟩):=hb49
 refine ⟨_,(hb49.cell 0).trans rfl,condF rfl (ld5 hb49 (st5 hb49 rfl fun w60 hb60 hk60 _=>?_))⟩
 have hb60:Blk w60 w1.heap.size (An.cells ⟨0,(V.its.length:Int),none,0,0⟩):=hb60
 have hk:Kept (·=w1.heap.size) w47 w60:=(hk48.trans hk49 fun _ _ e=>e).trans hk60 fun _ _ e=>e
 refine ld5 hb60 ?_
 have hTf:=hT47.keep hk fun z e=>by have e:z=w1.heap.size:=e; rw [e]; exact nA'
 exact ⟨⟨0,(V.its.length:Int),none,0,0⟩,[],L',s2,tg',_,rfl,rfl,hTf,(g45.trans g47).priv hk fun z e=>.inr (by have e:z=w1.heap.size:=e; omega),AnO.none _ _ _ _ _ _,rfl,rfl,rfl,rfl,rfl,by simp,rfl,rfl,rfl,g,sl',ai',ci',b,rfl⟩
end
theorem rnew_ok {w:World}:CallR Tryz.prog 12 [] w fun v w'=>v=pd w.heap.size∧Blk w' w.heap.size #[.bool true,.slice none 0 0,.int .i64 0,.slice none 0 0,.bool false]∧Kept No w w':=by
 refine C12 ?_
 unfold L12
 exact ⟨rfl,Blk.alloc _ _ _,Kept.alloc _ _ _⟩
structure NewV (V:TV):Prop where
 its:V.its=[]
 tb:V.tb=slots0
 hs:V.hs=kf []
 al:V.al=0
 xs:V.xs=[]
 ov:V.ov=false
theorem tasknew_ok {w:World} {ap:Option Addr} {lp cp:Nat} {ps:List (Int × Int)} (hp:RdS 2 w ap lp cp (Fv ps)) :
 CallR Tryz.prog 5 [.agg #[.slice none 0 0,.slice none 0 0,.slice ap lp cp]] w fun v w'=>Kept No w w'∧((checkK [] [] ps≠0∧v=.tuple #[.pointer none,.int .i64 (checkK [] [] ps)])∨
  (checkK [] [] ps=0∧∃ gk L tg V,v=.tuple #[pd V.gt,.int .i64 0]∧TO w' gk L (AK.new [] [] ps) tg V∧(∀ z,OT L tg z→w.heap.size≤z)∧NewV V)):=by
 refine C5 ?_
 unfold L5
 intro w1
 have hb1:Blk w1 w.heap.size #[.slice none 0 0,.slice none 0 0,.slice ap lp cp]:=Blk.alloc _ _ _
 have hk1:Kept No w w1:=Kept.alloc _ _ _
 clear_value w1
 refine ⟨_,_,_,_,_,_,_,_,_,(hb1.cell 0).trans rfl,(hb1.cell 1).trans rfl,(hb1.cell 2).trans rfl,?_⟩
 refine CallR.mono (kernNew_ok (rdN_nil (R:=RB)) (rdN_nil (R:=RL)) (hp.keep hk1 fun _ _ _ e=>e) (by omega) (by omega)) ?_
 rintro v w2 ⟨hk2,hr⟩
 have k2:=hk1.no hk2
 rcases hr with ⟨hne,rfl⟩ | ⟨he,gk,L,rfl,hK,hL⟩
 ·exact ⟨_,_,rfl,condT (by simpa using hne) ⟨k2,.inl ⟨hne,rfl⟩⟩⟩
 refine ⟨_,_,rfl,condF rfl (CallR.mono (tnew_okT gk) ?_)⟩
 rintro v w3 ⟨rfl,hT3,hk3⟩
 refine ⟨_,rfl,CallR.mono rnew_ok ?_⟩
 rintro v w4 ⟨rfl,hR4,hk4⟩
 refine ⟨_,rfl,?_⟩
 intro w5
 have hM5:MapO w5 w4.heap.size (.int .i64) []:=MapO.new _ _
 have hk5:Kept No w4 w5:=Kept.alloc _ _ _
 clear_value w5
 intro w6
 have hb6:Blk w6 w5.heap.size #[pd gk,pd w2.heap.size,pd w3.heap.size,.map (some w4.heap.size),.slice none 0 0,.slice none 0 0,.int .i64 0,.slice none 0 0,.bool false,.slice none 0 0,.slice none 0 0,.bool false]:=Blk.alloc _ _ _
 have hk6:Kept No w5 w6:=Kept.alloc _ _ _
 clear_value w6
 have k6':Kept No w1 w6:=(((hk2.no hk3).no hk4).no hk5).no hk6
 refine ⟨_,_,_,((hb1.no' k6').cell 1).trans rfl,fun vs w'=>vs=[.int .i64 0]∧w'=w6,fun _ _=>0,⟨rfl,rfl⟩,?_⟩
 rintro _ n17 w7 ⟨hvs,rfl⟩
 simp only [List.cons.injEq,Value.int.injEq,true_and,and_true] at hvs
 subst hvs
 refine condF (by decide) ?_
 have hT:TabO w7 w2.heap.size gk slots0:=((hT3.keep hk4 fun e=>e).keep hk5 fun e=>e).keep hk6 fun e=>e
 have hKf:KernO w7 gk (AK.new [] [] ps) L:=(((hK.no hk3).no hk4).no hk5).no hk6
 have l3:=hT3.lt
 have l4:=hR4.lt
 have l5:=hM5.lt
 have l6:=hb6.lt
 have z2:=k2.size
 have z3:=hk3.size
 have z4:=hk4.size
 have z5:=hk5.size
 have z6:=hk6.size
 refine ⟨_,_,_,(hb6.cell 4).trans rfl,CallR.mono (sort_ok (SlO.nil 1 w7) (ss:=[]) (by omega)) ?_⟩
 rintro v w15 ⟨rfl,_,hk15⟩
 have k15:Kept No w7 w15:=hk15.mono fun z _ e=>inA_none z e
 have kk:Kept No w w15:=(hk1.no k6').no k15
 refine ⟨rfl,kk,.inr ⟨he,gk,L,fun z=>if z=w5.heap.size then 1 else if z=w2.heap.size then 2 else if z=w3.heap.size then 3 else if z=w4.heap.size then 4 else 0,⟨w5.heap.size,w2.heap.size,w3.heap.size,w4.heap.size,none,0,none,0,0,[],slots0,[],[],false⟩,rfl,?_,?_,⟨rfl,rfl,rfl,rfl,rfl,rfl⟩⟩⟩
 ·refine ⟨hKf.no k15,hb6.no' k15,?_,SlO.nil 1 _,fun i x hx=>by simp at hx,hT.keep k15 fun e=>e,?_,SlO.nil 5 _,if_pos rfl,?_,?_,?_,fun z hz=>absurd hz (inA_none z),fun z hz=>absurd hz (inA_none z),fun i x hx=>by simp at hx,fun z hz=>?_,by simp⟩
  ·exact (((hR4.no' hk5).no' hk6).no' k15)
  ·exact ((hM5.keep hk6 fun e=>e).keep k15 fun e=>e)
  ·dsimp only; rw [if_neg (by omega),if_pos rfl]
  ·dsimp only; rw [if_neg (by omega),if_neg (by omega),if_pos rfl]
  ·dsimp only; rw [if_neg (by omega),if_neg (by omega),if_neg (by omega),if_pos rfl]
  ·have hz15:=k15.size
   have:w2.heap.size≤z∧z< w15.heap.size:=by
    split at hz
    ·omega
    ·split at hz
     ·omega
     ·split at hz
      ·omega
      ·split at hz
       ·omega
       ·exact absurd rfl hz
   exact ⟨hK.new_none this.1,this.2⟩
 ·intro z e
  rcases e with e | e
  ·have:=hL z e
   have:=hk1.size
   omega
  ·dsimp only at e
   split at e
   ·omega
   ·split at e
    ·omega
    ·split at e
     ·omega
     ·split at e
      ·omega
      ·exact absurd rfl e
def e0:ByteArray:=ByteArray.mk #[]
def clp (op fd a b:Int) (da:Option Addr) (dl dc:Nat):Cl:=⟨op,fd,a,b,e0,e0,da,dl,dc⟩
structure LW (W w:World) (gk gt n:Nat) (L:KL) (s:AK) (tg:Nat→Nat) (V:TV) (x0 x1:It) (c all:List Int) (q:Nat):Prop where
 to:TO w gk L s tg V
 its:V.its=[x0,x1]
 d0:x0.d=1
 d1:x1.d=2
 p0:WrA x0.p
 p1:RdP x1.p
 i1:x1.p.i=[]
 k:AK.K2 s c q
 all:c ++ x0.p.o=all
 gt:V.gt=gt
 al:V.al≤n
 no:Kept No W w
 base:∀ z,OT L tg z→W.heap.size≤z
section
variable {W w w' : World} {gk gt n : Nat} {L L' : KL} {s : AK} {tg tg' : Nat → Nat} {V : TV} {x0 x1 : It} {c all : List Int} {q : Nat}
theorem LW.gs (h:LW W w gk gt n L s tg V x0 x1 c all q) (g:GS No w w' L L' tg tg'):Kept No W w'∧∀ z,OT L' tg' z→W.heap.size≤z:=
 ⟨h.no.fresh g.kept fun z e=>by
  rcases e with e | e
  ·exact h.base z e
  ·exact e.elim,fun z e=>by
  rcases g.grew z e with e | e
  ·exact h.base z e
  ·have:=h.no.size; omega⟩
theorem LW.keep (h:LW W w gk gt n L s tg V x0 x1 c all q) {S:Nat→Prop} (k:Kept S w w') (hS:∀ z,S z→¬ OT L tg z∧W.heap.size≤z):LW W w' gk gt n L s tg V x0 x1 c all q:=
 ⟨h.to.keep k fun z hz=>(hS z hz).1,h.its,h.d0,h.d1,h.p0,h.p1,h.i1,h.k,h.all,h.gt,h.al,h.no.fresh k fun z e=>(hS z e).2,h.base⟩
theorem LW.nokeep (h:LW W w gk gt n L s tg V x0 x1 c all q) (k:Kept No w w'):LW W w' gk gt n L s tg V x0 x1 c all q:=h.keep k fun z e=>e.elim
theorem lw_put (h:LW W w gk gt n L s tg V x0 x1 c all q) (hn:n≤1000000) {a:Option Addr} {l k:Nat} {bs:List Int} (hb:RdB W a l k bs) (hN:all.length+bs.length≤1048576) :
 CallR Tryz.prog 7 [pd gt,.agg (clp 4 0 0 0 a l k).cells] w fun v w'=>∃ an L' s' tg' V' x0' c',v=.agg (An.cells an)∧an.e=0∧an.n=(l:Int)∧LW W w' gk gt (n+1) L' s' tg' V' x0' x1 c' (all ++ bs) q∧GS No w w' L L' tg tg':=by
 have hx:V.its[0]?=some x0:=by rw [h.its]; rfl
 have hlen:=hb.len
 have hal:c.length+x0.p.o.length=all.length:=by rw [← h.all,List.length_append]
 have hoff:bs≠[]→∀ z,inA a z→L.own z=none:=fun hne z hz=>by
  have:=RdS.old hb (fun e=>hne (By_inj (b:=[]) e)) z hz
  cases ho:L.own z with
  | none=>rfl
  | some t=>have:=h.base z (.inl (by rw [ho]; simp)); omega
 have hgt:=h.gt
 subst hgt
 refine CallR.mono (tdo_ok h.to (by have:=h.al; omega) (cl:=clp 4 0 0 0 a l k) (way_do (k:=28) (by simp [doL,clp]) (by kernel_rfl) fun wa ka=>tput_ok (h.to.no ka) hx h.d0 h.p0 (AK.wrK2 q) h.k rfl (hb.keep (h.no.no ka) fun _ _ _ e=>e) hoff (by omega) (by omega))) ?_
 rintro v w' ⟨an,bs',L',s',tg',V0,a',c',xs',rfl,he,hT,hG,hA,hgt,⟨hn',hbn,p',sl',c1,hV,hF,hall,hp⟩,hxs⟩
 obtain ⟨k1,k2⟩:=h.gs hG
 subst hV
 refine ⟨an,L',s',tg',_,{ x0 with p:=p',sl:=sl' },c1,rfl,he,by rw [hn',hlen],⟨hT,?_,h.d0,h.d1,hp,h.p1,h.i1,hF,by rw [hall,h.all],rfl,by have:=h.al; show V.al+1≤_; omega,k1,k2⟩,hG⟩
 show V.its.set 0 _=_
 rw [h.its]
 rfl
theorem lw_mid (h:LW W w gk gt n L s tg V x0 x1 c all q) (hn:n≤1000000) (hN:all.length≤1048576) {cl:Cl} (hcl:cl=clp 7 0 0 0 none 0 0∨cl=clp 10 0 0 0 none 0 0∨cl=clp 25 0 0 0 none 0 0∨cl=clp 11 0 0 1 none 0 0) :
 CallR Tryz.prog 7 [pd gt,.agg cl.cells] w fun v w'=>∃ an L' s' tg' V' x0' x1',v=.agg (An.cells an)∧an.e=0∧LW W w' gk gt (n+1) L' s' tg' V' x0' x1' all all q∧GS No w w' L L' tg tg':=by
 have hx:V.its[0]?=some x0:=by rw [h.its]; rfl
 have hal:c.length+x0.p.o.length=all.length:=by rw [← h.all,List.length_append]
 have hgt:=h.gt
 have hal1:=h.al
 subst hgt
 have fin:∀ {w' L' s' tg' V0 a' c' xs' p' sl'},TO w' gk L' s' tg' { V0 with aa:=a',al:=V.al+1,ac:=c',xs:=xs' }→GS No w w' L L' tg tg'→V0={ V with its:=V.its.set 0 { x0 with p:=p',sl:=sl' } }→WrA p'→p'.o=[]→AK.K2 s' all q→
  ∃ V' x0' x1',LW W w' gk V.gt (n+1) L' s' tg' V' x0' x1' all all q:=by
  intro w' L' s' tg' V0 a' c' xs' p' sl' hT hG hV hp ho hF
  obtain ⟨k1,k2⟩:=h.gs hG
  subst hV
  refine ⟨_,{ x0 with p:=p',sl:=sl' },x1,⟨hT,?_,h.d0,h.d1,hp,h.p1,h.i1,hF,by show all ++ p'.o=all; rw [ho,List.append_nil],rfl,by show V.al+1≤_; omega,k1,k2⟩⟩
  show V.its.set 0 _=_
  rw [h.its]
  rfl
 rcases hcl with rfl | rfl | rfl | rfl
 ·refine CallR.mono (tdo_ok h.to (by omega) (way_do (k:=31) (by simp [doL,clp]) (by kernel_rfl) fun wa ka=>tflush_ok (h.to.no ka) hx h.d0 h.p0 (AK.wrK2 q) h.k rfl (by omega))) ?_
  rintro v w' ⟨an,bs',L',s',tg',V0,a',c',xs',rfl,he,hT,hG,hA,hgt,⟨⟨sl',hV⟩,hF⟩,hxs⟩
  rw [h.all] at hF
  obtain ⟨V',x0',x1',hl⟩:=fin hT hG hV h.p0.flushed rfl hF
  exact ⟨an,L',s',tg',V',x0',x1',rfl,he,hl,hG⟩
 ·refine CallR.mono (tdo_ok h.to (by omega) (way_ch h.to (k:=98) (by simp [chL,clp]) fun wa ka=>tchange_ok (h.to.no ka) hx h.p0.bd rfl (by kernel_rfl) fun wb sl1 kb hr=>by
   rw [h.d0]
   exact ttell_ok (h.to.no (ka.no kb)).ker hr h.p0 (AK.wrK2 q) (skK2 q) h.k (by omega) (by omega))) ?_
  rintro v w' ⟨an,bs',L',s',tg',V0,a',c',xs',rfl,he,hT,hG,hA,hgt,⟨p',sl',hV,hp,ho,hF⟩,hxs⟩
  rw [h.all] at hF
  obtain ⟨V',x0',x1',hl⟩:=fin hT hG hV hp ho hF
  exact ⟨an,L',s',tg',V',x0',x1',rfl,he,hl,hG⟩
 ·refine CallR.mono (tdo_ok h.to (by omega) (way_do (k:=40) (by simp [doL,clp]) (by kernel_rfl) fun wa ka=>tflushall_ok (h.to.no ka) h.its h.p0 h.p1 (by rw [h.d0]; exact AK.wrK2 q) h.k (by omega))) ?_
  rintro v w' ⟨an,bs',L',s',tg',V0,a',c',xs',rfl,he,hT,hG,hA,hgt,⟨⟨sl0,sl1,hV⟩,hF⟩,hxs⟩
  rw [h.all] at hF
  obtain ⟨k1,k2⟩:=h.gs hG
  subst hV
  exact ⟨an,L',s',tg',_,{ x0 with p:={ x0.p with o:=[],d:=0 },sl:=sl0 },{ x1 with sl:=sl1 },rfl,he,⟨hT,rfl,h.d0,h.d1,h.p0.flushed,h.p1,h.i1,hF,by simp,rfl,by show V.al+1≤_; omega,k1,k2⟩,hG⟩
 ·refine CallR.mono (tdo_ok h.to (by omega) (way_ch h.to (k:=99) (by simp [chL,clp]) fun wa ka=>tchange_ok (h.to.no ka) hx h.p0.bd rfl (by kernel_rfl) fun wb sl1 kb hr=>by
   rw [h.d0]
   exact tseek_ok (h.to.no (ka.no kb)).ker hr h.p0 (AK.wrK2 q) (skK2 q) h.k (by omega) (by omega) rfl rfl)) ?_
  rintro v w' ⟨an,bs',L',s',tg',V0,a',c',xs',rfl,he,hT,hG,hA,hgt,⟨p',sl',hV,hp,ho,hF⟩,hxs⟩
  rw [h.all] at hF
  obtain ⟨V',x0',x1',hl⟩:=fin hT hG hV hp ho hF
  exact ⟨an,L',s',tg',V',x0',x1',rfl,he,hl,hG⟩
theorem lw_read (h:LW W w gk gt n L s tg V x0 x1 all all q) (hn:n≤1000000) (hN:all.length≤1048576) {pre xs:List Int} (hall:all=pre ++ xs) (hq:q=pre.length) (hx:xs.length≤500) :
 CallR Tryz.prog 7 [pd gt,.agg (clp 13 1 1 (xs.length:Int) none 0 0).cells] w fun v w'=>∃ an L' s' tg' V' x1',v=.agg (An.cells an)∧an.e=0∧AnO w w' L' tg' an xs∧LW W w' gk gt (n+1) L' s' tg' V' x0 x1' all all all.length∧GS No w w' L L' tg tg':=by
 have hx1:V.its[1]?=some x1:=by rw [h.its]; rfl
 have hgt:=h.gt
 have hal1:=h.al
 subst hgt
 have hdrop:all.drop q=xs:=by rw [hall,hq,List.drop_left]
 refine CallR.mono (tdo_ok h.to (by omega) (way_ch h.to (k:=101) (by simp [chL,clp]) fun wa ka=>tchange_ok (h.to.no ka) hx1 h.p1.bd rfl (by kernel_rfl) fun wb sl1 kb hr=>by
  rw [h.d1]
  exact tblk_ok (h.to.no (ka.no kb)).ker hr h.p1 (AK.rdK2 hN) (r:=all.drop q) ⟨q,rfl,h.k⟩ (xs:=xs) (rest:=[]) (by rw [h.i1,hdrop]; simp) hx rfl rfl)) ?_
 rintro v w' ⟨an,bs',L',s',tg',V0,a',c',xs',rfl,he,hT,hG,hA,hgt,⟨p',sl',hV,rfl,hp,r',⟨q',hr',hk'⟩,hi⟩,hxs⟩
 obtain ⟨k1,k2⟩:=h.gs hG
 subst hV
 obtain ⟨hi1,hr1⟩:=List.append_eq_nil_iff.1 hi
 have hq':q'=all.length:=by
  have h1:=hk'.qc
  have h2:=congrArg List.length hr'
  rw [hr1,List.length_drop] at h2
  simp at h2
  omega
 subst hq'
 refine ⟨an,L',s',tg',_,{ x1 with p:=p',sl:=sl' },rfl,he,hA,⟨hT,?_,h.d0,h.d1,h.p0,hp,hi1,hk',h.all,rfl,by show V.al+1≤_; omega,k1,k2⟩,hG⟩
 show V.its.set 1 _=_
 rw [h.its]
 rfl
end
set_option maxRecDepth 100000
def mW:Md:={ Md.no with w:=true,c:=true,t:=true }
def mR:Md:={ Md.no with r:=true }
def nmW:ByteArray:=ByteArray.mk #[119]
def nmR:ByteArray:=ByteArray.mk #[114]
def nmF:ByteArray:=ByteArray.mk #[102]
theorem pW:parseM nmW=(mW,0,1):=by decide +kernel
theorem pR:parseM nmR=(mR,0,1):=by decide +kernel
theorem prW:(printM mW).2=0:=by kernel_rfl
theorem prR:(printM mR).2=0:=by kernel_rfl
theorem fW:flI mW 6=26:=by decide +kernel
theorem fR:flI mR 6=1:=by decide +kernel
def oA (nm:ByteArray) (ps:List (Int × Int)):=tOpen slots0 (AK.new [] [] ps) nm 26
def tB (nm:ByteArray) (ps:List (Int × Int)):List (Int × Bool):=(tMark (oA nm ps).2.2.1 0 mW.k).2
def sB (nm:ByteArray) (ps:List (Int × Int)):AK:=((oA nm ps).2.2.2.keep 1).2
def oC (nm:ByteArray) (ps:List (Int × Int)):=tOpen (tB nm ps) (sB nm ps) nm 1
def tD (nm:ByteArray) (ps:List (Int × Int)):List (Int × Bool):=(tMark (oC nm ps).2.2.1 1 mR.k).2
def sD (nm:ByteArray) (ps:List (Int × Int)):AK:=((oC nm ps).2.2.2.keep 2).2
theorem oA1 (ps:List (Int × Int)):(oA nmF ps).1=0:=by kernel_rfl
theorem oA2 (ps:List (Int × Int)):(oA nmF ps).2.1=0:=by kernel_rfl
theorem oAk (ps:List (Int × Int)):((oA nmF ps).2.2.2.keep 1).1=0:=by kernel_rfl
theorem oAd (ps:List (Int × Int)):tAt (tB nmF ps) 0=some (1,false):=by kernel_rfl
theorem oAn (ps:List (Int × Int)):(AK.new [] [] ps).next=1:=by kernel_rfl
theorem oC1 (ps:List (Int × Int)):(oC nmF ps).1=1:=by kernel_rfl
theorem oC2 (ps:List (Int × Int)):(oC nmF ps).2.1=0:=by kernel_rfl
theorem oCk (ps:List (Int × Int)):((oC nmF ps).2.2.2.keep 2).1=0:=by kernel_rfl
theorem oCd (ps:List (Int × Int)):tAt (tD nmF ps) 1=some (2,false):=by kernel_rfl
theorem oCn (ps:List (Int × Int)):(sB nmF ps).next=2:=by kernel_rfl
theorem openW (ps:List (Int × Int)) {a b:Int} (a1:1≤a) (a3:a≤3) (b1:1≤b) (b2:b≤65536):OpenS (AK.new [] [] ps) slots0 ⟨1,0,a,b,nmF,nmW,none,0,0⟩ mW 26 0 1 (sB nmF ps) (tB nmF ps) where
 parse:=⟨1,by unfold parsed; rw [pW]⟩
 size:=(by decide:nmW.size≤140737488351232)
 print:=prW
 flag:=fW
 a1:=a1
 a3:=a3
 b1:=b1
 b2:=b2
 next:=by rw [oAn]; omega
 op:=⟨(oA nmF ps).2.2.2,(oA nmF ps).2.2.1,(tMark (oA nmF ps).2.2.1 0 mW.k).1,Prod.ext (oA1 ps) (Prod.ext (oA2 ps) rfl),rfl,Prod.ext (oAk ps) rfl⟩
 desc:=⟨false,oAd ps⟩
theorem openR (ps:List (Int × Int)):OpenS (sB nmF ps) (tB nmF ps) ⟨1,0,3,64,nmF,nmR,none,0,0⟩ mR 1 1 2 (sD nmF ps) (tD nmF ps) where
 parse:=⟨1,by unfold parsed; rw [pR]⟩
 size:=(by decide:nmR.size≤140737488351232)
 print:=prR
 flag:=fR
 a1:=by decide
 a3:=by decide
 b1:=by decide
 b2:=by decide
 next:=by rw [oCn]; omega
 op:=⟨(oC nmF ps).2.2.2,(oC nmF ps).2.2.1,(tMark (oC nmF ps).2.2.1 1 mR.k).1,Prod.ext (oC1 ps) (Prod.ext (oC2 ps) rfl),rfl,Prod.ext (oCk ps) rfl⟩
 desc:=⟨false,oCd ps⟩
theorem k2_open {ps:List (Int × Int)} (h:checkK [] [] ps=0):AK.K2 (sD nmF ps) [] 0:=by
 have hc:=AK.check_zero h
 have e1:(sD nmF ps).ps=ps:=by kernel_rfl
 have e2:(sD nmF ps).c1=0:=by kernel_rfl
 have e3:(sD nmF ps).c0=0:=by kernel_rfl
 have pl:=hc.pl
 refine ⟨⟨?_,by rw [e1]; exact hc.pm,by rw [e1]; exact hc.pl,by rw [e1,e2]; simp; omega⟩,?_,by simp,by rw [e1,e3]; simp; omega⟩
 ·exact ⟨⟨2,by kernel_rfl⟩,by kernel_rfl,by simp⟩
 ·exact ⟨⟨2,by kernel_rfl⟩,by kernel_rfl,by simp⟩
theorem newP_wr {a b:Int} (a1:1≤a) (a3:a≤3) (b1:1≤b) (b2:b≤65536):WrA (newP mW a b):=
 ⟨rfl,a1,a3,b1,b2,.inl rfl,by show (0:Int)≤b; omega,rfl,rfl,rfl,rfl,fun _=>rfl,fun _=>rfl⟩
theorem newP_rd:RdP (newP mR 3 64):=⟨rfl,rfl,by decide,by decide,.inl rfl,rfl,by decide,rfl,rfl,rfl,rfl,fun _=>rfl⟩
section
variable {W w : World} {gk : Nat} {L : KL} {tg : Nat → Nat} {V : TV} {ps : List (Int × Int)}
structure LA (W w:World) (gk gt:Nat) (ps:List (Int × Int)) (nm:ByteArray) (a b:Int) (L:KL) (tg:Nat→Nat) (V:TV) (x0:It):Prop where
 to:TO w gk L (sB nm ps) tg V
 its:V.its=[x0]
 d0:x0.d=1
 p0:x0.p=newP mW a b
 tb:V.tb=tB nm ps
 hs:∃ hl,V.hs=kf hl∧hl=[((0:Int),.agg #[.int .i64 1,.int .i64 0])]
 gt:V.gt=gt
 al:V.al=1
 xs:V.xs=(An.cells ⟨0,0,none,0,0⟩).toList
 ov:V.ov=false
 no:Kept No W w
 base:∀ z,OT L tg z→W.heap.size≤z
theorem la_open {nm:ByteArray} (hT:TO w gk L (AK.new [] [] ps) tg V) (hV:NewV V) (hno:Kept No W w) (hbase:∀ z,OT L tg z→W.heap.size≤z) {a b:Int} (O:OpenS (AK.new [] [] ps) slots0 ⟨1,0,a,b,nm,nmW,none,0,0⟩ mW 26 0 1 (sB nm ps) (tB nm ps)) :
 CallR Tryz.prog 7 [pd V.gt,.agg (Cl.cells ⟨1,0,a,b,nm,nmW,none,0,0⟩)] w fun v w'=>∃ an L' tg' V' x0,v=.agg (An.cells an)∧an.e=0∧an.n=0∧LA W w' gk V.gt ps nm a b L' tg' V' x0∧GS No w w' L L' tg tg':=by
 have hlen:V.its.length=0:=by rw [hV.its]; rfl
 refine CallR.mono (tdo_ok hT (by rw [hV.al]; omega) (cl:=⟨1,0,a,b,nm,nmW,none,0,0⟩) (way_do (k:=25) (by simp [doL]) (by kernel_rfl) fun wa ka=>topenT_ok (hT.no ka) hV.ov (by omega) (by rw [hV.tb]; exact O) hV.hs (by simp))) ?_
 rintro v w' ⟨an,bs',L',s',tg',V0,a',c',xs',rfl,he,hT',hG,hA,hgt,⟨hn,hbn,rfl,g,sl',ai',ci',bk,hV0⟩,hxs⟩
 subst hV0
 rw [hlen] at hn
 refine ⟨an,L',tg',_,⟨g,newP mW a b,sl',1,bk⟩,rfl,he,hn,⟨hT',?_,rfl,rfl,rfl,⟨_,rfl,?_⟩,rfl,by show V.al+1=1; rw [hV.al],?_,hV.ov,?_,?_⟩,hG⟩
 ·show V.its ++ _=_
  rw [hV.its]
  rfl
 ·rw [hlen]
  rfl
 ·show xs'=_
  rw [hxs hbn,hV.xs,he,hn]
  rfl
 ·exact hno.fresh hG.kept fun z e=>by
   rcases e with e | e
   ·exact hbase z e
   ·exact e.elim
 ·intro z e
  rcases hG.grew z e with e | e
  ·exact hbase z e
  ·have:=hno.size; omega
theorem lw_open {gt:Nat} {a b:Int} {x0:It} (h:LA W w gk gt ps nmF a b L tg V x0) (hck:checkK [] [] ps=0) (a1:1≤a) (a3:a≤3) (b1:1≤b) (b2:b≤65536) :
 CallR Tryz.prog 7 [pd gt,.agg (Cl.cells ⟨1,0,3,64,nmF,nmR,none,0,0⟩)] w fun v w'=>∃ an L' s' tg' V' x1,v=.agg (An.cells an)∧an.e=0∧an.n=1∧LW W w' gk gt 2 L' s' tg' V' x0 x1 [] [] 0∧GS No w w' L L' tg tg':=by
 have hlen:V.its.length=1:=by rw [h.its]; rfl
 have hgt:=h.gt
 subst hgt
 obtain ⟨hl,hhs,hhl⟩:=h.hs
 refine CallR.mono (tdo_ok h.to (by have:=h.al; omega) (cl:=⟨1,0,3,64,nmF,nmR,none,0,0⟩) (way_do (k:=25) (by simp [doL]) (by kernel_rfl) fun wa ka=>topenT_ok (h.to.no ka) h.ov (by omega) (by rw [h.tb]; exact openR ps) hhs (by rw [hhl,hlen]; simp))) ?_
 rintro v w' ⟨an,bs',L',s',tg',V0,a',c',xs',rfl,he,hT',hG,hA,hgt,⟨hn,hbn,rfl,g,sl',ai',ci',bk,hV0⟩,hxs⟩
 subst hV0
 rw [hlen] at hn
 refine ⟨an,L',_,tg',_,⟨g,newP mR 3 64,sl',2,bk⟩,rfl,he,hn,⟨hT',?_,h.d0,rfl,?_,newP_rd,rfl,k2_open hck,?_,rfl,?_,?_,?_⟩,hG⟩
 ·show V.its ++ _=_
  rw [h.its]
  rfl
 ·rw [h.p0]; exact newP_wr a1 a3 b1 b2
 ·rw [h.p0]; rfl
 ·show V.al+1≤2
  have:=h.al
  omega
 ·exact h.no.fresh hG.kept fun z e=>by
   rcases e with e | e
   ·exact h.base z e
   ·exact e.elim
 ·intro z e
  rcases hG.grew z e with e | e
  ·exact h.base z e
  ·have:=h.no.size; omega
end
set_option maxRecDepth 512
section
variable {w : World} {p : Pu} {sl : Sl3} {L : KL} {gk : Nat} {s : AK} {d : Int} {N : Nat} {F : List Int → AK → Prop} {c : List Int}
def clP (p:Pu):Pu:={ p with o:=[],i:=[],k:=[],d:=0,c:=true }
theorem sclose_ok (hK:KernO w gk s L) (h:Rd3 w sl p) (hp:WrA p) (wr:AK.WrK N d F) (hF:F c s) (hN:c.length+p.o.length≤N) :
 CallR Tryz.prog 141 [.agg (cs p sl),hv gk d] w fun v w'=>∃ s' L',v=.tuple #[.agg (cs (clP p) Sl3.no),.int .i64 0]∧SR w L w' (clP p) Sl3.no gk s' L'∧F (c ++ p.o) s':=by
 refine C141 ?_
 unfold L141
 intro w1 w2
 have hb1:Blk w1 w.heap.size (cs p sl):=Blk.alloc _ _ _
 have hk1:Kept No w w1:=Kept.alloc _ _ _
 clear_value w1
 have hb2:Blk w2 w1.heap.size (cs zP zS):=Blk.alloc _ _ _
 have hk2:Kept No w1 w2:=Kept.alloc _ _ _
 clear_value w2
 have k2:=hk1.no hk2
 have hz1:=hk1.size
 have hn2:L.own w1.heap.size=none:=hK.new_none hz1
 refine ld11 (hb1.no' hk2) (start_ok (hK.no k2) (h.no k2) hp.bd hp.ck hp.c fun w3 gw sl1 h3=>?_)
 refine ⟨_,_,rfl,condF rfl (CallR.mono (deliver_ok h3 hp.b wr hF hN) ?_)⟩
 rintro v w4 ⟨rfl,sl',s',L',h4,hF4,_⟩
 refine ⟨_,rfl,?_⟩
 refine nnI (stC_at h4.blk (i:=4) (by simp [cs12]) fun w16 hb16 hk16 _=>?_)
 refine nnI (stC_at hb16 (i:=5) (by simp [cs12]) fun w17 hb17 hk17 _=>?_)
 refine nnI (stC_at hb17 (i:=6) (by simp [cs12]) fun w18 hb18 hk18 _=>?_)
 refine nnI (stC_at hb18 (i:=7) (by simp [cs12]) fun w19 hb19 hk19 _=>?_)
 refine nnI (stC_at hb19 (i:=10) (by simp [cs12]) fun w20 hb20 hk20 _=>?_)
 have hb20:Blk w20 gw (cs12 (clP p) Sl3.no (hv gk d)):=hb20
 have hkk:Kept (·=gw) w4 w20:=(((hk16.trans hk17 fun _ _ e=>e).trans hk18 fun _ _ e=>e).trans hk19 fun _ _ e=>e).trans hk20 fun _ _ e=>e
 have hno:∀ b,¬ In3 Sl3.no b:=fun b hb=>by
  rcases hb with hb | hb | hb <;> exact inA_none b hb
 have h5:SO w2 L w20 gw (clP p) Sl3.no (hv gk d) gk s' L':=h4.upd hkk hb20 ⟨⟨OB.nil _,OB.nil _,OB.nil _⟩,⟨Fresh.none _,Fresh.none _,Fresh.none _⟩,fun b hb=>absurd hb (inA_none b),fun b hb=>absurd hb (inA_none b)⟩ fun b hb=>absurd hb (hno b)
 refine ld12 h5.blk (st11 (p:=clP p) (s:=Sl3.no) (h5.res hb2 hn2) rfl fun w6 hb6 hk6=>ld11 hb6 ?_)
 exact ⟨s',L',rfl,h5.out k2 hz1 hb2.lt hn2 hk6,hF4⟩
theorem close1_ok (hK:KernO w gk s L) (h:Rd3 w sl p) (hp:WrA p) (wr:AK.WrK N d F) (hF:F c s) (hN:c.length+p.o.length≤N) {bx i:Nat} {x:It} (hxd:x.d=d) (hxb:Blk w x.g (x.cells gk i)) (hbx:Blk w bx #[pd x.g]) :
 CallR Tryz.prog 140 [.agg (cs p sl),pd bx] w fun v w'=>∃ p' sl' s' L',v=.tuple #[.agg (cs p' sl'),.int .i64 0]∧Ow3 w w' sl' p'∧(∀ b,In3 sl' b→L'.own b=none)∧KernO w' gk s' L'∧XStep No w w' L L'∧F (c ++ p.o) s':=by
 refine C140 ?_
 unfold L140
 intro w1 w2
 have hb1:Blk w1 w.heap.size (cs p sl):=Blk.alloc _ _ _
 have hk1:Kept No w w1:=Kept.alloc _ _ _
 clear_value w1
 have hb2:Blk w2 w1.heap.size (cs zP zS):=Blk.alloc _ _ _
 have hk2:Kept No w1 w2:=Kept.alloc _ _ _
 clear_value w2
 intro w3
 have hk3:Kept No w2 w3:=Kept.drew _ _
 clear_value w3
 have k2:=hk1.no hk2
 have k3:=k2.no hk3
 have hz1:=hk1.size
 have hl2:=hb2.lt
 have e2:w3.cell? (Addr.add ⟨x.g,0,none⟩ 12)=some (hv gk d):=by rw [← hxd]; exact (hxb.no' k3).at (i:=12) rfl
 refine ld11 ((hb1.no' hk2).no' hk3) ⟨_,(hbx.no' k3).at0 rfl,nnI ⟨_,e2,CallR.mono (sclose_ok (hK.no k3) (h.no k3) hp wr hF hN) ?_⟩⟩
 rintro v w4 ⟨s',L',rfl,hSR,hP⟩
 have hz3:=hk3.size
 refine ⟨_,_,_,_,_,_,_,_,_,_,_,_,_,_,_,_,_,_,rfl,st11 (p:=clP p) (s:=Sl3.no) ((hb2.no' hk3).keep hSR.st.kept fun e=>e (hK.new_none hz1)) rfl fun w15 hb15 hk15=>ld11 hb15 ?_⟩
 have:=SR.res hK k3 hSR hk15 fun z e=>⟨by omega,.inl (by omega)⟩
 exact ⟨clP p,Sl3.no,s',L',rfl,this.own,this.off,this.ker,.of_k this.st,hP⟩
end
theorem run_eqPtr2 {P:Program} {w:World} {t te:TypeId} {j:TypeInfo} (d:Nat) {a b:Addr} (hu:P.underlying t=some (.pointer te)) (hj:P.info? te=some j) (hs:j.size≠0) {r:Bool} (h:(sameAddr a b).run P w=.ok r w):(Op.equalIn (d+1) t (.pointer (some a)) (.pointer (some b))).run P w=.ok r w:=by
 simp [Op.equalIn,run_underlying hu,sizeOf,typeInfo,hj,hs,h]
theorem eqPI {w:World} {a:Nat} {x y:Operand}:Sem.run Tryz.prog (Sem.bind (eqGuard .eql 234 x y (pd a) (pd a)) (fun _=>binOp .eql 234 (pd a) (pd a))) w=.ok (.bool true) w:=by
 have hu:Tryz.prog.underlying 234=some (.pointer 240):=by kernel_rfl
 have hs:((Tryz.prog.info? 240).map fun j=>decide (j.size≠0))=some true:=by kernel_rfl
 obtain ⟨j,hj,hjs⟩:∃ j,Tryz.prog.info? 240=some j∧j.size≠0:=by
  generalize Tryz.prog.info? 240=o at hs
  cases o with
  | none=>cases hs
  | some j=>exact ⟨j,rfl,by simpa using hs⟩
 have hsame:(sameAddr ⟨a,0,none⟩ ⟨a,0,none⟩).run Tryz.prog w=.ok true w:=run_sameAddr_same w _
 have he:(Op.equal 234 (pd a) (pd a)).run Tryz.prog w=.ok true w:=by
  exact run_eqPtr2 9999 hu hj hjs hsame
 have h0:eqGuard .eql 234 x y (pd a) (pd a)=pure ():=rfl
 have h1:binOp .eql 234 (pd a) (pd a)=(do pure (.bool (← Op.equal 234 (pd a) (pd a)))):=rfl
 rw [h0,h1,run_Bind,Sem.run_pure,Result.andThen_ok,Sem.run_bind,he]
 rfl
theorem close2_ok {w:World} {a b:Nat} (hb:Blk w b #[pd a]):CallR Tryz.prog 143 [pd a,pd b] w fun v w'=>v=.bool true∧w'=w:=by
 refine C143 ?_
 unfold L143
 exact ⟨_,hb.at0 rfl,_,_,eqPI,rfl,rfl⟩
theorem ix_one {w:World} {a:Option Addr} {c g b:Nat} (h:SlO 1 w a 1 c [pd g]) (hb:Blk w b #[pd g]):CallR Tryz.prog 194 [.slice a 1 c,.func (.func 143) #[] #[pd b]] w fun v w'=>v=.int .i64 0∧w'=w:=by
 refine C194 ?_
 unfold L194
 obtain ⟨q,ha,hc⟩:=rd_at h.rd (j:=0) (v:=pd g) rfl
 refine ⟨fun vs w'=>vs=[.int .i64 0]∧w'=w,fun _ _=>0,⟨rfl,rfl⟩,?_⟩
 rintro _ n5 w1 ⟨hvs,rfl⟩
 simp only [List.cons.injEq,Value.int.injEq,true_and,and_true] at hvs
 subst hvs
 refine condT (by decide) ⟨⟨by omega,by omega⟩,nnE ha ⟨_,hc,_,_,_,rfl,by kernel_rfl,CallR.mono (close2_ok hb) ?_⟩⟩
 rintro v w2 ⟨rfl,rfl⟩
 exact ⟨_,rfl,condT rfl ⟨rfl,rfl⟩⟩
theorem del_one {w:World} {a:Option Addr} {c g b:Nat} (h:SlO 1 w a 1 c [pd g]) (hb:Blk w b #[pd g]) (hne:∀ z,inA a z→z≠b):CallR Tryz.prog 142 [.slice a 1 c,.func (.func 143) #[] #[pd b]] w fun v w'=>v=.slice a 0 c∧Kept (inA a) w w':=by
 refine C142 ?_
 unfold L142
 refine CallR.mono (ix_one h hb) ?_
 rintro v w1 ⟨rfl,rfl⟩
 refine ⟨_,rfl,condF (by decide) ⟨by unfold inI; decide,fun vs w'=>vs=[.int .i64 0,.int .i64 1]∧w'=w1,fun _ _=>0,⟨rfl,rfl⟩,?_⟩⟩
 rintro _ n7 n8 w2 ⟨hvs,rfl⟩
 simp only [List.cons.injEq,Value.int.injEq,true_and,and_true] at hvs
 obtain ⟨rfl,rfl⟩:=hvs
 refine condF (by decide) ⟨⟨by omega,by omega⟩,?_⟩
 rcases h.2 with ⟨_,e,_⟩ | ⟨g1,off,cur,rfl,hbl,hlc,hcs,htk⟩
 ·omega
 ·have hc1:1≤c:=hlc
  have e1:adv (some ⟨g1,off,none⟩) (Int.toNat 0) c 1=some ⟨g1,off,none⟩:=by
   rw [adv_map _ _ _ _ (by show c≠0; omega)]
   show some ((⟨g1,off,none⟩:Addr).add (0 * 1))=_
   rw [add_none]
   rfl
  rw [e1]
  have hu:Tryz.prog.underlying 95=some (.slice 234):=by kernel_rfl
  have hv0:∀ w,(zeroValue 234).run Tryz.prog w=.ok (.pointer none) w:=fun w=>by kernel_rfl
  have hrun:=Lib.run_clear_slice (P:=Tryz.prog) w2 95 234 0 (.pointer none) hu hv0 rfl rfl g1 off 1 (c - 0) (by omega) (fun j hj=>by rw [hbl.cell,Array.getElem?_eq_getElem (by omega)]; rfl) (fun j hj=>hbl.frozen _)
  refine ⟨_,hrun,⟨by omega,by omega⟩,rfl,?_⟩
  have:w2.setCells g1 off (List.replicate 1 (.pointer none))=w2.setCell ⟨g1,off,none⟩ (.pointer none):=rfl
  rw [this]
  exact (Kept.setCell _ _ _).mono fun z _ e=>by rw [inA_some]; exact e
end Go.Proofs.YteojolihgijdhaaGreatDoor
