/- Part 18 of 21 of the proof of TopFlushed. Conditions: the theorem's: none. -/
import Derived.Test.YteojolihgijdhaaGreatDoorKTopFlushed9
import Derived.Test.YteojolihgijdhaaGreatDoorKTopFlushed17
set_option linter.unusedVariables false
set_option maxRecDepth 512
namespace Go.Proofs.YteojolihgijdhaaGreatDoor
open Go.Lw
structure TZ (w:World) (gk:Nat) (L:KL) (s:AK) (tg:Nat→Nat) (gt t rh:Nat) (tb:List (Int × Bool)) (hs:List (Value × Value)) (cells:Array Value) (aa:Option Addr) (al ac:Nat) (xs:List Value):Prop where
 ker:KernO w gk s L
 task:Blk w gt cells
 tab:TabO w t gk tb
 map:MapO w rh (.int .i64) hs
 ans:SlO 5 w aa al ac xs
 tgt:tg gt=1
 tt:tg t=2
 trh:tg rh=4
 taa:∀ z,inA aa z→tg z=6
 own:∀ z,tg z≠0→L.own z=none∧z< w.heap.size
section
variable {w w' : World} {L L' : KL} {gk : Nat} {s s' : AK} {tg : Nat → Nat} {V : TV} {d : Int} {N : Nat} {F : List Int → AK → Prop} {c : List Int}
theorem TO.tz (h:TO w gk L s tg V):TZ w gk L s tg V.gt V.t V.rh V.tb V.hs (V.cells gk) V.aa V.al V.ac V.xs:=
 ⟨h.ker,h.task,h.tab,h.map,h.ans,h.tgt,h.tt,h.trh,h.taa,h.own⟩
variable {gt t rh : Nat} {tb : List (Int × Bool)} {hs : List (Value × Value)} {cells : Array Value} {aa : Option Addr} {al ac : Nat} {xs : List Value}
theorem TZ.keep (h:TZ w gk L s tg gt t rh tb hs cells aa al ac xs) {S:Nat→Prop} (k:Kept S w w') (hS:∀ z,S z→L.own z=none∧(tg z=0∨tg z=5∨tg z=3)):TZ w' gk L s tg gt t rh tb hs cells aa al ac xs:=by
 have ne:∀ z,tg z≠0→tg z≠5→tg z≠3→¬ S z:=fun z h0 h5 h3 e=>by
  rcases (hS z e).2 with e | e | e
  ·exact h0 e
  ·exact h5 e
  ·exact h3 e
 exact ⟨h.ker.keep k fun z e=>(hS z e).1,h.task.keep k (ne _ (by rw [h.tgt]; decide) (by rw [h.tgt]; decide) (by rw [h.tgt]; decide)),h.tab.keep k (ne _ (by rw [h.tt]; decide) (by rw [h.tt]; decide) (by rw [h.tt]; decide)),
  h.map.keep k (ne _ (by rw [h.trh]; decide) (by rw [h.trh]; decide) (by rw [h.trh]; decide)),h.ans.keep k fun z hz=>ne z (by rw [h.taa z hz]; decide) (by rw [h.taa z hz]; decide) (by rw [h.taa z hz]; decide),h.tgt,h.tt,h.trh,h.taa,fun z hz=>⟨(h.own z hz).1,Nat.lt_of_lt_of_le (h.own z hz).2 k.size⟩⟩
theorem TZ.no (h:TZ w gk L s tg gt t rh tb hs cells aa al ac xs) (k:Kept No w w'):TZ w' gk L s tg gt t rh tb hs cells aa al ac xs:=h.keep k fun z e=>e.elim
theorem TZ.free (h:TZ w gk L s tg gt t rh tb hs cells aa al ac xs) {S:Nat→Prop} (k:Kept S w w') (hS:∀ z,S z→¬ OT L tg z):TZ w' gk L s tg gt t rh tb hs cells aa al ac xs:=h.keep k fun z hz=>by
 have hn:=hS z hz
 refine ⟨?_,.inl ?_⟩
 ·cases e:L.own z with
  | none=>rfl
  | some x=>exact absurd (.inl (by rw [e]; simp)) hn
 ·by_cases e:tg z=0
  ·exact e
  ·exact absurd (.inr e) hn
theorem TZ.new (h:TZ w gk L s tg gt t rh tb hs cells aa al ac xs) {z:Nat} (hz:w.heap.size≤z):¬ OT L tg z:=fun e=>by
 rcases e with e | e
 ·exact e (h.ker.new_none hz)
 ·have:=(h.own z e).2; omega
theorem TO.setOv (h:TO w gk L s tg V) (k:Kept (·=V.rg) w w') (hb:Blk w' V.rg (TV.rcells { V with ov:=true })):TO w' gk L s tg { V with ov:=true }:=by
 have ne:∀ z,tg z≠3→z≠V.rg:=fun z h3 e=>by rw [e] at h3; exact h3 h.trg
 exact {
  ker:=h.ker.keep k fun z e=>by rw [e]; exact (h.own V.rg (by rw [h.trg]; decide)).1
  task:=h.task.keep k (ne _ (by rw [h.tgt]; omega))
  reg:=hb
  items:=h.items.keep k fun z hz=>ne z (by rw [h.tai z hz]; omega)
  it:=fun i x hx=>⟨(h.it i x hx).1.keep k (ne _ (by rw [(h.tit i x hx).1]; omega)),(h.it i x hx).2.keep k fun z _ hz=>ne z (by rw [(h.tit i x hx).2 z hz]; omega)⟩
  tab:=h.tab.keep k (ne _ (by rw [h.tt]; omega))
  map:=h.map.keep k (ne _ (by rw [h.trh]; omega))
  ans:=h.ans.keep k fun z hz=>ne z (by rw [h.taa z hz]; omega)
  tgt:=h.tgt,tt:=h.tt,trg:=h.trg,trh:=h.trh,tai:=h.tai,taa:=h.taa,tit:=h.tit,len:=h.len
  own:=fun z hz=>⟨(h.own z hz).1,Nat.lt_of_lt_of_le (h.own z hz).2 k.size⟩ }
theorem rclose_ok (h:TO w gk L s tg V) {x0:It} (hits:V.its=[x0]) (hd:x0.d=d) (hp:WrA x0.p) (wr:AK.WrK N d F) (hF:F c s) (hN:c.length+x0.p.o.length≤N) :
 CallR Tryz.prog 77 [pd V.rg,.int .i64 0] w fun v w'=>v=.int .i64 0∧∃ s' L' tg',TZ w' gk L' s' tg' V.gt V.t V.rh V.tb V.hs (V.cells gk) V.aa V.al V.ac V.xs∧GS No w w' L L' tg tg'∧F (c ++ x0.p.o) s':=by
 refine C77 ?_
 unfold L77
 have hx:V.its[0]?=some x0:=by rw [hits]; rfl
 refine rfind_ok h hx ⟨_,_,rfl,?_⟩
 intro w2
 have hb2:Blk w2 w.heap.size #[.pointer none]:=Blk.alloc _ _ _
 have hk2:Kept No w w2:=Kept.alloc _ _ _
 clear_value w2
 have hl2:=hb2.lt
 refine stC_blk hb2 (by simp) fun w3 hb3 hk3 _=>condF rfl ?_
 have hb3:Blk w3 w.heap.size #[pd x0.g]:=hb3
 have k3:Kept No w w3:=hk2.fresh hk3 fun z e=>by omega
 have h3:=h.no k3
 refine ⟨_,(hb3.cell 0).trans rfl,CallR.mono (rguard_ok (T:=No) h3 hx hp.bd (k:=140) (xs1:=#[]) (xs2:=#[pd w.heap.size]) (by kernel_rfl) (Post:=fun p' s' w'=>F (c ++ x0.p.o) s')
  (fun z e=>e.elim) (fun w7 sl1 k7 hr=>?_) (fun p' s' wa wb S hPa hS hn=>hPa)) ?_⟩
 ·subst hd
  exact close1_ok (h3.ker.no k7) hr hp wr hF hN rfl ((h3.it 0 x0 hx).1.no' k7) (hb3.no' k7)
 ·rintro v w4 ⟨rfl,p',sl',s',L',hT,hG,hF'⟩
  have hl3:=hb3.lt
  have nOT:¬ OT L tg w.heap.size:=h.new (Nat.le_refl _)
  have hb4:Blk w4 w.heap.size #[pd x0.g]:=hG.blk hb3 nOT fun e=>e
  have nOT':=hG.free nOT hl3
  have hlen:({ V with its:=V.its.set 0 { x0 with p:=p',sl:=sl' } }:TV).its.length=1:=by dsimp only; rw [hits]; rfl
  have hsl:SlO 1 w4 V.ai 1 V.ci [pd x0.g]:=by
   have:=hT.items
   rw [hlen] at this
   dsimp only at this
   rw [hits] at this
   exact this
  have hreg:w4.cell? (Addr.add ⟨V.rg,0,none⟩ 1)=some (.slice V.ai 1 V.ci):=by
   have:=hT.reg.at (i:=1) (v:=.slice V.ai 1 V.ci) (by unfold TV.rcells; rw [hlen]; rfl)
   exact this
  have hne:∀ z,inA V.ai z→z≠w.heap.size:=fun z hz e=>by
   have:=hT.tai z hz
   rw [e] at this
   exact nOT' (.inr (by rw [this]; decide))
  refine ⟨_,rfl,nnI ⟨_,_,_,hreg,CallR.mono (del_one hsl hb4 hne) ?_⟩⟩
  rintro v w5 ⟨rfl,hk5⟩
  have hrgn:¬ inA V.ai V.rg:=fun e=>by have:=hT.tai _ e; have h2:=hT.trg; rw [h2] at this; cases this
  refine ⟨_,_,_,rfl,nnI (stC_at (hT.reg.keep hk5 hrgn) (i:=1) (by simp [TV.rcells]) fun w6 hb6 hk6 _=>⟨rfl,s',L',tg7 tg sl',?_,?_,hF'⟩)⟩
  ·refine (hT.tz.keep hk5 fun z hz=>⟨(hT.own z (by rw [hT.tai z hz]; decide)).1,.inr (.inl (hT.tai z hz))⟩).keep hk6 fun z e=>?_
   have e:z=V.rg:=e
   rw [e]
   exact ⟨(hT.own V.rg (by have:=hT.trg; rw [this]; decide)).1,.inr (.inr hT.trg)⟩
  ·have g4:GS No w w4 L L' tg _:=GS.narrow k3 hG fun z e=>.inl e
   refine g4.trans ⟨(hk5.mono fun z _ e=>.inl (.inr (by rw [hT.tai z e]; decide))).trans hk6 fun z _ e=>.inl (.inr (by have e:z=V.rg:=e; rw [e]; have:=hT.trg; rw [this]; decide)),fun z e=>.inl e⟩
theorem ropen_ok (h:TO w gk L s tg V) {x0:It} (hits:V.its=[x0]):CallR Tryz.prog 172 [pd V.rg] w fun v w'=>∃ a k,v=.slice a 1 k∧RdS 1 w' a 1 k [.int .i64 0]∧Kept No w w'∧Fresh w a:=by
 refine C172 ?_
 unfold L172
 have hx:V.its[0]?=some x0:=by rw [hits]; rfl
 have hlen:V.its.length=1:=by rw [hits]; rfl
 obtain ⟨q,ha,hc⟩:=h.itemAt hx
 refine rnone_to h ⟨_,rfl,condF rfl (nnI ⟨_,_,_,h.reg.at (i:=1) rfl,?_⟩)⟩
 refine ⟨fun vs w'=>(vs=[.slice none 0 0,.int .i64 0]∧w'=w)∨∃ a k,vs=[.slice a 1 k,.int .i64 1]∧RdS 1 w' a 1 k [.int .i64 0]∧Kept No w w'∧Fresh w a,fun vs _=>match vs with | [_,.int _ i]=>1 - i.toNat | _=>0,.inl ⟨rfl,rfl⟩,?_⟩
 rintro _ a8 l8 c8 n9 w2 hI
 rcases hI with ⟨hvs,rfl⟩ | ⟨a,k,hvs,hr,hk,hf⟩
 ·simp only [List.cons.injEq,Value.slice.injEq,Value.int.injEq,true_and,and_true] at hvs
  obtain ⟨⟨rfl,rfl,rfl⟩,rfl⟩:=hvs
  refine condT (by rw [hlen]; decide) ⟨⟨by omega,by omega⟩,nnE ha ⟨_,hc,nnI ⟨_,(h.it 0 x0 hx).1.at0 rfl,?_⟩⟩⟩
  intro w3
  have hb3:Blk w3 w2.heap.size #[.int .i64 ((0:Nat):Int)]:=Blk.alloc _ _ _
  have hk3:Kept No w2 w3:=Kept.alloc _ _ _
  have hr3:RdS 1 w3 (some ⟨w2.heap.size,0,none⟩) 1 1 [.int .i64 0]:=(SlO.of_blk (sz:=1) (n:=1) hb3 rfl).rd
  clear_value w3
  obtain ⟨a',c',w4,hrun,hs4,hk4,hat,_⟩:=run_app_sl (P:=Tryz.prog) (t:=39) (t2:=39) (ty:=39) (by kernel_rfl:slTyB Tryz.prog 39 1 8=true) (by kernel_rfl) (SlO.nil 1 w3) hr3 (fun u hu=>by simp only [List.mem_singleton] at hu; subst hu; rfl) (by omega) (by omega)
  refine ⟨a',_,c',w4,hrun,by unfold inI; omega,.inr ⟨a',c',rfl,hs4.rd,hk3.no (hk4.mono fun z _ e=>inA_none z e),fun z hz=>?_⟩,by simp⟩
  rcases hat.in hz with e | e
  ·exact absurd e (inA_none z)
  ·have:=hk3.size; omega
 ·simp only [List.cons.injEq,Value.slice.injEq,Value.int.injEq,true_and,and_true] at hvs
  obtain ⟨⟨rfl,rfl,rfl⟩,rfl⟩:=hvs
  exact condF (by rw [hlen]; decide) ⟨a8,c8,rfl,hr,hk,hf⟩
theorem bw_none {w:World} {b:Nat} {Kp:Nat→Prop} (hb:Blk w b #[.slice none 0 0]):IterOK Tryz.prog 221 [pd b] [] Kp w:=by
 intro l J Jx W hk hJ hJx hy h0
 refine C221 ?_
 unfold L221
 refine nnI ⟨_,_,_,(hb.no' hk).at0 rfl,by unfold inI; decide,fun vs w'=>vs=[.int .i64 (-1)]∧w'=W,fun _ _=>0,⟨rfl,rfl⟩,?_⟩
 rintro _ n7 w1 ⟨hvs,rfl⟩
 simp only [List.cons.injEq,Value.int.injEq,true_and,and_true] at hvs
 subst hvs
 exact condF (by decide) (.inl h0)
set_option maxHeartbeats 1000000 in
theorem rexit_ok (h:TO w gk L s tg V) (hov:V.ov=false) {x0:It} (hits:V.its=[x0]) (hd:x0.d=d) (hp:WrA x0.p) (wr:AK.WrK N d F) (hF:F c s) (hN:c.length+x0.p.o.length≤N) (code:Int) :
 CallR Tryz.prog 113 [pd V.rg,.int .i64 code] w fun v w'=>∃ na nc,v=.tuple #[.int .i64 code,.slice na 1 nc,.int .i64 0]∧RdS 3 w' na 1 nc [.int .i64 2,.int .i64 0,.int .i64 0]∧∃ s' L' tg',TZ w' gk L' s' tg' V.gt V.t V.rh V.tb V.hs (V.cells gk) V.aa V.al V.ac V.xs∧GS No w w' L L' tg tg'∧F (c ++ x0.p.o) s'∧(∀ z,inA na z→¬ OT L' tg' z∧w.heap.size≤z):=by
 refine C113 ?_
 unfold L113
 intro w1
 have hb1:Blk w1 w.heap.size #[pd V.rg]:=Blk.alloc _ _ _
 have hk1:Kept No w w1:=Kept.alloc _ _ _
 clear_value w1
 have h1:=h.no hk1
 refine ⟨_,(hb1.cell 0).trans rfl,rnone_to h1 ⟨_,rfl,condF rfl ⟨_,(hb1.cell 0).trans rfl,nnI ⟨_,h1.reg.at (i:=4) rfl,condF hov ⟨_,(hb1.cell 0).trans rfl,nnI (stC_at h1.reg (i:=4) (by simp [TV.rcells]) fun w3 hb3 hk3 _=>?_)⟩⟩⟩⟩⟩
 have hb3:Blk w3 V.rg (TV.rcells { V with ov:=true }):=hb3
 have h3:=h1.setOv hk3 hb3
 have hrgl:V.rg< w.heap.size:=(h.own V.rg (by rw [h.trg]; decide)).2
 have hb13:Blk w3 w.heap.size #[pd V.rg]:=hb1.keep hk3 (by omega)
 have g3:GS No w w3 L L tg tg:=(GS.of_no hk1 No L tg).trans ⟨hk3.mono fun z _ e=>.inl (.inr (by have e:z=V.rg:=e; rw [e,h.trg]; decide)),fun z e=>.inl e⟩
 intro w4
 have hb4:Blk w4 w3.heap.size #[.slice none 0 0]:=Blk.alloc _ _ _
 have hk4:Kept No w3 w4:=Kept.alloc _ _ _
 clear_value w4
 have h4:=h3.no hk4
 refine ⟨_,((hb13.no' hk4).cell 0).trans rfl,nnI ⟨_,_,_,h4.reg.at (i:=3) rfl,?_⟩⟩
 refine C170 ?_
 unfold L170
 intro w5
 have hb5:Blk w5 w4.heap.size #[.slice none 0 0]:=Blk.alloc _ _ _
 have hk5:Kept No w4 w5:=Kept.alloc _ _ _
 clear_value w5
 have h5:=h4.no hk5
 have hl4:=hb4.lt
 have hl5:=hb5.lt
 have hz3:=g3.size
 have hz4:=hk4.size
 have hz5:=hk5.size
 have hbA:=(hb13.no' hk4).no' hk5
 have hbN:=hb4.no' hk5
 have hlA:=hb13.lt
 refine ⟨_,rfl,221,#[pd w4.heap.size],[],fun _=>False,fun _=>False,fun _ W'=>TO W' gk L s tg { V with ov:=true }∧Blk W' w.heap.size #[pd V.rg]∧Blk W' w3.heap.size #[.slice none 0 0]∧Kept No w5 W',fun _ _=>False,rfl,by kernel_rfl,bw_none hb5,fun z hz=>hz.elim,fun z hz=>hz.elim,?_,fun _ _ _ e _=>e,⟨h5,hbA,hbN,Kept.refl _ _⟩,fun i x w6 hx=>by simp at hx,?_,fun _ _ e=>e.elim⟩
 ·rintro i A B ⟨a1,a2,a3,a4⟩ hk
  exact ⟨a1.keep hk fun z e=>h5.new (by rcases e with e | e <;> omega),a2.keep hk (by omega),a3.keep hk (by omega),a4.fresh hk fun z e=>by rcases e with e | e <;> omega⟩
 rintro w8 ⟨h8,hb8,hn8,hk8⟩
 have hz8:=hk8.size
 refine ⟨_,(hb8.cell 0).trans rfl,CallR.mono (ropen_ok (V:={ V with ov:=true }) h8 hits) ?_⟩
 rintro v w13 ⟨a28,k28,rfl,hr13,hk13,hf13⟩
 have h13:=h8.no hk13
 have hb13':=hb8.no' hk13
 have hn13:=hn8.no' hk13
 have g13:GS No w w13 L L tg tg:=(((g3.no hk4).no hk5).no hk8).no hk13
 have nOT:∀ z,w.heap.size≤z→¬ OT L tg z:=fun z hz=>h.new hz
 obtain ⟨q,ha,hc⟩:=rd_at hr13 (j:=0) (v:=.int .i64 0) rfl
 have hz13:=hk13.size
 have mk:w5.heap.size< w13.heap.size:=by
  have h1:=RdS.old hr13 (by simp) q.block ⟨q,ha,rfl⟩
  have h2:=hf13 q.block ⟨q,ha,rfl⟩
  omega
 obtain ⟨I,hI⟩:∃ I:List Value→World→Prop,I=fun vs w'=>(vs=[.int .i64 0]∧w'=w13)∨(vs=[.int .i64 1]∧∃ na nc s' L' tg',Blk w' w3.heap.size #[.slice na 1 nc]∧RdS 3 w' na 1 nc [.int .i64 2,.int .i64 0,.int .i64 0]∧TZ w' gk L' s' tg' V.gt V.t V.rh V.tb V.hs (V.cells gk) V.aa V.al V.ac V.xs∧GS No w w' L L' tg tg'∧F (c ++ x0.p.o) s'∧(∀ z,inA na z→¬ OT L' tg' z∧w13.heap.size≤z)∧Kept (fun z=>z≠w5.heap.size) w8 w'∧¬ OT L' tg' w5.heap.size):=⟨_,rfl⟩
 refine ⟨_,_,_,rfl,I,fun vs _=>match vs with | [.int _ i]=>1 - i.toNat | _=>0,by rw [hI]; exact .inl ⟨rfl,rfl⟩,?_⟩
 rintro _ n32 w14 hinv
 rw [hI] at hinv
 rcases hinv with ⟨hvs,rfl⟩ | ⟨hvs,na,nc,s',L',tg',hn14,hr14,hZ,hG,hF',hoff,hkm,nM⟩
 ·simp only [List.cons.injEq,Value.int.injEq,true_and,and_true] at hvs
  subst hvs
  refine condT (by decide) ⟨⟨by omega,by omega⟩,nnE ha ⟨_,hc,?_⟩⟩
  refine ⟨fun wS=>Blk wS w3.heap.size #[.slice none 0 0]∧Blk wS w.heap.size #[pd V.rg],⟨hn13.drew,hb13'.drew⟩,?_⟩
  intro w15
  have hk15:Kept No w14 w15:=Kept.drew _ _
  clear_value w15
  have h15:=h13.no hk15
  refine ⟨_,_,_,fun wS hS=>(hS.1.cell 0).trans rfl,_,fun wS hS=>(hS.2.cell 0).trans rfl,CallR.mono (rclose_ok (V:={ V with ov:=true }) h15 hits hd hp wr hF hN) ?_⟩
  rintro v w16 ⟨rfl,s',L',tg',hZ,hG,hF'⟩
  have hb16:Blk w16 w.heap.size #[pd V.rg]:=hG.blk (hb13'.no' hk15) (nOT _ (Nat.le_refl _)) fun e=>e
  have hn16:Blk w16 w3.heap.size #[.slice none 0 0]:=hG.blk (hn13.no' hk15) (nOT _ hz3) fun e=>e
  refine ⟨_,rfl,⟨hn16,hb16⟩,?_⟩
  intro w17
  have hb17:Blk w17 w16.heap.size #[.int .i64 2,.int .i64 0,.int .i64 0]:=Blk.alloc _ _ _
  have hk17:Kept No w16 w17:=Kept.alloc _ _ _
  have hr17:RdS 3 w17 (some ⟨w16.heap.size,0,none⟩) 1 1 [.int .i64 2,.int .i64 0,.int .i64 0]:=(SlO.of_blk (sz:=3) (n:=1) hb17 rfl).rd
  clear_value w17
  have hn17:=hn16.no' hk17
  obtain ⟨a',c',w18,hrun,hs18,hk18,hat,_⟩:=run_app_sl (P:=Tryz.prog) (t:=46) (t2:=46) (ty:=46) (by kernel_rfl:slTyB Tryz.prog 46 3 24=true) (by kernel_rfl) (SlO.nil 3 w17) hr17 (fun u hu=>by
   simp only [List.mem_cons,List.not_mem_nil,or_false] at hu
   rcases hu with rfl | rfl | rfl <;> rfl) (by omega) (by omega)
  have hk18':Kept No w17 w18:=hk18.mono fun z _ e=>inA_none z e
  have hn18:=hn17.no' hk18'
  have hl13:=hn13.lt
  have hz15:=hk15.size
  have hzG:=hG.size
  have hz17:=hk17.size
  have hz18:=hk18'.size
  refine ⟨⟨hn17,hb16.no' hk17⟩,a',_,c',w18,hrun,stC_blk hn18 (by simp) fun w19 hb19 hk19 hs19=>⟨by unfold inI; decide,?_,by simp⟩⟩
  rw [hI]
  have nN:¬ OT L' tg' w3.heap.size:=hG.free (nOT _ hz3) (by omega)
  have hZ17:=(hZ.no hk17).no hk18'
  have hnew:∀ z,inA a' z→w17.heap.size≤z:=fun z hz=>by
   rcases hat.in hz with e | e
   ·exact absurd e (inA_none z)
   ·omega
  have gg:GS No w w19 L L' tg tg':=(((((g13.no hk15).trans hG).no hk17).no hk18').priv hk19 fun z e=>.inr (by have e:z=w3.heap.size:=e; omega))
  refine .inr ⟨rfl,a',c',s',L',tg',hb19,(hs18.keep hk19 fun z hz e=>by have:=hnew z hz; have e:z=w3.heap.size:=e; omega).rd,hZ17.free hk19 fun z e=>by have e:z=w3.heap.size:=e; rw [e]; exact nN,gg,hF',fun z hz=>⟨hZ.new (by have:=hnew z hz; omega),by have:=hnew z hz; omega⟩,?_,hG.free (nOT _ (by omega)) (by omega)⟩
  have k1:Kept (fun z=>z≠w5.heap.size) w8 w16:=((hk13.no hk15).mono fun _ _ e=>(e.elim:_≠w5.heap.size)).trans hG.kept fun z hz e=>by
   rcases e with e | e
   ·intro e'
    rw [e'] at e
    exact nOT _ (by omega) e
   ·exact e.elim
  exact ((k1.no hk17).no hk18').trans hk19 fun z hz e=>by have e:z=w3.heap.size:=e; omega
 ·simp only [List.cons.injEq,Value.int.injEq,true_and,and_true] at hvs
  subst hvs
  refine condF (by decide) ⟨_,_,_,(hn14.cell 0).trans rfl,fun nd=>?_⟩
  have hkd:Kept No w14 (w14.drewN nd):=Kept.drewN _ _ _
  refine ⟨hkm.no hkd,fun w9 hk9=>?_⟩
  refine ⟨na,nc,rfl,(hr14.keep hkd fun _ _ _ e=>e).keep hk9 fun z _ hz e=>by have:=(hoff z hz).2; have e:z=w5.heap.size:=e; omega,s',L',tg',(hZ.no hkd).free hk9 fun z e=>by have e:z=w5.heap.size:=e; rw [e]; exact nM,(hG.no hkd).priv hk9 fun z e=>.inr (by have e:z=w5.heap.size:=e; omega),hF',fun z hz=>⟨(hoff z hz).1,by have:=(hoff z hz).2; have:=g13.size; omega⟩⟩
end
set_option maxRecDepth 100000
def nmB:ByteArray:=ByteArray.mk #[98]
structure FA (s:AK) (c:List Int):Prop where
 files:s.files=[(nmB,0)]
 terms:s.terms=[]
 ob:s.objs 0=.file c
theorem FA.drop {s:AK} {c:List Int} (h:FA s c) (d:Int):FA (s.drop d).2 c:=by
 unfold AK.drop
 split
 ·exact h
 ·split
  ·exact h
  ·rename_i x hx
   split
   ·show FA ((s.delD d).leave x) c
    unfold AK.leave
    split
    ·rename_i bs e0 e1 ho
     have hne:x.ob≠0:=fun e=>by
      have h0:(s.delD d).objs x.ob=.file c:=by rw [e]; exact h.ob
      rw [h0] at ho
      cases ho
     exact ⟨h.files,h.terms,(AK.objs_setO_ne _ _ (fun e=>hne e.symm)).trans h.ob⟩
    ·exact ⟨h.files,h.terms,h.ob⟩
   ·exact ⟨h.files,h.terms,h.ob⟩
theorem FA.close {c:List Int}:∀ (l:List Nat) (p:List (Int × Bool) × AK),FA p.2 c→FA (l.foldl closeS p).2 c
 | [],p,h=>h
 | fd :: l,p,h=>by
  refine FA.close l _ ?_
  unfold closeS tClose
  split
  ·exact h
  ·exact h.drop _
theorem FA.filesV {s:AK} {c:List Int} (h:FA s c):s.filesV=[(nmB,c)]:=by
 unfold AK.filesV
 rw [h.files]
 have:sortN [nmB]=[nmB]:=List.perm_singleton.1 (sortN_perm [nmB])
 simp only [List.map_cons,List.map_nil,this]
 unfold AK.bytesOf AK.fileOf
 rw [h.files]
 simp [h.ob,dataO]
section
variable {w w' : World} {L L' : KL} {gk : Nat} {s s' : AK} {tg : Nat → Nat} {V : TV} {d : Int} {N : Nat} {F : List Int → AK → Prop} {c : List Int}
variable {gt t rh : Nat} {tb : List (Int × Bool)} {hs : List (Value × Value)} {cells cells' : Array Value} {aa : Option Addr} {al ac : Nat} {xs : List Value}
theorem TZ.setTask (h:TZ w gk L s tg gt t rh tb hs cells aa al ac xs) (k:Kept (·=gt) w w') (hb:Blk w' gt cells'):TZ w' gk L s tg gt t rh tb hs cells' aa al ac xs:=by
 have ne:∀ z,tg z≠1→z≠gt:=fun z h1 e=>by rw [e] at h1; exact h1 h.tgt
 exact ⟨h.ker.keep k fun z e=>by rw [e]; exact (h.own gt (by rw [h.tgt]; decide)).1,hb,h.tab.keep k (ne _ (by rw [h.tt]; decide)),h.map.keep k (ne _ (by rw [h.trh]; decide)),h.ans.keep k fun z hz=>ne z (by rw [h.taa z hz]; decide),h.tgt,h.tt,h.trh,h.taa,fun z hz=>⟨(h.own z hz).1,Nat.lt_of_lt_of_le (h.own z hz).2 k.size⟩⟩
theorem TZ.kern (h:TZ w gk L s tg gt t rh tb hs cells aa al ac xs) (hk:KernO w' gk s' L') (st:KStep w w' L L'):TZ w' gk L' s' tg gt t rh tb hs cells aa al ac xs:=by
 have ne:∀ z,tg z≠0→¬ (L.own z≠none):=fun z h0 e=>e (h.own z h0).1
 exact ⟨hk,h.task.keep st.kept (ne _ (by rw [h.tgt]; decide)),h.tab.keep st.kept (ne _ (by rw [h.tt]; decide)),h.map.keep st.kept (ne _ (by rw [h.trh]; decide)),h.ans.keep st.kept fun z hz=>ne z (by rw [h.taa z hz]; decide),h.tgt,h.tt,h.trh,h.taa,
  fun z hz=>⟨(XStep.of_k (T:=No) st).own (h.own z hz).1 (h.own z hz).2,Nat.lt_of_lt_of_le (h.own z hz).2 st.size⟩⟩
theorem TZ.tabs (h:TZ w gk L s tg gt t rh tb hs cells aa al ac xs) {tb':List (Int × Bool)} (hT:TabO w' t gk tb') (hk:KernO w' gk s' L') (st:TStep t w w' L L'):TZ w' gk L' s' tg gt t rh tb' hs cells aa al ac xs:=by
 have ne:∀ z,tg z≠0→tg z≠2→¬ (L.own z≠none∨z=t):=fun z h0 h2 e=>by
  rcases e with e | e
  ·exact e (h.own z h0).1
  ·rw [e] at h2; exact h2 h.tt
 exact ⟨hk,h.task.keep st.kept (ne _ (by rw [h.tgt]; decide) (by rw [h.tgt]; decide)),hT,h.map.keep st.kept (ne _ (by rw [h.trh]; decide) (by rw [h.trh]; decide)),h.ans.keep st.kept fun z hz=>ne z (by rw [h.taa z hz]; decide) (by rw [h.taa z hz]; decide),h.tgt,h.tt,h.trh,h.taa,
  fun z hz=>⟨st.own (h.own z hz).1 (h.own z hz).2,Nat.lt_of_lt_of_le (h.own z hz).2 st.kept.size⟩⟩
theorem stC_at5 {g:Nat} {cur:Array Value} (h:Blk w g cur) {j:Nat} {v:Value} (hj:5+j< cur.size) {K:World→Prop} (hk:∀ w',Blk w' g (cur.setIfInBounds (5+j) v)→Kept (·=g) w w'→w'.heap.size=w.heap.size→K w') :
 stC (((⟨g,0,none⟩:Addr).add 5).add j) v w K:=by
 rw [add_none,add_none,Nat.zero_add]
 exact stC_blk h hj hk
theorem store2 {g:Nat} {cur:Array Value} (h:Blk w g cur) (hs:cur.size=2) {x y:Int} {K:World→Prop} (hk:∀ w',Blk w' g #[.int .i64 x,.int .i64 y]→Kept (·=g) w w'→K w'):storeS Tryz.prog 161 (Addr.mk g 0 none) (.agg #[.int .i64 x,.int .i64 y]) w K:=by
 have h1:isAggB Tryz.prog 161=true:=by kernel_rfl
 have h2:(match sizeP Tryz.prog 161 with | some n=>Nat.beq n 2 | none=>false)=true:=by kernel_rfl
 unfold storeS
 rw [h1,cond_true]
 show bif (match sizeP Tryz.prog 161 with | some n=>Nat.beq n 2 | none=>false) then _ else False
 rw [h2,cond_true]
 obtain ⟨l⟩:=cur
 match l,hs with
 | [a0,a1],_=>
  show stC (Addr.add ⟨g,0,none⟩ 0) _ w fun w1=>stC (Addr.add ⟨g,0,none⟩ 1) _ w1 K
  refine stC_at h (i:=0) (by simp) fun w1 h1 k1 _=>?_
  have h1:Blk w1 g #[.int .i64 x,a1]:=h1
  refine stC_at h1 (i:=1) (by simp) fun w2 h2 k2 _=>?_
  exact hk w2 h2 (k1.trans k2 fun _ _ e=>e)
def leftLen (w:World) (b r:Nat):Nat:=match w.heap[b]?,w.heap[r]? with
 | some (.map es _),some (.mapIter _ _ seen _)=>(leftOf es seen).size
 | _,_=>0
theorem leftLen_eq {b r:Nat} {d:TypeDesc} {m left:List (Value × Value)} (h:RngO w b r d m left):leftLen w b r=left.length:=by
 obtain ⟨es,clock,since,seen,c0,hb,_,_,_,hr,_,_,_,rfl⟩:=h
 unfold leftLen
 rw [hb,hr]
 simp
def endC (gk:Nat) (V:TV) (na:Option Addr) (nc:Nat) (fa:Option Addr) (fc:Nat):Array Value:=#[pd gk,pd V.t,pd V.rg,.map (some V.rh),.slice none 0 0,.slice V.aa V.al V.ac,.int .i64 0,.slice na 1 nc,.bool false,.slice fa 1 fc,.slice none 0 0,.bool true]
structure EndO (w0 w:World) (gk:Nat) (L:KL) (tg:Nat→Nat) (V:TV) (c:List Int) (na:Option Addr) (nc:Nat) (fa:Option Addr) (fc:Nat):Prop where
 task:Blk w V.gt (endC gk V na nc fa fc)
 notes:RdS 3 w na 1 nc [.int .i64 2,.int .i64 0,.int .i64 0]
 files:∃ da dl dc,RdS 2 w fa 1 fc [.string nmB,.slice da dl dc]∧RdB w da dl dc c
 ans:RdS 5 w V.aa V.al V.ac V.xs
 kept:Kept (OT L tg) w0 w
end
def midC (gk:Nat) (V:TV) (na:Option Addr) (nc:Nat):Array Value:=#[pd gk,pd V.t,pd V.rg,.map (some V.rh),.slice none 0 0,.slice V.aa V.al V.ac,.int .i64 0,.slice na 1 nc,.bool false,.slice none 0 0,.slice none 0 0,.bool false]
def FW (c:List Int) (s:AK):Prop:=AK.KW s c∧s.files=[(nmB,0)]∧s.terms=[]
theorem FW.fa {c:List Int} {s:AK} (h:FW c s):FA s c:=⟨h.2.1,h.2.2,h.1.w.ob⟩
theorem wrFW:AK.WrK 1048576 1 FW:=
 ⟨fun c s x h hx=>let ⟨s',h1,h2,h3⟩:=h.1.put x hx; ⟨s',h1,h2,h3.files.trans h.2.1,h3.terms.trans h.2.2⟩,fun c s h hc=>by have:=h.1.c1; omega⟩
section
variable {w w' : World} {L L' : KL} {gk : Nat} {s s' : AK} {tg tg' : Nat → Nat} {V : TV} {d : Int} {N : Nat} {c : List Int}
variable {tb : List (Int × Bool)} {hs : List (Value × Value)} {na : Option Addr} {nc : Nat}
theorem EndO.narrow {w0 w1:World} {L0:KL} {tg0:Nat→Nat} {fa:Option Addr} {fc:Nat} (h:EndO w1 w' gk L tg V c na nc fa fc) (g:GS No w0 w1 L0 L tg0 tg):EndO w0 w' gk L0 tg0 V c na nc fa fc:=
 ⟨h.task,h.notes,h.files,h.ans,(g.kept.trans h.kept fun z hz e=>by
  rcases g.grew z e with e | e
  ·exact .inl e
  ·omega).mono fun z _ e=>e.elim id fun e=>e.elim⟩
theorem GS.of_ts {t:Nat} (st:TStep t w w' L L') (ht:tg t≠0):GS No w w' L L' tg tg:=
 ⟨st.kept.mono fun z _ e=>.inl (e.imp id fun e=>by rw [e]; exact ht),fun z e=>by
  rcases e with e | e
  ·exact (st.grew z e).imp .inl id
  ·exact .inl (.inr e)⟩
theorem GS.of_ks (st:KStep w w' L L'):GS No w w' L L' tg tg:=
 ⟨st.kept.mono fun z _ e=>.inl (.inl e),fun z e=>by
  rcases e with e | e
  ·exact (st.grew z e).imp .inl id
  ·exact .inl (.inr e)⟩
theorem finish_ok (h:TZ w gk L s tg V.gt V.t V.rh tb hs (midC gk V na nc) V.aa V.al V.ac V.xs) (hfa:FA s c) (hN:RdS 3 w na 1 nc [.int .i64 2,.int .i64 0,.int .i64 0]) (hoff:∀ z,inA na z→¬ OT L tg z) :
 CallR Tryz.prog 17 [pd V.gt] w fun v w'=>v=.tuple #[]∧∃ fa fc,EndO w w' gk L tg V c na nc fa fc:=by
 refine C17 ?_
 unfold L17
 have hOT:OT L tg V.gt:=.inr (by rw [h.tgt]; decide)
 have hgl:V.gt< w.heap.size:=(h.own V.gt (by rw [h.tgt]; decide)).2
 refine nnI (stC_at h.task (i:=11) (by simp [midC]) fun w1 hb1 hk1 _=>?_)
 have h1:=h.setTask hk1 hb1
 refine nnI ⟨_,h1.task.at0 rfl,CallR.mono (kernFiles_ok h1.ker) ?_⟩
 rintro v w2 ⟨fa,fl,fc,es,rfl,hO,hk2⟩
 have h2:=h1.no hk2
 have hfl:fl=1:=by rw [hO.len_eq,hfa.filesV]; rfl
 subst hfl
 refine ⟨_,_,_,rfl,nnI (stC_at5 h2.task (j:=4) (by simp [midC]) fun w3 hb3 hk3 _=>?_)⟩
 have h3:=h2.setTask hk3 hb3
 have hz1:=hk1.size
 refine nnI ⟨_,_,_,h3.task.at (i:=4) rfl,fun vs w'=>vs=[.int .i64 0]∧w'=w3,fun _ _=>0,⟨rfl,rfl⟩,?_⟩
 rintro _ n12 w4 ⟨hvs,rfl⟩
 simp only [List.cons.injEq,Value.int.injEq,true_and,and_true] at hvs
 subst hvs
 refine condF (by decide) ⟨rfl,fa,fc,h3.task,?_,?_,h3.ans.rd,?_⟩
 ·exact ((hN.keep hk1 fun z _ hz e=>hoff z hz (by rw [show z=V.gt from e]; exact hOT)).keep hk2 fun _ _ _ e=>e).keep hk3 fun z _ hz e=>hoff z hz (by rw [show z=V.gt from e]; exact hOT)
 ·have hle:es.length=1:=by rw [hO.len,hfa.filesV]; rfl
  match es,hle with
  | [e],_=>
   have hE:=hO.each 0 (by simp) (by rw [hfa.filesV]; simp)
   have e1:(s.filesV)[0]'(by rw [hfa.filesV]; simp)=(nmB,c):=by
    have:∀ (l:List (ByteArray × List Int)) (hl:l=[(nmB,c)]) (hh:0< l.length),l[0]=(nmB,c):=fun l hl hh=>by subst hl; rfl
    exact this _ hfa.filesV _
   rw [e1] at hE
   obtain ⟨hE1,hE2⟩:=hE
   have hE1:e.1=nmB:=hE1
   have hfe:=hO.fe 0 (by simp)
   refine ⟨e.2.1,e.2.2.1,e.2.2.2,?_,?_⟩
   ·have hs:=hO.sl.rd
    have hnv:Nv [e]=[.string nmB,.slice e.2.1 e.2.2.1 e.2.2.2]:=by rw [← hE1]; rfl
    rw [hnv] at hs
    exact hs.keep hk3 fun z _ hz e=>by have:=hO.fr z hz; have e:z=V.gt:=e; omega
   ·exact hE2.rd.keep hk3 fun z _ hz e=>by have:=(hfe z hz).1; have e:z=V.gt:=e; omega
 ·exact ((hk1.mono fun z _ e=>by rw [show z=V.gt from e]; exact hOT).trans hk2 fun _ _ e=>e.elim).trans hk3 fun z _ e=>by rw [show z=V.gt from e]; exact hOT
set_option maxHeartbeats 1000000 in
theorem texit_ok (h:TO w gk L s tg V) (hov:V.ov=false) {x0:It} (hits:V.its=[x0]) (hd:x0.d=1) (hp:WrA x0.p) (hhs:V.hs=kf [((0:Int),.agg #[.int .i64 1,.int .i64 0])]) (hF:FW c s) (hN:c.length+x0.p.o.length≤1048576) :
 CallR Tryz.prog 51 [pd V.gt,.int .i64 0] w fun v w'=>v=.tuple #[]∧∃ na nc fa fc,EndO w w' gk L tg V (c ++ x0.p.o) na nc fa fc:=by
 refine C51 ?_
 unfold L51
 refine nnI ⟨_,h.task.at (i:=2) rfl,CallR.mono (rexit_ok h hov hits hd hp wrFW hF hN 0) ?_⟩
 rintro v w1 ⟨na,nc,rfl,hr1,s1,L1,tg1,hZ1,hG1,hF1,hoff1⟩
 have hF1:=hF1.fa
 have hOT1:OT L1 tg1 V.gt:=.inr (by rw [hZ1.tgt]; decide)
 refine ⟨_,_,_,_,_,rfl,nnI (stC_at5 hZ1.task (j:=1) (by simp [TV.cells]) fun w2 hb2 hk2 _=>?_)⟩
 have hZ2:=hZ1.setTask hk2 hb2
 refine nnI (stC_at5 hZ2.task (j:=2) (by simp [TV.cells]) fun w3 hb3 hk3 _=>?_)
 have hZ3:TZ w3 gk L1 s1 tg1 V.gt V.t V.rh V.tb V.hs (midC gk V na nc) V.aa V.al V.ac V.xs:=hZ2.setTask hk3 hb3
 have g13:GS No w1 w3 L1 L1 tg1 tg1:=⟨(hk2.mono fun z _ e=>.inl (by rw [show z=V.gt from e]; exact hOT1)).trans hk3 fun z _ e=>.inl (by rw [show z=V.gt from e]; exact hOT1),fun z e=>.inl e⟩
 have keepN:∀ {wa wb:World} {La Lb:KL},RdS 3 wa na 1 nc [.int .i64 2,.int .i64 0,.int .i64 0]→GS No wa wb La Lb tg1 tg1→(∀ z,inA na z→¬ OT La tg1 z)→RdS 3 wb na 1 nc [.int .i64 2,.int .i64 0,.int .i64 0]:=fun hr g ho=>hr.keep g.kept fun z _ hz e=>by
  rcases e with e | e
  ·exact ho z hz e
  ·exact e
 have keepO:∀ {wa wb:World} {La Lb:KL},RdS 3 wa na 1 nc [.int .i64 2,.int .i64 0,.int .i64 0]→GS No wa wb La Lb tg1 tg1→(∀ z,inA na z→¬ OT La tg1 z)→(∀ z,inA na z→¬ OT Lb tg1 z):=fun hr g ho z hz=>g.free (ho z hz) (RdS.old hr (by simp) z hz)
 have hoff1':∀ z,inA na z→¬ OT L1 tg1 z:=fun z hz=>(hoff1 z hz).1
 have hr3:=keepN hr1 g13 hoff1'
 refine nnI ⟨_,hZ3.task.at (i:=3) rfl,?_⟩
 have hM:=hZ3.map
 rw [hhs] at hM
 obtain ⟨kt,et,hu1,hu2⟩:=uH
 obtain ⟨w4,hrun4,hR4,hk4,hs4⟩:=range_map (P:=Tryz.prog) hu1 hM
 refine ⟨w4,hrun4,?_⟩
 have hl3:w3.heap.size< w4.heap.size:=by omega
 obtain ⟨I,hI⟩:∃ I:List Value→World→Prop,I=fun vs w'=>vs=[]∧∃ s' L' lf,RngO w' V.rh w3.heap.size (.int .i64) (kf [((0:Int),.agg #[.int .i64 1,.int .i64 0])]) lf∧TZ w' gk L' s' tg1 V.gt V.t V.rh V.tb V.hs (midC gk V na nc) V.aa V.al V.ac V.xs∧FA s' (c ++ x0.p.o)∧GS No w w' L L' tg tg1∧RdS 3 w' na 1 nc [.int .i64 2,.int .i64 0,.int .i64 0]∧(∀ z,inA na z→¬ OT L' tg1 z)∧¬ OT L' tg1 w3.heap.size∧w3.heap.size< w'.heap.size:=⟨_,rfl⟩
 refine ⟨I,fun _ w'=>leftLen w' V.rh w3.heap.size,?_,?_⟩
 ·rw [hI]
  exact ⟨rfl,s1,L1,_,hR4,hZ3.no hk4,hF1,(hG1.trans g13).no hk4,hr3.keep hk4 fun _ _ _ e=>e,hoff1',hZ3.new (Nat.le_refl _),hl3⟩
 rintro _ w5 hinv
 rw [hI] at hinv
 obtain ⟨_,s5,L5,lf,hR5,hZ5,hF5,hG5,hr5,hoff5,hno5,hl5⟩:=hinv
 rcases next_map (P:=Tryz.prog) hR5 0 with ⟨hl,hrun⟩ | ⟨p,l1,l2,w7,hl,hpm,hrun,hR7,hk7,hz7,hent⟩
 ·left
  refine ⟨w5,hrun,nnI ⟨_,hZ5.task.at (i:=1) rfl,CallR.mono (tcloseall_ok hZ5.tab hZ5.ker (hZ5.own V.t (by rw [hZ5.tt]; decide)).1) ?_⟩⟩
  rintro v w8 ⟨rfl,L8,hT8,hK8,st8⟩
  have hZ8:=hZ5.tabs hT8 hK8 st8
  have g8:GS No w5 w8 L5 L8 tg1 tg1:=GS.of_ts st8 (by rw [hZ5.tt]; decide)
  refine ⟨rfl,CallR.mono (finish_ok hZ8 (FA.close (usedIx V.tb) (V.tb,s5) hF5) (keepN hr5 g8 hoff5) (keepO hr5 g8 hoff5)) ?_⟩
  rintro v w9 ⟨rfl,fa,fc,hE⟩
  exact ⟨rfl,rfl,na,nc,fa,fc,hE.narrow (hG5.trans g8)⟩
 ·right
  have hp:p=(.int .i64 0,.agg #[.int .i64 1,.int .i64 0]):=by
   have:p ∈ [((.int .i64 0,.agg #[.int .i64 1,.int .i64 0]):Value × Value)]:=hpm
   simpa only [List.mem_singleton] using this
  subst hp
  refine ⟨_,_,w7,hrun,.inr ⟨0,_,w7,hent,?_⟩⟩
  intro w16
  have hb16:Blk w16 w7.heap.size #[.int .i64 0,.int .i64 0]:=Blk.alloc _ _ _
  have hk16:Kept No w7 w16:=Kept.alloc _ _ _
  clear_value w16
  refine store2 hb16 rfl fun w17 hb17 hk17=>?_
  intro w18
  have hk18:Kept No w17 w18:=Kept.drew _ _
  clear_value w18
  have hb18:=hb17.no' hk18
  have hl16:=hb16.lt
  have k18:Kept (·=w3.heap.size) w5 w18:=((hk7.no hk16).trans hk17 fun z hz e=>by have e:z=w7.heap.size:=e; omega).no hk18
  have hZ18:=hZ5.free k18 fun z e=>by rw [show z=w3.heap.size from e]; exact hno5
  have hR18:=((hR7.keep hk16 (fun e=>e) fun e=>e).keep hk17 (by have:=hR7.map.lt; omega) (by have:=hR7.lt; omega)).keep hk18 (fun e=>e) fun e=>e
  have hrl:=(hZ5.own V.rh (by rw [hZ5.trh]; decide)).2
  have g18:GS No w w18 L L5 tg tg1:=hG5.priv k18 fun z e=>.inr (by have e:z=w3.heap.size:=e; have:=hG1.size; have:=hk2.size; have:=hk3.size; omega)
  have hr18:=hr5.keep k18 fun z hz1 hz e=>hno5 (by
   have e:z=w3.heap.size:=e
   exfalso
   have:=RdS.old hr3 (by simp) z hz
   omega)
  refine nnI ⟨_,hZ18.task.at0 rfl,_,hb18.at0 rfl,CallR.mono (kernDrop_ok hZ18.ker 1) ?_⟩
  rintro v w19 ⟨rfl,L19,hK19,st19⟩
  have g19:GS No w18 w19 L5 L19 tg1 tg1:=GS.of_ks st19
  have hR19:=hR18.keep st19.kept (fun e=>e (hZ18.own V.rh (by rw [hZ18.trh]; decide)).1) (fun e=>hno5 (.inl e))
  have hz18:=k18.size
  have hz19:=g19.size
  refine ⟨_,rfl,?_,?_⟩
  ·rw [hI]
   exact ⟨rfl,_,L19,_,hR19,hZ18.kern hK19 st19,hF5.drop 1,g18.trans g19,keepN hr18 g19 hoff5,keepO hr18 g19 hoff5,g19.free hno5 (by omega),by omega⟩
  ·show leftLen w19 V.rh w3.heap.size< leftLen w5 V.rh w3.heap.size
   rw [leftLen_eq hR19,leftLen_eq hR5,hl]
   simp only [List.length_append,List.length_cons]
   omega
end
section
variable {w : World} {g : Nat}
theorem st6 {cur:Array Value} (h:Blk w g cur) (hs:cur.size=6) {v0 v1 v2 v3 v4 v5:Value} {K:World→Prop} (hk:∀ w',Blk w' g #[v0,v1,v2,v3,v4,v5]→Kept (·=g) w w'→w'.heap.size=w.heap.size→K w') :
 stC (Addr.mk g 0 none) v0 w fun w1=>stC (Addr.mk g 1 none) v1 w1 fun w2=>stC (Addr.mk g 2 none) v2 w2 fun w3=>stC (Addr.mk g 3 none) v3 w3 fun w4=>stC (Addr.mk g 4 none) v4 w4 fun w5=>stC (Addr.mk g 5 none) v5 w5 K:=by
 obtain ⟨l⟩:=cur
 match l,hs with
 | [a0,a1,a2,a3,a4,a5],_=>
  refine stC_blk h (by simp) fun w1 h1 k1 s1=>?_
  have h1:Blk w1 g #[v0,a1,a2,a3,a4,a5]:=h1
  refine stC_blk h1 (by simp) fun w2 h2 k2 s2=>?_
  have h2:Blk w2 g #[v0,v1,a2,a3,a4,a5]:=h2
  refine stC_blk h2 (by simp) fun w3 h3 k3 s3=>?_
  have h3:Blk w3 g #[v0,v1,v2,a3,a4,a5]:=h3
  refine stC_blk h3 (by simp) fun w4 h4 k4 s4=>?_
  have h4:Blk w4 g #[v0,v1,v2,v3,a4,a5]:=h4
  refine stC_blk h4 (by simp) fun w5 h5 k5 s5=>?_
  have h5:Blk w5 g #[v0,v1,v2,v3,v4,a5]:=h5
  refine stC_blk h5 (by simp) fun w6 h6 k6 s6=>?_
  exact hk w6 h6 (((((k1.trans k2 fun _ _ e=>e).trans k3 fun _ _ e=>e).trans k4 fun _ _ e=>e).trans k5 fun _ _ e=>e).trans k6 fun _ _ e=>e) (by omega)
structure Rp where
 a0:Option Addr
 l0:Nat
 c0:Nat
 n:Int
 a2:Option Addr
 l2:Nat
 c2:Nat
 b:Bool
 a4:Option Addr
 l4:Nat
 c4:Nat
 a5:Option Addr
 l5:Nat
 c5:Nat
def Rp.cells (r:Rp):Array Value:=#[.slice r.a0 r.l0 r.c0,.int .i64 r.n,.slice r.a2 r.l2 r.c2,.bool r.b,.slice r.a4 r.l4 r.c4,.slice r.a5 r.l5 r.c5]
theorem ld6 {r:Rp} (h:Blk w g r.cells) {K:Option Addr→Nat→Nat→Int→Option Addr→Nat→Nat→Bool→Option Addr→Nat→Nat→Option Addr→Nat→Nat→Prop} (hk:K r.a0 r.l0 r.c0 r.n r.a2 r.l2 r.c2 r.b r.a4 r.l4 r.c4 r.a5 r.l5 r.c5) :
 ∃ (a0:Option Addr) (l0:Nat) (c0:Nat) (n:Int) (a2:Option Addr) (l2:Nat) (c2:Nat) (b:Bool) (a4:Option Addr) (l4:Nat) (c4:Nat) (a5:Option Addr) (l5:Nat) (c5:Nat),w.cell? (Addr.mk g 0 none)=some ((.slice a0 l0 c0:Value))∧w.cell? (Addr.mk g 1 none)=some ((.int .i64 n:Value))∧w.cell? (Addr.mk g 2 none)=some ((.slice a2 l2 c2:Value))∧w.cell? (Addr.mk g 3 none)=some ((.bool b:Value))∧w.cell? (Addr.mk g 4 none)=some ((.slice a4 l4 c4:Value))∧w.cell? (Addr.mk g 5 none)=some ((.slice a5 l5 c5:Value))∧K a0 l0 c0 n a2 l2 c2 b a4 l4 c4 a5 l5 c5:=
 ⟨_,_,_,_,_,_,_,_,_,_,_,_,_,_,(h.cell 0).trans rfl,(h.cell 1).trans rfl,(h.cell 2).trans rfl,(h.cell 3).trans rfl,(h.cell 4).trans rfl,(h.cell 5).trans rfl,hk⟩
theorem nclone_ok {na:Option Addr} {nc:Nat} (hr:RdS 3 w na 1 nc [.int .i64 2,.int .i64 0,.int .i64 0]) :
 CallR Tryz.prog 52 [.slice na 1 nc] w fun v w'=>∃ a l c,v=.slice a l c∧Kept No w w':=by
 refine C52 ?_
 unfold L52
 refine condI (fun _=>⟨_,_,_,rfl,Kept.refl _ _⟩) fun _=>?_
 intro w1
 have hb1:Blk w1 w.heap.size #[]:=Blk.alloc _ _ _
 have hk1:Kept No w w1:=Kept.alloc _ _ _
 clear_value w1
 obtain ⟨a',c',w2,hrun,hs2,hk2,hat,_⟩:=run_app_sl (P:=Tryz.prog) (t:=46) (t2:=46) (ty:=46) (by kernel_rfl:slTyB Tryz.prog 46 3 24=true) (by kernel_rfl) (SlO.of_blk (sz:=3) (n:=0) hb1 rfl) (hr.keep hk1 fun _ _ _ e=>e) (fun u hu=>by
  simp only [List.mem_cons,List.not_mem_nil,or_false] at hu
  rcases hu with rfl | rfl | rfl <;> rfl) (by omega) (by omega)
 exact ⟨a',_,c',w2,hrun,_,_,_,rfl,hk1.fresh hk2 fun z e=>by
  obtain ⟨q,hq,rfl⟩:=e
  cases hq
  exact Nat.le_refl _⟩
theorem namedB_nil:CallR Tryz.prog 53 [.slice none 0 0] w fun v w'=>v=.slice none 0 0∧w'=w:=by
 refine C53 ?_
 unfold L53
 refine ⟨fun vs w'=>vs=[.slice none 0 0,.int .i64 0]∧w'=w,fun _ _=>0,⟨rfl,rfl⟩,?_⟩
 rintro _ a4 l4 c4 n5 w1 ⟨hvs,rfl⟩
 simp only [List.cons.injEq,Value.slice.injEq,Value.int.injEq,true_and,and_true] at hvs
 obtain ⟨⟨rfl,rfl,rfl⟩,rfl⟩:=hvs
 exact condF (by decide) ⟨rfl,rfl⟩
theorem namedB_ok {fa:Option Addr} {fc:Nat} {da:Option Addr} {dl dc:Nat} {c:List Int} (hf:RdS 2 w fa 1 fc [.string nmB,.slice da dl dc]) (hd:RdB w da dl dc c) (hl:c.length≤1000) :
 CallR Tryz.prog 53 [.slice fa 1 fc] w fun v w'=>∃ fa' fc' da' dl' dc',v=.slice fa' 1 fc'∧RdS 2 w' fa' 1 fc' [.string nmB,.slice da' dl' dc']∧RdB w' da' dl' dc' c∧Kept No w w'∧(∀ z,inA fa' z∨inA da' z→w.heap.size≤z):=by
 refine C53 ?_
 unfold L53
 have hdl:=hd.len
 obtain ⟨q,hq⟩:∃ q,fa=some q:=by
  cases fa with
  | none=>have h1:=hf.2.1; have h2:=hf.2.2.1 rfl; omega
  | some q=>exact ⟨q,rfl⟩
 refine ⟨fun vs w'=>(vs=[.slice none 0 0,.int .i64 0]∧w'=w)∨∃ fa' fc' da' dl' dc',vs=[.slice fa' 1 fc',.int .i64 1]∧RdS 2 w' fa' 1 fc' [.string nmB,.slice da' dl' dc']∧RdB w' da' dl' dc' c∧Kept No w w'∧(∀ z,inA fa' z∨inA da' z→w.heap.size≤z),fun vs _=>match vs with | [_,.int _ i]=>1 - i.toNat | _=>0,.inl ⟨rfl,rfl⟩,?_⟩
 rintro _ a4 l4 c4 n5 w1 hI
 rcases hI with ⟨hvs,rfl⟩ | ⟨fa',fc',da',dl',dc',hvs,h1,h2,h3,h4⟩
 ·simp only [List.cons.injEq,Value.slice.injEq,Value.int.injEq,true_and,and_true] at hvs
  obtain ⟨⟨rfl,rfl,rfl⟩,rfl⟩:=hvs
  refine condT (by decide) ⟨⟨by omega,by omega⟩,nnE hq ⟨nmB,da,dl,dc,hf.2.2.2 q hq 0 _ rfl,?_,?_⟩⟩
  ·rw [add_add]
   exact hf.2.2.2 q hq 1 _ rfl
  intro w2
  have hb2:Blk w2 w1.heap.size #[.string (ByteArray.mk #[]),.slice none 0 0]:=Blk.alloc _ _ _
  have hk2:Kept No w1 w2:=Kept.alloc _ _ _
  clear_value w2
  refine stC_blk hb2 (by simp) fun w3 hb3 hk3 _=>?_
  have hb3:Blk w3 w1.heap.size #[.string nmB,.slice none 0 0]:=hb3
  refine stC_blk hb3 (by simp) fun w4 hb4 hk4 _=>?_
  have hb4:Blk w4 w1.heap.size #[.string nmB,.slice da dl dc]:=hb4
  have k4:Kept No w1 w4:=(hk2.fresh hk3 fun z e=>by omega).fresh hk4 fun z e=>by omega
  refine ⟨fun wS=>Blk wS w1.heap.size #[.string nmB,.slice da dl dc],hb4.drew,?_⟩
  intro w5
  have hk5:Kept No w4 w5:=Kept.drew _ _
  have hb5:Blk w5 w1.heap.size #[.string nmB,.slice da dl dc]:=hb4.drew
  clear_value w5
  have k5:=k4.no hk5
  refine ⟨_,fun wS hS=>(hS.cell 0).trans rfl,_,_,_,fun wS hS=>(hS.cell 1).trans rfl,CallR.mono (clone_ok' (hd.keep k5 fun _ _ _ e=>e) (by omega)) ?_⟩
  rintro v w6 ⟨a',c',rfl,hO,hk6,hf6,_⟩
  refine ⟨_,_,_,rfl,hb5.no' hk6,?_⟩
  intro w7
  have hb7:Blk w7 w6.heap.size #[.string nmB,.slice a' dl c']:=Blk.alloc _ _ _
  have hk7:Kept No w6 w7:=Kept.alloc _ _ _
  have hr7:RdS 2 w7 (some ⟨w6.heap.size,0,none⟩) 1 1 [.string nmB,.slice a' dl c']:=(SlO.of_blk (sz:=2) (n:=1) hb7 rfl).rd
  clear_value w7
  obtain ⟨a8,c8,w8,hrun,hs8,hk8,hat,_⟩:=run_app_sl (P:=Tryz.prog) (t:=29) (t2:=29) (ty:=29) (by kernel_rfl:slTyB Tryz.prog 29 2 40=true) (by kernel_rfl) (SlO.nil 2 w7) hr7 (fun u hu=>by
   simp only [List.mem_cons,List.not_mem_nil,or_false] at hu
   rcases hu with rfl | rfl <;> rfl) (by omega) (by omega)
  have hk8':Kept No w7 w8:=hk8.mono fun z _ e=>inA_none z e
  refine ⟨a8,_,c8,w8,hrun,by unfold inI; omega,.inr ⟨a8,c8,a',dl,c',rfl,hs8.rd,(hO.rd.keep hk7 fun _ _ _ e=>e).keep hk8' fun _ _ _ e=>e,((k5.no hk6).no hk7).no hk8',fun z hz=>?_⟩,by simp⟩
  have hz5:=k5.size
  have hz6:=hk6.size
  have hz7:=hk7.size
  rcases hz with hz | hz
  ·rcases hat.in hz with e | e
   ·exact absurd e (inA_none z)
   ·omega
  ·have:=hf6 z hz; omega
 ·simp only [List.cons.injEq,Value.slice.injEq,Value.int.injEq,true_and,and_true] at hvs
  obtain ⟨⟨rfl,rfl,rfl⟩,rfl⟩:=hvs
  exact condF (by decide) ⟨_,_,_,_,_,rfl,h1,h2,h3,h4⟩
end
section
variable {w w' : World} {L L' : KL} {gk : Nat} {s s' : AK} {tg tg' : Nat → Nat} {V : TV} {c : List Int}
def RepF (w:World) (r:Rp) (c:List Int):Prop:=
 ∃ da dl dc,r.l4=1∧RdS 2 w r.a4 1 r.c4 [.string nmB,.slice da dl dc]∧RdB w da dl dc c
theorem RepF.keep {r:Rp} (h:RepF w r c) {S:Nat→Prop} (k:Kept S w w') (hS:∀ z,z< w.heap.size→¬ S z):RepF w' r c:=by
 obtain ⟨da,dl,dc,e,h1,h2⟩:=h
 exact ⟨da,dl,dc,e,h1.keep k fun z hz _ e=>hS z hz e,h2.keep k fun z hz _ e=>hS z hz e⟩
theorem RepF.no {r:Rp} (h:RepF w r c) (k:Kept No w w'):RepF w' r c:=h.keep k fun z _ e=>e
def RepK (w0 w:World) (r:Rp) (c:List Int):Prop:=∀ (wz:World) (S:Nat→Prop),Kept S w wz→(∀ z,S z→z< w0.heap.size)→RepF wz r c
set_option maxHeartbeats 2000000 in
theorem tend_ok (h:TO w gk L s tg V) (hov:V.ov=false) {x0:It} (hits:V.its=[x0]) (hd:x0.d=1) (hp:WrA x0.p) (hhs:V.hs=kf [((0:Int),.agg #[.int .i64 1,.int .i64 0])]) (hF:FW c s) (hN:c.length+x0.p.o.length≤1000) (hal:V.al=2) {n0 n1:Int}
 (hxs:V.xs=(An.cells ⟨0,n0,none,0,0⟩).toList ++ (An.cells ⟨0,n1,none,0,0⟩).toList) :
 CallR Tryz.prog 18 [pd V.gt,.int .i64 0] w fun v w'=>∃ r:Rp,v=.agg r.cells∧RepK w w' r (c ++ x0.p.o)∧Kept (OT L tg) w w':=by
 refine C18 ?_
 unfold L18
 intro w1
 have hb1:Blk w1 w.heap.size #[.slice none 0 0,.int .i64 0,.slice none 0 0,.bool false,.slice none 0 0,.slice none 0 0]:=Blk.alloc _ _ _
 have hk1:Kept No w w1:=Kept.alloc _ _ _
 clear_value w1
 have h1:=h.no hk1
 refine tnone_to2 h1 ⟨_,rfl,condF rfl ?_⟩
 refine ⟨fun vs w'=>vs=[]∧(∃ na nc fa fc,EndO w1 w' gk L tg V (c ++ x0.p.o) na nc fa fc),?_,?_⟩
 ·refine nnI ⟨_,h1.task.at (i:=11) rfl,condT rfl (CallR.mono (texit_ok h1 hov hits hd hp hhs hF (by omega)) ?_)⟩
  rintro v w9 ⟨rfl,hE⟩
  exact ⟨rfl,rfl,hE⟩
 rintro _ w10 ⟨_,na,nc,fa,fc,hE⟩
 have hl1:=hb1.lt
 have hb10:Blk w10 w.heap.size #[.slice none 0 0,.int .i64 0,.slice none 0 0,.bool false,.slice none 0 0,.slice none 0 0]:=hb1.keep hE.kept (h.new (Nat.le_refl _))
 have hl10:=hb10.lt
 have k10:Kept (OT L tg) w w10:=(hk1.mono fun _ _ e=>e.elim).trans hE.kept fun _ _ e=>e
 have ht:=hE.task
 have at6:∀ (j:Nat) (v:Value),(endC gk V na nc fa fc)[5+j]?=some v→w10.cell? (Addr.add (Addr.add ⟨V.gt,0,none⟩ 5) j)=some v:=fun j v hj=>by
  rw [add_add]
  exact ht.at hj
 refine nnI ⟨_,_,_,_,_,_,_,_,_,_,_,_,_,_,ht.at (i:=5) rfl,at6 1 _ rfl,at6 2 _ rfl,at6 3 _ rfl,at6 4 _ rfl,at6 5 _ rfl,?_⟩
 intro w11
 have hb11:Blk w11 w10.heap.size #[.slice none 0 0,.int .i64 0,.slice none 0 0,.bool false,.slice none 0 0,.slice none 0 0]:=Blk.alloc _ _ _
 have hk11:Kept No w10 w11:=Kept.alloc _ _ _
 clear_value w11
 refine st6 hb11 rfl fun w17 hb17 hk17 _=>stC_blk hb17 (by simp) fun w18 hb18 hk18 _=>?_
 have k18:Kept No w10 w18:=(hk11.fresh hk17 fun z e=>by omega).fresh hk18 fun z e=>by omega
 obtain ⟨rp,hrp⟩:∃ rp:Option Addr→Nat→Nat→Rp,rp=fun a l c=>⟨a,l,c,0,na,1,nc,false,fa,1,fc,none,0,0⟩:=⟨_,rfl⟩
 have hb18:Blk w18 w10.heap.size (rp none 0 0).cells:=by rw [hrp]; exact hb18
 have hans:=hE.ans
 rw [hal,hxs] at hans
 obtain ⟨q,hq⟩:∃ q,V.aa=some q:=by
  cases haa:V.aa with
  | none=>rw [haa] at hans; have h1:=hans.2.1; have h2:=hans.2.2.1 rfl; omega
  | some q=>exact ⟨q,rfl⟩
 refine nnI ⟨_,_,_,(ht.no' k18).at (i:=5) rfl,?_⟩
 rw [hal]
 have hl18:=hb18.lt
 obtain ⟨I,hI⟩:∃ I:List Value→World→Prop,I=fun vs w'=>∃ (i:Nat) (a:Option Addr) (k:Nat) (xs:List Value),vs=[.int .i64 (i:Int)]∧i≤2∧Blk w' w10.heap.size (rp a i k).cells∧SlO 5 w' a i k xs∧(∀ z,inA a z→w10.heap.size< z)∧Kept No w10 w':=⟨_,rfl⟩
 refine ⟨I,fun vs _=>match vs with | [.int _ i]=>2 - i.toNat | _=>0,by rw [hI]; exact ⟨0,none,0,[],rfl,by omega,hb18,SlO.nil 5 w18,fun z hz=>absurd hz (inA_none z),k18⟩,?_⟩
 rintro _ n26 w19 hinv
 rw [hI] at hinv
 obtain ⟨i,a,k,xs,hvs,hi2,hb19,hs19,ha19,k19⟩:=hinv
 simp only [List.cons.injEq,Value.int.injEq,true_and,and_true] at hvs
 subst hvs
 have hlR:=hb19.lt
 have hz19:=k19.size
 refine condP (fun hlt=>?_) (fun hge=>?_)
 ·have hi:i< 2:=by omega
  obtain ⟨nn,hnn⟩:∃ nn:Int,∀ j,(An.cells ⟨0,nn,none,0,0⟩)[j]?=none∨((An.cells ⟨0,n0,none,0,0⟩).toList ++ (An.cells ⟨0,n1,none,0,0⟩).toList)[i * 5+j]?=(An.cells ⟨0,nn,none,0,0⟩)[j]?:=by
   match i,hi with
   | 0,_=>exact ⟨n0,fun j=>by match j with | 0 | 1 | 2 | 3 | 4=>exact .inr rfl | j+5=>exact .inl (by simp [An.cells])⟩
   | 1,_=>exact ⟨n1,fun j=>by match j with | 0 | 1 | 2 | 3 | 4=>exact .inr rfl | j+5=>exact .inl (by simp [An.cells])⟩
  have rdj:∀ (j:Nat) (v:Value),(An.cells ⟨0,nn,none,0,0⟩)[j]?=some v→w19.cell? (q.add (i * 5+j))=some v:=fun j v hv=>by
   have h2:=(hnn j).resolve_left (by rw [hv]; simp)
   exact (hans.keep k19 fun _ _ _ e=>e).2.2.2 q hq (i * 5+j) v (h2.trans hv)
  have hti:Int.toNat (i:Int)=i:=Int.toNat_natCast i
  refine ⟨⟨by omega,by omega⟩,nnE hq ?_⟩
  rw [hti]
  refine ⟨_,_,_,_,_,_,_,_,_,rdj 0 _ rfl,by rw [add_add]; exact rdj 1 _ rfl,by rw [add_add]; exact rdj 2 _ rfl,by rw [add_add]; exact rdj 3 _ rfl,by rw [add_add]; exact rdj 4 _ rfl,?_⟩
  intro w20
  have hb20:Blk w20 w19.heap.size An.zero.cells:=Blk.alloc _ _ _
  have hk20:Kept No w19 w20:=Kept.alloc _ _ _
  clear_value w20
  refine st5 hb20 rfl fun w25 hb25 hk25 hs25=>?_
  have hb25:Blk w25 w19.heap.size (An.cells ⟨0,nn,none,0,0⟩):=hb25
  have k25:Kept No w19 w25:=hk20.fresh hk25 fun z e=>by omega
  have hbR25:=hb19.no' k25
  refine ⟨fun wS=>Blk wS w10.heap.size (rp a i k).cells∧Blk wS w19.heap.size (An.cells ⟨0,nn,none,0,0⟩),⟨hbR25.drew,hb25.drew⟩,?_⟩
  intro w26
  have hk26:Kept No w25 w26:=Kept.drew _ _
  clear_value w26
  have hbR26:=hbR25.no' hk26
  have hb26:=hb25.no' hk26
  refine ⟨a,i,k,fun wS hS=>(hS.1.cell 0).trans (by rw [hrp]; rfl),_,_,_,_,_,_,_,_,_,fun wS hS=>⟨(hS.2.cell 0).trans rfl,(hS.2.cell 1).trans rfl,(hS.2.cell 2).trans rfl,(hS.2.cell 3).trans rfl,(hS.2.cell 4).trans rfl,trivial⟩,?_⟩
  refine CallR.mono (copied_ok2 (an:=⟨0,nn,none,0,0⟩) (RdB.nil w26) (by simp)) ?_
  rintro v w27 ⟨an',rfl,hk27,hcop⟩
  have hcop:=hcop rfl
  subst hcop
  have hbR27:=hbR26.no' hk27
  have hb27:=hb26.no' hk27
  refine ⟨_,_,_,_,_,_,_,_,_,rfl,⟨hbR27,hb27⟩,?_⟩
  intro w28
  have hb28:Blk w28 w27.heap.size (An.cells ⟨0,nn,none,0,0⟩):=Blk.alloc _ _ _
  have hk28:Kept No w27 w28:=Kept.alloc _ _ _
  have hr28:RdS 5 w28 (some ⟨w27.heap.size,0,none⟩) 1 1 (An.cells ⟨0,nn,none,0,0⟩).toList:=(SlO.of_blk (sz:=5) (n:=1) hb28 rfl).rd
  clear_value w28
  have k28:Kept No w19 w28:=((k25.no hk26).no hk27).no hk28
  have hbR28:=hb19.no' k28
  have hone:∀ u ∈ (An.cells ⟨0,nn,none,0,0⟩).toList,u.oneCell'=true:=by
   intro u hu
   simp only [An.cells,List.mem_cons,List.not_mem_nil,or_false] at hu
   rcases hu with rfl | rfl | rfl | rfl | rfl <;> rfl
  obtain ⟨a',c',w29,hrun,hs29,hk29,hat,_⟩:=run_app_sl (P:=Tryz.prog) (t:=45) (t2:=45) (ty:=45) (by kernel_rfl:slTyB Tryz.prog 45 5 72=true) (by kernel_rfl) (hs19.keep k28 fun _ _ e=>e) hr28 hone (by omega) (by omega)
  have hneR:¬ inA a w10.heap.size:=fun e=>by have:=ha19 _ e; omega
  have hbR29:=hbR28.keep hk29 hneR
  have hz28:=k28.size
  refine ⟨⟨hbR28,hb27.no' hk28⟩,a',_,c',w29,hrun,stC_blk hbR29 (by rw [hrp]; simp [Rp.cells]) fun w30 hb30 hk30 _=>⟨by unfold inI; omega,?_,by dsimp only; omega⟩⟩
  have hin:∀ z,inA a' z→w10.heap.size< z:=fun z hz=>by
   rcases hat.in hz with e | e
   ·exact ha19 z e
   ·omega
  rw [hI]
  refine ⟨i+1,a',c',xs ++ (An.cells ⟨0,nn,none,0,0⟩).toList,rfl,by omega,?_,hs29.keep hk30 fun z hz e=>by have:=hin z hz; have e:z=w10.heap.size:=e; omega,hin,?_⟩
  ·have:(rp a i k).cells.setIfInBounds 0 (.slice a' (i+1) c')=(rp a' (i+1) c').cells:=by rw [hrp]; rfl
   rw [← this]
   exact hb30
  ·exact ((k19.no k28).fresh hk29 fun z e=>by have:=ha19 z e; omega).fresh hk30 fun z e=>by have e:z=w10.heap.size:=e; omega
 ·have hi:i=2:=by omega
  subst hi
  have hN19:=hE.notes.keep k19 fun _ _ _ e=>e
  refine ⟨na,1,nc,(hb19.cell 2).trans (by rw [hrp]; rfl),CallR.mono (nclone_ok hN19) ?_⟩
  rintro v w31 ⟨a48,l48,c48,rfl,hk31⟩
  have hb31:=hb19.no' hk31
  refine ⟨_,_,_,rfl,stC_blk hb31 (by rw [hrp]; simp [Rp.cells]) fun w32 hb32 hk32 _=>?_⟩
  have k32:Kept No w10 w32:=(k19.no hk31).fresh hk32 fun z e=>by omega
  obtain ⟨r2,hr2⟩:∃ r2:Rp,r2=⟨a,2,k,0,a48,l48,c48,false,fa,1,fc,none,0,0⟩:=⟨_,rfl⟩
  have hb32:Blk w32 w10.heap.size r2.cells:=by
   have:(rp a 2 k).cells.setIfInBounds 2 (.slice a48 l48 c48)=r2.cells:=by rw [hrp,hr2]; rfl
   rw [← this]
   exact hb32
  refine ⟨fun wS=>Blk wS w10.heap.size r2.cells,hb32.drew,?_⟩
  intro w33
  have hk33:Kept No w32 w33:=Kept.drew _ _
  clear_value w33
  have k33:=k32.no hk33
  have hb33:=hb32.no' hk33
  obtain ⟨da,dl,dc,hf,hdd⟩:=hE.files
  refine ⟨fa,1,fc,fun wS hS=>(hS.cell 4).trans (by rw [hr2]; rfl),none,0,0,fun wS hS=>(hS.cell 5).trans (by rw [hr2]; rfl),CallR.mono (namedB_ok (hf.keep k33 fun _ _ _ e=>e) (hdd.keep k33 fun _ _ _ e=>e) (by rw [List.length_append]; exact hN)) ?_⟩
  rintro v w34 ⟨fa',fc',da',dl',dc',rfl,hf34,hd34,hk34,hfr34⟩
  have hb34:=hb33.no' hk34
  refine ⟨_,_,_,rfl,hb34,CallR.mono namedB_nil ?_⟩
  rintro v w35 ⟨rfl,rfl⟩
  refine ⟨_,_,_,rfl,stC_blk hb34 (by rw [hr2]; simp [Rp.cells]) fun w36 hb36 hk36 _=>stC_blk hb36 (by rw [hr2]; simp [Rp.cells]) fun w37 hb37 hk37 _=>?_⟩
  obtain ⟨r3,hr3⟩:∃ r3:Rp,r3=⟨a,2,k,0,a48,l48,c48,false,fa',1,fc',none,0,0⟩:=⟨_,rfl⟩
  have hb37:Blk w37 w10.heap.size r3.cells:=by
   have:((r2.cells.setIfInBounds 4 (.slice fa' 1 fc')).setIfInBounds 5 (.slice none 0 0))=r3.cells:=by rw [hr2,hr3]; rfl
   rw [← this]
   exact hb37
  have k34:=k33.no hk34
  have hz34:=k34.size
  have k37:Kept No w10 w37:=(k34.fresh hk36 fun z e=>by omega).fresh hk37 fun z e=>by omega
  have hbT:Blk w37 w.heap.size #[.slice none 0 0,.int .i64 0,.slice none 0 0,.bool false,.slice none 0 0,.slice none 0 0]:=hb10.no' k37
  have hz33:=k33.size
  have hR1:∀ {wz:World} {S:Nat→Prop},RdS 2 w35 fa' 1 fc' [.string nmB,.slice da' dl' dc']→Kept S w35 wz→(∀ z,S z→z< w33.heap.size)→RepF wz r3 (c ++ x0.p.o):=fun hf k hS=>by
   rw [hr3]
   exact ⟨da',dl',dc',rfl,hf.keep k fun z _ hz e=>by have:=hfr34 z (.inl hz); have:=hS z e; omega,hd34.keep k fun z _ hz e=>by have:=hfr34 z (.inr hz); have:=hS z e; omega⟩
  refine ld6 hb37 (st6 hbT rfl fun w43 hb43 hk43 _=>?_)
  have hb43:Blk w43 w.heap.size r3.cells:=hb43
  have hz10:=k10.size
  have hl11:=hb11.lt
  have kz:Kept (fun z=>z< w33.heap.size) w35 w43:=((hk36.mono fun z _ e=>(by have e:z=w10.heap.size:=e; have:=hb33.lt; omega:z< w33.heap.size)).trans hk37 fun z _ e=>(by have e:z=w10.heap.size:=e; have:=hb33.lt; omega)).trans hk43 fun z _ e=>(by have e:z=w.heap.size:=e; have:=hb33.lt; omega)
  refine ld6 hb43 ⟨r3,rfl,fun wz S k hS=>hR1 hf34 (kz.trans k fun z _ e=>by have:=hS z e; have:=hk1.size; omega) fun z e=>e,?_⟩
  ·exact (k10.trans k37 fun _ _ e=>e.elim).trans hk43 fun z hz e=>by have e:z=w.heap.size:=e; have:=hk1.size; omega
end
set_option maxRecDepth 512
theorem Fv_get?:∀ (ps:List (Int × Int)) (i:Nat) (v:Value),(Fv ps)[i]?=some v→∃ (j:Nat) (hj:j< ps.length),(i=j * 2∧v=.int .i64 ps[j].1)∨(i=j * 2+1∧v=.int .i64 ps[j].2)
 | [],i,v,h=>by simp [Fv] at h
 | p :: r,0,v,h=>by
  have h:some (Value.int .i64 p.1)=some v:=h
  simp only [Option.some.injEq] at h
  exact ⟨0,by simp,.inl ⟨rfl,h.symm⟩⟩
 | p :: r,1,v,h=>by
  have h:some (Value.int .i64 p.2)=some v:=h
  simp only [Option.some.injEq] at h
  exact ⟨0,by simp,.inr ⟨rfl,h.symm⟩⟩
 | p :: r,i+2,v,h=>by
  have h:(Fv r)[i]?=some v:=h
  obtain ⟨j,hj,h⟩:=Fv_get? r i v h
  refine ⟨j+1,by simpa using hj,?_⟩
  rcases h with ⟨h1,h2⟩ | ⟨h1,h2⟩
  ·exact .inl ⟨by omega,h2⟩
  ·exact .inr ⟨by omega,h2⟩
theorem rdF_of_view {W:World} {a:Option Addr} {l c:Nat} (hlc:l≤c) (hz:a=none→c=0)
 (h:∀ q:Addr,a=some q→∀ i:Nat,i< l→∃ n1,(Lit.int .i64 n1).wf=true∧∃ n2,(Lit.int .i64 n2).wf=true∧W.cell? (q.add (i * 2))=some (.int .i64 n1)∧W.cell? ((q.add (i * 2)).add 1)=some (.int .i64 n2)∧True) :
 ∃ ps:List (Int × Int),RdS 2 W a l c (Fv ps)∧ps.length=l:=by
 cases a with
 | none=>
  have:=hz rfl
  obtain rfl:l=0:=by omega
  subst this
  exact ⟨[],RdS.nil 2 _,rfl⟩
 | some q=>
  obtain ⟨f,hf⟩:=Deep.choose_lt (α:=Int × Int) (n:=l) (p:=fun i x=>W.cell? (q.add (i * 2))=some (.int .i64 x.1)∧W.cell? ((q.add (i * 2)).add 1)=some (.int .i64 x.2)) (fun i hi=>by
   obtain ⟨n1,_,n2,_,h1,h2,_⟩:=h q rfl i hi
   exact ⟨(n1,n2),h1,h2⟩)
  refine ⟨(List.range l).map f,⟨by rw [Fv_len]; simp,hlc,(fun h=>by cases h),fun ad had i v hi=>?_⟩,by simp⟩
  cases had
  obtain ⟨j,hj,h⟩:=Fv_get? _ i v hi
  have hj':j< l:=by simpa using hj
  rcases h with ⟨rfl,rfl⟩ | ⟨rfl,rfl⟩
  ·have:=(hf j hj').1; simpa using this
  ·have:=(hf j hj').2; rw [Lw.add_add] at this; simpa using this
set_option maxRecDepth 100000
theorem topnum_to {w:World} {n:Int} {Q:Value→World→Prop} (h:Q (.int .i64 n) w):CallR Tryz.prog 6 [.int .i64 n] w Q:=C6 h
theorem tmod_bd (n k:Int) (hk:0< k):-k< n.tmod k∧n.tmod k< k:=by
 refine ⟨?_,Int.tmod_lt_of_pos n hk⟩
 have h:=Int.tmod_lt_of_pos (-n) hk
 rw [Int.neg_tmod] at h
 omega
theorem mod_in (n k:Int) (hk:0< k):0≤((n.tmod k)+k).tmod k∧((n.tmod k)+k).tmod k< k:=
 ⟨Int.tmod_nonneg _ (by have:=(tmod_bd n k hk).1; omega),Int.tmod_lt_of_pos _ hk⟩
section
variable {W w w' : World} {gk gt n A B : Nat} {L L' : KL} {s s' : AK} {tg tg' : Nat → Nat} {V V' : TV} {x0 x1 x0' x1' : It} {c c' all all' : List Int} {q q' : Nat} {aA aB : Array Value}
theorem LA.keep {ps:List (Int × Int)} {nm:ByteArray} {a b:Int} (h:LA W w gk gt ps nm a b L tg V x0) {S:Nat→Prop} (k:Kept S w w') (hS:∀ z,S z→¬ OT L tg z∧W.heap.size≤z):LA W w' gk gt ps nm a b L tg V x0:=
 ⟨h.to.keep k fun z hz=>(hS z hz).1,h.its,h.d0,h.p0,h.tb,h.hs,h.gt,h.al,h.xs,h.ov,h.no.fresh k fun z e=>(hS z e).2,h.base⟩
structure LJ (W w:World) (gk gt n A B:Nat) (aA aB:Array Value) (L:KL) (s:AK) (tg:Nat→Nat) (V:TV) (x0 x1:It) (c all:List Int) (q:Nat):Prop where
 lw:LW W w gk gt n L s tg V x0 x1 c all q
 bA:Blk w A aA
 bB:Blk w B aB
 nA:¬ OT L tg A
 nB:¬ OT L tg B
 gA:W.heap.size≤A
 gB:W.heap.size≤B
theorem LJ.keep (h:LJ W w gk gt n A B aA aB L s tg V x0 x1 c all q) {S:Nat→Prop} (k:Kept S w w') (hS:∀ z,S z→¬ OT L tg z∧W.heap.size≤z∧z≠A∧z≠B):LJ W w' gk gt n A B aA aB L s tg V x0 x1 c all q:=
 ⟨h.lw.keep k fun z hz=>⟨(hS z hz).1,(hS z hz).2.1⟩,h.bA.keep k fun e=>(hS _ e).2.2.1 rfl,h.bB.keep k fun e=>(hS _ e).2.2.2 rfl,h.nA,h.nB,h.gA,h.gB⟩
theorem LJ.nokeep (h:LJ W w gk gt n A B aA aB L s tg V x0 x1 c all q) (k:Kept No w w'):LJ W w' gk gt n A B aA aB L s tg V x0 x1 c all q:=h.keep k fun z e=>e.elim
theorem LJ.step {n':Nat} (h:LJ W w gk gt n A B aA aB L s tg V x0 x1 c all q) (hl:LW W w' gk gt n' L' s' tg' V' x0' x1' c' all' q') (hG:GS No w w' L L' tg tg'):LJ W w' gk gt n' A B aA aB L' s' tg' V' x0' x1' c' all' q':=
 ⟨hl,hG.blk h.bA h.nA fun e=>e,hG.blk h.bB h.nB fun e=>e,hG.free h.nA h.bA.lt,hG.free h.nB h.bB.lt,h.gA,h.gB⟩
theorem LJ.mine (h:LJ W w gk gt n A B aA aB L s tg V x0 x1 c all q) {g:Nat} (hg:w.heap.size≤g):¬ OT L tg g∧W.heap.size≤g∧g≠A∧g≠B:=
 ⟨h.lw.to.new hg,by have:=h.lw.no.size; omega,by have:=h.bA.lt; omega,by have:=h.bB.lt; omega⟩
structure LT (W w:World) (gk gt n A B:Nat) (aA aB:Array Value) (L:KL) (s:AK) (tg:Nat→Nat) (V:TV) (x0 x1:It) (c all:List Int) (q g:Nat) (ag:Array Value):Prop where
 lj:LJ W w gk gt n A B aA aB L s tg V x0 x1 c all q
 bg:Blk w g ag
 ng:¬ OT L tg g
 gg:W.heap.size≤g
 gA:g≠A
 gB:g≠B
theorem lt1 {w10:World} {cur:Array Value} {t:TypeId} {an:An} (h:LJ W w gk gt n A B aA aB L s tg V x0 x1 c all q) (hb:Blk w10 w.heap.size an.cells) (hk:Kept (·=w.heap.size) (w.alloc (.cells cur t)) w10):LT W w10 gk gt n A B aA aB L s tg V x0 x1 c all q w.heap.size an.cells:=by
 have hm:=h.mine (Nat.le_refl w.heap.size)
 have k1:Kept No w (w.alloc (.cells cur t)):=Kept.alloc _ _ _
 exact ⟨(h.nokeep k1).keep hk fun z e=>by have e:z=w.heap.size:=e; rw [e]; exact hm,hb,hm.1,hm.2.1,hm.2.2.1,hm.2.2.2⟩
theorem lt2 {w0 w1 w10:World} {cur:Array Value} {t:TypeId} {an:An} (h0:LJ W w0 gk gt n A B aA aB L s tg V x0 x1 c all q) {n':Nat} (h1:LJ W w1 gk gt n' A B aA aB L' s' tg' V' x0' x1' c' all' q') (hG:GS No (w0.alloc (.cells cur t)) w1 L L' tg tg')
 (hb:Blk w10 w0.heap.size an.cells) (hk:Kept (·=w0.heap.size) w1 w10):LT W w10 gk gt n' A B aA aB L' s' tg' V' x0' x1' c' all' q' w0.heap.size an.cells:=by
 have hm:=h0.mine (Nat.le_refl w0.heap.size)
 have k1:Kept No w0 (w0.alloc (.cells cur t)):=Kept.alloc _ _ _
 have hl:w0.heap.size< (w0.alloc (.cells cur t)).heap.size:=by simp
 have hn:¬ OT L' tg' w0.heap.size:=hG.free hm.1 hl
 exact ⟨h1.keep hk fun z e=>by have e:z=w0.heap.size:=e; rw [e]; exact ⟨hn,hm.2⟩,hb,hn,hm.2.1,hm.2.2.1,hm.2.2.2⟩
end
def calls4 (fd:Int):Array Value:=(clp 7 fd 0 0 none 0 0).cells ++ (clp 10 fd 0 0 none 0 0).cells ++ (clp 25 0 0 0 none 0 0).cells ++ (clp 11 fd 0 1 none 0 0).cells
theorem ldc {w:World} {g j:Nat} {cs:Array Value} (h:Blk w g cs) {x:Cl} (hx:∀ k,k< 9→cs[j * 9+k]?=x.cells[k]?) {K:Int→Int→Int→Int→ByteArray→ByteArray→Option Addr→Nat→Nat→Option Addr→Nat→Nat→Option Addr→Nat→Nat→Prop} (hk:K x.op x.fd x.a x.b x.tx x.md x.da x.dl x.dc none 0 0 none 0 0) :
 ∃ (n0:Int) (n1:Int) (n2:Int) (n3:Int) (s4:ByteArray) (s5:ByteArray) (a6:Option Addr) (l6:Nat) (c6:Nat) (a7:Option Addr) (l7:Nat) (c7:Nat) (a8:Option Addr) (l8:Nat) (c8:Nat),w.cell? (Addr.add (Addr.mk g 0 none) (j * 9))=some ((.int .i64 n0:Value))∧w.cell? (Addr.add (Addr.add (Addr.mk g 0 none) (j * 9)) 1)=some ((.int .i64 n1:Value))∧w.cell? (Addr.add (Addr.add (Addr.mk g 0 none) (j * 9)) 2)=some ((.int .i64 n2:Value))∧w.cell? (Addr.add (Addr.add (Addr.mk g 0 none) (j * 9)) 3)=some ((.int .i64 n3:Value))∧w.cell? (Addr.add (Addr.add (Addr.mk g 0 none) (j * 9)) 4)=some ((.string s4:Value))∧w.cell? (Addr.add (Addr.add (Addr.mk g 0 none) (j * 9)) 5)=some ((.string s5:Value))∧w.cell? (Addr.add (Addr.add (Addr.mk g 0 none) (j * 9)) 6)=some ((.slice a6 l6 c6:Value))∧w.cell? (Addr.add (Addr.add (Addr.mk g 0 none) (j * 9)) 7)=some ((.slice a7 l7 c7:Value))∧w.cell? (Addr.add (Addr.add (Addr.mk g 0 none) (j * 9)) 8)=some ((.slice a8 l8 c8:Value))∧K n0 n1 n2 n3 s4 s5 a6 l6 c6 a7 l7 c7 a8 l8 c8:=by
 have at_:∀ k v,k< 9→x.cells[k]?=some v→w.cell? (Addr.add (Addr.add (Addr.mk g 0 none) (j * 9)) k)=some v:=fun k v hk hv=>by
  rw [add_none,add_none,h.cell,Nat.zero_add,hx k hk,hv]
 have at0:w.cell? (Addr.add (Addr.mk g 0 none) (j * 9))=some (.int .i64 x.op):=by
  rw [add_none,h.cell,Nat.zero_add]
  exact (hx 0 (by omega)).trans rfl
 exact ⟨_,_,_,_,_,_,_,_,_,_,_,_,_,_,_,at0,at_ 1 _ (by omega) rfl,at_ 2 _ (by omega) rfl,at_ 3 _ (by omega) rfl,at_ 4 _ (by omega) rfl,at_ 5 _ (by omega) rfl,at_ 6 _ (by omega) rfl,at_ 7 _ (by omega) rfl,at_ 8 _ (by omega) rfl,hk⟩
theorem tmod4 (i:Nat):Int.toNat (Int.tmod (i:Int) 4)=i % 4∧(0≤Int.tmod (i:Int) 4∧Int.tmod (i:Int) 4< ((4:Nat):Int)):=by
 have h:Int.tmod (i:Int) 4=((i % 4:Nat):Int):=by
  rw [Int.tmod_eq_emod_of_nonneg (by omega)]
  omega
 rw [h]
 omega
theorem midcl (i:Nat):∃ x:Cl,(∀ k,k< 9→(calls4 0)[i % 4 * 9+k]?=x.cells[k]?)∧(x=clp 7 0 0 0 none 0 0∨x=clp 10 0 0 0 none 0 0∨x=clp 25 0 0 0 none 0 0∨x=clp 11 0 0 1 none 0 0):=by
 have h4:i % 4< 4:=Nat.mod_lt _ (by omega)
 have k9:∀ {m:Nat} {x:Cl},(∀ k:Fin 9,(calls4 0)[m * 9+k.val]?=x.cells[k.val]?)→∀ k,k< 9→(calls4 0)[m * 9+k]?=x.cells[k]?:=fun h k hk=>h ⟨k,hk⟩
 rcases Nat.lt_or_ge (i % 4) 1 with h | h
 ·have e:i % 4=0:=by omega
  rw [e]
  refine ⟨clp 7 0 0 0 none 0 0,fun k hk=>?_,.inl rfl⟩
  match k,hk with
  | 0,_=>rfl
  | 1,_=>rfl
  | 2,_=>rfl
  | 3,_=>rfl
  | 4,_=>rfl
  | 5,_=>rfl
  | 6,_=>rfl
  | 7,_=>rfl
  | 8,_=>rfl
 rcases Nat.lt_or_ge (i % 4) 2 with h | h
 ·have e:i % 4=1:=by omega
  rw [e]
  refine ⟨clp 10 0 0 0 none 0 0,fun k hk=>?_,.inr (.inl rfl)⟩
  match k,hk with
  | 0,_=>rfl
  | 1,_=>rfl
  | 2,_=>rfl
  | 3,_=>rfl
  | 4,_=>rfl
  | 5,_=>rfl
  | 6,_=>rfl
  | 7,_=>rfl
  | 8,_=>rfl
 rcases Nat.lt_or_ge (i % 4) 3 with h | h
 ·have e:i % 4=2:=by omega
  rw [e]
  refine ⟨clp 25 0 0 0 none 0 0,fun k hk=>?_,.inr (.inr (.inl rfl))⟩
  match k,hk with
  | 0,_=>rfl
  | 1,_=>rfl
  | 2,_=>rfl
  | 3,_=>rfl
  | 4,_=>rfl
  | 5,_=>rfl
  | 6,_=>rfl
  | 7,_=>rfl
  | 8,_=>rfl
 ·have e:i % 4=3:=by omega
  rw [e]
  refine ⟨clp 11 0 0 1 none 0 0,fun k hk=>?_,.inr (.inr (.inr rfl))⟩
  match k,hk with
  | 0,_=>rfl
  | 1,_=>rfl
  | 2,_=>rfl
  | 3,_=>rfl
  | 4,_=>rfl
  | 5,_=>rfl
  | 6,_=>rfl
  | 7,_=>rfl
  | 8,_=>rfl
section
variable {w : World} {g : Nat}
theorem st9 {cur:Array Value} (h:Blk w g cur) (hs:cur.size=9) {v0 v1 v2 v3 v4 v5 v6 v7 v8:Value} {K:World→Prop} (hk:∀ w',Blk w' g #[v0,v1,v2,v3,v4,v5,v6,v7,v8]→Kept (·=g) w w'→w'.heap.size=w.heap.size→K w') :
 stC (Addr.mk g 0 none) v0 w fun w1=>stC (Addr.mk g 1 none) v1 w1 fun w2=>stC (Addr.mk g 2 none) v2 w2 fun w3=>stC (Addr.mk g 3 none) v3 w3 fun w4=>stC (Addr.mk g 4 none) v4 w4 fun w5=>stC (Addr.mk g 5 none) v5 w5 fun w6=>stC (Addr.mk g 6 none) v6 w6 fun w7=>stC (Addr.mk g 7 none) v7 w7 fun w8=>stC (Addr.mk g 8 none) v8 w8 K:=by
 obtain ⟨l⟩:=cur
 match l,hs with
 | [a0,a1,a2,a3,a4,a5,a6,a7,a8],_=>
  refine stC_blk h (by simp) fun w1 h1 k1 s1=>?_
  have h1:Blk w1 g #[v0,a1,a2,a3,a4,a5,a6,a7,a8]:=h1
  refine stC_blk h1 (by simp) fun w2 h2 k2 s2=>?_
  have h2:Blk w2 g #[v0,v1,a2,a3,a4,a5,a6,a7,a8]:=h2
  refine stC_blk h2 (by simp) fun w3 h3 k3 s3=>?_
  have h3:Blk w3 g #[v0,v1,v2,a3,a4,a5,a6,a7,a8]:=h3
  refine stC_blk h3 (by simp) fun w4 h4 k4 s4=>?_
  have h4:Blk w4 g #[v0,v1,v2,v3,a4,a5,a6,a7,a8]:=h4
  refine stC_blk h4 (by simp) fun w5 h5 k5 s5=>?_
  have h5:Blk w5 g #[v0,v1,v2,v3,v4,a5,a6,a7,a8]:=h5
  refine stC_blk h5 (by simp) fun w6 h6 k6 s6=>?_
  have h6:Blk w6 g #[v0,v1,v2,v3,v4,v5,a6,a7,a8]:=h6
  refine stC_blk h6 (by simp) fun w7 h7 k7 s7=>?_
  have h7:Blk w7 g #[v0,v1,v2,v3,v4,v5,v6,a7,a8]:=h7
  refine stC_blk h7 (by simp) fun w8 h8 k8 s8=>?_
  have h8:Blk w8 g #[v0,v1,v2,v3,v4,v5,v6,v7,a8]:=h8
  refine stC_blk h8 (by simp) fun w9 h9 k9 s9=>?_
  exact hk w9 h9 ((((((((k1.trans k2 fun _ _ e=>e).trans k3 fun _ _ e=>e).trans k4 fun _ _ e=>e).trans k5 fun _ _ e=>e).trans k6 fun _ _ e=>e).trans k7 fun _ _ e=>e).trans k8 fun _ _ e=>e).trans k9 fun _ _ e=>e) (by omega)
end
def clO:Cl:=⟨1,0,2,8,nmB,nmW,none,0,0⟩
theorem bA1 (ps:List (Int × Int)):(oA nmB ps).1=0:=by kernel_rfl
theorem bA2 (ps:List (Int × Int)):(oA nmB ps).2.1=0:=by kernel_rfl
theorem bAk (ps:List (Int × Int)):((oA nmB ps).2.2.2.keep 1).1=0:=by kernel_rfl
theorem bAd (ps:List (Int × Int)):tAt (tB nmB ps) 0=some (1,false):=by kernel_rfl
theorem openB:OpenS (AK.new [] [] []) slots0 clO mW 26 0 1 (sB nmB []) (tB nmB []) where
 parse:=⟨1,by unfold parsed; rw [show clO.md=nmW from rfl,pW]⟩
 size:=(by decide:nmW.size≤140737488351232)
 print:=prW
 flag:=fW
 a1:=by decide
 a3:=by decide
 b1:=by decide
 b2:=by decide
 next:=by rw [oAn]; omega
 op:=⟨(oA nmB []).2.2.2,(oA nmB []).2.2.1,(tMark (oA nmB []).2.2.1 0 mW.k).1,Prod.ext (bA1 []) (Prod.ext (bA2 []) rfl),rfl,Prod.ext (bAk []) rfl⟩
 desc:=⟨false,bAd []⟩
theorem fw_open:FW [] (sB nmB []):=by
 refine ⟨⟨⟨⟨2,by kernel_rfl⟩,by kernel_rfl,by simp⟩,fun p hp=>?_,?_,?_⟩,by kernel_rfl,by kernel_rfl⟩
 ·have e1:(sB nmB []).ps=[]:=by kernel_rfl
  rw [e1] at hp
  cases hp
 ·have e1:(sB nmB []).ps=[]:=by kernel_rfl
  rw [e1]
  simp
 ·have e1:(sB nmB []).ps=[]:=by kernel_rfl
  have e2:(sB nmB []).c1=0:=by kernel_rfl
  rw [e1,e2]
  simp
section
variable {w : World}
def Ran (w2 w':World) (gk gt:Nat) (bs:List Int):Prop:=
 ∃ L s tg V x0 c n,TO w' gk L s tg V∧V.ov=false∧V.its=[x0]∧x0.d=1∧WrA x0.p∧V.hs=kf [((0:Int),.agg #[.int .i64 1,.int .i64 0])]∧FW c s∧c ++ x0.p.o=bs∧V.al=2∧V.xs=(An.cells ⟨0,0,none,0,0⟩).toList ++ (An.cells ⟨0,n,none,0,0⟩).toList∧V.gt=gt∧Kept No w2 w'∧∀ z,OT L tg z→w2.heap.size≤z
set_option maxHeartbeats 2000000 in
theorem trun_ok {a:Option Addr} {k:Nat} {da:Option Addr} {dl dc:Nat} {bs:List Int} (hc:RdS 9 w a 2 k (clO.cells.toList ++ (clp 4 0 0 0 da dl dc).cells.toList)) (hb:RdB w da dl dc bs) (hbl:bs.length≤1000) :
 CallR Tryz.prog 9 [.agg #[.slice none 0 0,.slice none 0 0,.slice none 0 0],.slice a 2 k] w fun v w'=>∃ r:Rp,v=.tuple #[.agg r.cells,.int .i64 0]∧RepF w' r bs∧Kept No w w':=by
 refine C9 ?_
 unfold L9
 intro w1
 have hb1:Blk w1 w.heap.size #[.slice none 0 0,.slice none 0 0,.slice none 0 0]:=Blk.alloc _ _ _
 have hk1:Kept No w w1:=Kept.alloc _ _ _
 clear_value w1
 intro w2
 have hb2:Blk w2 w1.heap.size #[.slice none 0 0,.int .i64 0,.slice none 0 0,.bool false,.slice none 0 0,.slice none 0 0]:=Blk.alloc _ _ _
 have hk2:Kept No w1 w2:=Kept.alloc _ _ _
 clear_value w2
 have k2:=hk1.no hk2
 have hb12:=hb1.no' hk2
 have hl2:=hb2.lt
 have hz2:=k2.size
 refine condF (by decide) ⟨_,_,_,_,_,_,_,_,_,(hb12.cell 0).trans rfl,(hb12.cell 1).trans rfl,(hb12.cell 2).trans rfl,?_⟩
 refine CallR.mono (tasknew_ok (ps:=[]) (RdS.nil 2 w2)) ?_
 rintro v w9 ⟨hk9,hr⟩
 have hck:checkK [] [] []=0:=by decide +kernel
 rcases hr with ⟨hne,_⟩ | ⟨_,gk,L0,tg0,V0,rfl,hT0,hbase0,hN0⟩
 ·exact absurd hck hne
 refine ⟨_,_,rfl,condF rfl ?_⟩
 obtain ⟨q,hq⟩:∃ q,a=some q:=by
  cases a with
  | none=>have h1:=hc.2.1; have h2:=hc.2.2.1 rfl; omega
  | some q=>exact ⟨q,rfl⟩
 obtain ⟨I,hI⟩:∃ I:List Value→World→Prop,I=fun vs w'=>(vs=[.int .i64 0]∧w'=w9)∨(vs=[.int .i64 1]∧∃ L tg V x0,LA w2 w' gk V0.gt [] nmB 2 8 L tg V x0)∨(vs=[.int .i64 2]∧Ran w2 w' gk V0.gt bs):=⟨_,rfl⟩
 refine ⟨I,fun vs _=>match vs with | [.int _ i]=>2 - i.toNat | _=>0,by rw [hI]; exact .inl ⟨rfl,rfl⟩,?_⟩
 rintro _ n25 w16 hinv
 rw [hI] at hinv
 have hc2:=hc.keep k2 fun _ _ _ e=>e
 have hbd2:=hb.keep k2 fun _ _ _ e=>e
 rcases hinv with ⟨hvs,rfl⟩ | ⟨hvs,L,tg,V,x0,hLA⟩ | ⟨hvs,L,s,tg,V,x0,c,nn,hT,hov,hits,hd,hp,hhs,hF,hall,hal,hxs,hgt,hno,hbase⟩
 ·simp only [List.cons.injEq,Value.int.injEq,true_and,and_true] at hvs
  subst hvs
  have hcw:=hc2.keep hk9 fun _ _ _ e=>e
  have rdj:∀ (j:Nat) (v:Value),clO.cells[j]?=some v→w16.cell? (q.add (0 * 9+j))=some v:=fun j v hv=>by
   refine hcw.2.2.2 q hq (0 * 9+j) v ?_
   match j,hv with
   | 0,hv | 1,hv | 2,hv | 3,hv | 4,hv | 5,hv | 6,hv | 7,hv | 8,hv=>exact hv
   | j+9,hv=>simp [clO,Cl.cells] at hv
  refine condT (by decide) ⟨⟨by omega,by omega⟩,nnE hq ⟨_,_,_,_,_,_,_,_,_,_,_,_,_,_,_,rdj 0 _ rfl,(by rw [add_add]; exact rdj 1 _ rfl),(by rw [add_add]; exact rdj 2 _ rfl),(by rw [add_add]; exact rdj 3 _ rfl),(by rw [add_add]; exact rdj 4 _ rfl),(by rw [add_add]; exact rdj 5 _ rfl),(by rw [add_add]; exact rdj 6 _ rfl),(by rw [add_add]; exact rdj 7 _ rfl),(by rw [add_add]; exact rdj 8 _ rfl),?_⟩⟩
  intro w17
  have hb17:Blk w17 w16.heap.size #[.int .i64 0,.int .i64 0,.int .i64 0,.int .i64 0,.string (ByteArray.mk #[]),.string (ByteArray.mk #[]),.slice none 0 0,.slice none 0 0,.slice none 0 0]:=Blk.alloc _ _ _
  have hk17:Kept No w16 w17:=Kept.alloc _ _ _
  clear_value w17
  refine st9 hb17 rfl fun w26 hb26 hk26 _=>?_
  have hb26:Blk w26 w16.heap.size clO.cells:=hb26
  have k26:Kept No w16 w26:=hk17.fresh hk26 fun z e=>by omega
  refine ld9 hb26 ?_
  refine CallR.mono (la_open (W:=w2) (nm:=nmB) (hT0.no k26) hN0 (hk9.no k26) hbase0 openB) ?_
  rintro v w27 ⟨an,L',tg',V',x0,rfl,he,hn,hLA,hG⟩
  have ht:=hLA.to.task
  rw [hLA.gt] at ht
  refine ⟨_,_,_,_,_,_,_,_,_,rfl,nnI ⟨_,ht.at (i:=11) rfl,condF rfl ⟨by unfold inI; omega,?_,by simp⟩⟩⟩
  rw [hI]
  exact .inr (.inl ⟨rfl,L',tg',V',x0,hLA⟩)
 ·simp only [List.cons.injEq,Value.int.injEq,true_and,and_true] at hvs
  subst hvs
  have hcw:=hc2.keep hLA.no fun _ _ _ e=>e
  have rdj:∀ (j:Nat) (v:Value),(clp 4 0 0 0 da dl dc).cells[j]?=some v→w16.cell? (q.add (1 * 9+j))=some v:=fun j v hv=>by
   refine hcw.2.2.2 q hq (1 * 9+j) v ?_
   match j,hv with
   | 0,hv | 1,hv | 2,hv | 3,hv | 4,hv | 5,hv | 6,hv | 7,hv | 8,hv=>exact hv
   | j+9,hv=>simp [clp,Cl.cells] at hv
  refine condT (by decide) ⟨⟨by omega,by omega⟩,nnE hq ⟨_,_,_,_,_,_,_,_,_,_,_,_,_,_,_,rdj 0 _ rfl,(by rw [add_add]; exact rdj 1 _ rfl),(by rw [add_add]; exact rdj 2 _ rfl),(by rw [add_add]; exact rdj 3 _ rfl),(by rw [add_add]; exact rdj 4 _ rfl),(by rw [add_add]; exact rdj 5 _ rfl),(by rw [add_add]; exact rdj 6 _ rfl),(by rw [add_add]; exact rdj 7 _ rfl),(by rw [add_add]; exact rdj 8 _ rfl),?_⟩⟩
  intro w17
  have hb17:Blk w17 w16.heap.size #[.int .i64 0,.int .i64 0,.int .i64 0,.int .i64 0,.string (ByteArray.mk #[]),.string (ByteArray.mk #[]),.slice none 0 0,.slice none 0 0,.slice none 0 0]:=Blk.alloc _ _ _
  have hk17:Kept No w16 w17:=Kept.alloc _ _ _
  clear_value w17
  refine st9 hb17 rfl fun w26 hb26 hk26 _=>?_
  have hb26:Blk w26 w16.heap.size (clp 4 0 0 0 da dl dc).cells:=hb26
  have k26:Kept No w16 w26:=hk17.fresh hk26 fun z e=>by omega
  refine ld9 hb26 ?_
  have hL:=hLA.keep k26 fun z e=>e.elim
  have hx:V.its[0]?=some x0:=by rw [hL.its]; rfl
  have hgt:=hL.gt
  have hpn:WrA x0.p:=by rw [hL.p0]; exact newP_wr (by decide) (by decide) (by decide) (by decide)
  have hpo:x0.p.o=[]:=by rw [hL.p0]; rfl
  have hoff:bs≠[]→∀ z,inA da z→L.own z=none:=fun hne z hz=>by
   have:=RdS.old hbd2 (fun e=>hne (By_inj (b:=[]) e)) z hz
   cases ho:L.own z with
   | none=>rfl
   | some t=>have:=hL.base z (.inl (by rw [ho]; simp)); omega
  obtain ⟨hl,hhs,hhl⟩:=hL.hs
  subst hhl
  rw [← hgt]
  refine CallR.mono (tdo_ok hL.to (by rw [hL.al]; omega) (cl:=clp 4 0 0 0 da dl dc) (way_do (k:=28) (by simp [doL,clp]) (by kernel_rfl) fun wa ka=>tput_ok (hL.to.no ka) hx hL.d0 hpn wrFW fw_open rfl (hbd2.keep (hL.no.no ka) fun _ _ _ e=>e) hoff (by rw [hpo]; simp; omega) (by omega))) ?_
  rintro v w27 ⟨an,bs',L',s',tg',V1,a',c',xs',rfl,he,hT,hG,hA,hgt',⟨hn',hbn,p',sl',c1,hV,hF,hall,hp⟩,hxs⟩
  subst hV
  have ht:=hT.task
  refine ⟨_,_,_,_,_,_,_,_,_,rfl,nnI ⟨_,ht.at (i:=11) rfl,condF rfl ⟨by unfold inI; omega,?_,by simp⟩⟩⟩
  rw [hI]
  refine .inr (.inr ⟨rfl,L',s',tg',_,{ x0 with p:=p',sl:=sl' },c1,an.n,hT,hL.ov,?_,hL.d0,hp,hhs,hF,?_,?_,?_,hgt,?_,?_⟩)
  ·show V.its.set 0 _=_
   rw [hL.its]
   rfl
  ·show c1 ++ p'.o=bs
   rw [hall,hpo]
   simp
  ·show V.al+1=2
   rw [hL.al]
  ·show xs'=_
   rw [hxs hbn,he]
   show V.xs ++ _=_
   rw [hL.xs]
  ·exact hL.no.fresh hG.kept fun z e=>by
    rcases e with e | e
    ·exact hL.base z e
    ·exact e.elim
  ·intro z e
   rcases hG.grew z e with e | e
   ·exact hL.base z e
   ·have:=hL.no.size; omega
 ·simp only [List.cons.injEq,Value.int.injEq,true_and,and_true] at hvs
  subst hvs
  rw [← hgt]
  refine condF (by decide) (CallR.mono (tend_ok hT hov hits hd hp hhs hF (by rw [← List.length_append,hall]; exact hbl) hal hxs) ?_)
  rintro v w35 ⟨r,rfl,hR,hk35⟩
  rw [hall] at hR
  have hb35:=(hb2.no' hno).keep hk35 fun e=>by have:=hbase _ e; omega
  refine ⟨_,_,_,_,_,_,_,_,_,_,_,_,_,_,rfl,st6 hb35 rfl fun w41 hb41 hk41 _=>?_⟩
  have hb41:Blk w41 w1.heap.size r.cells:=hb41
  have hzn:=hno.size
  refine ld6 hb41 ⟨r,rfl,hR _ _ hk41 fun z e=>by have e:z=w1.heap.size:=e; omega,?_⟩
  exact (((k2.no hno).fresh hk35 fun z e=>by have:=hbase z e; omega).fresh hk41 fun z e=>by have e:z=w1.heap.size:=e; have:=hk1.size; omega)
end
theorem texts_at {W:World} {a:Option Addr} {l c:Nat} (hlc:l≤c) (hz:a=none→c=0)
 (h:∀ q:Addr,a=some q→∀ i:Nat,i< l→∃ (a6:Option Addr) (l7 c8:Nat) (ns9:List Int),RdS 1 W a6 l7 c8 (ns9.map (Value.int .u8))∧(∀ n ∈ ns9,(Lit.int .u8 n).wf=true)∧l7 * 1≤140737488351232∧W.cell? (Addr.add q (i * 1))=some (.slice a6 l7 c8)∧True)
 {i:Nat} (hi:i< l):∃ q a6 l7 c8 bs,a=some q∧RdB W a6 l7 c8 bs∧W.cell? (Addr.add q (Int.toNat (i:Int)))=some (.slice a6 l7 c8):=by
 cases a with
 | none=>have:=hz rfl; omega
 | some q=>
  obtain ⟨a6,l7,c8,ns,h1,_,_,h2,_⟩:=h q rfl i hi
  refine ⟨q,a6,l7,c8,ns,rfl,h1,?_⟩
  rw [Int.toNat_natCast]
  rw [Nat.mul_one] at h2
  exact h2
set_option maxHeartbeats 8000000 in
theorem law_of_alive (halive:∀ w,CallR Tryz.prog 4 [] w fun v w'=>v=.bool true∧Kept No w w') {W:World} {args:List Value} (h:V3 W args):CallR Tryz.prog 3 args W fun v w'=>v=.bool true∧Kept No W w':=by
 obtain ⟨a1,l1,c1,hlc,hz,_,htx,n2,_,n3,_,a4,l4,c4,hlc4,hz4,_,hft,rfl⟩:=h
 obtain ⟨ps,hps,_⟩:=rdF_of_view hlc4 hz4 hft
 refine C3 ?_
 unfold L3
 refine CallR.mono (halive W) ?_
 rintro v w1 ⟨rfl,hk1⟩
 obtain ⟨m1,m2⟩:=tmod_bd n2 3 (by omega)
 obtain ⟨m3,m4⟩:=mod_in n2 3 (by omega)
 obtain ⟨z1,z2⟩:=tmod_bd n3 300 (by omega)
 obtain ⟨z3,z4⟩:=mod_in n3 300 (by omega)
 refine ⟨_,rfl,condF rfl ⟨by decide,by unfold inI; omega,by decide,by unfold inI; omega,by decide,by unfold inI; omega,by decide,by unfold inI; omega,?_⟩⟩
 generalize hmo:(1:Int)+Int.tmod (Int.tmod n2 3+3) 3=mo
 generalize hsz:(1:Int)+Int.tmod (Int.tmod n3 300+300) 300=sz
 refine CallR.mono (tasknew_ok (hps.keep hk1 fun _ _ _ e=>e)) ?_
 rintro v w2 ⟨hk2,hr⟩
 have k2:=hk1.no hk2
 rcases hr with ⟨hne,rfl⟩ | ⟨hck,gk,L0,tg0,V0,rfl,hT0,hbase0,hN0⟩
 ·exact ⟨_,_,rfl,topnum_to ⟨_,rfl,condT (by simpa using hne) ⟨rfl,k2⟩⟩⟩
 refine ⟨_,_,rfl,topnum_to ⟨_,rfl,condF rfl (condF rfl ?_)⟩⟩
 have hbase:∀ z,OT L0 tg0 z→W.heap.size≤z:=fun z e=>by have:=hbase0 z e; have:=hk1.size; omega
 refine CallR.mono (la_open hT0 hN0 k2 hbase (openW ps (a:=mo) (b:=sz) (by omega) (by omega) (by omega) (by omega))) ?_
 rintro v w4 ⟨anA,L1,tg1,V1,x0,rfl,heA,hnA,hLA,hG1⟩
 refine ⟨_,_,_,_,_,_,_,_,_,rfl,?_⟩
 intro w5
 have hb5:Blk w5 w4.heap.size An.zero.cells:=Blk.alloc _ _ _
 have hk5:Kept No w4 w5:=Kept.alloc _ _ _
 clear_value w5
 refine st5 hb5 rfl fun w10 hb10 hk10 _=>?_
 have hb10:Blk w10 w4.heap.size anA.cells:=hb10
 have kA:Kept (·=w4.heap.size) w4 w10:=(hk5.mono fun _ _ e=>e.elim).trans hk10 fun _ _ e=>e
 have hW4:=hLA.no.size
 have nA4:¬ OT L1 tg1 w4.heap.size:=hLA.to.new (Nat.le_refl _)
 have hLA10:=hLA.keep kA fun z e=>by have e:z=w4.heap.size:=e; rw [e]; exact ⟨nA4,hW4⟩
 refine CallR.mono (lw_open hLA10 hck (by omega) (by omega) (by omega) (by omega)) ?_
 rintro v w11 ⟨anB,L2,s2,tg2,V2,x1,rfl,heB,hnB,hLW,hG2⟩
 have hbA11:Blk w11 w4.heap.size anA.cells:=hG2.blk hb10 nA4 fun e=>e
 have nA11:¬ OT L2 tg2 w4.heap.size:=hG2.free nA4 hb10.lt
 refine ⟨_,_,_,_,_,_,_,_,_,rfl,?_⟩
 intro w12
 have hb12:Blk w12 w11.heap.size An.zero.cells:=Blk.alloc _ _ _
 have hk12:Kept No w11 w12:=Kept.alloc _ _ _
 clear_value w12
 refine st5 hb12 rfl fun w17 hb17 hk17 _=>?_
 have hb17:Blk w17 w11.heap.size anB.cells:=hb17
 have kB:Kept (·=w11.heap.size) w11 w17:=(hk12.mono fun _ _ e=>e.elim).trans hk17 fun _ _ e=>e
 have hW11:=hLW.no.size
 have nB11:¬ OT L2 tg2 w11.heap.size:=hLW.to.new (Nat.le_refl _)
 have hLW17:=hLW.keep kB fun z e=>by have e:z=w11.heap.size:=e; rw [e]; exact ⟨nB11,hW11⟩
 have hlA:=hbA11.lt
 have hbA17:Blk w17 w4.heap.size anA.cells:=hbA11.keep kB (by omega)
 have hAB:w4.heap.size≠w11.heap.size:=by omega
 generalize hA:w4.heap.size=A at *
 generalize hB:w11.heap.size=B at *
 refine ⟨fun wS=>Blk wS A anA.cells∧Blk wS B anB.cells,⟨hbA17.drew,hb17.drew⟩,?_⟩
 intro w18
 have hk18:Kept No w17 w18:=Kept.drew _ _
 clear_value w18
 refine ⟨_,fun wS hS=>(hS.1.cell 0).trans rfl,_,fun wS hS=>(hS.2.cell 0).trans rfl,topnum_to ⟨_,rfl,⟨hbA17.no' hk18,hb17.no' hk18⟩,topnum_to ⟨_,rfl,?_⟩⟩⟩
 rw [heA,heB]
 refine ⟨by unfold inI; decide,condF rfl ?_⟩
 have hJ18:LJ W w18 gk V0.gt 2 A B anA.cells anB.cells L2 s2 tg2 V2 x0 x1 [] [] 0:=⟨hLW17.nokeep hk18,hbA17.no' hk18,hb17.no' hk18,nA11,nB11,by omega,by omega⟩
 have ho0:x0.p.o=[]:=by rw [hLA.p0]; rfl
 obtain ⟨I,hI⟩:∃ I:List Value→World→Prop,I=fun vs w'=>∃ (i n:Nat) (L:KL) (s:AK) (tg:Nat→Nat) (V:TV) (y0 y1:It) (c:List Int),vs=[.int .i64 (i:Int)]∧LJ W w' gk V0.gt n A B anA.cells anB.cells L s tg V y0 y1 c c c.length∧y0.p.o=[]∧c.length≤500 * i∧n≤2+3 * i∧i≤30:=⟨_,rfl⟩
 obtain ⟨mu,hmu⟩:∃ mu:List Value→World→Nat,mu=fun vs _=>match vs with | [.int _ i]=>30 - i.toNat | _=>0:=⟨_,rfl⟩
 refine ⟨I,mu,?_,?_⟩
 ·rw [hI]
  exact ⟨0,2,L2,s2,tg2,V2,x0,x1,[],rfl,hJ18,ho0,by simp,by omega,by omega⟩
 rintro _ n33 w21 hinv
 rw [hI] at hinv
 obtain ⟨i,n,L,s,tg,V,y0,y1,c,hvs,hJ,ho,hcl,hn,hi30⟩:=hinv
 simp only [List.cons.injEq,Value.int.injEq,true_and,and_true] at hvs
 subst hvs
 refine condP (fun hlt=>?_) (fun _=>⟨rfl,hJ.lw.no⟩)
 refine condP (fun hlt30=>?_) (fun _=>⟨rfl,hJ.lw.no⟩)
 have hil:i< l1:=by omega
 obtain ⟨q,a,l,k,bs,rfl,hbs,hcell⟩:=texts_at hlc hz htx hil
 have hcw:∀ {wa:World},Kept No W wa→wa.cell? (Addr.add q (Int.toNat (i:Int)))=some (.slice a l k):=fun ka=>ka.cell hcell fun e=>e
 have hlen:=hbs.len
 refine ⟨⟨by omega,by omega⟩,nnI ⟨_,_,_,hcw hJ.lw.no,condP (fun _=>⟨rfl,hJ.lw.no⟩) (fun h500=>?_)⟩⟩
 have hl500:bs.length≤500:=by omega
 have hN:c.length+bs.length≤1048576:=by omega
 obtain ⟨J,hJd⟩:∃ J:List Value→World→Prop,J=fun vs w'=>∃ (g:Nat) (an:An) (L':KL) (s':AK) (tg':Nat→Nat) (V':TV) (x0':It) (c':List Int),vs=[pd g]∧an.e=0∧an.n=(l:Int)∧LT W w' gk V0.gt (n+1) A B anA.cells anB.cells L' s' tg' V' x0' y1 c' (c ++ bs) c.length g an.cells:=⟨_,rfl⟩
 refine ⟨J,?_,?_⟩
 ·intro w22
  have hk22:Kept No w21 w22:=Kept.drew _ _
  clear_value w22
  have hJ22:=hJ.nokeep hk22
  have kz:Kept No w22 (World.alloc w22 (.cells An.zero.cells 37)):=Kept.alloc _ _ _
  have hJz:=hJ22.nokeep kz
  refine ⟨⟨by omega,by omega⟩,nnI ?_⟩
  have e13:w22.cell? ⟨A,1,none⟩=some (.int .i64 anA.n):=(hJ22.bA.cell 1).trans rfl
  have e1z:(World.alloc w22 (.cells An.zero.cells 37)).cell? ⟨A,1,none⟩=some (.int .i64 anA.n):=(hJz.bA.cell 1).trans rfl
  have e23:=hcw hJ22.lw.no
  have e2z:=hcw hJz.lw.no
  have callP:∀ wa,LJ W wa gk V0.gt n A B anA.cells anB.cells L s tg V y0 y1 c c c.length→CallR Tryz.prog 7 [pd V0.gt,.agg #[.int .i64 4,.int .i64 anA.n,.int .i64 0,.int .i64 0,.string (ByteArray.mk #[]),.string (ByteArray.mk #[]),.slice a l k,.slice none 0 0,.slice none 0 0]] wa fun v w'=>∃ an L' s' tg' V' x0' c',v=.agg (An.cells an)∧an.e=0∧an.n=(l:Int)∧LW W w' gk V0.gt (n+1) L' s' tg' V' x0' y1 c' (c ++ bs) c.length∧GS No wa w' L L' tg tg':=fun wa ha=>by
   rw [hnA]
   exact lw_put ha.lw (by omega) hbs hN
  have call3:=callP _ hJ22
  have callz:=callP _ hJz
  repeat' first
   | refine CallR.mono call3 ?_
     rintro v w23 ⟨an,L',s',tg',V',x0',c',rfl,he,hnl,hL',hG'⟩
     refine ⟨_,_,_,_,_,_,_,_,_,rfl,st5 (Blk.alloc w23 An.zero.cells 37) rfl fun w29 hb29 hk29 _=>?_⟩
     rw [hJd]
     exact ⟨_,an,L',s',tg',V',x0',c',rfl,he,hnl,lt1 (hJ22.step hL' hG') hb29 hk29⟩
   | refine CallR.mono callz ?_
     rintro v w23 ⟨an,L',s',tg',V',x0',c',rfl,he,hnl,hL',hG'⟩
     refine ⟨_,_,_,_,_,_,_,_,_,rfl,st5 (hG'.blk (Blk.alloc w22 An.zero.cells 37) (hJ22.mine (Nat.le_refl _)).1 fun e=>e) rfl fun w29 hb29 hk29 _=>?_⟩
     rw [hJd]
     exact ⟨_,an,L',s',tg',V',x0',c',rfl,he,hnl,lt2 hJ22 (hJz.step hL' hG') hG' hb29 hk29⟩
   | refine ⟨_,e13,?_⟩
   | refine ⟨_,e1z,?_⟩
   | refine ⟨_,_,_,e23,?_⟩
   | refine ⟨_,_,_,e2z,?_⟩
   | refine And.intro ?_ ?_
 rintro _ p96 w78 hj
 rw [hJd] at hj
 obtain ⟨g,an,L3,s3,tg3,V3,x03,c3,hvs,he3,hn3,hT⟩:=hj
 simp only [List.cons.injEq,Value.pointer.injEq,and_true] at hvs
 subst hvs
 have hJ3:=hT.lj
 refine ⟨_,(hJ3.bA.cell 1).trans rfl,_,(hJ3.bA.cell 1).trans rfl,_,(hJ3.bA.cell 1).trans rfl,?_⟩
 rw [hnA]
 intro w79
 have hb79:Blk w79 w78.heap.size (calls4 0):=Blk.alloc _ _ _
 have hk79:Kept No w78 w79:=Kept.alloc _ _ _
 clear_value w79
 obtain ⟨t1,t2⟩:=tmod4 i
 obtain ⟨x,hx,hcl4⟩:=midcl i
 have hJ79:=hJ3.nokeep hk79
 refine ⟨by decide,t2,?_⟩
 rw [t1]
 refine ldc hb79 hx ?_
 have hcN:(c ++ bs).length≤1048576:=by rw [List.length_append]; exact hN
 refine CallR.mono (lw_mid hJ79.lw (by omega) hcN hcl4) ?_
 rintro v w80 ⟨an4,L4,s4,tg4,V4,x04,x14,rfl,he4,hL4,hG4⟩
 have hJ80:=hJ79.step hL4 hG4
 have hbg80:Blk w80 g an.cells:=hG4.blk (hT.bg.no' hk79) hT.ng fun e=>e
 have hlg79:=(hT.bg.no' hk79).lt
 have ng80:¬ OT L4 tg4 g:=hG4.free hT.ng hlg79
 refine ⟨_,_,_,_,_,_,_,_,_,rfl,?_⟩
 intro w81
 have hb81:Blk w81 w80.heap.size An.zero.cells:=Blk.alloc _ _ _
 have hk81:Kept No w80 w81:=Kept.alloc _ _ _
 clear_value w81
 refine st5 hb81 rfl fun w86 hb86 hk86 _=>?_
 have hb86:Blk w86 w80.heap.size an4.cells:=hb86
 have hm80:=hJ80.mine (Nat.le_refl w80.heap.size)
 have kk:Kept (·=w80.heap.size) w80 w86:=(hk81.mono fun _ _ e=>e.elim).trans hk86 fun _ _ e=>e
 have hJ86:=hJ80.keep kk fun z e=>by have e:z=w80.heap.size:=e; rw [e]; exact hm80
 have hlg80:=hbg80.lt
 have hbg86:Blk w86 g an.cells:=hbg80.keep kk (by omega)
 refine ⟨fun wS=>Blk wS g an.cells∧Blk wS w80.heap.size an4.cells,⟨hbg86.drew,hb86.drew⟩,?_⟩
 intro w87
 have hk87:Kept No w86 w87:=Kept.drew _ _
 clear_value w87
 refine ⟨_,fun wS hS=>hS.1.at0 rfl,_,fun wS hS=>(hS.2.cell 0).trans rfl,topnum_to ⟨_,rfl,⟨hbg86.no' hk87,hb86.no' hk87⟩,topnum_to ⟨_,rfl,?_⟩⟩⟩
 rw [he3,he4]
 have hJ87:=hJ86.nokeep hk87
 refine ⟨by unfold inI; decide,condF rfl ⟨_,(hbg86.no' hk87).at (i:=1) rfl,⟨by omega,by omega⟩,nnI ⟨_,_,_,hcw hJ87.lw.no,condF (by rw [hn3]; simp) ?_⟩⟩⟩
 intro w90
 have hk90:Kept No w87 w90:=Kept.drew _ _
 clear_value w90
 have hJ90:=hJ87.nokeep hk90
 refine ⟨⟨by omega,by omega⟩,nnI ?_⟩
 have kz:Kept No w90 (World.alloc w90 (.cells An.zero.cells 37)):=Kept.alloc _ _ _
 have hJz:=hJ90.nokeep kz
 have e13:w90.cell? ⟨B,1,none⟩=some (.int .i64 anB.n):=(hJ90.bB.cell 1).trans rfl
 have e1z:(World.alloc w90 (.cells An.zero.cells 37)).cell? ⟨B,1,none⟩=some (.int .i64 anB.n):=(hJz.bB.cell 1).trans rfl
 have e23:=hcw hJ90.lw.no
 have e2z:=hcw hJz.lw.no
 have callP:∀ wa,LJ W wa gk V0.gt (n+1+1) A B anA.cells anB.cells L4 s4 tg4 V4 x04 x14 (c ++ bs) (c ++ bs) c.length→CallR Tryz.prog 7 [pd V0.gt,.agg #[.int .i64 13,.int .i64 anB.n,.int .i64 1,.int .i64 (l:Int),.string (ByteArray.mk #[]),.string (ByteArray.mk #[]),.slice none 0 0,.slice none 0 0,.slice none 0 0]] wa fun v w'=>∃ an L' s' tg' V' x1',v=.agg (An.cells an)∧an.e=0∧AnO wa w' L' tg' an bs∧LW W w' gk V0.gt (n+1+1+1) L' s' tg' V' x04 x1' (c ++ bs) (c ++ bs) (c ++ bs).length∧GS No wa w' L4 L' tg4 tg':=fun wa ha=>by
  rw [hnB,← hlen]
  exact lw_read ha.lw (by omega) hcN rfl rfl hl500
 have call3:=callP _ hJ90
 have callz:=callP _ hJz
 have ho4:x04.p.o=[]:=by
  have:=hL4.all
  exact List.append_cancel_left (this.trans (List.append_nil _).symm)
 have fin:∀ {w97:World} {L' s' tg' V' x1' g5} {an5:An},LT W w97 gk V0.gt (n+1+1+1) A B anA.cells anB.cells L' s' tg' V' x04 x1' (c ++ bs) (c ++ bs) (c ++ bs).length g5 an5.cells→RdB w97 an5.da an5.dl an5.dc bs→an5.e=0→
  ∀ {K:World→Prop},(∀ w100,(I [.int .i64 ((i:Int)+1)] w100∧mu [.int .i64 ((i:Int)+1)] w100< mu [.int .i64 (i:Int)] w21)→K w100)→∀ w98,Kept No w97 w98→
   CallR Tryz.prog 8 [.slice an5.da an5.dl an5.dc,.slice a l k] w98 fun v w100=>v=.bool true∧K w100:=by
  intro w97 L' s' tg' V' x1' g5 an5 hT5 hrd he5 K hK w98 hk98
  have h98:=hT5.lj.nokeep hk98
  have hl5:=hrd.len
  refine CallR.mono (same_ok (hrd.keep hk98 fun _ _ _ e=>e) (hbs.keep h98.lw.no fun _ _ _ e=>e) (by omega)) ?_
  rintro v w100 ⟨rfl,hk100,_⟩
  refine ⟨by simp,hK w100 ⟨?_,?_⟩⟩
  ·rw [hI]
   refine ⟨i+1,n+1+1+1,L',s',tg',V',x04,x1',c ++ bs,by simp,h98.nokeep hk100,ho4,by rw [List.length_append]; omega,by omega,by omega⟩
  ·rw [hmu]
   simp only
   omega
 repeat' first
  | refine CallR.mono call3 ?_
    rintro v w91 ⟨an5,L',s',tg',V',x1',rfl,he5,hA5,hL',hG'⟩
    refine ⟨_,_,_,_,_,_,_,_,_,rfl,st5 (Blk.alloc w91 An.zero.cells 37) rfl fun w97 hb97 hk97 _=>?_⟩
    have hb97:Blk w97 w91.heap.size an5.cells:=hb97
    have hT5:=lt1 (hJ90.step hL' hG') hb97 hk97
    have hrd:RdB w97 an5.da an5.dl an5.dc bs:=(hA5.rd.keep (Kept.alloc No w91 (.cells An.zero.cells 37)) fun _ _ _ e=>e).keep hk97 fun z _ hz e=>by have:=(hA5.off z hz).2.2; have e:z=w91.heap.size:=e; omega
    intro w98
    have hk98:Kept No w97 w98:=Kept.drew _ _
    clear_value w98
    refine ⟨_,((hb97.no' hk98).cell 0).trans rfl,topnum_to ⟨_,rfl,condF (by rw [he5]; rfl) ⟨_,_,_,((hb97.no' hk98).cell 3).trans rfl,⟨by omega,by omega⟩,nnI ⟨_,_,_,hcw (hT5.lj.nokeep hk98).lw.no,CallR.mono (fin hT5 hrd he5 (fun w100 hw=>hw) w98 hk98) ?_⟩⟩⟩⟩
    rintro v w100 ⟨rfl,hw⟩
    exact ⟨_,rfl,condF rfl ⟨by unfold inI; omega,hw⟩⟩
  | refine CallR.mono callz ?_
    rintro v w91 ⟨an5,L',s',tg',V',x1',rfl,he5,hA5,hL',hG'⟩
    refine ⟨_,_,_,_,_,_,_,_,_,rfl,st5 (hG'.blk (Blk.alloc w90 An.zero.cells 37) (hJ90.mine (Nat.le_refl _)).1 fun e=>e) rfl fun w97 hb97 hk97 _=>?_⟩
    have hb97:Blk w97 w90.heap.size an5.cells:=hb97
    have hT5:=lt2 hJ90 (hJz.step hL' hG') hG' hb97 hk97
    have hrd:RdB w97 an5.da an5.dl an5.dc bs:=hA5.rd.keep hk97 fun z _ hz e=>by have h1:=(hA5.off z hz).1; have e:z=w90.heap.size:=e; simp at h1; omega
    intro w98
    have hk98:Kept No w97 w98:=Kept.drew _ _
    clear_value w98
    refine ⟨_,((hb97.no' hk98).cell 0).trans rfl,topnum_to ⟨_,rfl,condF (by rw [he5]; rfl) ⟨_,_,_,((hb97.no' hk98).cell 3).trans rfl,⟨by omega,by omega⟩,nnI ⟨_,_,_,hcw (hT5.lj.nokeep hk98).lw.no,CallR.mono (fin hT5 hrd he5 (fun w100 hw=>hw) w98 hk98) ?_⟩⟩⟩⟩
    rintro v w100 ⟨rfl,hw⟩
    exact ⟨_,rfl,condF rfl ⟨by unfold inI; omega,hw⟩⟩
  | refine ⟨_,e13,?_⟩
  | refine ⟨_,e1z,?_⟩
  | refine ⟨_,_,_,e23,?_⟩
  | refine ⟨_,_,_,e2z,?_⟩
  | refine And.intro ?_ ?_
theorem str_isT {s:ByteArray} {bs:List Int} (h:strOfNums bs=s):(ByteArray.toList (strOfNums bs) == ByteArray.toList s)=true:=by rw [h]; exact beq_self_eq_true _
theorem alive_ok (w:World):CallR Tryz.prog 4 [] w fun v w'=>v=.bool true∧Kept No w w':=by
 refine C4 ?_
 unfold L4
 intro w1
 obtain ⟨w2,hrun,hb2,hk2,hz2⟩:=run_const (P:=Tryz.prog) w (t:=34) (e:=5) (by kernel_rfl) [104,105,10]
 refine ⟨_,_,_,w2,hrun,?_⟩
 clear_value w1
 intro w3
 have hb3:Blk w3 w2.heap.size #[.int .i64 1,.int .i64 0,.int .i64 2,.int .i64 8,.string (ByteArray.mk #[98]),.string (ByteArray.mk #[119]),.slice none 0 0,.slice none 0 0,.slice none 0 0,.int .i64 4,.int .i64 0,.int .i64 0,.int .i64 0,.string (ByteArray.mk #[]),.string (ByteArray.mk #[]),.slice (some ⟨w.heap.size,0,none⟩) 3 3,.slice none 0 0,.slice none 0 0]:=Blk.alloc _ _ _
 have hk3:Kept No w2 w3:=Kept.alloc _ _ _
 clear_value w3
 have hr3:RdS 9 w3 (some ⟨w2.heap.size,0,none⟩) 2 2 (clO.cells.toList ++ (clp 4 0 0 0 (some ⟨w.heap.size,0,none⟩) 3 3).cells.toList):=(SlO.of_blk (sz:=9) (n:=2) hb3 rfl).rd
 refine CallR.mono (trun_ok hr3 (hb2.keep hk3 fun _ _ _ e=>e) (by decide)) ?_
 rintro v w4 ⟨r,rfl,hR,hk4⟩
 have k4:=(hk2.no hk3).no hk4
 refine ⟨_,_,_,_,_,_,_,_,_,_,_,_,_,_,_,rfl,?_⟩
 intro w5
 have hb5:Blk w5 w4.heap.size #[.slice none 0 0,.int .i64 0,.slice none 0 0,.bool false,.slice none 0 0,.slice none 0 0]:=Blk.alloc _ _ _
 have hk5:Kept No w4 w5:=Kept.alloc _ _ _
 clear_value w5
 refine st6 hb5 rfl fun w11 hb11 hk11 _=>?_
 have hb11:Blk w11 w4.heap.size r.cells:=hb11
 have k11:Kept No w4 w11:=hk5.fresh hk11 fun z e=>by omega
 obtain ⟨da,dl,dc,e4,hf,hd⟩:=hR.no k11
 obtain ⟨q,hq⟩:∃ q,r.a4=some q:=by
  cases ha:r.a4 with
  | none=>rw [ha] at hf; have h1:=hf.2.1; have h2:=hf.2.2.1 rfl; omega
  | some q=>exact ⟨q,rfl⟩
 refine topnum_to ⟨_,rfl,condT rfl ⟨_,_,_,(hb11.cell 4).trans rfl,condT (by rw [e4]; rfl) ⟨_,_,_,(hb11.cell 4).trans rfl,by rw [e4]; decide,nnE hq ⟨da,dl,dc,?_,_,w11,run_str w11 (t:=34) (ts:=9) (by kernel_rfl) (by kernel_rfl) hd,?_,k4.no k11⟩⟩⟩⟩
 ·rw [add_add]
  exact hf.2.2.2 q hq 1 _ rfl
 ·exact congrArg Value.bool (str_isT rfl)
theorem walk_topFlushed {W:World} {args:List Value} (h:V3 W args):CallR Tryz.prog 3 args W fun v w'=>v=.bool true∧Kept No W w':=law_of_alive alive_ok h
end Go.Proofs.YteojolihgijdhaaGreatDoor
