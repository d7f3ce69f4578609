/- Part 13 of 21 of the proof of TopFlushed. Conditions: the theorem's: none. -/
import Derived.Test.YteojolihgijdhaaGreatDoorKTopFlushed12
set_option linter.unusedVariables false
set_option maxRecDepth 512
namespace Go.Proofs.YteojolihgijdhaaGreatDoor
open Go.Lw
theorem add60 (g:Nat):((⟨g,0,none⟩:Addr).add 6).add (Int.toNat 0)=(⟨g,0,none⟩:Addr).add 6:=by rw [Lw.add_add]; rfl
theorem add61 (g:Nat):((⟨g,0,none⟩:Addr).add 6).add (Int.toNat 1)=(⟨g,0,none⟩:Addr).add 7:=by rw [Lw.add_add]; rfl
theorem rdO_ok {w:World} {gk:Nat} {s:AK} {L:KL} (h:KernO w gk s L) {d:Int} {x:AD} (hx:s.desc d=some x) {m:Int} (hm0:0≤m) (hm1:m≤1048576) :
 CallR Tryz.prog (readF (s.objs x.ob).kd) [ag (L.loc x.ob),pd (L.dloc d),.int .i64 m] w fun v w'=>∃ a l c L',v=.slice a l c∧OB w' a l c (s.rdO x m).1∧Fresh w a∧KernO w' gk (s.rdO x m).2 L'∧KStep w w' L L'∧(∀ z,inA a z→L'.own z=none):=by
 have ap:∀ {a:Option Addr} {L':KL},Fresh w a→(∀ z,L'.own z≠none→L.own z≠none)→∀ z,inA a z→L'.own z=none:=by
  intro a L' hf hn z hz
  cases ho:L'.own z with
  | none=>rfl
  | some t=>exact absurd (h.new_none (hf z hz)) (hn z (by rw [ho]; simp))
 have hO:=h.ofO hx
 have hD:=h.ofD hx
 have hr:=h.ok.di x (AK.desc_some hx).1
 have hn:=(AK.desc_some hx).2
 unfold AK.rdO
 cases ho:s.objs x.ob with
 | file bs=>
  rw [ho] at hO hD
  have hO:FileO _ w (L.loc x.ob) bs:=hO
  obtain ⟨k,hk⟩:∃ k:Nat,x.at_=(k:Int):=⟨x.at_.toNat,by omega⟩
  rw [hk] at hD
  refine CallR.mono (dread_ok hO hD (by omega) hm0 hm1) ?_
  rintro v w' ⟨a,c,rfl,ob,hf,hD',hk'⟩
  have hl:=hO.len
  have hpl:k+(piece bs (k:Int) m).length≤1048576:=by unfold piece; rw [List.length_take,List.length_drop]; omega
  have hkd:(s.objs x.ob).kd=.disk:=by rw [ho]; rfl
  obtain ⟨L',h',st,_,_,hnw⟩:=h.descStep hx hk' (at':=x.at_+((piece bs x.at_ m).length:Int)) (hd':=x.hd) (by rw [hkd,hk]; have:=hD'; rw [Int.natCast_add] at this; exact this) ⟨by omega,by rw [hk]; omega,hr.2.2.2.1,hr.2.2.2.2.1⟩
  dsimp only
  rw [hn,hk]
  rw [hk] at h'
  exact ⟨a,_,c,L',rfl,ob,hf,h',st,ap hf hnw⟩
 | term LL scr=>
  rw [ho] at hO
  have hO:TermO _ _ w (L.loc x.ob) LL scr:=hO
  refine CallR.mono (sread_ok hO m) ?_
  rintro v w' ⟨a,c,rfl,ob,hf,hk',hO'⟩
  obtain ⟨L',h',st,_,_,hnw⟩:=h.obStep hx hk' (fun z hz=>by subst hz; exact (h.ofO hx).mem) (o:=.term (readT m LL).2.2 scr) (by rw [ho]; rfl) (F:=fun z=>L.own z=some (.obj x.ob)) (fun z hz=>.inl hz) hO'
  exact ⟨a,_,c,L',rfl,ob,hf,h',st,ap hf fun z hz=>by
   rcases hnw z hz with e | e
   ·rw [e]; simp
   ·exact e⟩
 | pipe bs e0 e1=>
  rw [ho] at hO
  have hO:PipeO w (L.loc x.ob) bs e0 e1∧_:=hO
  refine CallR.mono (cread_ok' hO.1 m) ?_
  rintro v w' ⟨a,l,c,rfl,ob,hf,hO',hk'⟩
  obtain ⟨L',h',st,_,_,hnw⟩:=h.obStep hx hk' (fun z hz=>by subst hz; exact (h.ofO hx).mem) (o:=.pipe (readP m bs e0 e1).2.2 e0 e1) (by rw [ho]; rfl) (F:=fun z=>L.own z=some (.obj x.ob)) (fun z hz=>.inl hz) ⟨hO',hO.2⟩
  exact ⟨a,l,c,L',rfl,ob,hf,h',st,ap hf fun z hz=>by
   rcases hnw z hz with e | e
   ·rw [e]; simp
   ·exact e⟩
theorem PlO.le {w:World} {g:Nat} {a:Option Addr} {l c:Nat} {ps:List (Int × Int)} (h:PlO w g a l c ps):ps.length=l:=by
 have:=h.rd.1
 rw [Fv_len] at this
 omega
theorem kernRead_ok {w:World} {gk:Nat} {s:AK} {L:KL} (h:KernO w gk s L) (d n:Int) (hc:s.c0≤4611686018427387904) :
 CallR Tryz.prog 207 [pd gk,.int .i64 d,.int .i64 n] w fun v w'=>∃ a l c L',v=.tuple #[.slice a l c,.int .i64 (s.read d n).2.1]∧OB w' a l c (s.read d n).1∧Fresh w a∧KernO w' gk (s.read d n).2.2 L'∧KStep w w' L L'∧(∀ z,inA a z→L'.own z=none):=by
 refine C207 ?_
 unfold L207
 have bad:∀ (e:Int) (w':World),s.read d n=([],e,s)→Kept No w w'→∃ a l c L',(.tuple #[.slice none 0 0,.int .i64 e]:Value)=.tuple #[.slice a l c,.int .i64 (s.read d n).2.1]∧OB w' a l c (s.read d n).1∧Fresh w a∧KernO w' gk (s.read d n).2.2 L'∧KStep w w' L L'∧(∀ z,inA a z→L'.own z=none):=by
  intro e w' hr hk
  rw [hr]
  exact ⟨none,0,0,L,rfl,OB.nil _,Fresh.none _,h.no hk,.of_no hk,fun z hz=>absurd hz (inA_none z)⟩
 refine CallR.mono (find_ok h d 1) ?_
 rintro v w1 ⟨rfl,⟨hne,rfl⟩ | ⟨he,x,hx,rfl⟩⟩
 ·exact ⟨_,_,rfl,condN (fun _=>bad _ _ (by unfold AK.read; rw [if_pos hne]) (Kept.refl _ _)) (fun e=>absurd e hne)⟩
 have hr:s.read d n=if n< 0∨n > 1048576 then ([],4,s) else if n=0 then ([],0,s) else
  if s.waits x=true then ([],52,s) else if (metF s.ps n).2≠0 then ([],(metF s.ps n).2,s.met0) else ((s.met0.rdO x (metF s.ps n).1).1,0,(s.met0.rdO x (metF s.ps n).1).2):=by
  unfold AK.read; rw [if_neg (fun e=>e he),hx]
 refine ⟨_,_,rfl,condN (fun e=>absurd rfl e) (fun _=>condP (fun h1=>bad _ _ (by rw [hr,if_pos (.inl h1)]) (Kept.refl _ _)) (fun h1=>condP (fun h2=>bad _ _ (by rw [hr,if_pos (.inr h2)]) (Kept.refl _ _)) (fun h2=>?_)))⟩
 rw [if_neg (by omega)] at hr
 refine condI (fun h3=>bad _ _ (by rw [hr,if_pos (by simpa using h3)]) (Kept.refl _ _)) (fun h3=>?_)
 have h3:n≠0:=by simpa using h3
 rw [if_neg h3] at hr
 refine CallR.mono (waitsD_ok h hx) ?_
 rintro v w2 ⟨rfl,hk2⟩
 refine ⟨_,rfl,condI (fun hw=>bad _ _ (by rw [hr,if_pos hw]) hk2) (fun hw=>?_)⟩
 rw [if_neg (by rw [hw]; simp)] at hr
 intro w3
 have hk3:Kept No w1 w3:=hk2.no (Kept.drew _ _)
 clear_value w3
 have hK3:=h.no hk3
 have hc0:=h.ok.c0
 refine nnI ⟨⟨by decide,by decide⟩,_,by rw [add60]; exact hK3.blk.at (i:=6) rfl,⟨by omega,by omega⟩,nnI ⟨⟨by decide,by decide⟩,?_⟩⟩
 rw [add60]
 refine stC_at hK3.blk (i:=6) (by simp [AK.cells]) fun w4 hb4 hk4 hs4=>?_
 have hb4:Blk w4 gk (AK.cells { s with c0:=s.c0+1,c1:=s.c1 } L):=hb4
 obtain ⟨ap,lp,cp,hp,hpo⟩:=hK3.pl
 have hps:=h.ok.ps
 have hle:=hp.le
 have hp4:=hp.keep hk4 (fun e=>by have:=h.oP; rw [e,h.oK] at this; cases this) (fun b _ hb e=>by have:=hpo b hb; rw [e,h.oK] at this; cases this)
 refine nnI ⟨_,hb4.at (i:=5) rfl,CallR.mono (fnext_ok hp4 (by omega) (by omega) (by omega)) ?_⟩
 rintro v w5 ⟨rfl,⟨a',c',hin,hp'⟩,hk5⟩
 obtain ⟨hK5,st5⟩:=hK3.metStep hb4 hk4 ⟨a',_,c',hp',fun b hb=>hpo b (hin b hb)⟩ hk5 h.ok.met0
 have st:KStep w1 w5 L L:=(KStep.of_no hk3).trans st5
 refine ⟨_,_,rfl,condN (fun hne=>?_) (fun he2=>?_)⟩
 ·rw [if_pos hne] at hr
  rw [hr]
  exact ⟨none,0,0,L,rfl,OB.nil _,Fresh.none _,hK5,st,fun z hz=>absurd hz (inA_none z)⟩
 ·rw [if_neg (fun e=>e he2)] at hr
  have hK5:KernO w5 gk s.met0 L:=hK5
  have hx5:s.met0.desc d=some x:=hx
  have hm:0≤(metF s.ps n).1∧(metF s.ps n).1≤1048576:=by
   rcases AK.metF_ok h.ok.pm (n:=n) (by omega) with ⟨_,h1,h2⟩ | ⟨_,h1,_⟩
   ·omega
   ·omega
  refine nnI ⟨_,Blk.at0 (hK5.ofD hx5) rfl,_,_,_,tv_read (s.met0.objs x.ob).kd (L.loc x.ob) #[pd (L.dloc d),.int .i64 (metF s.ps n).1] _,CallR.mono (rdO_ok hK5 hx5 hm.1 hm.2) ?_⟩
  rintro v w7 ⟨a,l,c,L',rfl,ob,hf,hK7,st7,hap⟩
  rw [hr]
  have hz:=st.size
  exact ⟨a,l,c,rfl,a,l,c,L',rfl,ob,fun b hb=>by have:=hf b hb; omega,hK7,st.trans st7,hap⟩
theorem roomO_ok {w:World} {gk:Nat} {s:AK} {L:KL} (h:KernO w gk s L) {d:Int} {x:AD} (hx:s.desc d=some x) (n:Int) :
 CallR Tryz.prog (roomF (s.objs x.ob).kd) [ag (L.loc x.ob),pd (L.dloc d),.int .i64 n] w fun v w'=>v=.tuple #[.int .i64 (s.roomO x n).1,.int .i64 (s.roomO x n).2]∧Kept No w w':=by
 have hO:=h.ofO hx
 have hD:=h.ofD hx
 have hr:=h.ok.di x (AK.desc_some hx).1
 unfold AK.roomO
 cases ho:s.objs x.ob with
 | file bs=>
  rw [ho] at hO hD
  have hO:FileO _ w (L.loc x.ob) bs:=hO
  exact droom_ok hO hD hr.2.1 hr.2.2.1
 | term LL scr=>
  rw [ho] at hO
  have hO:TermO _ _ w (L.loc x.ob) LL scr:=hO
  exact sroom_ok hO n
 | pipe bs e0 e1=>
  rw [ho] at hO
  have hO:PipeO w (L.loc x.ob) bs e0 e1∧_:=hO
  exact croom_ok hO.1 n
theorem roomD_le {p n:Int} (h:(roomD p n).2=0) (hn:1≤n):1≤(roomD p n).1∧(roomD p n).1≤n∧(roomD p n).1≤1048576 - p:=by
 unfold roomD at h ⊢
 by_cases e:1048576 - p > 0
 ·rw [if_pos e]
  show 1≤mn n (1048576 - p)∧mn n (1048576 - p)≤n∧mn n (1048576 - p)≤1048576 - p
  unfold mn
  split <;> omega
 ·rw [if_neg e] at h; cases h
theorem wrO_ok {w:World} {gk:Nat} {s:AK} {L:KL} (h:KernO w gk s L) {d:Int} {x:AD} (hx:s.desc d=some x) {a:Option Addr} {l c:Nat} {ds:List Int} (hd:RdB w a l c ds) (hl:l≤1048576) (hap:ds≠[]→∀ k,inA a k→L.own k=none)
 (h0:ds≠[]) {n most:Int} (hn:1≤n) (hm0:1≤most) (hr0:(s.roomO x n).2=0) (hm:most≤(s.roomO x n).1) :
 CallR Tryz.prog (wrF (s.objs x.ob).kd) [ag (L.loc x.ob),pd (L.dloc d),.slice a l c,.int .i64 most] w fun v w'=>v=.int .i64 (s.wrO x ds most).1∧∃ L',KernO w' gk (s.wrO x ds most).2 L'∧KStep w w' L L':=by
 have hO:=h.ofO hx
 have hD:=h.ofD hx
 have hr:=h.ok.di x (AK.desc_some hx).1
 have hnm:=(AK.desc_some hx).2
 have hln:=hd.len
 unfold AK.roomO at hr0 hm
 unfold AK.wrO
 cases ho:s.objs x.ob with
 | file bs=>
  rw [ho] at hO hD hr0 hm
  dsimp only at hr0 hm
  have hO:FileO _ w (L.loc x.ob) bs:=hO
  have hrm:=roomD_le hr0 hn
  have hkd:(s.objs x.ob).kd=.disk:=by rw [ho]; rfl
  have hpl:0≤placeF x.fl x.at_ bs:=by unfold placeF; split <;> omega
  refine CallR.mono (dwrite_ok hO hD hr.2.1 hr.2.2.1 hd (by omega) (fun k hk=>⟨fun e=>?_,fun e=>?_⟩) (fun e=>?_) (by omega)) ?_
  ·have:=hap h0 k hk; rw [e] at this; cases this
  ·have:=hap h0 k hk; rw [e,h.ownD hx] at this; cases this
  ·rw [h.ownD hx] at e; cases e
  rintro v w' ⟨rfl,⟨F',hO',hg⟩,hD',hk'⟩
  rw [hln]
  obtain ⟨L',h',st,_,_,hnw⟩:=h.objStep hx hk' (fun z hz=>by
   rcases hz with hz | rfl
   ·exact .inl hz
   ·exact .inr (h.ownD hx)) (o:=.file (writeF bs (placeF x.fl x.at_ bs) (ds.take (min l most.toNat))).2) (by rw [ho]; rfl) (F:=F') (fun z hz=>hg z hz) hO' (at':=placeF x.fl x.at_ bs+((min l most.toNat:Nat):Int)) (hd':=x.hd) (by rw [hkd]; exact hD') ⟨by omega,by omega,hr.2.2.2.1,hr.2.2.2.2.1⟩
  dsimp only
  rw [hnm]
  exact ⟨rfl,L',h',st⟩
 | term LL scr=>
  rw [ho] at hO
  have hO:TermO _ _ w (L.loc x.ob) LL scr:=hO
  refine CallR.mono (swrite_ok hO hd (by omega) (by omega)) ?_
  rintro v w' ⟨rfl,F',hO',hg,hk'⟩
  obtain ⟨L',h',st,_,_,hnw⟩:=h.obStep hx hk' (fun z hz=>hz) (o:=.term LL (writeT (ds.take (min l most.toNat)) scr).2) (by rw [ho]; rfl) (F:=F') hg hO'
  rw [hln]
  exact ⟨rfl,L',h',st⟩
 | pipe bs e0 e1=>
  rw [ho] at hO
  have hO:PipeO w (L.loc x.ob) bs e0 e1∧_:=hO
  refine CallR.mono (cwrite_ok' hO.1 hd (fun _ e=>?_) most) ?_
  ·have:=hap h0 _ e; rw [(h.ofO hx).mem] at this; cases this
  rintro v w' ⟨rfl,hO',hk'⟩
  obtain ⟨L',h',st,_,_,hnw⟩:=h.obStep hx hk' (fun z hz=>by subst hz; exact (h.ofO hx).mem) (o:=.pipe (writeP ds most bs e0 e1).2.2 e0 e1) (by rw [ho]; rfl) (F:=fun z=>L.own z=some (.obj x.ob)) (fun z hz=>.inl hz) ⟨hO',hO.2⟩
  exact ⟨rfl,L',h',st⟩
theorem room_le {s:AK} {x:AD} {n:Int} (h:(s.roomO x n).2=0) (hn:1≤n):1≤(s.roomO x n).1:=by
 unfold AK.roomO at h ⊢
 cases ho:s.objs x.ob with
 | file bs=>rw [ho] at h; exact (roomD_le h hn).1
 | term LL scr=>rw [ho] at h; exact (roomD_le h hn).1
 | pipe bs e0 e1=>
  rw [ho] at h
  dsimp only at h ⊢
  unfold roomC at h ⊢
  by_cases h1:e0=0
  ·rw [if_pos h1] at h; cases h
  ·rw [if_neg h1] at h ⊢
   by_cases h2:canWP n bs e0 e1=false
   ·rw [if_pos h2] at h; cases h
   ·rw [if_neg h2]; exact hn
set_option maxHeartbeats 1000000 in
theorem kernWrite_ok {w:World} {gk:Nat} {s:AK} {L:KL} (h:KernO w gk s L) (d:Int) {a:Option Addr} {l c:Nat} {ds:List Int} (hd:RdB w a l c ds) (hap:ds≠[]→∀ k,inA a k→L.own k=none) (hc:s.c1≤4611686018427387904) :
 CallR Tryz.prog 208 [pd gk,.int .i64 d,.slice a l c] w fun v w'=>v=.tuple #[.int .i64 (s.write d ds).1,.int .i64 (s.write d ds).2.1]∧∃ L',KernO w' gk (s.write d ds).2.2 L'∧KStep w w' L L':=by
 refine C208 ?_
 unfold L208
 have hln:=hd.len
 have bad:∀ (e:Int) (w':World),s.write d ds=(0,e,s)→Kept No w w'→(.tuple #[.int .i64 0,.int .i64 e]:Value)=.tuple #[.int .i64 (s.write d ds).1,.int .i64 (s.write d ds).2.1]∧∃ L',KernO w' gk (s.write d ds).2.2 L'∧KStep w w' L L':=by
  intro e w' hr hk
  rw [hr]
  exact ⟨rfl,L,h.no hk,.of_no hk⟩
 refine CallR.mono (find_ok h d 2) ?_
 rintro v w1 ⟨rfl,⟨hne,rfl⟩ | ⟨he,x,hx,rfl⟩⟩
 ·exact ⟨_,_,rfl,condN (fun _=>bad _ _ (by unfold AK.write; rw [if_pos hne]) (Kept.refl _ _)) (fun e=>absurd e hne)⟩
 have hr:s.write d ds=if 1048576< ds.length then (0,5,s) else if ds.length=0 then (0,0,s) else
  if (s.roomO x ds.length).2≠0 then (0,(s.roomO x ds.length).2,s) else if (metF s.ps ds.length).2≠0 then (0,(metF s.ps ds.length).2,s.met1) else
  ((s.met1.wrO x ds (min (metF s.ps ds.length).1 (s.roomO x ds.length).1)).1,0,(s.met1.wrO x ds (min (metF s.ps ds.length).1 (s.roomO x ds.length).1)).2):=by
  unfold AK.write; rw [if_neg (fun e=>e he),hx]
 rw [hln] at hr
 refine ⟨_,_,rfl,condN (fun e=>absurd rfl e) (fun _=>condP (fun h1=>bad _ _ (by rw [hr,if_pos (by omega)]) (Kept.refl _ _)) (fun h1=>?_))⟩
 rw [if_neg (by omega)] at hr
 refine condI (fun h3=>bad _ _ (by rw [hr,if_pos (by simpa using h3)]) (Kept.refl _ _)) (fun h3=>?_)
 have h3:l≠0:=by simpa using h3
 rw [if_neg h3] at hr
 have hne:ds≠[]:=fun e=>by rw [e] at hln; simp at hln; omega
 refine nnI ⟨_,Blk.at0 (h.ofD hx) rfl,_,_,_,tv_room (s.objs x.ob).kd (L.loc x.ob) #[pd (L.dloc d),.int .i64 ((l:Nat):Int)] _,CallR.mono (roomO_ok h hx (l:Int)) ?_⟩
 rintro v w3 ⟨rfl,hk3⟩
 refine ⟨_,_,rfl,condN (fun hn=>bad _ _ (by rw [hr,if_pos hn]) hk3) (fun hr0=>?_)⟩
 rw [if_neg (fun e=>e hr0)] at hr
 intro w4
 have hk4:Kept No w1 w4:=hk3.no (Kept.drew _ _)
 clear_value w4
 have hK4:=h.no hk4
 have hc1:=h.ok.c1
 refine nnI ⟨⟨by decide,by decide⟩,_,by rw [add61]; exact hK4.blk.at (i:=7) rfl,⟨by omega,by omega⟩,nnI ⟨⟨by decide,by decide⟩,?_⟩⟩
 rw [add61]
 refine stC_at hK4.blk (i:=7) (by simp [AK.cells]) fun w5 hb5 hk5 hs5=>?_
 have hb5:Blk w5 gk (AK.cells { s with c0:=s.c0,c1:=s.c1+1 } L):=hb5
 obtain ⟨ap,lp,cp,hp,hpo⟩:=hK4.pl
 have hps:=h.ok.ps
 have hle:=hp.le
 have hp5:=hp.keep hk5 (fun e=>by have:=h.oP; rw [e,h.oK] at this; cases this) (fun b _ hb e=>by have:=hpo b hb; rw [e,h.oK] at this; cases this)
 refine nnI ⟨_,hb5.at (i:=5) rfl,CallR.mono (fnext_ok hp5 (by omega) (by omega) (by omega)) ?_⟩
 rintro v w6 ⟨rfl,⟨a',c',hin,hp'⟩,hk6⟩
 obtain ⟨hK6,st6⟩:=hK4.metStep hb5 hk5 ⟨a',_,c',hp',fun b hb=>hpo b (hin b hb)⟩ hk6 h.ok.met1
 have st:KStep w1 w6 L L:=(KStep.of_no hk4).trans st6
 refine ⟨_,_,rfl,condN (fun hne=>?_) (fun he2=>?_)⟩
 ·rw [if_pos hne] at hr
  rw [hr]
  exact ⟨rfl,L,hK6,st⟩
 ·rw [if_neg (fun e=>e he2)] at hr
  have hK6:KernO w6 gk s.met1 L:=hK6
  have hx6:s.met1.desc d=some x:=hx
  have hm:1≤(metF s.ps (l:Int)).1:=by
   rcases AK.metF_ok h.ok.pm (n:=(l:Int)) (by omega) with ⟨_,h1,h2⟩ | ⟨_,h1,_⟩
   ·exact h1
   ·omega
  have hrl:=room_le hr0 (by omega)
  have hd6:RdB w6 a l c ds:=hd.keep st.kept fun b _ hb e=>e (hap hne b hb)
  have hmn:mn (metF s.ps (l:Int)).1 (s.roomO x (l:Int)).1=min (metF s.ps (l:Int)).1 (s.roomO x (l:Int)).1:=by unfold mn; omega
  rw [hmn]
  refine nnI ⟨_,Blk.at0 (hK6.ofD hx6) rfl,_,_,_,tv_write (s.met1.objs x.ob).kd (L.loc x.ob) #[pd (L.dloc d),.slice a l c,.int .i64 _] _,CallR.mono (wrO_ok hK6 hx6 hd6 (by omega) hap hne (n:=(l:Int)) (by omega) (by omega) hr0 (by show _≤(s.roomO x (l:Int)).1; omega)) ?_⟩
  rintro v w8 ⟨rfl,L',hK8,st8⟩
  rw [hr]
  exact ⟨_,rfl,rfl,L',hK8,st.trans st8⟩
theorem kernKeep_ok {w:World} {gk:Nat} {s:AK} {L:KL} (h:KernO w gk s L) (d:Int):CallR Tryz.prog 136 [pd gk,.int .i64 d] w fun v w'=>v=.int .i64 (s.keep d).1∧∃ L',KernO w' gk (s.keep d).2 L'∧KStep w w' L L':=by
 refine C136 ?_
 unfold L136
 refine CallR.mono (find_ok h d 0) ?_
 unfold AK.keep
 rintro v w1 ⟨rfl,⟨hne,rfl⟩ | ⟨he,x,hx,rfl⟩⟩
 ·refine ⟨_,_,rfl,condN (fun _=>?_) (fun e=>absurd e hne)⟩
  rw [if_pos hne]; exact ⟨rfl,L,h,KStep.refl _ _⟩
 ·rw [if_neg (fun e=>e he),hx]
  dsimp -zeta only
  have hD:=h.ofD hx
  have hr:=h.ok.di x (AK.desc_some hx).1
  refine ⟨_,_,rfl,condN (fun e=>absurd rfl e) (fun _=>nnI ⟨_,Blk.at hD (i:=3) rfl,condP (fun h1=>?_) (fun h1=>nnI ⟨_,Blk.at hD (i:=3) rfl,⟨by omega,by omega⟩,nnI (stC_at hD (i:=3) (by simp) fun w2 hb2 hk2 hs2=>?_)⟩)⟩)⟩
  ·rw [if_pos h1]; exact ⟨rfl,L,h,KStep.refl _ _⟩
  ·rw [if_neg h1]
   obtain ⟨L',h',st,_,_,hnw⟩:=h.descStep hx hk2 (at':=x.at_) (hd':=x.hd+1) hb2 ⟨hr.2.1,hr.2.2.1,by omega,by omega⟩
   exact ⟨rfl,L',h',st⟩
theorem kernSeek_ok {w:World} {gk:Nat} {s:AK} {L:KL} (h:KernO w gk s L) (d off wh:Int):CallR Tryz.prog 209 [pd gk,.int .i64 d,.int .i64 off,.int .i64 wh] w fun v w'=>v=.tuple #[.int .i64 (s.seek d off wh).1,.int .i64 (s.seek d off wh).2.1]∧∃ L',KernO w' gk (s.seek d off wh).2.2 L'∧KStep w w' L L':=by
 refine C209 ?_
 unfold L209
 refine CallR.mono (find_ok h d 0) ?_
 unfold AK.seek
 rintro v w1 ⟨rfl,⟨hne,rfl⟩ | ⟨he,x,hx,rfl⟩⟩
 ·refine ⟨_,_,rfl,condN (fun _=>?_) (fun e=>absurd e hne)⟩
  rw [if_pos hne]; exact ⟨rfl,L,h,KStep.refl _ _⟩
 ·rw [if_neg (fun e=>e he),hx]
  dsimp -zeta only
  refine ⟨_,_,rfl,condN (fun e=>absurd rfl e) (fun _=>nnI ⟨_,Blk.at0 (h.ofD hx) rfl,?_⟩)⟩
  have ht:=tv_disk (s.objs x.ob).kd (L.loc x.ob) w1
  have hO:=h.ofO hx
  have hD:=h.ofD hx
  have hr:=h.ok.di x (AK.desc_some hx).1
  cases ho:s.objs x.ob with
  | term LL scr=>
   rw [ho] at ht
   refine ⟨_,_,_,ht,?_⟩
   intro w3
   have hb3:Blk w3 w1.heap.size #[.pointer none]:=Blk.alloc _ _ _
   have hk3:Kept No w1 w3:=Kept.alloc _ _ _
   clear_value w3
   refine stC_blk hb3 (by simp) fun w4 hb4 hk4 _=>condTr2 ?_
   have k4:Kept No w1 w4:=hk3.fresh hk4 (fun x e=>by omega)
   exact ⟨rfl,L,h.no k4,.of_no k4⟩
  | pipe bs e0 e1=>
   rw [ho] at ht
   refine ⟨_,_,_,ht,?_⟩
   intro w3
   have hb3:Blk w3 w1.heap.size #[.pointer none]:=Blk.alloc _ _ _
   have hk3:Kept No w1 w3:=Kept.alloc _ _ _
   clear_value w3
   refine stC_blk hb3 (by simp) fun w4 hb4 hk4 _=>condTr2 ?_
   have k4:Kept No w1 w4:=hk3.fresh hk4 (fun x e=>by omega)
   exact ⟨rfl,L,h.no k4,.of_no k4⟩
  | file bs=>
   rw [ho] at ht hO
   refine ⟨_,_,_,ht,?_⟩
   intro w3
   have hb3:Blk w3 w1.heap.size #[.pointer none]:=Blk.alloc _ _ _
   have hk3:Kept No w1 w3:=Kept.alloc _ _ _
   clear_value w3
   refine stC_blk hb3 (by simp) fun w4 hb4 hk4 _=>condFa2 ?_
   have hb4:Blk w4 w1.heap.size #[.pointer (some ⟨L.loc x.ob,0,none⟩)]:=by simpa using hb4
   have k4:Kept No w1 w4:=hk3.fresh hk4 (fun x e=>by omega)
   have bad:∀ e:Int,(.tuple #[.int .i64 0,.int .i64 e]:Value)=.tuple #[.int .i64 0,.int .i64 e]∧∃ L',KernO w4 gk s L'∧KStep w1 w4 L L':=fun e=>⟨rfl,L,h.no k4,.of_no k4⟩
   dsimp only
   refine condP (fun h1=>?_) (fun h1=>condP (fun h2=>?_) (fun h2=>?_))
   ·rw [if_pos (.inl h1)]; exact bad 1
   ·rw [if_pos (.inr h2)]; exact bad 1
   have hnw:¬ (wh< 0∨wh > 2):=by omega
   rw [if_neg hnw]
   have hO:FileO _ w1 (L.loc x.ob) bs:=hO
   have hlen:=hO.len
   refine ⟨fun wS=>Kept No w4 wS,Kept.drew _ _,?_⟩
   have hk5:Kept No w4 w4.drew:=Kept.drew _ _
   generalize w4.drew=w5 at hk5 ⊢
   have hD4:=Blk.keep hD k4 (fun e=>e)
   refine nnI ⟨_,fun wS hS=>(Blk.keep hD4 hS (fun e=>e)).at (i:=2) rfl,_,fun wS hS=>((hb4.keep hS (fun e=>e)).cell 0).trans rfl,CallR.mono (size_ok ((hO.keep k4 (fun _ _ e=>e)).keep hk5 (fun _ _ e=>e))) ?_⟩
   rintro v w6 ⟨rfl,rfl⟩
   have k6:Kept No w1 w6:=k4.no hk5
   refine ⟨_,rfl,hk5,⟨by omega,by omega⟩,?_⟩
   obtain ⟨base,hbase,hget,hb0,hb1⟩:∃ base:Int,base=(if wh=0 then 0 else if wh=1 then x.at_ else (bs.length:Int))∧(#[.int .i64 0,.int .i64 x.at_,.int .i64 (bs.length:Int)]:Array Value)[Int.toNat wh]?=some (.int .i64 base)∧0≤base∧base≤1048576:=by
    by_cases e0:wh=0
    ·subst e0; exact ⟨0,rfl,rfl,by omega,by omega⟩
    ·by_cases e1:wh=1
     ·subst e1; exact ⟨x.at_,rfl,rfl,by omega,by omega⟩
     ·obtain rfl:wh=2:=by omega
      exact ⟨_,rfl,rfl,by omega,by omega⟩
   rw [← hbase]
   have hK6:=h.no k6
   refine ⟨base,hget,⟨by omega,by omega⟩,condP (fun h3=>?_) (fun h3=>⟨⟨by omega,by omega⟩,condP (fun h4=>?_) (fun h4=>⟨⟨by omega,by omega⟩,?_⟩)⟩)⟩
   ·rw [if_pos (.inl (by omega))]; exact ⟨rfl,L,hK6,.of_no k6⟩
   ·rw [if_pos (.inr (by omega))]; exact ⟨rfl,L,hK6,.of_no k6⟩
   ·have:¬ (off< -base∨off > 1048576 - base):=by omega
    rw [if_neg this]
    have hD6:=hK6.ofD hx
    refine nnI (stC_at hD6 (i:=2) (by simp) fun w7 hb7 hk7 hs7=>nnI ⟨_,hb7.at (i:=2) rfl,?_⟩)
    obtain ⟨L',h',st,_,_,hnw⟩:=hK6.descStep hx hk7 (at':=base+off) (hd':=x.hd) (by rw [ho] at hb7 ⊢; exact hb7) ⟨by omega,by omega,hr.2.2.2.1,hr.2.2.2.2.1⟩
    exact ⟨rfl,L',h',st.fresh k6⟩
theorem dropF_ok {w:World} {k:TK} (hk:k≠.con) (b bd:Nat):CallR Tryz.prog (dropF k) [ag b,pd bd] w fun v w'=>v=.tuple #[]∧Kept No w w':=by
 cases k
 ·exact C363 ⟨rfl,Kept.alloc _ _ _⟩
 ·exact C358 ⟨rfl,Kept.alloc _ _ _⟩
 ·exact absurd rfl hk
theorem filter_split {l1 l2:List AD} {x:AD} {d:Int} (hn:((l1 ++ x :: l2).map (·.num)).Nodup) (hx:x.num=d):(l1 ++ x :: l2).filter (fun y=>decide (y.num≠d))=l1 ++ l2:=by
 rw [List.map_append,List.map_cons,List.nodup_append] at hn
 obtain ⟨_,h2,h3⟩:=hn
 rw [List.nodup_cons] at h2
 rw [List.filter_append,List.filter_cons_of_neg (by simp [hx]),List.filter_eq_self.2,List.filter_eq_self.2]
 ·intro y hy
  simp only [ne_eq,decide_not,Bool.not_eq_eq_eq_not,Bool.not_true,decide_eq_false_iff_not]
  intro e
  exact h2.1 (List.mem_map.2 ⟨y,hy,by rw [e,hx]⟩)
 ·intro y hy
  simp only [ne_eq,decide_not,Bool.not_eq_eq_eq_not,Bool.not_true,decide_eq_false_iff_not]
  intro e
  exact h3 y.num (List.mem_map.2 ⟨y,hy,rfl⟩) x.num (by simp) (by rw [e,hx])
theorem kernDrop_ok {w:World} {gk:Nat} {s:AK} {L:KL} (h:KernO w gk s L) (d:Int):CallR Tryz.prog 114 [pd gk,.int .i64 d] w fun v w'=>v=.int .i64 (s.drop d).1∧∃ L',KernO w' gk (s.drop d).2 L'∧KStep w w' L L':=by
 refine C114 ?_
 unfold L114
 refine CallR.mono (find_ok h d 0) ?_
 unfold AK.drop
 rintro v w1 ⟨rfl,⟨hne,rfl⟩ | ⟨he,x,hx,rfl⟩⟩
 ·refine ⟨_,_,rfl,condN (fun _=>?_) (fun e=>absurd e hne)⟩
  rw [if_pos hne]; exact ⟨rfl,L,h,KStep.refl _ _⟩
 ·rw [if_neg (fun e=>e he),hx]
  dsimp -zeta only
  have hD:=h.ofD hx
  have hr:=h.ok.di x (AK.desc_some hx).1
  have hod:=h.ownD hx
  refine ⟨_,_,rfl,condN (fun e=>absurd rfl e) (fun _=>nnI ⟨_,Blk.at hD (i:=3) rfl,⟨by omega,by omega⟩,nnI (stC_at hD (i:=3) (by simp) fun w2 hb2 hk2 hs2=>nnI ⟨_,hb2.at (i:=3) rfl,?_⟩)⟩)⟩
  refine condI (fun h1=>?_) (fun h1=>?_)
  ·have h1:x.hd - 1=0:=by simpa using h1
   rw [if_pos (by omega)]
   have hT:Tryz.prog.underlying 77=some (.map 3 277):=by kernel_rfl
   have hI:Tryz.prog.underlying 3=some (.int .i64):=by kernel_rfl
   have hne:gk≠L.dloc d:=fun e=>by have:=h.oK; rw [e,hod] at this; cases this
   have hb2':=h.blk.keep hk2 hne
   have hrd:L.rd≠L.dloc d:=fun e=>by have:=h.oD; rw [e,hod] at this; cases this
   obtain ⟨hxm,hxn⟩:=AK.desc_some hx
   obtain ⟨l1,l2,hl⟩:=List.append_of_mem hxm
   have hmD:s.mD L=l1.map (fun d=>(Value.int .i64 d.num,pd (L.dloc d.num))) ++ (.int .i64 d,pd (L.dloc d)) :: l2.map (fun d=>(Value.int .i64 d.num,pd (L.dloc d.num))):=by
    unfold AK.mD
    rw [hl,List.map_append,List.map_cons,hxn]
   obtain ⟨w3,hrun,hm3,hk3,hs3⟩:=delete_in hT hI (h.md.keep hk2 hrd) (k:=.int .i64 d) rfl hmD 0
   refine nnI ⟨_,hb2'.at (i:=3) rfl,w3,hrun,?_⟩
   have kA:Kept (fun z=>z=L.rd∨z=L.dloc d) w1 w3:=(hk2.mono fun _ _ e=>.inr e).trans hk3 fun _ _ e=>.inl e
   have hdel:(s.delD d).mD L=l1.map (fun d=>(Value.int .i64 d.num,pd (L.dloc d.num))) ++ l2.map (fun d=>(Value.int .i64 d.num,pd (L.dloc d.num))):=by
    unfold AK.mD AK.delD
    dsimp only
    rw [hl,filter_split (by rw [← hl]; exact h.ok.dn) hxn,List.map_append]
   obtain ⟨h3,st3⟩:=h.delStep hx kA (by rw [hdel]; exact hm3)
   have hb3:=Blk.keep hb2 hk3 (fun e=>hrd e.symm)
   refine nnI ⟨_,hb3.at0 rfl,_,_,_,tv_drop (s.objs x.ob).kd (L.loc x.ob) #[pd (L.dloc d)] _,?_⟩
   have hi:x.ob< (s.delD d).nob:=hr.1
   have hO:=h3.ob x.ob hi
   unfold AK.leave
   have hob:(s.delD d).objs=s.objs:=rfl
   rw [hob] at hO ⊢
   cases ho:s.objs x.ob with
   | file bs=>
    refine CallR.mono (dropF_ok (by simp [AObj.kd]) _ _) ?_
    rintro v w5 ⟨rfl,hk5⟩
    exact ⟨rfl,rfl,L,h3.no hk5,st3.no hk5⟩
   | term LL scr=>
    refine CallR.mono (dropF_ok (by simp [AObj.kd]) _ _) ?_
    rintro v w5 ⟨rfl,hk5⟩
    exact ⟨rfl,rfl,L,h3.no hk5,st3.no hk5⟩
   | pipe bs e0 e1=>
    rw [ho] at hO hb3
    refine CallR.mono (cdrop_ok (k:=.con) (o:=L.loc x.ob) (fl:=x.fl) (at_:=x.at_) (hd:=x.hd - 1) hO.1 hb3) ?_
    rintro v w5 ⟨rfl,hO',hk5⟩
    obtain ⟨L',h',st,_,_,hnw⟩:=h3.obOnly (i:=x.ob) hk5 (fun z hz=>by subst hz; exact (h3.ob x.ob hi).mem) (o:=.pipe bs (leaveP (bitI x.fl 2 != 0) e0 e1).2.1 (leaveP (bitI x.fl 2 != 0) e0 e1).2.2) (by rw [hob,ho]; rfl) (F:=fun z=>L.own z=some (.obj x.ob)) (fun z hz=>.inl hz) ⟨hO',hO.2⟩
    exact ⟨rfl,rfl,L',h',st3.trans st⟩
  ·have h1:¬ x.hd - 1=0:=by simpa using h1
   rw [if_neg (by omega)]
   obtain ⟨L',h',st,_,_,hnw⟩:=h.descStep hx hk2 (at':=x.at_) (hd':=x.hd - 1) hb2 ⟨hr.2.1,hr.2.2.1,by omega,by omega⟩
   exact ⟨rfl,L',h',st⟩
theorem flagged_ok {w:World} (f:Int) {Q:Value→World→Prop} (hq:Q (.bool (AK.flagged f)) w):CallR Tryz.prog 188 [.int .i64 f] w Q:=by
 refine C188 ?_
 unfold L188
 have fl:AK.flagged f=(decide (f≥0∧f≤63) && (bitI f 3 != 0) && ((bitI f 2 != 0) || (bitI f 20 == 0)) && ((bitI f 8 != 0) || (bitI f 32 == 0))):=rfl
 have b3:IntKind.wrap .i64 ↑(BitVec.ofInt (IntKind.bits .i64) f &&& BitVec.ofInt (IntKind.bits .i64) 3).toNat=bitI f 3:=rfl
 have b2:IntKind.wrap .i64 ↑(BitVec.ofInt (IntKind.bits .i64) f &&& BitVec.ofInt (IntKind.bits .i64) 2).toNat=bitI f 2:=rfl
 have b20:IntKind.wrap .i64 ↑(BitVec.ofInt (IntKind.bits .i64) f &&& BitVec.ofInt (IntKind.bits .i64) 20).toNat=bitI f 20:=rfl
 have b8:IntKind.wrap .i64 ↑(BitVec.ofInt (IntKind.bits .i64) f &&& BitVec.ofInt (IntKind.bits .i64) 8).toNat=bitI f 8:=rfl
 have b32:IntKind.wrap .i64 ↑(BitVec.ofInt (IntKind.bits .i64) f &&& BitVec.ofInt (IntKind.bits .i64) 32).toNat=bitI f 32:=rfl
 rw [b3,b2,b20,b8,b32]
 rw [fl] at hq
 refine condP (fun h0=>condP (fun h1=>?_) (fun h1=>?_)) (fun h0=>?_)
 ·rw [decide_eq_true (⟨h0,h1⟩:f≥0∧f≤63)] at hq
  cases h3:(bitI f 3 != 0)
  ·rw [h3] at hq; exact hq
  ·rw [h3] at hq
   cases h2:(bitI f 2 != 0)
   ·rw [h2] at hq
    cases h20:(bitI f 20 == 0)
    ·rw [h20] at hq; exact hq
    ·rw [h20] at hq
     cases h8:(bitI f 8 != 0)
     ·rw [h8] at hq; simpa using hq
     ·rw [h8] at hq; simpa using hq
   ·rw [h2] at hq
    cases h8:(bitI f 8 != 0)
    ·rw [h8] at hq; simpa using hq
    ·rw [h8] at hq; simpa using hq
 ·rw [decide_eq_false (fun h=>h1 h.2)] at hq; exact hq
 ·rw [decide_eq_false (fun h=>h0 h.1)] at hq; exact hq
theorem AK.fileOf_some {s:AK} {nm:ByteArray} {f:ByteArray × Nat} (h:s.fileOf nm=some f):f ∈ s.files∧f.1=nm:=by
 unfold AK.fileOf at h
 exact ⟨List.mem_of_find?_eq_some h,by simpa using List.find?_some h⟩
theorem AK.fileOf_none {s:AK} {nm:ByteArray} (h:s.fileOf nm=none):∀ f ∈ s.files,f.1≠nm:=by
 unfold AK.fileOf at h
 rw [List.find?_eq_none] at h
 intro x hx
 simpa using h x hx
theorem AK.termOf_some {s:AK} {nm:ByteArray} {f:ByteArray × Nat} (h:s.termOf nm=some f):f ∈ s.terms∧f.1=nm:=by
 unfold AK.termOf at h
 exact ⟨List.mem_of_find?_eq_some h,by simpa using List.find?_some h⟩
theorem AK.termOf_none {s:AK} {nm:ByteArray} (h:s.termOf nm=none):∀ f ∈ s.terms,f.1≠nm:=by
 unfold AK.termOf at h
 rw [List.find?_eq_none] at h
 intro x hx
 simpa using h x hx
def fP (s:AK) (L:KL) (nm:ByteArray):Option Addr:=match s.fileOf nm with
 | none=>none
 | some f=>some ⟨L.loc f.2,0,none⟩
def tP (s:AK) (L:KL) (nm:ByteArray):Option Addr:=match s.termOf nm with
 | none=>none
 | some f=>some ⟨L.loc f.2,0,none⟩
theorem look_file {w:World} {gk:Nat} {s:AK} {L:KL} (h:KernO w gk s L) (nm:ByteArray) :
 (Instr.lookup 75 (.map (some L.rf)) (.string nm) true).run Tryz.prog w=.ok (.tuple #[.pointer (fP s L nm),.bool (s.fileOf nm).isSome]) w:=by
 have hT:Tryz.prog.underlying 75=some (.map 9 84):=by kernel_rfl
 have hI:Tryz.prog.underlying 9=some .string:=by kernel_rfl
 unfold fP
 cases hf:s.fileOf nm with
 | none=>
  refine lookup_out hT hI h.mf (k:=.string nm) trivial (fun x hx e=>?_) (z:=.pointer none) (by kernel_rfl) true
  obtain ⟨y,hy,rfl⟩:=List.mem_map.1 hx
  simp only [Value.string.injEq] at e
  exact AK.fileOf_none hf y hy e
 | some f=>
  obtain ⟨hm,hn⟩:=AK.fileOf_some hf
  exact lookup_in hT hI h.mf (k:=.string nm) trivial (v:=pd (L.loc f.2)) (List.mem_map.2 ⟨f,hm,by rw [hn]⟩) true
theorem look_term {w:World} {gk:Nat} {s:AK} {L:KL} (h:KernO w gk s L) (nm:ByteArray) :
 (Instr.lookup 76 (.map (some L.rt)) (.string nm) true).run Tryz.prog w=.ok (.tuple #[.pointer (tP s L nm),.bool (s.termOf nm).isSome]) w:=by
 have hT:Tryz.prog.underlying 76=some (.map 9 87):=by kernel_rfl
 have hI:Tryz.prog.underlying 9=some .string:=by kernel_rfl
 unfold tP
 cases hf:s.termOf nm with
 | none=>
  refine lookup_out hT hI h.mt (k:=.string nm) trivial (fun x hx e=>?_) (z:=.pointer none) (by kernel_rfl) true
  obtain ⟨y,hy,rfl⟩:=List.mem_map.1 hx
  simp only [Value.string.injEq] at e
  exact AK.termOf_none hf y hy e
 | some f=>
  obtain ⟨hm,hn⟩:=AK.termOf_some hf
  exact lookup_in hT hI h.mt (k:=.string nm) trivial (v:=pd (L.loc f.2)) (List.mem_map.2 ⟨f,hm,by rw [hn]⟩) true
theorem addF_ok {w w1:World} {gk:Nat} {s:AK} {L:KL} (h:KernO w gk s L) (k:Kept No w w1) {b:Nat} {F:Nat→Prop} {bs:List Int} (hO:FileO F w1 b bs) (hF:∀ z,F z→w.heap.size≤z)
 {nm:ByteArray} (h1:∀ f ∈ s.files,f.1≠nm) (h2:∀ f ∈ s.terms,f.1≠nm) (hl:s.files.length+s.terms.length< 256) :
 ∃ w2 L',(Instr.mapUpdate 75 (.map (some L.rf)) (.string nm) (pd b)).run Tryz.prog w1=.ok () w2∧KernO w2 gk (s.addF nm (.file bs)) L'∧KStep w w2 L L'∧L'.loc s.nob=b∧Kept (·=L.rf) w1 w2:=by
 have hT:Tryz.prog.underlying 75=some (.map 9 84):=by kernel_rfl
 have hI:Tryz.prog.underlying 9=some .string:=by kernel_rfl
 obtain ⟨hn,st⟩:=h.newStep k (R:=No) (o:=.file bs) hO hF (fun z e=>e.elim)
 obtain ⟨w2,hrun,hm,hk2,hs2⟩:=update_new hT hI (hn.mf) (k:=.string nm) trivial (fun x hx e=>by
  obtain ⟨y,hy,rfl⟩:=List.mem_map.1 hx
  simp only [Value.string.injEq] at e
  exact h1 y hy e) (pd b)
 have hok:=h.ok.addF (o:=.file bs) rfl h1 h2 hl
 have hb:(L.addO s.nob b F No).loc s.nob=b:=if_pos rfl
 obtain ⟨h3,st3⟩:=hn.mfStep (fs:=s.files ++ [(nm,s.nob)]) hk2 (by
  show MapO w2 _ .string ((s.files ++ [(nm,s.nob)]).map fun f=>(Value.string f.1,pd ((L.addO s.nob b F No).loc f.2)))
  rw [List.map_append]
  show MapO w2 _ .string (_ ++ [(Value.string nm,pd ((L.addO s.nob b F No).loc s.nob))])
  rw [hb]
  exact hm) hok
 exact ⟨w2,_,hrun,h3,st.trans st3,hb,hk2⟩
set_option maxHeartbeats 1000000 in
theorem kernOpen_ok {w:World} {gk:Nat} {s:AK} {L:KL} (h:KernO w gk s L) (nm:ByteArray) (fl:Int) (hn2:s.next≤4611686018427387904) :
 CallR Tryz.prog 134 [pd gk,.string nm,.int .i64 fl] w fun v w'=>v=.tuple #[.int .i64 (s.open_ nm fl).1,.int .i64 (s.open_ nm fl).2.1]∧∃ L',KernO w' gk (s.open_ nm fl).2.2 L'∧KStep w w' L L':=by
 refine C134 ?_
 unfold L134
 have bad:∀ (e:Int) (w':World),s.openE nm fl=e→e≠0→Kept No w w'→(.tuple #[.int .i64 0,.int .i64 e]:Value)=.tuple #[.int .i64 (s.open_ nm fl).1,.int .i64 (s.open_ nm fl).2.1]∧∃ L',KernO w' gk (s.open_ nm fl).2.2 L'∧KStep w w' L L':=by
  intro e w' he hne hk
  unfold AK.open_
  rw [he,if_pos hne]
  exact ⟨rfl,L,h.no hk,.of_no hk⟩
 have hE:s.openE nm fl=if namedS nm=false then 61 else if AK.flagged fl=false then 65 else if 256≤s.descs.length then 3 else
  if (s.fileOf nm).isSome∨(s.termOf nm).isSome then (if bitI fl 32≠0 then 63 else 0)
  else if bitI fl 8=0 then 62 else if 256≤s.files.length+s.terms.length then 3 else 0:=rfl
 refine enone_to h ⟨false,rfl,condF rfl (CallR.mono (named_ok nm) ?_)⟩
 rintro v w2 ⟨rfl,hk2⟩
 refine ⟨_,rfl,condI (fun e=>bad 61 _ (by rw [hE,if_pos (by simpa using e)]) (by decide) hk2) (fun e=>?_)⟩
 rw [if_neg (by simpa using e)] at hE
 refine flagged_ok fl ⟨_,rfl,condI (fun e=>bad 65 _ (by rw [hE,if_pos (by simpa using e)]) (by decide) hk2) (fun e=>?_)⟩
 rw [if_neg (by simpa using e)] at hE
 have h2:=h.no hk2
 have hTd:Tryz.prog.underlying 77=some (.map 3 277):=by kernel_rfl
 have hTf:Tryz.prog.underlying 75=some (.map 9 84):=by kernel_rfl
 have hTt:Tryz.prog.underlying 76=some (.map 9 87):=by kernel_rfl
 have hlen:(s.mD L).length=s.descs.length:=by unfold AK.mD; rw [List.length_map]
 refine nnI ⟨_,h2.blk.at (i:=3) rfl,_,_,len_map hTd h2.md _,condP (fun hd=>bad 3 _ (by rw [hE,if_pos (by omega)]) (by decide) hk2) (fun hd=>?_)⟩
 rw [if_neg (by omega)] at hE
 refine nnI ⟨_,h2.blk.at (i:=1) rfl,_,_,_,look_file h2 nm,nnI ⟨_,h2.blk.at (i:=2) rfl,_,_,_,look_term h2 nm,?_⟩⟩
 have b32:IntKind.wrap .i64 ↑(BitVec.ofInt (IntKind.bits .i64) fl &&& BitVec.ofInt (IntKind.bits .i64) 32).toNat=bitI fl 32:=rfl
 have b8:IntKind.wrap .i64 ↑(BitVec.ofInt (IntKind.bits .i64) fl &&& BitVec.ofInt (IntKind.bits .i64) 8).toNat=bitI fl 8:=rfl
 have b16:IntKind.wrap .i64 ↑(BitVec.ofInt (IntKind.bits .i64) fl &&& BitVec.ofInt (IntKind.bits .i64) 16).toNat=bitI fl 16:=rfl
 rw [b32,b8,b16]
 refine ⟨fun vs w'=>∃ s1 L1 p,vs=[.pointer p]∧s.openE nm fl=0∧KernO w' gk s1 L1∧KStep w w' L L1∧s1.next=s.next∧s1.descs=s.descs∧
  ((∃ t,s.termOf nm=some t∧s1=s∧L1=L)∨(s.termOf nm=none∧∃ i bs,p=some ⟨L1.loc i,0,none⟩∧i< s1.nob∧s1.objs i=.file bs∧s.openS nm fl=(if bitI fl 16≠0 then s1.setO i (.file []) else s1).newD i fl)),?_,?_⟩
 ·have old:∀ w',(s.fileOf nm).isSome=true∨(s.termOf nm).isSome=true→Kept No w w'→bitI fl 32=0→∃ s1 L1 p,[Value.pointer (fP s L nm)]=[.pointer p]∧s.openE nm fl=0∧KernO w' gk s1 L1∧KStep w w' L L1∧s1.next=s.next∧s1.descs=s.descs∧
   ((∃ t,s.termOf nm=some t∧s1=s∧L1=L)∨(s.termOf nm=none∧∃ i bs,p=some ⟨L1.loc i,0,none⟩∧i< s1.nob∧s1.objs i=.file bs∧s.openS nm fl=(if bitI fl 16≠0 then s1.setO i (.file []) else s1).newD i fl)):=by
   intro w' ho hk hz
   refine ⟨s,L,_,rfl,by rw [hE,if_pos ho,if_neg (fun e=>e hz)],h.no hk,.of_no hk,rfl,rfl,?_⟩
   cases ht:s.termOf nm with
   | some t=>exact .inl ⟨t,rfl,rfl,rfl⟩
   | none=>
    right
    rw [ht] at ho
    cases hf:s.fileOf nm with
    | none=>rw [hf] at ho; simp at ho
    | some f=>
     obtain ⟨hm,hn⟩:=AK.fileOf_some hf
     have hfi:=h.ok.fi f hm
     obtain ⟨bs,hbs⟩:∃ bs,s.objs f.2=.file bs:=by
      cases ho:s.objs f.2 with
      | file bs=>exact ⟨bs,rfl⟩
      | term _ _=>rw [ho] at hfi; cases hfi.2
      | pipe _ _ _=>rw [ho] at hfi; cases hfi.2
     refine ⟨rfl,f.2,bs,by unfold fP; rw [hf],hfi.1,hbs,?_⟩
     unfold AK.openS
     rw [ht,hf]
  refine condI (fun hf=>condI (fun hx=>bad 63 _ (by rw [hE,if_pos (.inl hf),if_pos (by simpa using hx)]) (by decide) hk2) (fun hx=>old w2 (.inl hf) hk2 (by simpa using hx))) (fun hf=>?_)
  refine condI (fun ht=>condI (fun hx=>bad 63 _ (by rw [hE,if_pos (.inr ht),if_pos (by simpa using hx)]) (by decide) hk2) (fun hx=>old w2 (.inr ht) hk2 (by simpa using hx))) (fun ht=>?_)
  rw [if_neg (by rw [hf,ht]; simp)] at hE
  refine condI (fun h8=>bad 62 _ (by rw [hE,if_pos (by simpa using h8)]) (by decide) hk2) (fun h8=>?_)
  rw [if_neg (by simpa using h8)] at hE
  refine ⟨fun wS=>Kept No w2 wS,Kept.drew _ _,?_⟩
  intro w7
  have hk7:Kept No w2 w7:=Kept.drew _ _
  clear_value w7
  have h7:=h2.no hk7
  refine nnI ⟨_,fun wS hS=>(h2.no hS).blk.at (i:=1) rfl,nnI ⟨_,fun wS hS=>(h2.no hS).blk.at (i:=2) rfl,_,_,len_map hTf h7.mf _,hk7,_,_,len_map hTt h7.mt _,?_⟩⟩
  have e1:(s.mF L).length=s.files.length:=by unfold AK.mF; rw [List.length_map]
  have e2:(s.mT L).length=s.terms.length:=by unfold AK.mT; rw [List.length_map]
  have hfl:=h.ok.fl
  rw [e1,e2]
  have k7:=hk2.no hk7
  refine ⟨⟨by omega,by omega⟩,condP (fun hc=>bad 3 _ (by rw [hE,if_pos (by omega)]) (by decide) k7) (fun hc=>?_)⟩
  rw [if_neg (by omega)] at hE
  refine CallR.mono (finew_ok (RdB.nil w7) (by omega)) ?_
  rintro v w10 (⟨hbig,_⟩ | ⟨_,b,F,rfl,hO,hk10,hF⟩)
  ·simp at hbig
  have hf':s.fileOf nm=none:=by cases hx:s.fileOf nm with | none=>rfl | some _=>rw [hx] at hf; cases hf
  have ht':s.termOf nm=none:=by cases hx:s.termOf nm with | none=>rfl | some _=>rw [hx] at ht; cases ht
  obtain ⟨w11,L1,hrun,h11,st,hloc,_⟩:=addF_ok h7 hk10 hO hF (AK.fileOf_none hf') (AK.termOf_none ht') (by omega)
  have h10:=h7.no hk10
  refine ⟨_,_,rfl,nnI ⟨_,h10.blk.at (i:=1) rfl,w11,hrun,s.addF nm (.file []),L1,_,rfl,hE,h11,st.fresh k7,rfl,rfl,.inr ⟨ht',s.nob,[],by rw [hloc],Nat.lt_succ_self _,AK.objs_newO_new' s _,?_⟩⟩⟩
  have e:(s.addF nm (.file [])).setO s.nob (.file [])=s.addF nm (.file []):=by
   have:=AK.setO_same (s.addF nm (.file [])) s.nob
   have e':(s.addF nm (.file [])).objs s.nob=.file []:=AK.objs_newO_new' s _
   rw [e'] at this
   exact this
  unfold AK.openS
  rw [ht',hf',e]
  simp only [ite_self]
  rfl
 ·rintro _ p w12 ⟨s1,L1,p',hvs,hE0,h12,st12,hnx,hds,hcase⟩
  simp only [List.cons.injEq,Value.pointer.injEq,and_true] at hvs
  subst hvs
  have good:s.open_ nm fl=(s.next,0,s.openS nm fl):=by unfold AK.open_; rw [hE0,if_neg (fun e=>e rfl)]
  rw [good]
  have hdl:s1.descs.length< 256:=by rw [hds]; omega
  rcases hcase with ⟨t,ht,rfl,rfl⟩ | ⟨ht,i,bs,rfl,hi,hoi,hS⟩
  ·obtain ⟨hm,hn⟩:=AK.termOf_some ht
   have hti:=h.ok.ti t hm
   have hd:=describe_ok h12 hti.1 fl (by omega) hdl
   rw [hti.2] at hd
   have htp:tP s1 L1 nm=some ⟨L1.loc t.2,0,none⟩:=by unfold tP; rw [ht]
   refine condT (by rw [ht]; rfl) ?_
   rw [htp]
   refine CallR.mono hd ?_
   rintro v w13 ⟨rfl,L',h',st',_⟩
   refine ⟨_,rfl,rfl,L',?_,st12.trans st'⟩
   show KernO w13 gk (s1.openS nm fl) L'
   unfold AK.openS
   rw [ht]
   exact h'
  ·refine condF (by rw [ht]; rfl) ?_
   dsimp only
   rw [hS]
   refine condI (fun h16=>?_) (fun h16=>?_)
   ·rw [if_pos (by simpa using h16)]
    have hO:=h12.ob i hi
    rw [hoi] at hO
    have hO:FileO _ w12 (L1.loc i) bs:=hO
    refine CallR.mono (trunc_ok hO 0) ?_
    rintro v w14 ⟨rfl,F',hO',hg,hk14⟩
    have htr:(truncF bs 0).2=[]:=by unfold truncF; rfl
    rw [htr] at hO'
    obtain ⟨L2,h14,st14,hloc,_,_⟩:=h12.obOnly hk14 (fun z hz=>hz) (o:=.file []) (by rw [hoi]; rfl) (F:=F') (fun z hz=>hg z hz) hO'
    refine ⟨_,rfl,?_⟩
    have hd:=describe_ok h14 (i:=i) hi fl (by show s1.next≤_; omega) hdl
    rw [AK.objs_setO_same',hloc] at hd
    refine CallR.mono hd ?_
    rintro v w15 ⟨rfl,L',h',st',_⟩
    exact ⟨_,rfl,by rw [← hnx]; rfl,L',h',(st12.trans st14).trans st'⟩
   ·rw [if_neg (by simpa using h16)]
    have hd:=describe_ok h12 (i:=i) hi fl (by omega) hdl
    rw [hoi] at hd
    refine CallR.mono hd ?_
    rintro v w15 ⟨rfl,L',h',st',_⟩
    exact ⟨_,rfl,by rw [← hnx],L',h',st12.trans st'⟩
namespace AK
theorem desc_setD (s:AK) (d' at_ hd d:Int):(s.setD d' at_ hd).desc d=(s.desc d).map fun x=>if x.num=d' then { x with at_:=at_,hd:=hd } else x:=by
 unfold desc setD
 dsimp only
 rw [List.find?_map]
 congr 1
 congr 1
 funext x
 show decide ((if x.num=d' then ({ x with at_:=at_,hd:=hd }:AD) else x).num=d)=_
 by_cases e:x.num=d'
 ·rw [if_pos e]
 ·rw [if_neg e]
theorem desc_setD_same {s:AK} {d at_ hd:Int} {x:AD} (h:s.desc d=some x):(s.setD d at_ hd).desc d=some { x with at_:=at_,hd:=hd }:=by
 rw [desc_setD,h]
 show some (if x.num=d then _ else x)=_
 rw [if_pos (desc_some h).2]
theorem desc_setD_ne {s:AK} {d' at_ hd d:Int} (hd':d≠d'):(s.setD d' at_ hd).desc d=s.desc d:=by
 rw [desc_setD]
 cases h:s.desc d with
 | none=>rfl
 | some x=>
  show some (if x.num=d' then _ else x)=_
  rw [if_neg (fun e=>hd' (by rw [← e]; exact (desc_some h).2.symm))]
theorem objs_setO_same (s:AK) (i:Nat) (o:AObj):(s.setO i o).objs i=o:=by
 show (if i=i then o else _)=_
 rw [if_pos rfl]
theorem objs_setO_ne (s:AK) {i j:Nat} (o:AObj) (h:j≠i):(s.setO i o).objs j=s.objs j:=by
 show (if j=i then o else _)=_
 rw [if_neg h]
theorem find_of {s:AK} {d way:Int} {x:AD} (h:s.desc d=some x) (hb:bitI x.fl way=way):s.find d way=0:=by
 unfold find
 rw [h]
 exact if_neg fun e=>e hb
theorem bit0 (n:Int):bitI n 0=0:=by
 unfold bitI
 have:BitVec.ofInt (IntKind.bits .i64) n &&& BitVec.ofInt (IntKind.bits .i64) 0=0#(IntKind.bits .i64):=by
  rw [show BitVec.ofInt (IntKind.bits .i64) 0=0#(IntKind.bits .i64) from rfl]
  exact BitVec.and_zero
 rw [this]
 rfl
theorem read_file {s:AK} {d n:Int} {x:AD} {bs:List Int} (h:s.desc d=some x) (ho:s.objs x.ob=.file bs) (hb:bitI x.fl 1=1) (h1:1≤n) (h2:n≤1048576) :
 s.read d n=if (metF s.ps n).2≠0 then ([],(metF s.ps n).2,s.met0) else
  (piece bs x.at_ (metF s.ps n).1,0,s.met0.setD d (x.at_+((piece bs x.at_ (metF s.ps n).1).length:Int)) x.hd):=by
 unfold read
 rw [if_neg (fun e=>e (find_of h hb)),if_neg (by omega),if_neg (by omega),h]
 dsimp only
 have hw:s.waits x=false:=by unfold waits; rw [ho]
 have ho':s.met0.objs x.ob=.file bs:=ho
 rw [hw,if_neg (by simp)]
 unfold rdO
 rw [ho',(desc_some h).2]
end AK
namespace AK
def empty (ps:List (Int × Int)):AK:=⟨[],[],fun _=>.file [],0,[],1,ps,0,0⟩
def withF:List (ByteArray × List Int)→AK→AK
 | [],s=>s
 | f :: r,s=>withF r (s.addF f.1 (.file f.2))
def withT:List (ByteArray × List (List Int))→AK→AK
 | [],s=>s
 | f :: r,s=>withT r (s.addT f.1 (.term f.2 []))
def new (fs:List (ByteArray × List Int)) (ts:List (ByteArray × List (List Int))) (ps:List (Int × Int)):AK:=withT ts (withF fs (empty ps))
theorem freshK_zero {seen:List ByteArray} {s:ByteArray}:freshK seen s=0↔namedS s=true∧s ∉ seen:=by
 unfold freshK
 cases hn:namedS s with
 | false=>simp
 | true=>
  rw [if_neg (by simp)]
  by_cases hm:s ∈ seen
  ·rw [if_pos hm]; simp [hm]
  ·rw [if_neg hm]; simp [hm]
theorem ckFs_zero:∀ {fs:List (ByteArray × List Int)} {seen:List ByteArray},(ckFs fs seen).1=0→seen.Nodup→
 (ckFs fs seen).2=seen ++ fs.map (·.1)∧(seen ++ fs.map (·.1)).Nodup∧∀ f ∈ fs,namedS f.1=true∧f.2.length≤1048576
 | [],seen,_,hn=>⟨by simp [ckFs],by simpa using hn,by simp⟩
 | f :: r,seen,h,hn=>by
  rw [ckFs_cons] at h ⊢
  by_cases h1:freshK seen f.1≠0
  ·rw [if_pos h1] at h; exact absurd h h1
  ·rw [if_neg h1] at h ⊢
   by_cases h2:1048576< f.2.length
   ·rw [if_pos h2] at h; cases h
   ·rw [if_neg h2] at h ⊢
    obtain ⟨hf1,hf2⟩:=freshK_zero.1 (Decidable.not_not.1 h1)
    obtain ⟨e1,e2,e3⟩:=ckFs_zero h (nodup_snoc hn hf2)
    refine ⟨by rw [e1]; simp,by simpa using e2,fun g hg=>?_⟩
    rcases List.mem_cons.1 hg with rfl | hg
    ·exact ⟨hf1,by omega⟩
    ·exact e3 g hg
theorem ckTs_zero:∀ {ts:List (ByteArray × List (List Int))} {seen:List ByteArray},(ckTs ts seen).1=0→seen.Nodup→
 (seen ++ ts.map (·.1)).Nodup∧∀ f ∈ ts,namedS f.1=true∧newT f.2=0
 | [],seen,_,hn=>⟨by simpa using hn,by simp⟩
 | f :: r,seen,h,hn=>by
  rw [ckTs_cons] at h
  by_cases h1:freshK seen f.1≠0
  ·rw [if_pos h1] at h; exact absurd h h1
  ·rw [if_neg h1] at h
   by_cases h2:newT f.2≠0
   ·rw [if_pos h2] at h; exact absurd h h2
   ·rw [if_neg h2] at h
    obtain ⟨hf1,hf2⟩:=freshK_zero.1 (Decidable.not_not.1 h1)
    obtain ⟨e2,e3⟩:=ckTs_zero h (nodup_snoc hn hf2)
    refine ⟨by simpa using e2,fun g hg=>?_⟩
    rcases List.mem_cons.1 hg with rfl | hg
    ·exact ⟨hf1,Decidable.not_not.1 h2⟩
    ·exact e3 g hg
structure CkOk (fs:List (ByteArray × List Int)) (ts:List (ByteArray × List (List Int))) (ps:List (Int × Int)):Prop where
 len:fs.length+ts.length≤256
 nd:(fs.map (·.1) ++ ts.map (·.1)).Nodup
 fs:∀ f ∈ fs,namedS f.1=true∧f.2.length≤1048576
 ts:∀ f ∈ ts,namedS f.1=true∧newT f.2=0
 pl:ps.length≤4096
 pm:∀ p ∈ ps,mayP p
 ck:ckF ps=0
theorem ckF_zero {ps:List (Int × Int)} (h:ckF ps=0):ps.length≤4096∧∀ p ∈ ps,mayP p:=by
 unfold ckF at h
 by_cases h1:4096< ps.length
 ·rw [if_pos h1] at h; cases h
 ·rw [if_neg h1] at h
  by_cases h2:badF ps=none
  ·refine ⟨by omega,fun p hp=>?_⟩
   unfold badF at h2
   rw [List.findIdx?_eq_none_iff] at h2
   have:=h2 p hp
   simpa using this
  ·rw [if_neg h2] at h; cases h
theorem check_zero {fs:List (ByteArray × List Int)} {ts:List (ByteArray × List (List Int))} {ps:List (Int × Int)} (h:checkK fs ts ps=0):CkOk fs ts ps:=by
 unfold checkK at h
 by_cases h1:256< fs.length+ts.length
 ·rw [if_pos h1] at h; cases h
 ·rw [if_neg h1] at h
  by_cases h2:(ckFs fs []).1≠0
  ·rw [if_pos h2] at h; exact absurd h h2
  ·rw [if_neg h2] at h
   have h2:=Decidable.not_not.1 h2
   by_cases h3:(ckTs ts (ckFs fs []).2).1≠0
   ·rw [if_pos h3] at h; exact absurd h h3
   ·rw [if_neg h3] at h
    have h3:=Decidable.not_not.1 h3
    obtain ⟨a1,a2,a3⟩:=ckFs_zero h2 (by simp)
    simp only [List.nil_append] at a1 a2
    rw [a1] at h3
    obtain ⟨b1,b2⟩:=ckTs_zero h3 a2
    obtain ⟨c1,c2⟩:=ckF_zero h
    exact ⟨by omega,b1,a3,b2,c1,c2,h⟩
theorem ok_empty {ps:List (Int × Int)} (h:ps.length≤4096) (hm:∀ p ∈ ps,mayP p):(empty ps).Ok where
 fi:=fun f hf=>by cases hf
 ti:=fun f hf=>by cases hf
 di:=fun f hf=>by cases hf
 fn:=by simp [empty]
 tn:=by simp [empty]
 ft:=fun f hf=>by cases hf
 fo:=by simp [empty]
 to:=by simp [empty]
 dn:=by simp [empty]
 nx:=by simp [empty]
 dl:=by simp [empty]
 fl:=by simp [empty]
 ps:=h
 pm:=hm
 c0:=by simp [empty]
 c1:=by simp [empty]
theorem withF_snoc:∀ (fs:List (ByteArray × List Int)) (f:ByteArray × List Int) (s:AK),withF (fs ++ [f]) s=(withF fs s).addF f.1 (.file f.2)
 | [],f,s=>rfl
 | g :: r,f,s=>withF_snoc r f _
theorem withT_snoc:∀ (fs:List (ByteArray × List (List Int))) (f:ByteArray × List (List Int)) (s:AK),withT (fs ++ [f]) s=(withT fs s).addT f.1 (.term f.2 [])
 | [],f,s=>rfl
 | g :: r,f,s=>withT_snoc r f _
theorem withF_names:∀ (fs:List (ByteArray × List Int)) (s:AK),(withF fs s).files.map (·.1)=s.files.map (·.1) ++ fs.map (·.1)∧(withF fs s).terms=s.terms∧(withF fs s).descs=s.descs∧(withF fs s).next=s.next∧(withF fs s).ps=s.ps∧(withF fs s).c0=s.c0∧(withF fs s).c1=s.c1
 | [],s=>⟨by simp [withF],rfl,rfl,rfl,rfl,rfl,rfl⟩
 | f :: r,s=>by
  obtain ⟨h1,h2⟩:=withF_names r (s.addF f.1 (.file f.2))
  refine ⟨?_,h2⟩
  show (withF r _).files.map (·.1)=_
  rw [h1]
  show (s.files ++ [(f.1,s.nob)]).map (·.1) ++ _=_
  simp
theorem withT_names:∀ (fs:List (ByteArray × List (List Int))) (s:AK),(withT fs s).terms.map (·.1)=s.terms.map (·.1) ++ fs.map (·.1)∧(withT fs s).files=s.files∧(withT fs s).descs=s.descs∧(withT fs s).next=s.next∧(withT fs s).ps=s.ps∧(withT fs s).c0=s.c0∧(withT fs s).c1=s.c1
 | [],s=>⟨by simp [withT],rfl,rfl,rfl,rfl,rfl,rfl⟩
 | f :: r,s=>by
  obtain ⟨h1,h2⟩:=withT_names r (s.addT f.1 (.term f.2 []))
  refine ⟨?_,h2⟩
  show (withT r _).terms.map (·.1)=_
  rw [h1]
  show (s.terms ++ [(f.1,s.nob)]).map (·.1) ++ _=_
  simp
end AK
namespace AK
def someN:Nat→AK→Int→Int→List Int × Int × AK
 | 0,s,d,n=>([],81,s)
 | k+1,s,d,n=>if (s.read d n).2.1=22∨(s.read d n).2.1=23 then someN k (s.read d n).2.2 d n else s.read d n
def rsome (s:AK) (d n:Int):List Int × Int × AK:=if n< 1∨n > 1048576 then ([],4,s) else someN 8192 s d n
structure FD (s:AK) (d:Int) (i:Nat) (bs:List Int) (fl:Int) (at_:Int):Prop where
 ex:∃ hd,s.desc d=some ⟨d,i,fl,at_,hd⟩
 ob:s.objs i=.file bs
 a0:0≤at_
theorem read_fd {s:AK} {d n:Int} {i:Nat} {bs:List Int} {fl at_:Int} (h:FD s d i bs fl at_) (hb:bitI fl 1=1) (h1:1≤n) (h2:n≤1048576) :
 ((metF s.ps n).2≠0→s.read d n=([],(metF s.ps n).2,s.met0))∧
 ((metF s.ps n).2=0→(s.read d n).1=piece bs at_ (metF s.ps n).1∧(s.read d n).2.1=0∧FD (s.read d n).2.2 d i bs fl (at_+((piece bs at_ (metF s.ps n).1).length:Int))∧(s.read d n).2.2.ps=s.ps.drop 1∧(s.read d n).2.2.c0=s.c0+1∧(s.read d n).2.2.c1=s.c1∧(s.read d n).2.2.next=s.next):=by
 obtain ⟨hd,hx⟩:=h.ex
 have:=read_file hx h.ob hb h1 h2
 constructor
 ·intro e; rw [this,if_pos e]
 ·intro e
  rw [this,if_neg (fun e'=>e' e)]
  have ha:=h.a0
  exact ⟨rfl,rfl,⟨⟨hd,desc_setD_same (s:=s.met0) hx⟩,h.ob,by omega⟩,rfl,rfl,rfl,rfl⟩
theorem someN_fd:∀ (k:Nat) {s:AK} {d n:Int} {i:Nat} {bs:List Int} {fl at_:Int},FD s d i bs fl at_→bitI fl 1=1→1≤n→n≤1048576→(∀ p ∈ s.ps,mayP p)→s.ps.length< k→
 ∃ m,1≤m∧m≤n∧(someN k s d n).1=piece bs at_ m∧(someN k s d n).2.1=0∧FD (someN k s d n).2.2 d i bs fl (at_+((piece bs at_ m).length:Int))∧(∀ p ∈ (someN k s d n).2.2.ps,mayP p)∧
  (someN k s d n).2.2.ps.length≤s.ps.length∧(someN k s d n).2.2.c0+((someN k s d n).2.2.ps.length:Int)≤s.c0+(s.ps.length:Int)+1∧(someN k s d n).2.2.c1=s.c1∧(someN k s d n).2.2.next=s.next
 | 0,s,d,n,i,bs,fl,at_,h,hb,h1,h2,hp,hk=>by omega
 | k+1,s,d,n,i,bs,fl,at_,h,hb,h1,h2,hp,hk=>by
  obtain ⟨r1,r2⟩:=read_fd h hb h1 h2
  have hdp:∀ p ∈ s.ps.drop 1,mayP p:=fun p hq=>hp p (List.mem_of_mem_drop hq)
  unfold someN
  rcases metF_ok hp h1 with ⟨e,g1,g2⟩ | ⟨_,e,hne⟩
  ·obtain ⟨q1,q2,q3,q4,q5,q6,q7⟩:=r2 e
   rw [if_neg (by rw [q2]; omega)]
   refine ⟨_,g1,g2,q1,q2,q3,by rw [q4]; exact hdp,by rw [q4,List.length_drop]; omega,?_,q6,q7⟩
   rw [q4,q5,List.length_drop]
   omega
  ·have hz:(metF s.ps n).2≠0:=by omega
   rw [r1 hz,if_pos e]
   dsimp only
   have hl:1≤s.ps.length:=by
    rcases List.eq_nil_or_concat s.ps with h | ⟨l,a,h⟩
    ·exact absurd h hne
    ·rw [h]; simp
   obtain ⟨hd,hx⟩:=h.ex
   have h':FD s.met0 d i bs fl at_:=⟨⟨hd,hx⟩,h.ob,h.a0⟩
   have hpl:s.met0.ps.length=s.ps.length - 1:=by show (s.ps.drop 1).length=_; rw [List.length_drop]
   obtain ⟨m,g1,g2,g3,g4,g5,g6,g7,g8,g9,g10⟩:=someN_fd k h' hb h1 h2 hdp (by omega)
   refine ⟨m,g1,g2,g3,g4,g5,g6,by omega,?_,g9,g10⟩
   have:s.met0.c0=s.c0+1:=rfl
   rw [this,hpl] at g8
   omega
theorem rsome_fd {s:AK} {d n:Int} {i:Nat} {bs:List Int} {fl at_:Int} (h:FD s d i bs fl at_) (hb:bitI fl 1=1) (h1:1≤n) (h2:n≤1048576) (hp:∀ p ∈ s.ps,mayP p) (hl:s.ps.length≤4096) :
 ∃ m,1≤m∧m≤n∧(s.rsome d n).1=piece bs at_ m∧(s.rsome d n).2.1=0∧FD (s.rsome d n).2.2 d i bs fl (at_+((piece bs at_ m).length:Int))∧(∀ p ∈ (s.rsome d n).2.2.ps,mayP p)∧
  (s.rsome d n).2.2.ps.length≤s.ps.length∧(s.rsome d n).2.2.c0+((s.rsome d n).2.2.ps.length:Int)≤s.c0+(s.ps.length:Int)+1∧(s.rsome d n).2.2.c1=s.c1∧(s.rsome d n).2.2.next=s.next:=by
 unfold rsome
 rw [if_neg (by omega)]
 exact someN_fd 8192 h hb h1 h2 hp (by omega)
end AK
namespace AK
theorem readT_len {n:Int} {LL:List (List Int)}:(readT n LL).2.1.length≤n.toNat:=by
 unfold readT
 split
 ·simp
 ·cases LL with
  | nil=>simp
  | cons x r=>show (x.take n.toNat).length≤_; rw [List.length_take]; omega
theorem readP_len {n:Int} {bs:List Int} {e0 e1:Nat}:(readP n bs e0 e1).1.length≤n.toNat:=by
 unfold readP
 split
 ·simp
 ·split
  ·simp
  ·split
   ·simp
   ·show (bs.take n.toNat).length≤_; rw [List.length_take]; omega
theorem rdO_len {s:AK} {x:AD} {m:Int}:(s.rdO x m).1.length≤m.toNat:=by
 unfold rdO
 cases s.objs x.ob with
 | file bs=>show (piece bs x.at_ m).length≤_; unfold piece; rw [List.length_take]; omega
 | term LL scr=>exact readT_len
 | pipe bs e0 e1=>exact readP_len
theorem rdO_cs {s:AK} {x:AD} {m:Int}:(s.rdO x m).2.c0=s.c0∧(s.rdO x m).2.c1=s.c1∧(s.rdO x m).2.next=s.next∧(s.rdO x m).2.ps=s.ps∧(s.rdO x m).2.files=s.files∧(s.rdO x m).2.terms=s.terms:=by
 unfold rdO
 cases s.objs x.ob with
 | file bs=>exact ⟨rfl,rfl,rfl,rfl,rfl,rfl⟩
 | term LL scr=>exact ⟨rfl,rfl,rfl,rfl,rfl,rfl⟩
 | pipe bs e0 e1=>exact ⟨rfl,rfl,rfl,rfl,rfl,rfl⟩
theorem read_cases (s:AK) (d n:Int):(∃ e,e≠0∧s.read d n=([],e,s))∨(s.read d n=([],0,s)∧n=0)∨
 (∃ x,s.desc d=some x∧bitI x.fl 1=1∧s.waits x=false∧1≤n∧n≤1048576∧((metF s.ps n).2≠0∧s.read d n=([],(metF s.ps n).2,s.met0)∨(metF s.ps n).2=0∧s.read d n=((s.met0.rdO x (metF s.ps n).1).1,0,(s.met0.rdO x (metF s.ps n).1).2))):=by
 unfold read
 by_cases h1:s.find d 1≠0
 ·rw [if_pos h1]; exact .inl ⟨_,h1,rfl⟩
 rw [if_neg h1]
 by_cases h2:n< 0∨n > 1048576
 ·rw [if_pos h2]; exact .inl ⟨4,by decide,rfl⟩
 rw [if_neg h2]
 by_cases h3:n=0
 ·rw [if_pos h3]; exact .inr (.inl ⟨rfl,h3⟩)
 rw [if_neg h3]
 obtain ⟨x,hx,hb⟩:=find_zero (Decidable.not_not.1 h1)
 rw [hx]
 dsimp only
 by_cases h4:s.waits x=true
 ·rw [if_pos h4]; exact .inl ⟨52,by decide,rfl⟩
 rw [if_neg h4]
 refine .inr (.inr ⟨x,rfl,hb,by simpa using h4,by omega,by omega,?_⟩)
 by_cases h5:(metF s.ps n).2≠0
 ·rw [if_pos h5]; exact .inl ⟨h5,rfl⟩
 ·rw [if_neg h5]; exact .inr ⟨Decidable.not_not.1 h5,rfl⟩
theorem read_err {s:AK} {d n:Int} (h:(s.read d n).2.1≠0):(s.read d n).1=[]:=by
 rcases read_cases s d n with ⟨e,he,hr⟩ | ⟨hr,_⟩ | ⟨x,_,_,_,_,_,⟨_,hr⟩ | ⟨_,hr⟩⟩
 ·rw [hr]
 ·rw [hr]
 ·rw [hr]
 ·rw [hr] at h; exact absurd rfl h
theorem metF_le {ps:List (Int × Int)} {n:Int} (h:0≤n):(metF ps n).1≤n:=by
 unfold metF
 cases ps with
 | nil=>exact Int.le_refl _
 | cons f r=>
  dsimp only
  split
  ·dsimp only; omega
  ·split
   ·exact h
   ·split
    ·exact h
    ·exact Int.le_refl _
theorem read_len {s:AK} {d n:Int} (h:0≤n):((s.read d n).1.length:Int)≤n:=by
 rcases read_cases s d n with ⟨e,he,hr⟩ | ⟨hr,_⟩ | ⟨x,_,_,_,h1,h2,⟨_,hr⟩ | ⟨_,hr⟩⟩
 ·rw [hr]; simpa using h
 ·rw [hr]; simpa using h
 ·rw [hr]; simpa using h
 ·rw [hr]
  have:=@rdO_len s.met0 x (metF s.ps n).1
  have:=@metF_le s.ps n h
  dsimp only
  omega
theorem read_cs (s:AK) (d n:Int):s.c0≤(s.read d n).2.2.c0∧(s.read d n).2.2.c0≤s.c0+1∧(s.read d n).2.2.c1=s.c1∧(s.read d n).2.2.next=s.next∧(s.read d n).2.2.files=s.files∧(s.read d n).2.2.terms=s.terms:=by
 rcases read_cases s d n with ⟨e,he,hr⟩ | ⟨hr,_⟩ | ⟨x,_,_,_,h1,h2,⟨_,hr⟩ | ⟨_,hr⟩⟩
 ·rw [hr]; exact ⟨Int.le_refl _,by dsimp only; omega,rfl,rfl,rfl,rfl⟩
 ·rw [hr]; exact ⟨Int.le_refl _,by dsimp only; omega,rfl,rfl,rfl,rfl⟩
 ·rw [hr]; exact ⟨by show s.c0≤s.c0+1; omega,by show s.c0+1≤s.c0+1; omega,rfl,rfl,rfl,rfl⟩
 ·rw [hr]
  obtain ⟨q1,q2,q3,q4,q5,q6⟩:=@rdO_cs s.met0 x (metF s.ps n).1
  have e0:s.met0.c0=s.c0+1:=rfl
  exact ⟨by dsimp only; omega,by dsimp only; omega,q2,q3,q5,q6⟩
end AK
theorem ext_getD' {xs ys:List Int} (hl:xs.length=ys.length) (h:∀ k,k< xs.length→xs.getD k 0=ys.getD k 0):xs=ys:=by
 apply List.ext_getElem hl
 intro i h1 h2
 have:=h i h1
 rw [List.getD_eq_getElem?_getD,List.getD_eq_getElem?_getD,List.getElem?_eq_getElem h1,List.getElem?_eq_getElem h2] at this
 simpa using this
namespace AK
theorem write_fd {s:AK} {d:Int} {i:Nat} {bs:List Int} {fl:Int} {at_:Nat} (h:FD s d i bs fl (at_:Int)) (hb:bitI fl 2=2) (h4:bitI fl 4=0) {ds:List Int} (h1:ds≠[]) (h2:ds.length≤1048576) (ha:at_< 1048576) (hps:∀ p ∈ s.ps,mayP p) :
 ((metF s.ps ds.length).2≠0→s.write d ds=(0,(metF s.ps ds.length).2,s.met1))∧
 ((metF s.ps ds.length).2=0→∃ m:Nat,(m:Int)=min (metF s.ps ds.length).1 (1048576 - (at_:Int))∧1≤m∧m≤ds.length∧∃ hd,s.desc d=some ⟨d,i,fl,(at_:Int),hd⟩∧
  s.write d ds=((m:Int),0,(s.met1.setO i (.file (lay bs at_ (ds.take m)))).setD d ((at_:Int)+(m:Int)) hd)):=by
 obtain ⟨hd,hx⟩:=h.ex
 have hl:1≤ds.length:=by
  cases ds with
  | nil=>exact absurd rfl h1
  | cons a r=>simp
 have hpl:placeF fl (at_:Int) bs=(at_:Int):=by unfold placeF; rw [if_neg (by rw [h4]; simp)]
 have hro:s.roomO ⟨d,i,fl,(at_:Int),hd⟩ ds.length=(min (ds.length:Int) (1048576 - (at_:Int)),0):=by
  unfold roomO
  rw [show s.objs i=.file bs from h.ob]
  show roomD (placeF fl (at_:Int) bs) ds.length=_
  rw [hpl]
  unfold roomD
  rw [if_pos (by omega)]
  congr 1
  unfold mn
  omega
 have hw:s.write d ds=if (metF s.ps ds.length).2≠0 then (0,(metF s.ps ds.length).2,s.met1) else
  ((s.met1.wrO ⟨d,i,fl,(at_:Int),hd⟩ ds (min (metF s.ps ds.length).1 (min (ds.length:Int) (1048576 - (at_:Int))))).1,0,(s.met1.wrO ⟨d,i,fl,(at_:Int),hd⟩ ds (min (metF s.ps ds.length).1 (min (ds.length:Int) (1048576 - (at_:Int))))).2):=by
  unfold write
  rw [if_neg (fun e=>e (find_of hx hb)),if_neg (by omega),if_neg (by omega),hx]
  dsimp only
  rw [hro,if_neg (by simp)]
 constructor
 ·intro e; rw [hw,if_pos e]
 ·intro e
  rw [if_neg (fun e'=>e' e)] at hw
  have hmet:1≤(metF s.ps ds.length).1∧(metF s.ps ds.length).1≤ds.length:=by
   rcases metF_ok hps (n:=(ds.length:Int)) (by omega) with ⟨_,g1,g2⟩ | ⟨_,g,_⟩
   ·exact ⟨g1,g2⟩
   ·omega
  obtain ⟨m,hm⟩:∃ m:Nat,(m:Int)=min (metF s.ps ds.length).1 (1048576 - (at_:Int)):=⟨(min (metF s.ps ds.length).1 (1048576 - (at_:Int))).toNat,by omega⟩
  refine ⟨m,hm,by omega,by omega,hd,hx,?_⟩
  rw [hw]
  have hmo:min (metF s.ps ds.length).1 (min (ds.length:Int) (1048576 - (at_:Int)))=(m:Int):=by omega
  rw [hmo]
  unfold wrO
  rw [show s.met1.objs i=.file bs from h.ob]
  dsimp only
  have hmin:min ds.length (Int.toNat (m:Int))=m:=by omega
  rw [hpl,hmin]
  have hwf:(writeF bs (at_:Int) (ds.take m)).2=lay bs at_ (ds.take m):=by
   unfold writeF
   have hlt:(ds.take m).length=m:=by rw [List.length_take]; omega
   rw [if_neg (by unfold okN; rw [decide_eq_true (by omega)]; simp),if_neg (by rw [hlt]; omega),if_neg (by rw [hlt]; omega),Int.toNat_natCast]
  rw [hwf]
theorem FD.of_write {s:AK} {d:Int} {i:Nat} {bs bs2:List Int} {fl:Int} {at_ m:Nat} {hd:Int} (hx:s.desc d=some ⟨d,i,fl,(at_:Int),hd⟩):FD ((s.met1.setO i (.file bs2)).setD d ((at_:Int)+(m:Int)) hd) d i bs2 fl ((at_+m:Nat):Int):=
 ⟨⟨hd,by rw [desc_setD_same (s:=s.met1.setO i (.file bs2)) hx,Int.natCast_add]⟩,objs_setO_same _ _ _,by omega⟩
end AK
theorem KStep.apart {w w':World} {L L':KL} (st:KStep w w' L L') {a:Option Addr} (ha:∀ z,inA a z→L.own z=none∧z< w.heap.size):∀ z,inA a z→L'.own z=none:=by
 intro z hz
 obtain ⟨h1,h2⟩:=ha z hz
 cases ho:L'.own z with
 | none=>rfl
 | some t=>
  exfalso
  rcases st.grew z (by rw [ho]; simp) with e | e
  ·exact e h1
  ·omega
theorem KStep.priv {w w1 w2:World} {L L1:KL} (h:KStep w w1 L L1) {S:Nat→Prop} (k:Kept S w1 w2) (hS:∀ x,S x→w.heap.size≤x):KStep w w2 L L1:=
 ⟨h.kept.trans k fun x hx e=>by have:=hS x e; omega,h.grew⟩
namespace AK
theorem wrO_cs {s:AK} {x:AD} {ds:List Int} {m:Int}:(s.wrO x ds m).2.c0=s.c0∧(s.wrO x ds m).2.c1=s.c1∧(s.wrO x ds m).2.next=s.next∧(s.wrO x ds m).2.ps=s.ps∧(s.wrO x ds m).2.files=s.files∧(s.wrO x ds m).2.terms=s.terms:=by
 unfold wrO
 cases s.objs x.ob with
 | file bs=>exact ⟨rfl,rfl,rfl,rfl,rfl,rfl⟩
 | term LL scr=>exact ⟨rfl,rfl,rfl,rfl,rfl,rfl⟩
 | pipe bs e0 e1=>exact ⟨rfl,rfl,rfl,rfl,rfl,rfl⟩
theorem write_cs (s:AK) (d:Int) (ds:List Int):(s.write d ds).2.2.c0=s.c0∧s.c1≤(s.write d ds).2.2.c1∧(s.write d ds).2.2.c1≤s.c1+1∧(s.write d ds).2.2.next=s.next∧(s.write d ds).2.2.files=s.files∧(s.write d ds).2.2.terms=s.terms:=by
 have same:s.c0=s.c0∧s.c1≤s.c1∧s.c1≤s.c1+1∧s.next=s.next∧s.files=s.files∧s.terms=s.terms:=⟨rfl,by omega,by omega,rfl,rfl,rfl⟩
 have met:s.met1.c0=s.c0∧s.c1≤s.met1.c1∧s.met1.c1≤s.c1+1∧s.met1.next=s.next∧s.met1.files=s.files∧s.met1.terms=s.terms:=⟨rfl,by show s.c1≤s.c1+1; omega,by show s.c1+1≤s.c1+1; omega,rfl,rfl,rfl⟩
 unfold write
 split
 ·exact same
 ·split
  ·exact same
  ·split
   ·exact same
   ·split
    ·exact same
    ·rename_i x _
     split
     ·exact same
     ·split
      ·exact met
      ·obtain ⟨q1,q2,q3,q4,q5,q6⟩:=@wrO_cs s.met1 x ds (min (metF s.ps ds.length).1 (s.roomO x ds.length).1)
       dsimp only
       rw [q1,q2,q3,q5,q6]
       exact met
end AK
end Go.Proofs.YteojolihgijdhaaGreatDoor
namespace Go.Lw
open Go.MapKept
abbrev kv (e:MapEntry):Value × Value:=(e.key,e.val)
def RngO (w:World) (b r:Nat) (d:TypeDesc) (m left:List (Value × Value)):Prop:=
 ∃ es clock since seen c0,w.heap[b]?=some (.map es clock)∧Stamped es clock∧(∀ x ∈ es.toList,IsKey d x.key)∧es.toList.map kv=m∧
  w.heap[r]?=some (.mapIter (some b) since seen c0)∧(∀ x ∈ es.toList,x.born< since)∧since≤c0∧since≤clock∧(leftOf es seen).toList.map kv=left
theorem RngO.map {w:World} {b r:Nat} {d:TypeDesc} {m left:List (Value × Value)} (h:RngO w b r d m left):MapO w b d m:=by
 obtain ⟨es,clock,since,seen,c0,hb,hs,hk,hm,_⟩:=h
 exact ⟨es,clock,hb,hs,hk,hm⟩
theorem RngO.lt {w:World} {b r:Nat} {d:TypeDesc} {m left:List (Value × Value)} (h:RngO w b r d m left):r< w.heap.size:=by
 obtain ⟨es,clock,since,seen,c0,hb,hs,hk,hm,hr,_⟩:=h
 exact (Array.getElem?_eq_some_iff.1 hr).1
theorem RngO.keep {w w':World} {b r:Nat} {d:TypeDesc} {m left:List (Value × Value)} (h:RngO w b r d m left) {S:Nat→Prop} (k:Kept S w w') (hb:¬ S b) (hr:¬ S r):RngO w' b r d m left:=by
 have hl:=h.map.lt
 have hl2:=h.lt
 obtain ⟨es,clock,since,seen,c0,h1,hs,hk,hm,h2,h⟩:=h
 exact ⟨es,clock,since,seen,c0,(k.block _ hl hb).trans h1,hs,hk,hm,(k.block _ hl2 hr).trans h2,h⟩
section
variable {P : Program} {w : World} {mty kt et : TypeId} {d : TypeDesc} {b r : Nat} {m left : List (Value × Value)}
theorem range_map (hm:P.underlying mty=some (.map kt et)) (h:MapO w b d m) :
 ∃ w',(Instr.range mty (.map (some b))).run P w=.ok (.pointer (some ⟨w.heap.size,0,none⟩)) w'∧RngO w' b w.heap.size d m m∧Kept No w w'∧w'.heap.size=w.heap.size+1:=by
 have hlt:=h.lt
 obtain ⟨es,clock,hb,hs,hks,rfl⟩:=h
 refine ⟨_,run_range_map w mty kt et b es clock hm hb,⟨es,clock,clock,#[],clock,((MapKept.heap_alloc w _).2 b hlt).trans hb,hs,hks,rfl,(MapKept.heap_alloc w _).1,hs.1,Nat.le_refl _,Nat.le_refl _,?_⟩,Kept.alloc _ _ _,by simp⟩
 unfold leftOf
 congr 2
 simp
theorem left_push (es:Array MapEntry) (seen:Array Nat) (k:Nat):(leftOf es (seen.push k)).toList=(leftOf es seen).toList.filter fun x=>!(x.born == k):=by
 unfold leftOf
 rw [Array.toList_filter,Array.toList_filter,List.filter_filter]
 congr 1
 funext x
 rw [Array.contains_push,Bool.not_or,Bool.and_comm]
theorem filter_one {l:List MapEntry} (hn:(l.map (·.born)).Nodup) {e:MapEntry} (he:e ∈ l):∃ l1 l2,l=l1 ++ e :: l2∧(l.filter fun x=>!(x.born == e.born))=l1 ++ l2:=by
 obtain ⟨l1,l2,rfl⟩:=List.append_of_mem he
 refine ⟨l1,l2,rfl,?_⟩
 rw [List.map_append,List.map_cons,List.nodup_append] at hn
 obtain ⟨h1,h2,h3⟩:=hn
 have h2:=List.nodup_cons.1 h2
 have e1:(l1.filter fun x=>!(x.born == e.born))=l1:=List.filter_eq_self.2 fun x hx=>by
  have:=h3 x.born (List.mem_map.2 ⟨x,hx,rfl⟩) e.born (by simp)
  simpa using this
 have e2:(l2.filter fun x=>!(x.born == e.born))=l2:=List.filter_eq_self.2 fun x hx=>by
  have:x.born≠e.born:=fun e'=>h2.1 (List.mem_map.2 ⟨x,hx,e'⟩)
  simpa using this
 rw [List.filter_append,e1,List.filter_cons_of_neg (by simp),e2]
theorem next_map (h:RngO w b r d m left) (ty:TypeId) :
 (left=[]∧(Instr.next (.pointer (some ⟨r,0,none⟩)) false ty).run P w=.ok (.tuple #[.bool false]) w)∨
 ∃ p l1 l2 w',left=l1 ++ p :: l2∧p ∈ m∧(Instr.next (.pointer (some ⟨r,0,none⟩)) false ty).run P w=.ok (.tuple #[.bool true,p.1,p.2]) w'∧RngO w' b r d m (l1 ++ l2)∧Kept (·=r) w w'∧w'.heap.size=w.heap.size∧
  (Instr.entry (.pointer (some ⟨r,0,none⟩))).run P w'=.ok (.tuple #[p.1,p.2]) w':=by
 obtain ⟨es,clock,since,seen,c0,hb,hs,hk,rfl,hr,hold,hsc,hsk,rfl⟩:=h
 have hne:b≠r:=fun e=>by rw [e,hr] at hb; cases hb
 rcases run_next_at (P:=P) w ty r b since c0 seen es clock hr hb hold hsc with ⟨h0,hrun⟩ | ⟨e,he,w1,hal,hrun⟩
 ·refine .inl ⟨?_,hrun⟩
  have:leftOf es seen=#[]:=Array.eq_empty_of_size_eq_zero h0
  rw [this]; rfl
 ·have hr1:w1.heap[r]?=some (.mapIter (some b) since seen c0):=by rcases hal with rfl | rfl <;> exact hr
  have hb1:w1.heap[b]?=some (.map es clock):=by rcases hal with rfl | rfl <;> exact hb
  have hset:=heap_set (o':=.mapIter (some b) since (seen.push e.born) clock) hr1
  have hmem:e ∈ es.toList:=by unfold leftOf at he; rw [Array.toList_filter] at he; exact (List.mem_filter.1 he).1
  have hnd:((leftOf es seen).toList.map (·.born)).Nodup:=by
   have:(leftOf es seen).toList.Sublist es.toList:=by unfold leftOf; rw [Array.toList_filter]; exact List.filter_sublist
   exact (this.map _).nodup hs.2.1
  obtain ⟨l1,l2,e1,e2⟩:=filter_one hnd he
  have hk1:Kept No w w1:=by
   rcases hal with rfl | rfl
   ·exact Kept.refl _ _
   ·exact Kept.drew _ _
  have hbset:=(hset.2 b hne).trans hb1
  refine .inr ⟨kv e,l1.map kv,l2.map kv,_,by rw [e1]; simp,List.mem_map.2 ⟨e,hmem,rfl⟩,hrun,⟨es,clock,since,seen.push e.born,clock,hbset,hs,hk,rfl,hset.1,hold,hsk,hsk,?_⟩,?_,?_,?_⟩
  ·rw [left_push,e2,List.map_append]
  ·exact ⟨hk1.os,hk1.tape,hk1.output,by simp [ChangeMaps.setBlock]; exact hk1.size,fun k hkl hkn=>(hset.2 k hkn).trans (hk1.block k hkl fun e=>e)⟩
  ·have:w1.heap.size=w.heap.size:=by rcases hal with rfl | rfl <;> rfl
   simp [ChangeMaps.setBlock,this]
  ·exact run_entry_at _ r b since seen es clock e hset.1 hbset hmem hs.2.1
end
end Go.Lw
namespace Go.Proofs.YteojolihgijdhaaGreatDoor
open Go.Lw Go.Sort
def Sv (ss:List ByteArray):List Value:=ss.map .string
theorem Sv_one (ss:List ByteArray):∀ u ∈ Sv ss,u.oneCell'=true:=by
 intro u hu; unfold Sv at hu; rw [List.mem_map] at hu; obtain ⟨n,_,rfl⟩:=hu; rfl
theorem Sv_len (ss:List ByteArray):(Sv ss).length=ss.length:=by unfold Sv; rw [List.length_map]
def dataL (ss:List ByteArray):List (List UInt8):=ss.map (·.data.toList)
def strL (ls:List (List UInt8)):List ByteArray:=ls.map fun x=>⟨x.toArray⟩
theorem strL_dataL (ss:List ByteArray):strL (dataL ss)=ss:=by
 unfold strL dataL
 rw [List.map_map]
 conv=>rhs; rw [← List.map_id ss]
 apply List.map_congr_left
 intro x _
 show (⟨x.data.toList.toArray⟩:ByteArray)=x
 rfl
def sortN (ss:List ByteArray):List ByteArray:=strL ((dataL ss).mergeSort leB)
theorem sortN_perm (ss:List ByteArray):(sortN ss).Perm ss:=by
 have:=(List.mergeSort_perm (dataL ss) leB).map fun x=>(⟨x.toArray⟩:ByteArray)
 unfold sortN
 have e:strL (dataL ss)=ss:=strL_dataL ss
 unfold strL at e ⊢
 rw [e] at this
 exact this
theorem sortN_of_perm {ss ts:List ByteArray} (h:ss.Perm ts):sortN ss=sortN ts:=by
 unfold sortN
 have h2:(dataL ss).Perm (dataL ts):=h.map _
 rw [mergeSort_of_perm h2]
theorem sortN_len (ss:List ByteArray):(sortN ss).length=ss.length:=(sortN_perm ss).length_eq
theorem sort_nil {w:World} {c:Nat}:CallR Tryz.prog 13 [.slice none 0 c] w fun v w'=>v=.tuple #[]∧w'=w:=by
 refine C13 ?_
 unfold L13
 have hlen:=lenBits 0 w (by omega)
 refine Calls.mono (hlen:Calls Tryz.prog 24 #[.int .u64 ((0:Nat):Int)] w _) ?_
 rintro e w1 ⟨rfl,rfl⟩
 refine ⟨_,rfl,_,rfl,C23 ?_⟩
 unfold L23
 refine ⟨fun vs w'=>w'=w1∧∃ n b1 b2,vs=[.int .i64 0,.int .i64 0,.int .i64 n,.bool b1,.bool b2],fun _ _=>0,⟨rfl,_,_,_,rfl⟩,?_⟩
 rintro _ n7 n8 n9 b10 b11 w2 ⟨rfl,n,b1,b2,hv⟩
 simp only [List.cons.injEq,Value.int.injEq,true_and,and_true] at hv
 obtain ⟨rfl,rfl,_⟩:=hv
 refine ⟨⟨by decide,by decide⟩,condTr2 (C58 ?_)⟩
 unfold L58
 refine ⟨⟨by decide,by decide⟩,fun vs w'=>w'=w2∧vs=[.int .i64 1],fun _ _=>0,⟨rfl,rfl⟩,?_⟩
 rintro _ n6 w3 ⟨rfl,hv⟩
 simp only [List.cons.injEq,Value.int.injEq,true_and,and_true] at hv
 subst hv
 exact condFa2 ⟨rfl,rfl,rfl,rfl⟩
theorem sort_ok {w:World} {a:Option Addr} {l c:Nat} {ss:List ByteArray} (h:SlO 1 w a l c (Sv ss)) (hl:l< 4611686018427387904) :
 CallR Tryz.prog 13 [.slice a l c] w fun v w'=>v=.tuple #[]∧RdS 1 w' a l c (Sv (sortN ss))∧Kept (inA a) w w':=by
 have hlen:ss.length=l:=by have:=h.1; rw [Sv_len] at this; omega
 rcases h.2 with ⟨rfl,rfl,rfl⟩ | ⟨g,off,cur,rfl,hb,hlc,hcs,htk⟩
 ·refine CallR.mono sort_nil ?_
  rintro v w' ⟨rfl,rfl⟩
  have:ss=[]:=List.eq_nil_of_length_eq_zero hlen
  subst this
  have e:sortN []=[]:=List.eq_nil_of_length_eq_zero (by rw [sortN_len]; rfl)
  rw [e]
  exact ⟨rfl,RdS.nil 1 _,Kept.refl _ _⟩
 ·have hdl:(dataL ss).length=l:=by unfold dataL; rw [List.length_map,hlen]
  have henc:∀ j,j< l→w.cell? ⟨g,off+j,none⟩=(Sv ss)[j]?:=fun j hj=>by
   rw [hb.cell,← htk,List.getElem?_take,if_pos (by omega),List.getElem?_drop]
   simp
  have hH:Holds encStr w g off (dataL ss).toArray:=by
   intro j hj
   have hj':j< ss.length:=by have:j< (dataL ss).length:=by simpa using hj
                             omega
   refine ⟨?_,hb.frozen _⟩
   rw [henc j (by omega)]
   unfold Sv dataL
   simp [hj']
  have hs:=sortStr g off c (dataL ss) w hH hb.lt (by omega)
  rw [hdl] at hs
  have hs:Calls Tryz.prog 13 #[.slice (some ⟨g,off,none⟩) l c] w _:=hs
  refine Calls.mono hs ?_
  rintro e w' ⟨rfl,n,os,rfl⟩
  have hml:((dataL ss).mergeSort fun x y=>decide (x≤y)).length=l:=by rw [List.length_mergeSort,hdl]
  have hms:Sv (sortN ss)=((dataL ss).mergeSort fun x y=>decide (x≤y)).map encStr:=by
   unfold Sv sortN strL
   rw [List.map_map]
   rfl
  generalize hT:((dataL ss).mergeSort fun x y=>decide (x≤y))=T at hml hms
  refine ⟨_,rfl,rfl,⟨by rw [hms,List.length_map,hml]; omega,hlc,(fun h=>by cases h),fun ad had i v hi=>?_⟩,?_⟩
  ·cases had
   rw [add_none]
   have hil:i< T.length:=by
    have:=(List.getElem?_eq_some_iff.1 hi).1
    rw [hms,List.length_map] at this; exact this
   rw [cell?_grow _ _ _ (by simpa using hb.lt),putRow_ahead,cell?_ahead,cell?_putRow encStr w g off (dataL ss).toArray T.toArray hH (by simp [hml,hdl]) i (by simpa using hil)]
   rw [hms] at hi
   rw [List.getElem?_map,List.getElem?_eq_getElem hil] at hi
   simp only [Option.map_some,Option.some.injEq] at hi
   rw [← hi]
   simp [hil]
  ·refine ⟨rfl,rfl,rfl,by simp,fun k hk hne=>?_⟩
   rw [heap_grow_old _ _ (by simpa using hk)]
   have:g≠k:=fun e=>hne ((inA_some _ _ _ _).2 e.symm)
   simp [putRow,mapBlock,Sort.ahead,Array.getElem?_modify,this]
def dataO:AObj→List Int
 | .file bs=>bs
 | _=>[]
def AK.bytesOf (s:AK) (nm:ByteArray):List Int:=match s.fileOf nm with
 | some f=>dataO (s.objs f.2)
 | none=>[]
def AK.filesV (s:AK):List (ByteArray × List Int):=(sortN (s.files.map (·.1))).map fun nm=>(nm,s.bytesOf nm)
theorem AK.fileOf_mem {s:AK} (h:s.Ok) {f:ByteArray × Nat} (hf:f ∈ s.files):s.fileOf f.1=some f:=by
 unfold AK.fileOf
 cases hd:s.files.find? (fun g=>decide (g.1=f.1)) with
 | none=>
  rw [List.find?_eq_none] at hd
  have:=hd f hf
  simp at this
 | some g=>
  have hg:=List.mem_of_find?_eq_some hd
  have hn:g.1=f.1:=by simpa using List.find?_some hd
  obtain ⟨i,hi,rfl⟩:=List.mem_iff_getElem.1 hf
  obtain ⟨j,hj,rfl⟩:=List.mem_iff_getElem.1 hg
  have:(s.files.map (·.1))[j]'(by simpa using hj)=(s.files.map (·.1))[i]'(by simpa using hi):=by rw [List.getElem_map,List.getElem_map]; exact hn
  have:=(List.getElem_inj h.fn).1 this
  subst this
  rfl
theorem AK.filesV_len (s:AK):s.filesV.length=s.files.length:=by
 unfold AK.filesV; rw [List.length_map,sortN_len,List.length_map]
end Go.Proofs.YteojolihgijdhaaGreatDoor
namespace Go.Proofs.YteojolihgijdhaaGreatDoor
open Go.Lw
theorem Nv_one' (es:List (ByteArray × Slc)):∀ u ∈ Nv es,u.oneCell'=true:=by
 intro u hu
 simp only [Nv,List.mem_flatMap,List.mem_cons,List.not_mem_nil,or_false] at hu
 obtain ⟨f,_,h | h⟩:=hu
 ·subst h; rfl
 ·subst h; rfl
theorem Nv_app' (a b:List (ByteArray × Slc)):Nv (a ++ b)=Nv a ++ Nv b:=by simp [Nv]
structure OwnN (w0 w:World) (a:Option Addr) (l c:Nat) (fs:List (ByteArray × List Int)) (es:List (ByteArray × Slc)):Prop where
 sl:SlO 2 w a l c (Nv es)
 len:es.length=fs.length
 each:∀ i,(h:i< es.length)→(h2:i< fs.length)→es[i].1=fs[i].1∧OB w es[i].2.1 es[i].2.2.1 es[i].2.2.2 fs[i].2
 fr:∀ b,inA a b→w0.heap.size≤b
 fe:∀ i,(h:i< es.length)→∀ b,inA es[i].2.1 b→w0.heap.size≤b∧¬ inA a b
 ap:∀ i j,(hi:i< es.length)→(hj:j< es.length)→i≠j→∀ b,inA es[i].2.1 b→¬ inA es[j].2.1 b
theorem OwnN.rd {w0 w:World} {a:Option Addr} {l c:Nat} {fs:List (ByteArray × List Int)} {es:List (ByteArray × Slc)} (h:OwnN w0 w a l c fs es):RdN RB w a l c fs es:=
 ⟨h.sl.rd,h.len,fun i h1 h2=>⟨(h.each i h1 h2).1,(h.each i h1 h2).2.rd⟩⟩
theorem OwnN.keep {w0 w w':World} {a:Option Addr} {l c:Nat} {fs:List (ByteArray × List Int)} {es:List (ByteArray × Slc)} (h:OwnN w0 w a l c fs es) {S:Nat→Prop} (k:Kept S w w') (hn:∀ b,w0.heap.size≤b→b< w.heap.size→¬ S b):OwnN w0 w' a l c fs es:=
 ⟨h.sl.keep k fun b hb=>hn b (h.fr b hb) (SlO.lt h.sl b hb),h.len,fun i h1 h2=>⟨(h.each i h1 h2).1,(h.each i h1 h2).2.keep k fun b hb=>hn b (h.fe i h1 b hb).1 (SlO.lt (h.each i h1 h2).2 b hb)⟩,h.fr,h.fe,h.ap⟩
theorem OwnN.no {w0 w w':World} {a:Option Addr} {l c:Nat} {fs:List (ByteArray × List Int)} {es:List (ByteArray × Slc)} (h:OwnN w0 w a l c fs es) (k:Kept No w w'):OwnN w0 w' a l c fs es:=h.keep k fun _ _ _ e=>e
theorem AK.mF_mem {s:AK} {L:KL} {f:ByteArray × Nat} (hf:f ∈ s.files):((.string f.1,pd (L.loc f.2)):Value × Value) ∈ s.mF L:=List.mem_map.2 ⟨f,hf,rfl⟩
set_option maxHeartbeats 2000000 in
theorem kernFiles_ok {w:World} {gk:Nat} {s:AK} {L:KL} (h:KernO w gk s L) :
 CallR Tryz.prog 49 [pd gk] w fun v w'=>∃ a l c es,v=.slice a l c∧OwnN w w' a l c s.filesV es∧Kept No w w':=by
 refine C49 ?_
 unfold L49
 have hTm:Tryz.prog.underlying 75=some (.map 9 84):=by kernel_rfl
 have hTs:Tryz.prog.underlying 9=some .string:=by kernel_rfl
 refine enone_to h ⟨false,rfl,condF rfl (nnI ⟨_,h.blk.at (i:=1) rfl,?_⟩)⟩
 obtain ⟨w2,hrun2,hr2,hk2,hz2⟩:=range_map (P:=Tryz.prog) hTm h.mf
 refine ⟨w2,hrun2,?_⟩
 have hfl:=h.ok.fl
 have hLF:=h.lt L.rf (by rw [h.oF]; simp)
 obtain ⟨I,hI⟩:∃ I:List Value→World→Prop,I=fun vs w'=>∃ (a:Option Addr) (c:Nat) (done:List ByteArray) (lf:List (ByteArray × Nat)),vs=[.slice a done.length c]∧RngO w' L.rf w.heap.size .string (s.mF L) (lf.map fun f=>(.string f.1,pd (L.loc f.2)))∧
  SlO 1 w' a done.length c (Sv done)∧(∀ b,inA a b→w.heap.size< b)∧(done ++ lf.map (·.1)).Perm (s.files.map (·.1))∧Kept No w w':=⟨_,rfl⟩
 obtain ⟨mu,hmu⟩:∃ mu:List Value→World→Nat,mu=fun vs _=>match vs with | [.slice _ l _]=>s.files.length - l | _=>0:=⟨_,rfl⟩
 refine ⟨I,mu,by rw [hI]; exact ⟨none,0,[],s.files,rfl,hr2,SlO.nil 1 _,fun b hb=>absurd hb (inA_none b),by simp,hk2⟩,?_⟩
 rintro _ a8 l8 c8 w3 hInv
 rw [hI] at hInv
 obtain ⟨a,c,done,lf,hvs,hr3,hs3,hf3,hp3,hk3⟩:=hInv
 simp only [List.cons.injEq,Value.slice.injEq,and_true] at hvs
 obtain ⟨rfl,rfl,rfl⟩:=hvs
 have hcount:done.length+lf.length=s.files.length:=by have:=hp3.length_eq; simpa using this
 rcases next_map (P:=Tryz.prog) hr3 0 with ⟨hl,hrun⟩ | ⟨p,l1,l2,w5,hl,hpm,hrun,hr5,hk5,hz5,hent⟩
 ·left
  have hlf:lf=[]:=List.map_eq_nil_iff.1 hl
  subst hlf
  have hp3:done.Perm (s.files.map (·.1)):=by simpa using hp3
  refine ⟨w3,hrun,CallR.mono (sort_ok hs3 (by omega)) ?_⟩
  rintro v w6 ⟨rfl,hrd6,hk6⟩
  rw [sortN_of_perm hp3] at hrd6
  have k6:Kept No w w6:=hk3.fresh hk6 fun x hx=>by have:=hf3 x hx; omega
  have h6:=h.no k6
  have hNl:(sortN (s.files.map (·.1))).length=done.length:=by rw [sortN_len,← hp3.length_eq]
  have hfv:s.filesV.length=done.length:=by rw [AK.filesV_len]; simpa using hcount.symm
  refine ⟨rfl,?_⟩
  obtain ⟨I2,hI2⟩:∃ I:List Value→World→Prop,I=fun vs w'=>∃ (i:Nat) (a':Option Addr) (c':Nat) (es:List (ByteArray × Slc)),vs=[.slice a' i c',.int .i64 (i:Int)]∧i≤done.length∧OwnN w6 w' a' i c' (s.filesV.take i) es∧Kept No w6 w':=⟨_,rfl⟩
  obtain ⟨mu2,hmu2⟩:∃ mu:List Value→World→Nat,mu=fun vs _=>match vs with | [_,.int _ i]=>done.length - i.toNat | _=>0:=⟨_,rfl⟩
  refine ⟨I2,mu2,by
   rw [hI2]
   exact ⟨0,none,0,[],rfl,Nat.zero_le _,⟨SlO.nil 2 _,by simp,fun i h1=>by simp at h1,fun b hb=>absurd hb (inA_none b),fun i h1=>by simp at h1,fun i j h1=>by simp at h1⟩,Kept.refl _ _⟩,?_⟩
  rintro _ a14 l14 c14 n15 w7 hInv
  rw [hI2] at hInv
  obtain ⟨i,a',c',es,hvs,hi,hO,hk7⟩:=hInv
  simp only [List.cons.injEq,Value.slice.injEq,Value.int.injEq,true_and,and_true] at hvs
  obtain ⟨⟨rfl,rfl,rfl⟩,rfl⟩:=hvs
  have hesl:es.length=l14:=by rw [hO.len,List.length_take]; omega
  refine condP (fun hlt=>?_) (fun hge=>?_)
  ·have hil:l14< done.length:=by omega
   have hN:l14< (sortN (s.files.map (·.1))).length:=by omega
   have hrd7:=hrd6.keep hk7 fun _ _ _ e=>e
   have h7:=h6.no hk7
   obtain ⟨q,hq⟩:∃ q,a8=some q:=by
    cases ha:a8 with
    | none=>have:=RdS.isNone hrd7 ha; omega
    | some q=>exact ⟨q,rfl⟩
   generalize hnm:(sortN (s.files.map (·.1)))[l14]=nm
   have hcell:=hrd7.2.2.2 q hq l14 (.string nm) (by unfold Sv; rw [List.getElem?_map,List.getElem?_eq_getElem hN,hnm]; rfl)
   obtain ⟨f,hf,hfn⟩:∃ f ∈ s.files,f.1=nm:=by
    have:nm ∈ s.files.map (·.1):=(sortN_perm _).mem_iff.1 (by rw [← hnm]; exact List.getElem_mem hN)
    obtain ⟨f,hf,e⟩:=List.mem_map.1 this
    exact ⟨f,hf,e⟩
   have hfo:=AK.fileOf_mem h.ok hf
   rw [hfn] at hfo
   have hfi:=h.ok.fi f hf
   obtain ⟨bs,hob⟩:∃ bs,s.objs f.2=.file bs:=by
    cases ho:s.objs f.2 with
    | file bs=>exact ⟨bs,rfl⟩
    | term LL scr=>have:=hfi.2; rw [ho] at this; cases this
    | pipe bs e0 e1=>have:=hfi.2; rw [ho] at this; cases this
   have hby:s.bytesOf nm=bs:=by unfold AK.bytesOf; rw [hfo]; dsimp only; rw [hob]; rfl
   have hfv1:s.filesV.take (l14+1)=s.filesV.take l14 ++ [(nm,bs)]:=by
    have hx:s.filesV[l14]?=some (nm,bs):=by
     unfold AK.filesV
     rw [List.getElem?_map,List.getElem?_eq_getElem hN,hnm]
     show some (nm,s.bytesOf nm)=_
     rw [hby]
    rw [List.take_add_one,hx]
    rfl
   have hF:=h7.ob f.2 hfi.1
   rw [hob] at hF
   have hF:FileO _ w7 (L.loc f.2) bs:=hF
   refine ⟨⟨by omega,by omega⟩,nnE2 hq ⟨nm,by rw [Int.toNat_natCast]; exact hcell,nnI ⟨_,h7.blk.at (i:=1) rfl,some ⟨L.loc f.2,0,none⟩,w7,?_,?_⟩⟩⟩
   ·have:=lookup_in (P:=Tryz.prog) hTm hTs h7.mf (k:=.string nm) trivial (by have:=AK.mF_mem (L:=L) hf; rw [hfn] at this; exact this) false
    exact this
   refine CallR.mono (bytes_ok hF) ?_
   rintro v w9 ⟨a21,c21,rfl,ob9,hf9,hk9⟩
   refine ⟨_,_,_,rfl,?_⟩
   intro w10
   have hk10:Kept No w9 w10:=Kept.alloc _ _ _
   have hz10:w10.heap.size=w9.heap.size+1:=by simp [w10]
   have hnew:SlO 2 w10 (some ⟨w9.heap.size,0,none⟩) 1 1 (Nv [(nm,(a21,bs.length,c21))]):=SlO.of_blk (sz:=2) (n:=1) (Blk.alloc w9 #[.string nm,.slice a21 bs.length c21] _) rfl
   clear_value w10
   have k710:=hk9.no hk10
   have hO10:=hO.no k710
   obtain ⟨a23,c23,w11,hrun11,hs11,hk11,hat,_⟩:=run_app_sl (P:=Tryz.prog) (t:=29) (t2:=29) (ty:=29) (by kernel_rfl:slTyB Tryz.prog 29 2 40=true) (by kernel_rfl) hO10.sl hnew.rd (Nv_one' _) (by omega) (by omega)
   rw [← Nv_app'] at hs11
   have hob10:=ob9.keep hk10 fun _ _ e=>e
   have hlt9:=SlO.lt ob9
   have hltA:=SlO.lt hO.sl
   have hz7:=hk7.size
   have hz9:=hk9.size
   have hz11:=hk11.size
   have hin23:∀ b,inA a23 b→inA a14 b∨b=w10.heap.size:=fun b hb=>hat.in hb
   refine ⟨a23,_,c23,w11,hrun11,⟨by omega,by omega⟩,by
    rw [hI2]
    refine ⟨l14+1,a23,c23,es ++ [(nm,(a21,bs.length,c21))],rfl,by omega,⟨hs11,by rw [hfv1,List.length_append,List.length_append,hO.len]; rfl,fun j h1 h2=>?_,fun b hb=>?_,fun j h1 b hb=>?_,fun j k h1 h2 hjk b hb hb2=>?_⟩,(hk7.no k710).fresh hk11 fun x hx=>hO.fr x hx⟩
    ·by_cases hj:j< es.length
     ·have hj2:j< (s.filesV.take l14).length:=by rw [← hO.len]; exact hj
      have e1:(s.filesV.take (l14+1))[j]=(s.filesV.take l14)[j]:=by
       simp only [hfv1]
       rw [List.getElem_append_left hj2]
      rw [List.getElem_append_left hj,e1]
      obtain ⟨g1,g2⟩:=hO10.each j hj hj2
      exact ⟨g1,g2.keep hk11 fun b hb e=>(hO.fe j hj b hb).2 e⟩
     ·have hje:j=l14:=by simp at h1; omega
      subst hje
      have e1:(s.filesV.take (j+1))[j]=(nm,bs):=by
       simp only [hfv1]
       rw [List.getElem_append_right (by rw [← hO.len]; omega)]
       simp [← hO.len,hesl]
      rw [List.getElem_append_right (by omega),e1]
      simp only [hesl,Nat.sub_self,List.getElem_cons_zero]
      exact ⟨trivial,hob10.keep hk11 fun b hb e=>by have:=hf9 b hb; have:=hltA b e; omega⟩
    ·rcases hin23 b hb with e | e
     ·exact hO.fr b e
     ·omega
    ·by_cases hj:j< es.length
     ·rw [List.getElem_append_left hj] at hb
      obtain ⟨g1,g2⟩:=hO.fe j hj b hb
      refine ⟨g1,fun e=>?_⟩
      rcases hin23 b e with e | e
      ·exact g2 e
      ·have hj2:j< (s.filesV.take l14).length:=by rw [← hO.len]; exact hj
       have:=SlO.lt (hO.each j hj hj2).2 b hb
       omega
     ·have hje:j=l14:=by simp at h1; omega
      subst hje
      rw [List.getElem_append_right (by omega)] at hb
      simp only [hesl,Nat.sub_self,List.getElem_cons_zero] at hb
      have:=hf9 b hb
      refine ⟨by omega,fun e=>?_⟩
      rcases hin23 b e with e | e
      ·have:=hltA b e; omega
      ·have:=hlt9 b hb; omega
    ·have old:∀ {m:Nat} (hm:m< es.length),inA es[m].2.1 b→b< w7.heap.size:=fun {m} hm hb=>by
      have hm2:m< (s.filesV.take l14).length:=by rw [← hO.len]; exact hm
      exact SlO.lt (hO.each m hm hm2).2 b hb
     by_cases hj:j< es.length
     ·by_cases hk:k< es.length
      ·rw [List.getElem_append_left hj] at hb
       rw [List.getElem_append_left hk] at hb2
       exact hO.ap j k hj hk hjk b hb hb2
      ·have hke:k=l14:=by simp at h2; omega
       subst hke
       rw [List.getElem_append_left hj] at hb
       rw [List.getElem_append_right (by omega)] at hb2
       simp only [hesl,Nat.sub_self,List.getElem_cons_zero] at hb2
       have:=old hj hb
       have:=hf9 b hb2
       omega
     ·have hje:j=l14:=by simp at h1; omega
      by_cases hk:k< es.length
      ·subst hje
       rw [List.getElem_append_left hk] at hb2
       rw [List.getElem_append_right (by omega)] at hb
       simp only [hesl,Nat.sub_self,List.getElem_cons_zero] at hb
       have:=old hk hb2
       have:=hf9 b hb
       omega
      ·have hke:k=l14:=by simp at h2; omega
       omega,?_⟩
   rw [hmu2]
   show done.length - ((l14:Int)+1).toNat< done.length - (l14:Int).toNat
   omega
  ·have hle:l14=done.length:=by omega
   have htk:s.filesV.take l14=s.filesV:=List.take_of_length_le (by omega)
   rw [htk] at hO
   refine ⟨_,_,_,es,rfl,⟨hO.sl,hO.len,hO.each,fun b hb=>?_,fun j h1 b hb=>?_,hO.ap⟩,k6.no hk7⟩
   ·have:=hO.fr b hb; have:=k6.size; omega
   ·obtain ⟨g1,g2⟩:=hO.fe j h1 b hb
    exact ⟨by have:=k6.size; omega,g2⟩
 ·right
  obtain ⟨lf1,f,lf2,rfl,e1,rfl,e2⟩:∃ lf1 f lf2,lf=lf1 ++ f :: lf2∧l1=lf1.map (fun f=>((.string f.1,pd (L.loc f.2)):Value × Value))∧p=(.string f.1,pd (L.loc f.2))∧l2=lf2.map (fun f=>((.string f.1,pd (L.loc f.2)):Value × Value)):=by
   obtain ⟨x1,x2,e1,e2,e3⟩:=List.map_eq_append_iff.1 hl
   obtain ⟨f,x3,e4,e5,e6⟩:=List.map_eq_cons_iff.1 e3
   exact ⟨x1,f,x3,by rw [e1,e4],e2.symm,e5.symm,e6.symm⟩
  rw [e1,e2,← List.map_append] at hr5
  refine ⟨_,_,w5,hrun,.inl ⟨f.1,_,w5,hent,?_⟩⟩
  intro w13
  have hk13:Kept No w5 w13:=Kept.alloc _ _ _
  have hz13:w13.heap.size=w5.heap.size+1:=by simp [w13]
  have hnew:SlO 1 w13 (some ⟨w5.heap.size,0,none⟩) 1 1 (Sv [f.1]):=SlO.of_blk (sz:=1) (n:=1) (Blk.alloc w5 #[.string f.1] _) rfl
  clear_value w13
  have hit:w.heap.size< w3.heap.size:=hr3.lt
  have hs13:=(hs3.keep hk5 fun b hb e=>by have:=hf3 b hb; omega).keep hk13 fun _ _ e=>e
  obtain ⟨a26,c26,w14,hrun14,hs14,hk14,hat,_⟩:=run_app_sl (P:=Tryz.prog) (t:=61) (t2:=61) (ty:=61) (by kernel_rfl:slTyB Tryz.prog 61 1 16=true) (by kernel_rfl) hs13 hnew.rd (Sv_one _) (by omega) (by omega)
  have hsv:Sv done ++ Sv [f.1]=Sv (done ++ [f.1]):=by simp [Sv]
  rw [hsv] at hs14
  have hdl:done.length+1=(done ++ [f.1]).length:=by simp
  have hin26:∀ b,inA a26 b→w.heap.size< b:=fun b hb=>by
   rcases hat.in hb with e | e
   ·exact hf3 b e
   ·omega
  have k5:Kept No w w5:=hk3.fresh hk5 fun x e=>by omega
  refine ⟨a26,_,c26,w14,hrun14,?_,?_⟩
  ·rw [hI,hdl]
   refine ⟨a26,c26,done ++ [f.1],lf1 ++ lf2,rfl,(hr5.keep hk13 (fun e=>e) fun e=>e).keep hk14 (fun e=>?_) fun e=>?_,by rw [← hdl]; exact hs14,hin26,?_,(k5.no hk13).fresh hk14 fun x e=>by have:=hf3 x e; omega⟩
   ·have:=hf3 _ e; omega
   ·have:=hf3 _ e; omega
   ·refine List.Perm.trans ?_ hp3
    simp only [List.map_append,List.map_cons,List.append_assoc,List.singleton_append]
    refine List.Perm.append_left _ ?_
    exact (List.perm_middle (l₁:=lf1.map (·.1))).symm
  ·rw [hmu]
   show s.files.length - (done.length+1)< s.files.length - done.length
   have:(lf1 ++ f :: lf2).length=lf1.length+(lf2.length+1):=by simp
   omega
theorem hseek_ok {w:World} {gk:Nat} {s:AK} {L:KL} (h:KernO w gk s L) (d off wh:Int) :
 CallR Tryz.prog 154 [.agg #[pd gk,.int .i64 d],.int .i64 off,.int .i64 wh] w fun v w'=>v=.tuple #[.int .i64 (s.seek d off wh).1,.int .i64 (s.seek d off wh).2.1]∧∃ L',KernO w' gk (s.seek d off wh).2.2 L'∧KStep w w' L L':=by
 refine C154 ?_
 unfold L154
 intro w1
 have hb1:Blk w1 w.heap.size #[pd gk,.int .i64 d]:=Blk.alloc _ _ _
 have hk1:Kept No w w1:=Kept.alloc _ _ _
 clear_value w1
 refine ⟨_,(hb1.cell 0).trans rfl,_,(hb1.cell 1).trans rfl,CallR.mono (kernSeek_ok (h.no hk1) d off wh) ?_⟩
 rintro v w2 ⟨rfl,L',h2,st⟩
 exact ⟨_,_,rfl,rfl,L',h2,st.fresh hk1⟩
theorem OwnN.len_eq {w0 w:World} {a:Option Addr} {l c:Nat} {fs:List (ByteArray × List Int)} {es:List (ByteArray × Slc)} (h:OwnN w0 w a l c fs es):l=fs.length:=by
 have:=h.rd.rd.1; rw [Nv_len,h.len] at this; omega
structure Two (W w:World) (gk gm:Nat) (s r:AK) (L M:KL):Prop where
 hk:KernO w gk s L
 hm:KernO w gm r M
 ap:∀ z,L.own z≠none→M.own z=none
 nk:∀ z,L.own z≠none→W.heap.size≤z
 nm:∀ z,M.own z≠none→W.heap.size≤z
 kp:Kept No W w
theorem Two.no {W w w':World} {gk gm:Nat} {s r:AK} {L M:KL} (h:Two W w gk gm s r L M) (k:Kept No w w'):Two W w' gk gm s r L M:=⟨h.hk.no k,h.hm.no k,h.ap,h.nk,h.nm,h.kp.no k⟩
theorem Two.first {W w w':World} {gk gm:Nat} {s r s':AK} {L M L':KL} (h:Two W w gk gm s r L M) (hK:KernO w' gk s' L') (st:KStep w w' L L'):Two W w' gk gm s' r L' M where
 hk:=hK
 hm:=h.hm.keep st.kept fun x hx=>h.ap x hx
 ap:=fun z hz=>by
  rcases st.grew z hz with e | e
  ·exact h.ap z e
  ·cases ho:M.own z with
   | none=>rfl
   | some t=>have:=h.hm.lt z (by rw [ho]; simp); omega
 nk:=fun z hz=>by
  rcases st.grew z hz with e | e
  ·exact h.nk z e
  ·have:=h.kp.size; omega
 nm:=h.nm
 kp:=h.kp.trans st.kept fun y hy e=>by have:=h.nk y e; omega
theorem Two.old {W w:World} {gk gm:Nat} {s r:AK} {L M:KL} (h:Two W w gk gm s r L M) {z:Nat} (hz:z< W.heap.size):L.own z=none∧M.own z=none:=by
 constructor
 ·cases ho:L.own z with
  | none=>rfl
  | some t=>have:=h.nk z (by rw [ho]; simp); omega
 ·cases ho:M.own z with
  | none=>rfl
  | some t=>have:=h.nm z (by rw [ho]; simp); omega
end Go.Proofs.YteojolihgijdhaaGreatDoor
