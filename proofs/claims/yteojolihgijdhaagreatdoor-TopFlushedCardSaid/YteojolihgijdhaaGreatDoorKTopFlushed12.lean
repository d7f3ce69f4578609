/- Part 12 of 21 of the proof of TopFlushed. Conditions: the theorem's: none. -/
import Derived.Test.YteojolihgijdhaaGreatDoorKTopFlushed11
set_option linter.unusedVariables false
set_option maxRecDepth 512
namespace Go.Proofs.YteojolihgijdhaaGreatDoor
open Go.Lw
theorem nnE2 {p:Option Addr} {q:Addr} {K:Addr→Prop} (h:p=some q) (hk:K q):nn p K:=by subst h; exact hk
def Nv (es:List (ByteArray × Slc)):List Value:=es.flatMap fun e=>[.string e.1,.slice e.2.1 e.2.2.1 e.2.2.2]
theorem Nv_len:∀ es:List (ByteArray × Slc),(Nv es).length=es.length * 2
 | []=>rfl
 | f :: r=>by
  have:=Nv_len r
  show (_ :: _ :: Nv r).length=_
  simp only [List.length_cons,this]
  omega
theorem Nv_at:∀ {es:List (ByteArray × Slc)} {i:Nat} (h:i< es.length),(Nv es)[i * 2]?=some (.string es[i].1)∧(Nv es)[i * 2+1]?=some (.slice es[i].2.1 es[i].2.2.1 es[i].2.2.2)
 | [],i,h=>by simp at h
 | f :: r,0,h=>⟨rfl,rfl⟩
 | f :: r,i+1,h=>by
  have:=Nv_at (es:=r) (i:=i) (by simpa using h)
  rw [show (i+1) * 2=i * 2+2 by omega]
  exact this
structure RdN {α:Type} (R:World→Slc→α→Prop) (w:World) (a:Option Addr) (l c:Nat) (fs:List (ByteArray × α)) (es:List (ByteArray × Slc)):Prop where
 rd:RdS 2 w a l c (Nv es)
 len:es.length=fs.length
 each:∀ i,(h:i< es.length)→(h2:i< fs.length)→es[i].1=fs[i].1∧R w es[i].2 fs[i].2
theorem RdN.no {α:Type} {R:World→Slc→α→Prop} (hR:∀ w w' s x,R w s x→Kept No w w'→R w' s x) {w w':World} {a:Option Addr} {l c:Nat} {fs:List (ByteArray × α)} {es:List (ByteArray × Slc)} (h:RdN R w a l c fs es) (k:Kept No w w'):RdN R w' a l c fs es:=
 ⟨h.rd.keep k fun _ _ _ e=>e,h.len,fun i h1 h2=>⟨(h.each i h1 h2).1,hR _ _ _ _ (h.each i h1 h2).2 k⟩⟩
theorem RdN.at {α:Type} {R:World→Slc→α→Prop} {w:World} {a:Option Addr} {l c:Nat} {fs:List (ByteArray × α)} {es:List (ByteArray × Slc)} (h:RdN R w a l c fs es) {i:Nat} (hi:i< fs.length) :
 ∃ q s,a=some q∧w.cell? (q.add (i * 2))=some (.string fs[i].1)∧w.cell? ((q.add (i * 2)).add 1)=some (.slice s.1 s.2.1 s.2.2)∧R w s fs[i].2∧i< l:=by
 have he:i< es.length:=by rw [h.len]; exact hi
 obtain ⟨e1,e2⟩:=Nv_at he
 have hl:es.length=l:=by have:=h.rd.1; rw [Nv_len] at this; omega
 cases ha:a with
 | none=>have:=RdS.isNone h.rd ha; omega
 | some q=>
  refine ⟨q,es[i].2,rfl,?_,?_,(h.each i he hi).2,by omega⟩
  ·rw [← (h.each i he hi).1]; exact h.rd.2.2.2 q ha _ _ e1
  ·rw [Lw.add_add]; exact h.rd.2.2.2 q ha _ _ e2
def RB (w:World) (s:Slc) (bs:List Int):Prop:=RdB w s.1 s.2.1 s.2.2 bs
def RL (w:World) (s:Slc) (LL:List (List Int)):Prop:=RdL (fun _=>True) w s.1 s.2.1 s.2.2 LL∧∀ x ∈ LL,x.length≤140737488355328
def ckFs:List (ByteArray × List Int)→List ByteArray→Int × List ByteArray
 | [],seen=>(0,seen)
 | f :: r,seen=>if freshK seen f.1≠0 then (freshK seen f.1,seen) else if 1048576< f.2.length then (5,seen ++ [f.1]) else ckFs r (seen ++ [f.1])
def ckTs:List (ByteArray × List (List Int))→List ByteArray→Int × List ByteArray
 | [],seen=>(0,seen)
 | f :: r,seen=>if freshK seen f.1≠0 then (freshK seen f.1,seen) else if newT f.2≠0 then (newT f.2,seen ++ [f.1]) else ckTs r (seen ++ [f.1])
def checkK (fs:List (ByteArray × List Int)) (ts:List (ByteArray × List (List Int))) (ps:List (Int × Int)):Int:=
 if 256< fs.length+ts.length then 3 else if (ckFs fs []).1≠0 then (ckFs fs []).1 else if (ckTs ts (ckFs fs []).2).1≠0 then (ckTs ts (ckFs fs []).2).1 else ckF ps
theorem ckFs_cons {f:ByteArray × List Int} {r:List (ByteArray × List Int)} {seen:List ByteArray}:ckFs (f :: r) seen=if freshK seen f.1≠0 then (freshK seen f.1,seen) else if 1048576< f.2.length then (5,seen ++ [f.1]) else ckFs r (seen ++ [f.1]):=rfl
theorem ckTs_cons {f:ByteArray × List (List Int)} {r:List (ByteArray × List (List Int))} {seen:List ByteArray}:ckTs (f :: r) seen=if freshK seen f.1≠0 then (freshK seen f.1,seen) else if newT f.2≠0 then (newT f.2,seen ++ [f.1]) else ckTs r (seen ++ [f.1]):=rfl
theorem RB.no {w w':World} {s:Slc} {bs:List Int} (h:RB w s bs) (k:Kept No w w'):RB w' s bs:=RdB.keep h k fun _ _ _ e=>e
theorem RL.no {w w':World} {s:Slc} {LL:List (List Int)} (h:RL w s LL) (k:Kept No w w'):RL w' s LL:=⟨RdL.keep h.1 k fun _ _ e=>e,h.2⟩
theorem newPair {w:World} {e:TypeId} {v0 v1 u0 u1:Value} {K:World→Prop} (hk:∀ w',Blk w' w.heap.size #[v0,v1]→Kept No w w'→w.heap.size< w'.heap.size→K w') :
 stC (Addr.mk w.heap.size 0 none) v0 (w.alloc (.cells #[u0,u1] e)) fun w1=>stC (Addr.mk w.heap.size 1 none) v1 w1 K:=by
 have hb:Blk (w.alloc (.cells #[u0,u1] e)) w.heap.size #[u0,u1]:=Blk.alloc _ _ _
 have hk1:Kept No w (w.alloc (.cells #[u0,u1] e)):=Kept.alloc _ _ _
 refine stC_blk hb (by simp) fun w2 h2 k2 s2=>stC_blk h2 (by simp) fun w3 h3 k3 s3=>?_
 have h3':Blk w3 w.heap.size #[v0,v1]:=by simpa using h3
 exact hk w3 h3' ((hk1.fresh k2 (fun x e=>by omega)).fresh k3 (fun x e=>by omega)) h3'.lt
set_option maxHeartbeats 1000000 in
theorem kcheck_ok {w:World} {af:Option Addr} {lf cf:Nat} {fs:List (ByteArray × List Int)} {ef:List (ByteArray × Slc)} (hf:RdN RB w af lf cf fs ef) {at_:Option Addr} {lt ct:Nat} {ts:List (ByteArray × List (List Int))} {et:List (ByteArray × Slc)} (ht:RdN RL w at_ lt ct ts et)
 {ap:Option Addr} {lp cp:Nat} {ps:List (Int × Int)} (hp:RdS 2 w ap lp cp (Fv ps)) (hlf:lf≤140737488355328) (hlt:lt≤140737488355328) :
 CallR Tryz.prog 19 [.agg #[.slice af lf cf,.slice at_ lt ct,.slice ap lp cp]] w fun v w'=>v=.int .i64 (checkK fs ts ps)∧Kept No w w':=by
 refine C19 ?_
 unfold L19
 have hfl:fs.length=lf:=by have:=hf.rd.1; rw [Nv_len,hf.len] at this; omega
 have htl:ts.length=lt:=by have:=ht.rd.1; rw [Nv_len,ht.len] at this; omega
 intro w1
 have hb1:Blk w1 w.heap.size #[.slice af lf cf,.slice at_ lt ct,.slice ap lp cp]:=Blk.alloc _ _ _
 have hk1:Kept No w w1:=Kept.alloc _ _ _
 clear_value w1
 refine ⟨_,_,_,(hb1.cell 0).trans rfl,_,_,_,(hb1.cell 1).trans rfl,⟨by omega,by omega⟩,condP (fun hgt=>⟨by unfold checkK; rw [if_pos (by omega)],hk1⟩) (fun hle=>?_)⟩
 intro w2 w3
 have hm2:MapO w2 w1.heap.size .string (seenM []):=MapO.new w1 _
 have hk2:Kept No w1 w2:=Kept.alloc _ _ _
 clear_value w2
 have hbS:Blk w3 w2.heap.size #[.map none]:=Blk.alloc _ _ _
 have hk3:Kept No w2 w3:=Kept.alloc _ _ _
 clear_value w3
 have hz1:=hb1.lt
 have hz2:=hm2.lt
 have hz3:=hbS.lt
 refine stC_blk hbS (by simp) fun w4 hbS4 hk4 _=>?_
 have hbS4:Blk w4 w2.heap.size #[.map (some w1.heap.size)]:=by simpa using hbS4
 have hm4:MapO w4 w1.heap.size .string (seenM []):=(hm2.keep hk3 fun e=>e).keep hk4 (by omega)
 have hb4:Blk w4 w.heap.size #[.slice af lf cf,.slice at_ lt ct,.slice ap lp cp]:=((hb1.keep hk2 fun e=>e).keep hk3 fun e=>e).keep hk4 (by omega)
 have k4:Kept No w w4:=((hk1.no hk2).no hk3).fresh hk4 (fun x e=>by omega)
 have hgr:w2.heap.size≠w1.heap.size:=by omega
 have nok:checkK fs ts ps=if (ckFs fs []).1≠0 then (ckFs fs []).1 else if (ckTs ts (ckFs fs []).2).1≠0 then (ckTs ts (ckFs fs []).2).1 else ckF ps:=by unfold checkK; rw [if_neg (by omega)]
 rw [nok]
 refine ⟨_,_,_,(hb4.cell 0).trans rfl,?_⟩
 refine ⟨fun vs w'=>∃ (i:Nat) (seen:List ByteArray),vs=[.int .i64 (i:Int)]∧i≤lf∧ckFs fs []=ckFs (fs.drop i) seen∧MapO w' w1.heap.size .string (seenM seen)∧Blk w' w2.heap.size #[.map (some w1.heap.size)]∧Blk w' w.heap.size #[.slice af lf cf,.slice at_ lt ct,.slice ap lp cp]∧Kept No w w'∧w4.heap.size≤w'.heap.size,
  fun vs _=>lf - ix vs,⟨0,[],rfl,by omega,rfl,hm4,hbS4,hb4,k4,Nat.le_refl _⟩,?_⟩
 intro _ n9 w5 hI
 obtain ⟨i,seen,hvs,hi,hck,hm5,hbS5,hb5,k5,hz5⟩:=hI
 simp only [List.cons.injEq,Value.int.injEq,true_and,and_true] at hvs
 subst hvs
 have hz4:w3.heap.size≤w4.heap.size:=hk4.size
 refine condP (fun hlt=>?_) (fun hge=>?_)
 ·have hi':i< fs.length:=by omega
  obtain ⟨q,sl,haq,e1,e2,hR,_⟩:=(hf.no (fun _ _ _ _ h k=>h.no k) k5).at hi'
  rw [List.drop_eq_getElem_cons hi',ckFs_cons] at hck
  refine ⟨⟨by omega,by omega⟩,nnE2 haq ⟨fs[i].1,sl.1,sl.2.1,sl.2.2,by simpa using e1,by simpa using e2,?_⟩⟩
  refine newPair fun w8 hb8 hk8 hz8=>⟨_,(hb8.cell 0).trans rfl,54,#[],_,rfl,by kernel_rfl,?_⟩
  have k8:=k5.no hk8
  refine CallR.mono (fresh_ok (hbS5.keep hk8 fun e=>e) (hm5.keep hk8 fun e=>e) hgr fs[i].1) ?_
  rintro v w9 ⟨rfl,hm9,hk9⟩
  have k9:Kept No w w9:=k8.fresh hk9 (fun x e=>by omega)
  refine ⟨_,rfl,condN (fun hne=>?_) (fun he=>?_)⟩
  ·rw [if_pos hne] at hck
   refine ⟨?_,k9⟩
   rw [hck,if_pos hne]
  ·rw [if_neg (by omega)] at hck
   refine ⟨_,_,_,((hb8.keep hk9 (by omega)).cell 1).trans rfl,?_⟩
   have hsl:fs[i].2.length=sl.2.1:=RdB.len hR
   refine condP (fun hbig=>?_) (fun hsm=>?_)
   ·rw [if_pos (by omega)] at hck
    refine ⟨?_,k9⟩
    rw [hck,if_pos (by dsimp only; omega)]
   ·rw [if_neg (by omega)] at hck
    have hz9:w8.heap.size≤w9.heap.size:=hk9.size
    refine ⟨⟨by omega,by omega⟩,⟨i+1,seen ++ [fs[i].1],rfl,by omega,hck,hm9 he,(hbS5.keep hk8 fun e=>e).keep hk9 (by omega),(hb5.keep hk8 fun e=>e).keep hk9 (by omega),k9,by omega⟩,?_⟩
    simp only [ix]; omega
 ·have hil:i=fs.length:=by omega
  rw [List.drop_of_length_le (by omega)] at hck
  have hck:ckFs fs []=(0,seen):=hck
  rw [hck,if_neg (by dsimp only; omega)]
  refine ⟨_,_,_,(hb5.cell 1).trans rfl,?_⟩
  refine ⟨fun vs w'=>∃ (j:Nat) (seen2:List ByteArray),vs=[.int .i64 (j:Int)]∧j≤lt∧ckTs ts seen=ckTs (ts.drop j) seen2∧MapO w' w1.heap.size .string (seenM seen2)∧Blk w' w2.heap.size #[.map (some w1.heap.size)]∧Blk w' w.heap.size #[.slice af lf cf,.slice at_ lt ct,.slice ap lp cp]∧Kept No w w'∧w4.heap.size≤w'.heap.size,
   fun vs _=>lt - ix vs,⟨0,seen,rfl,by omega,rfl,hm5,hbS5,hb5,k5,hz5⟩,?_⟩
  intro _ n23 w10 hI
  obtain ⟨j,seen2,hvs,hj,hct,hm10,hbS10,hb10,k10,hz10⟩:=hI
  simp only [List.cons.injEq,Value.int.injEq,true_and,and_true] at hvs
  subst hvs
  refine condP (fun hlt=>?_) (fun hge=>?_)
  ·have hj':j< ts.length:=by omega
   obtain ⟨q,sl,haq,e1,e2,hR,_⟩:=ht.at hj'
   have e1:=k10.cell e1 (fun e=>e)
   have e2:=k10.cell e2 (fun e=>e)
   rw [List.drop_eq_getElem_cons hj',ckTs_cons] at hct
   refine ⟨⟨by omega,by omega⟩,nnE2 haq ⟨ts[j].1,sl.1,sl.2.1,sl.2.2,by simpa using e1,by simpa using e2,?_⟩⟩
   refine newPair fun w13 hb13 hk13 hz13=>⟨_,(hb13.cell 0).trans rfl,54,#[],_,rfl,by kernel_rfl,?_⟩
   have k13:=k10.no hk13
   refine CallR.mono (fresh_ok (hbS10.keep hk13 fun e=>e) (hm10.keep hk13 fun e=>e) hgr ts[j].1) ?_
   rintro v w14 ⟨rfl,hm14,hk14⟩
   have k14:Kept No w w14:=k13.fresh hk14 (fun x e=>by omega)
   refine ⟨_,rfl,condN (fun hne=>?_) (fun he=>?_)⟩
   ·rw [if_pos hne] at hct
    refine ⟨?_,k14⟩
    rw [hct,if_pos hne]
   ·rw [if_neg (by omega)] at hct
    refine ⟨_,_,_,((hb13.keep hk14 (by omega)).cell 1).trans rfl,?_⟩
    have hR':RL w14 sl ts[j].2:=hR.no k14
    refine CallR.mono (tnew_ok hR'.1 hR'.2) ?_
    rintro v w15 ⟨hk15,⟨hne,rfl⟩ | ⟨he0,b,F,R,rfl,_,_⟩⟩
    ·rw [if_pos hne] at hct
     refine ⟨_,_,rfl,condT (by simpa using hne) ⟨?_,k14.no hk15⟩⟩
     rw [hct,if_pos hne]
    ·rw [if_neg (by omega)] at hct
     have hz14:w13.heap.size≤w14.heap.size:=hk14.size
     have hz15:w14.heap.size≤w15.heap.size:=hk15.size
     refine ⟨_,_,rfl,condF rfl ⟨⟨by omega,by omega⟩,⟨j+1,seen2 ++ [ts[j].1],rfl,by omega,hct,(hm14 he).keep hk15 (fun e=>e),((hbS10.keep hk13 fun e=>e).keep hk14 (by omega)).keep hk15 (fun e=>e),((hb10.keep hk13 fun e=>e).keep hk14 (by omega)).keep hk15 (fun e=>e),k14.no hk15,by omega⟩,?_⟩⟩
     simp only [ix]; omega
  ·rw [List.drop_of_length_le (by omega)] at hct
   have hct:ckTs ts seen=(0,seen2):=hct
   rw [hct,if_neg (by dsimp only; omega)]
   refine ⟨_,_,_,(hb10.cell 2).trans rfl,CallR.mono (fcheck_ok (hp.keep k10 fun _ _ _ e=>e)) ?_⟩
   rintro v w16 ⟨⟨n,rfl⟩,hk16⟩
   exact ⟨_,_,rfl,rfl,k10.no hk16⟩
inductive TK | disk | scr | con
 deriving DecidableEq
def TK.ty:TK→TypeId
 | .disk=>299
 | .scr=>297
 | .con=>317
def tv (k:TK) (b:Nat):Value:=.iface k.ty (.agg #[.pointer (some ⟨b,0,none⟩)])
theorem call_of {P:Program} {t:TypeId} {name:String} {f:FuncId} (hm:∀ recv w,(Go.method (P.types.size+Made.depth) t recv name).run P w=.ok (f,recv) w) (hb:bodyB P f=true) (u:Value) (args:Array Value) (w:World) :
 (callMethod (.iface t u) name args).run P w=.ok (.enter f (#[u] ++ args)) w:=by
 rcases callMethod_tie P w t u name args with ⟨f',r,w',h1,h2⟩ | ⟨h,w',h1,_⟩
 ·rw [hm] at h1
  cases h1
  exact h2.trans (bodyB_run hb _ _)
 ·rw [hm] at h1
  cases h1
def readF:TK→FuncId
 | .disk=>365
 | .scr=>360
 | .con=>380
def roomF:TK→FuncId
 | .disk=>366
 | .scr=>361
 | .con=>381
def wrF:TK→FuncId
 | .disk=>367
 | .scr=>362
 | .con=>382
def dropF:TK→FuncId
 | .disk=>363
 | .scr=>358
 | .con=>378
def kindF:TK→FuncId
 | .disk=>364
 | .scr=>359
 | .con=>379
theorem tv_read (k : TK) (b : Nat) (args : Array Value) (w : World) : (callMethod (tv k b) "millrace/kern.read" args).run Tryz.prog w = .ok (.enter (readF k) (#[.agg #[.pointer (some ⟨b, 0, none⟩)]] ++ args)) w := by
 cases k
 ·exact call_of (by intro recv w; kernel_rfl) (by kernel_rfl) _ _ _
 ·exact call_of (by intro recv w; kernel_rfl) (by kernel_rfl) _ _ _
 ·exact call_of (by intro recv w; kernel_rfl) (by kernel_rfl) _ _ _
theorem tv_room (k : TK) (b : Nat) (args : Array Value) (w : World) : (callMethod (tv k b) "millrace/kern.room" args).run Tryz.prog w = .ok (.enter (roomF k) (#[.agg #[.pointer (some ⟨b, 0, none⟩)]] ++ args)) w := by
 cases k
 ·exact call_of (by intro recv w; kernel_rfl) (by kernel_rfl) _ _ _
 ·exact call_of (by intro recv w; kernel_rfl) (by kernel_rfl) _ _ _
 ·exact call_of (by intro recv w; kernel_rfl) (by kernel_rfl) _ _ _
theorem tv_write (k : TK) (b : Nat) (args : Array Value) (w : World) : (callMethod (tv k b) "millrace/kern.write" args).run Tryz.prog w = .ok (.enter (wrF k) (#[.agg #[.pointer (some ⟨b, 0, none⟩)]] ++ args)) w := by
 cases k
 ·exact call_of (by intro recv w; kernel_rfl) (by kernel_rfl) _ _ _
 ·exact call_of (by intro recv w; kernel_rfl) (by kernel_rfl) _ _ _
 ·exact call_of (by intro recv w; kernel_rfl) (by kernel_rfl) _ _ _
theorem tv_drop (k : TK) (b : Nat) (args : Array Value) (w : World) : (callMethod (tv k b) "millrace/kern.drop" args).run Tryz.prog w = .ok (.enter (dropF k) (#[.agg #[.pointer (some ⟨b, 0, none⟩)]] ++ args)) w := by
 cases k
 ·exact call_of (by intro recv w; kernel_rfl) (by kernel_rfl) _ _ _
 ·exact call_of (by intro recv w; kernel_rfl) (by kernel_rfl) _ _ _
 ·exact call_of (by intro recv w; kernel_rfl) (by kernel_rfl) _ _ _
theorem tv_kind (k : TK) (b : Nat) (args : Array Value) (w : World) : (callMethod (tv k b) "millrace/kern.kind" args).run Tryz.prog w = .ok (.enter (kindF k) (#[.agg #[.pointer (some ⟨b, 0, none⟩)]] ++ args)) w := by
 cases k
 ·exact call_of (by intro recv w; kernel_rfl) (by kernel_rfl) _ _ _
 ·exact call_of (by intro recv w; kernel_rfl) (by kernel_rfl) _ _ _
 ·exact call_of (by intro recv w; kernel_rfl) (by kernel_rfl) _ _ _
theorem tv_con (k:TK) (b:Nat) (w:World):(Instr.typeAssert (tv k b) 281 317 true).run Tryz.prog w=.ok (if k=.con then .tuple #[.agg #[.pointer (some ⟨b,0,none⟩)],.bool true] else .tuple #[.agg #[.pointer none],.bool false]) w:=by
 cases k
 ·kernel_rfl
 ·kernel_rfl
 ·kernel_rfl
theorem tv_disk (k:TK) (b:Nat) (w:World):(Instr.typeAssert (tv k b) 281 299 true).run Tryz.prog w=.ok (if k=.disk then .tuple #[.agg #[.pointer (some ⟨b,0,none⟩)],.bool true] else .tuple #[.agg #[.pointer none],.bool false]) w:=by
 cases k
 ·kernel_rfl
 ·kernel_rfl
 ·kernel_rfl
def DsO (w:World) (bd:Nat) (k:TK) (b:Nat) (fl at_ hd:Int):Prop:=Blk w bd #[tv k b,.int .i64 fl,.int .i64 at_,.int .i64 hd]
def bitI (n m:Int):Int:=IntKind.wrap .i64 ↑(BitVec.ofInt (IntKind.bits .i64) n &&& BitVec.ofInt (IntKind.bits .i64) m).toNat
def placeF (fl at_:Int) (bs:List Int):Int:=if bitI fl 4≠0 then (bs.length:Int) else at_
theorem place_ok {F:Nat→Prop} {w:World} {b bd:Nat} {bs:List Int} {fl at_ hd:Int} (h:FileO F w b bs) (hd':DsO w bd .disk b fl at_ hd) :
 CallR Tryz.prog 369 [.agg #[.pointer (some ⟨b,0,none⟩)],.pointer (some ⟨bd,0,none⟩)] w fun v w'=>v=.int .i64 (placeF fl at_ bs)∧Kept No w w':=by
 refine C369 ?_
 unfold L369
 intro w1
 have hb1:Blk w1 w.heap.size #[.pointer (some ⟨b,0,none⟩)]:=Blk.alloc _ _ _
 have hk1:Kept No w w1:=Kept.alloc _ _ _
 clear_value w1
 have hd1:Blk w1 bd #[tv .disk b,.int .i64 fl,.int .i64 at_,.int .i64 hd]:=Blk.keep hd' hk1 (fun e=>e)
 have h1:=h.keep hk1 (fun _ _ e=>e)
 refine nnI ⟨_,hd1.at (i:=1) rfl,condI (fun hb=>⟨_,(hb1.cell 0).trans rfl,CallR.mono (size_ok h1) ?_⟩) (fun hb=>nnI ⟨_,hd1.at (i:=2) rfl,?_⟩)⟩
 ·rintro v w2 ⟨rfl,rfl⟩
  refine ⟨_,rfl,?_,hk1⟩
  unfold placeF
  rw [if_pos (by simpa [bitI] using hb)]
 ·refine ⟨?_,hk1⟩
  unfold placeF
  rw [if_neg (by simpa [bitI] using hb)]
theorem dread_ok {F:Nat→Prop} {w:World} {b bd:Nat} {bs:List Int} {fl hd n:Int} {k:Nat} (h:FileO F w b bs) (hd':DsO w bd .disk b fl (k:Int) hd) (hk:k≤1048576) (hn1:0≤n) (hn2:n≤1048576) :
 CallR Tryz.prog 365 [.agg #[.pointer (some ⟨b,0,none⟩)],.pointer (some ⟨bd,0,none⟩),.int .i64 n] w fun v w'=>∃ a' c',v=.slice a' (piece bs k n).length c'∧OB w' a' (piece bs k n).length c' (piece bs k n)∧Fresh w a'∧
  DsO w' bd .disk b fl ((k+(piece bs k n).length:Nat):Int) hd∧Kept (·=bd) w w':=by
 refine C365 ?_
 unfold L365
 intro w1
 have hb1:Blk w1 w.heap.size #[.pointer (some ⟨b,0,none⟩)]:=Blk.alloc _ _ _
 have hk1:Kept No w w1:=Kept.alloc _ _ _
 clear_value w1
 intro w2
 have hb2:Blk w2 w.heap.size #[.pointer (some ⟨b,0,none⟩)]:=hb1.drew
 have hk2:Kept No w w2:=hk1.no (Kept.drew _ _)
 clear_value w2
 have hd2:Blk w2 bd #[tv .disk b,.int .i64 fl,.int .i64 (k:Int),.int .i64 hd]:=Blk.keep hd' hk2 (fun e=>e)
 have h2:=h.keep hk2 (fun _ _ e=>e)
 have hbd:=Blk.lt hd'
 have hlen:=h.len
 refine ⟨_,(hb2.cell 0).trans rfl,nnI ⟨_,hd2.at (i:=2) rfl,CallR.mono (readAt_ok h2 (k:Int) n) ?_⟩⟩
 rintro v w3 ⟨a',c',cs,e,rfl,ho,hf,hk3,hok,_⟩
 obtain ⟨rfl,rfl⟩:=hok (by unfold okN; simp; omega) (by unfold okN; simp; omega)
 have hd3:=hd2.keep hk3 (fun e=>e)
 have hpl:(piece bs (k:Int) n).length≤1048576:=by unfold piece; rw [List.length_take,List.length_drop]; omega
 have hlt:=ho.lt
 have hz2:=hk2.size
 refine ⟨_,_,_,_,rfl,nnI ⟨_,hd3.at (i:=2) rfl,⟨by omega,by omega⟩,nnI (stC_at hd3 (i:=2) (by simp) fun w4 hd4 hk4 hs4=>?_)⟩⟩
 refine ⟨a',c',rfl,ho.keep hk4 (fun x hx e=>by have:=hf x hx; omega),fun x hx=>by have:=hf x hx; omega,?_,?_⟩
 ·show Blk w4 bd _
  have:(((k+(piece bs (k:Int) n).length:Nat)):Int)=(k:Int)+((piece bs (k:Int) n).length:Int):=by omega
  rw [this]
  simpa using hd4
 ·exact ((hk2.no hk3).mono fun _ _ e=>e.elim).trans hk4 fun _ _ e=>e
def roomD (p n:Int):Int × Int:=if 1048576 - p > 0 then (mn n (1048576 - p),0) else (0,31)
theorem droom_ok {F:Nat→Prop} {w:World} {b bd:Nat} {bs:List Int} {fl at_ hd n:Int} (h:FileO F w b bs) (hd':DsO w bd .disk b fl at_ hd) (h0:0≤at_) (h1:at_≤1048576) :
 CallR Tryz.prog 366 [.agg #[.pointer (some ⟨b,0,none⟩)],.pointer (some ⟨bd,0,none⟩),.int .i64 n] w fun v w'=>v=.tuple #[.int .i64 (roomD (placeF fl at_ bs) n).1,.int .i64 (roomD (placeF fl at_ bs) n).2]∧Kept No w w':=by
 refine C366 ?_
 unfold L366
 intro w1
 have hb1:Blk w1 w.heap.size #[.pointer (some ⟨b,0,none⟩)]:=Blk.alloc _ _ _
 have hk1:Kept No w w1:=Kept.alloc _ _ _
 clear_value w1
 have hd1:DsO w1 bd .disk b fl at_ hd:=Blk.keep hd' hk1 (fun e=>e)
 have hf1:=h.keep hk1 (fun _ _ e=>e)
 have hlen:=h.len
 refine ⟨_,(hb1.cell 0).trans rfl,CallR.mono (place_ok hf1 hd1) ?_⟩
 rintro v w2 ⟨rfl,hk2⟩
 have hp:0≤placeF fl at_ bs∧placeF fl at_ bs≤1048576:=by
  unfold placeF
  split <;> omega
 refine ⟨_,rfl,⟨by omega,by omega⟩,condP (fun hr=>⟨?_,hk1.no hk2⟩) (fun hr=>⟨?_,hk1.no hk2⟩)⟩
 ·unfold roomD; rw [if_pos hr]
 ·unfold roomD; rw [if_neg hr]
theorem dwrite_ok {F:Nat→Prop} {w:World} {b bd:Nat} {bs:List Int} {fl at_ hd most:Int} {a:Option Addr} {l c:Nat} {ds:List Int} (h:FileO F w b bs) (hd':DsO w bd .disk b fl at_ hd) (h0:0≤at_) (h1:at_≤1048576)
 (hr:RdB w a l c ds) (hl:l≤140737488355328) (hap:∀ k,inA a k→¬ F k∧k≠bd) (hbF:¬ F bd) (hm:0≤most) :
 CallR Tryz.prog 367 [.agg #[.pointer (some ⟨b,0,none⟩)],.pointer (some ⟨bd,0,none⟩),.slice a l c,.int .i64 most] w fun v w'=>v=.int .i64 ((min l most.toNat:Nat):Int)∧
  (∃ F',FileO F' w' b (writeF bs (placeF fl at_ bs) (ds.take (min l most.toNat))).2∧Grew F w F')∧DsO w' bd .disk b fl (placeF fl at_ bs+((min l most.toNat:Nat):Int)) hd∧Kept (fun z=>F z∨z=bd) w w':=by
 refine C367 ?_
 unfold L367
 have hcl:l≤c:=hr.2.1
 have hmn:mn (((l:Nat):Int)) most=((min l most.toNat:Nat):Int):=by unfold mn; omega
 rw [hmn]
 have htn:Int.toNat ((min l most.toNat:Nat):Int)=min l most.toNat:=by omega
 rw [htn]
 intro w1
 have hb1:Blk w1 w.heap.size #[.pointer (some ⟨b,0,none⟩)]:=Blk.alloc _ _ _
 have hk1:Kept No w w1:=Kept.alloc _ _ _
 clear_value w1
 have hd1:DsO w1 bd .disk b fl at_ hd:=Blk.keep hd' hk1 (fun e=>e)
 have hf1:=h.keep hk1 (fun _ _ e=>e)
 have hlen:=h.len
 have hbd:=Blk.lt hd'
 have hflt:=h.lt
 have hp:0≤placeF fl at_ bs∧placeF fl at_ bs≤1048576:=by
  unfold placeF
  split <;> omega
 refine ⟨⟨by omega,by omega⟩,_,(hb1.cell 0).trans rfl,CallR.mono (place_ok hf1 hd1) ?_⟩
 rintro v w2 ⟨rfl,hk2⟩
 have hd2:Blk w2 bd #[tv .disk b,.int .i64 fl,.int .i64 at_,.int .i64 hd]:=Blk.keep hd1 hk2 (fun e=>e)
 have hb2:=hb1.keep hk2 (fun e=>e)
 have k2:=hk1.no hk2
 refine ⟨_,rfl,nnI (stC_at hd2 (i:=2) (by simp) fun w3 hd3 hk3 hs3=>?_)⟩
 have hd3:Blk w3 bd #[tv .disk b,.int .i64 fl,.int .i64 (placeF fl at_ bs),.int .i64 hd]:=by simpa using hd3
 have hb3:=hb2.keep hk3 (by omega)
 have k3:Kept (fun z=>F z∨z=bd) w w3:=(k2.mono fun _ _ e=>e.elim).trans hk3 fun _ _ e=>.inr e
 have hf3:=(h.keep k2 (fun _ _ e=>e)).keep hk3 (fun x hx e=>hbF (by rw [← e]; exact hx))
 have hr3:=(hr.keep k2 (fun _ _ _ e=>e)).keep hk3 (fun x _ hx e=>(hap x hx).2 e)
 intro w4
 have hd4:Blk w4 bd #[tv .disk b,.int .i64 fl,.int .i64 (placeF fl at_ bs),.int .i64 hd]:=hd3.drew
 have hb4:Blk w4 w.heap.size #[.pointer (some ⟨b,0,none⟩)]:=hb3.drew
 have hf4:FileO F w4 b bs:=hf3.keep (Kept.drew No _) (fun _ _ e=>e)
 have hr4:RdB w4 a l c ds:=hr3.keep (Kept.drew No _) (fun _ _ _ e=>e)
 have k4:Kept (fun z=>F z∨z=bd) w w4:=k3.no (Kept.drew _ _)
 clear_value w4
 have hz4:=k4.size
 refine ⟨_,(hb4.cell 0).trans rfl,nnI ⟨_,hd4.at (i:=2) rfl,CallR.mono (writeAt_ok hf4 (placeF fl at_ bs) (hr4.to (min l most.toNat) (by omega)) (by omega) (fun _ x hx=>(hap x hx).1)) ?_⟩⟩
 rintro v w5 ⟨rfl,F',hf5,hg5,hk5⟩
 have hd5:=hd4.keep hk5 hbF
 have hk05:Kept (fun z=>F z∨z=bd) w w5:=k4.trans hk5 fun _ _ e=>.inl e
 refine ⟨_,rfl,nnI ⟨_,hd5.at (i:=2) rfl,⟨by omega,by omega⟩,nnI (stC_at hd5 (i:=2) (by simp) fun w6 hd6 hk6 hs6=>?_)⟩⟩
 have hbF':¬ F' bd:=fun e=>by
  rcases hg5 bd e with e | e
  ·exact hbF e
  ·omega
 refine ⟨rfl,⟨F',hf5.keep hk6 (fun x hx e=>hbF' (by rw [← e]; exact hx)),fun x hx=>?_⟩,by show Blk w6 bd _; simpa using hd6,hk05.trans hk6 fun _ _ e=>.inr e⟩
 rcases hg5 x hx with e | e
 ·exact .inl e
 ·right; omega
theorem condTr2 {A B:Prop} (h:A):cond true A B:=h
theorem condFa2 {A B:Prop} (h:B):cond false A B:=h
abbrev ag (b:Nat):Value:=.agg #[.pointer (some ⟨b,0,none⟩)]
abbrev pd (b:Nat):Value:=.pointer (some ⟨b,0,none⟩)
theorem sread_ok {F R:Nat→Prop} {w:World} {b bd:Nat} {LL:List (List Int)} {scr:List Int} (h:TermO F R w b LL scr) (n:Int) :
 CallR Tryz.prog 360 [ag b,pd bd,.int .i64 n] w fun v w'=>∃ a' c',v=.slice a' (readT n LL).2.1.length c'∧OB w' a' (readT n LL).2.1.length c' (readT n LL).2.1∧Fresh w a'∧Kept (·=b) w w'∧TermO F R w' b (readT n LL).2.2 scr:=by
 refine C360 ?_
 unfold L360
 intro w1
 have hb1:Blk w1 w.heap.size #[.pointer (some ⟨b,0,none⟩)]:=Blk.alloc _ _ _
 have hk1:Kept No w w1:=Kept.alloc _ _ _
 clear_value w1
 have hz:=hk1.size
 refine ⟨_,(hb1.cell 0).trans rfl,CallR.mono (tread_ok (h.keep hk1 (fun _ _ e=>e) (fun _ _ e=>e)) n) ?_⟩
 rintro v w2 ⟨a',c',rfl,ho,hf,hk2,ht⟩
 exact ⟨_,_,_,_,rfl,a',c',rfl,ho,fun x hx=>by have:=hf x hx; omega,(hk1.mono fun _ _ e=>e.elim).trans hk2 fun _ _ e=>e,ht⟩
theorem sroom_ok {F R:Nat→Prop} {w:World} {b bd:Nat} {LL:List (List Int)} {scr:List Int} (h:TermO F R w b LL scr) (n:Int) :
 CallR Tryz.prog 361 [ag b,pd bd,.int .i64 n] w fun v w'=>v=.tuple #[.int .i64 (roomD (scr.length:Int) n).1,.int .i64 (roomD (scr.length:Int) n).2]∧Kept No w w':=by
 refine C361 ?_
 unfold L361
 intro w1
 have hb1:Blk w1 w.heap.size #[.pointer (some ⟨b,0,none⟩)]:=Blk.alloc _ _ _
 have hk1:Kept No w w1:=Kept.alloc _ _ _
 clear_value w1
 have hs:=h.scr
 refine ⟨_,(hb1.cell 0).trans rfl,CallR.mono (tscreen_ok (h.keep hk1 (fun _ _ e=>e) (fun _ _ e=>e))) ?_⟩
 rintro v w2 ⟨a',c',rfl,_,_,hk2⟩
 refine ⟨_,_,_,rfl,⟨by omega,by omega⟩,condP (fun hr=>⟨?_,hk1.no hk2⟩) (fun hr=>⟨?_,hk1.no hk2⟩)⟩
 ·unfold roomD; rw [if_pos hr]
 ·unfold roomD; rw [if_neg hr]
theorem swrite_ok {F R:Nat→Prop} {w:World} {b bd:Nat} {LL:List (List Int)} {scr:List Int} (h:TermO F R w b LL scr) {a:Option Addr} {l c:Nat} {ds:List Int} (hr:RdB w a l c ds) (hl:l≤140737488355328) {most:Int} (hm:0≤most) :
 CallR Tryz.prog 362 [ag b,pd bd,.slice a l c,.int .i64 most] w fun v w'=>v=.int .i64 ((min l most.toNat:Nat):Int)∧∃ F',TermO F' R w' b LL (writeT (ds.take (min l most.toNat)) scr).2∧(∀ k,F' k→F k∨w.heap.size≤k)∧Kept F w w':=by
 refine C362 ?_
 unfold L362
 have hcl:l≤c:=hr.2.1
 have hmn:mn (((l:Nat):Int)) most=((min l most.toNat:Nat):Int):=by unfold mn; omega
 rw [hmn]
 have htn:Int.toNat ((min l most.toNat:Nat):Int)=min l most.toNat:=by omega
 rw [htn]
 intro w1
 have hb1:Blk w1 w.heap.size #[.pointer (some ⟨b,0,none⟩)]:=Blk.alloc _ _ _
 have hk1:Kept No w w1:=Kept.alloc _ _ _
 clear_value w1
 have hz:=hk1.size
 refine ⟨⟨by omega,by omega⟩,_,(hb1.cell 0).trans rfl,CallR.mono (twrite_ok (h.keep hk1 (fun _ _ e=>e) (fun _ _ e=>e)) ((hr.keep hk1 fun _ _ _ e=>e).to (min l most.toNat) (by omega)) (by omega)) ?_⟩
 rintro v w2 ⟨rfl,F',ht,hg,hk2⟩
 exact ⟨_,rfl,rfl,F',ht,fun x hx=>by
  rcases hg x hx with e | e
  ·exact .inl e
  ·right; omega,(hk1.mono fun _ _ e=>e.elim).trans hk2 fun _ _ e=>e⟩
theorem cread_ok' {w:World} {b bd:Nat} {bs:List Int} {e0 e1:Nat} (h:PipeO w b bs e0 e1) (n:Int) :
 CallR Tryz.prog 380 [ag b,pd bd,.int .i64 n] w fun v w'=>∃ a l c,v=.slice a l c∧OB w' a l c (readP n bs e0 e1).1∧Fresh w a∧PipeO w' b (readP n bs e0 e1).2.2 e0 e1∧Kept (·=b) w w':=by
 refine C380 ?_
 unfold L380
 intro w1
 have hb1:Blk w1 w.heap.size #[.pointer (some ⟨b,0,none⟩)]:=Blk.alloc _ _ _
 have hk1:Kept No w w1:=Kept.alloc _ _ _
 clear_value w1
 have hz:=hk1.size
 refine ⟨_,(hb1.cell 0).trans rfl,CallR.mono (kread_ok (h.keep hk1 (fun e=>e)) n) ?_⟩
 rintro v w2 ⟨a,l,c,rfl,ho,hf,hp,hk2⟩
 exact ⟨_,_,_,_,rfl,a,l,c,rfl,ho,fun x hx=>by have:=hf x hx; omega,hp,(hk1.mono fun _ _ e=>e.elim).trans hk2 fun _ _ e=>e⟩
def roomC (n:Int) (bs:List Int) (e0 e1:Nat):Int × Int:=if e0=0 then (0,53) else if canWP n bs e0 e1=false then (0,52) else (n,0)
theorem croom_ok {w:World} {b bd:Nat} {bs:List Int} {e0 e1:Nat} (h:PipeO w b bs e0 e1) (n:Int) :
 CallR Tryz.prog 381 [ag b,pd bd,.int .i64 n] w fun v w'=>v=.tuple #[.int .i64 (roomC n bs e0 e1).1,.int .i64 (roomC n bs e0 e1).2]∧Kept No w w':=by
 refine C381 ?_
 unfold L381
 intro w1
 have hb1:Blk w1 w.heap.size #[.pointer (some ⟨b,0,none⟩)]:=Blk.alloc _ _ _
 have hk1:Kept No w w1:=Kept.alloc _ _ _
 clear_value w1
 refine ⟨_,(hb1.cell 0).trans rfl,kends_to (h.keep hk1 (fun e=>e)) fun nd=>?_⟩
 have hk2:Kept No w (w1.drewN nd):=hk1.no (Kept.drewN _ _ _)
 have hb2:Blk (w1.drewN nd) w.heap.size #[.pointer (some ⟨b,0,none⟩)]:=hb1.drewN nd
 generalize w1.drewN nd=w2 at hk2 hb2 ⊢
 refine ⟨_,_,rfl,condI (fun he=>⟨?_,hk2⟩) (fun he=>⟨_,(hb2.cell 0).trans rfl,kcanw_to (h.keep hk2 (fun e=>e)) n ⟨_,rfl,condI (fun hc=>⟨?_,hk2⟩) (fun hc=>⟨?_,hk2⟩)⟩⟩)⟩
 ·have:e0=0:=by simpa using he
  unfold roomC; rw [if_pos this]
 ·have:¬ e0=0:=by simpa using he
  unfold roomC; rw [if_neg this,if_pos (notT hc)]
 ·have:¬ e0=0:=by simpa using he
  unfold roomC; rw [if_neg this,if_neg (by rw [notF hc]; simp)]
theorem cwrite_ok' {w:World} {b bd:Nat} {bs:List Int} {e0 e1:Nat} (h:PipeO w b bs e0 e1) {a:Option Addr} {l c:Nat} {ds:List Int} (hd:RdB w a l c ds) (hab:ds≠[]→¬ inA a b) (most:Int) :
 CallR Tryz.prog 382 [ag b,pd bd,.slice a l c,.int .i64 most] w fun v w'=>v=.int .i64 (writeP ds most bs e0 e1).1∧PipeO w' b (writeP ds most bs e0 e1).2.2 e0 e1∧Kept (·=b) w w':=by
 refine C382 ?_
 unfold L382
 intro w1
 have hb1:Blk w1 w.heap.size #[.pointer (some ⟨b,0,none⟩)]:=Blk.alloc _ _ _
 have hk1:Kept No w w1:=Kept.alloc _ _ _
 clear_value w1
 refine ⟨_,(hb1.cell 0).trans rfl,CallR.mono (kwrite_ok (h.keep hk1 (fun e=>e)) (hd.keep hk1 fun _ _ _ e=>e) hab hd.2.1 most) ?_⟩
 rintro v w2 ⟨rfl,hp,hk2⟩
 exact ⟨_,_,rfl,rfl,hp,(hk1.mono fun _ _ e=>e.elim).trans hk2 fun _ _ e=>e⟩
theorem cdrop_ok {w:World} {b bd:Nat} {bs:List Int} {e0 e1:Nat} {k:TK} {o:Nat} {fl at_ hd:Int} (h:PipeO w b bs e0 e1) (hds:DsO w bd k o fl at_ hd) :
 CallR Tryz.prog 378 [ag b,pd bd] w fun v w'=>v=.tuple #[]∧PipeO w' b bs (leaveP (bitI fl 2 != 0) e0 e1).2.1 (leaveP (bitI fl 2 != 0) e0 e1).2.2∧Kept (·=b) w w':=by
 refine C378 ?_
 unfold L378
 intro w1
 have hb1:Blk w1 w.heap.size #[.pointer (some ⟨b,0,none⟩)]:=Blk.alloc _ _ _
 have hk1:Kept No w w1:=Kept.alloc _ _ _
 clear_value w1
 intro w2
 have hb2:Blk w2 w.heap.size #[.pointer (some ⟨b,0,none⟩)]:=hb1.drew
 have hk2:Kept No w w2:=hk1.no (Kept.drew _ _)
 clear_value w2
 have hd2:Blk w2 bd #[tv k o,.int .i64 fl,.int .i64 at_,.int .i64 hd]:=Blk.keep hds hk2 (fun e=>e)
 refine ⟨_,(hb2.cell 0).trans rfl,nnI ⟨_,hd2.at (i:=1) rfl,CallR.mono (kleave_ok (h.keep hk2 (fun e=>e)) _) ?_⟩⟩
 rintro v w3 ⟨rfl,hp,hk3⟩
 exact ⟨_,rfl,rfl,hp,(hk2.mono fun _ _ e=>e.elim).trans hk3 fun _ _ e=>e⟩
theorem waits_ok {w:World} {bd:Nat} {k:TK} {b:Nat} {fl at_ hd:Int} (h:DsO w bd k b fl at_ hd) {bs:List Int} {e0 e1:Nat} (hp:k=.con→PipeO w b bs e0 e1) :
 CallR Tryz.prog 236 [pd bd] w fun v w'=>v=.bool (if k=.con then !canRP bs e0 e1 else false)∧Kept No w w':=by
 refine C236 ?_
 unfold L236
 refine nnI ⟨_,Blk.at0 h rfl,?_⟩
 by_cases hk:k=.con
 ·have ht:=tv_con k b w
  rw [if_pos hk] at ht
  refine ⟨_,_,_,ht,?_⟩
  intro w2
  have hb2:Blk w2 w.heap.size #[.pointer none]:=Blk.alloc _ _ _
  have hk2:Kept No w w2:=Kept.alloc _ _ _
  clear_value w2
  refine stC_blk hb2 (by simp) fun w3 hb3 hk3 _=>condTr2 ?_
  have hb3:Blk w3 w.heap.size #[.pointer (some ⟨b,0,none⟩)]:=by simpa using hb3
  have k3:Kept No w w3:=hk2.fresh hk3 (fun x e=>by omega)
  refine ⟨_,(hb3.cell 0).trans rfl,kcanr_to ((hp hk).keep k3 (fun e=>e)) ⟨_,rfl,?_,k3⟩⟩
  rw [if_pos hk]
 ·have ht:=tv_con k b w
  rw [if_neg hk] at ht
  refine ⟨_,_,_,ht,?_⟩
  intro w2
  have hb2:Blk w2 w.heap.size #[.pointer none]:=Blk.alloc _ _ _
  have hk2:Kept No w w2:=Kept.alloc _ _ _
  clear_value w2
  refine stC_blk hb2 (by simp) fun w3 hb3 hk3 _=>condFa2 ⟨?_,hk2.fresh hk3 (fun x e=>by omega)⟩
  rw [if_neg hk]
inductive AObj
 | file (bs:List Int)
 | term (LL:List (List Int)) (scr:List Int)
 | pipe (bs:List Int) (e0 e1:Nat)
def AObj.kd:AObj→TK
 | .file _=>.disk
 | .term _ _=>.scr
 | .pipe _ _ _=>.con
structure AD where
 num:Int
 ob:Nat
 fl:Int
 at_:Int
 hd:Int
structure AK where
 files:List (ByteArray × Nat)
 terms:List (ByteArray × Nat)
 objs:Nat→AObj
 nob:Nat
 descs:List AD
 next:Int
 ps:List (Int × Int)
 c0:Int
 c1:Int
namespace AK
def setO (s:AK) (i:Nat) (o:AObj):AK:={ s with objs:=fun j=>if j=i then o else s.objs j }
def setD (s:AK) (d at_ hd:Int):AK:={ s with descs:=s.descs.map fun x=>if x.num=d then { x with at_:=at_,hd:=hd } else x }
def newO (s:AK) (o:AObj):AK:={ s with objs:=fun j=>if j=s.nob then o else s.objs j,nob:=s.nob+1 }
def newD (s:AK) (i:Nat) (fl:Int):AK:={ s with descs:=s.descs ++ [⟨s.next,i,fl,0,1⟩],next:=s.next+1 }
def delD (s:AK) (d:Int):AK:={ s with descs:=s.descs.filter fun x=>decide (x.num≠d) }
theorem setO_same (s:AK) (i:Nat):s.setO i (s.objs i)=s:=by
 unfold setO
 have:(fun j=>if j=i then s.objs i else s.objs j)=s.objs:=by
  funext j
  by_cases h:j=i
  ·rw [if_pos h,h]
  ·rw [if_neg h]
 rw [this]
def desc (s:AK) (d:Int):Option AD:=s.descs.find? fun x=>decide (x.num=d)
theorem desc_some {s:AK} {d:Int} {x:AD} (h:s.desc d=some x):x ∈ s.descs∧x.num=d:=by
 unfold desc at h
 exact ⟨List.mem_of_find?_eq_some h,by simpa using List.find?_some h⟩
theorem desc_none {s:AK} {d:Int} (h:s.desc d=none):∀ x ∈ s.descs,x.num≠d:=by
 unfold desc at h
 rw [List.find?_eq_none] at h
 intro x hx
 simpa using h x hx
def find (s:AK) (d way:Int):Int:=match s.desc d with
 | none=>64
 | some x=>if bitI x.fl way≠way then 65 else 0
theorem find_zero {s:AK} {d way:Int} (h:s.find d way=0):∃ x,s.desc d=some x∧bitI x.fl way=way:=by
 unfold find at h
 cases hd:s.desc d with
 | none=>rw [hd] at h; cases h
 | some x=>
  rw [hd] at h
  dsimp only at h
  by_cases hb:bitI x.fl way≠way
  ·rw [if_pos hb] at h; cases h
  ·exact ⟨x,rfl,by simpa using hb⟩
def waits (s:AK) (x:AD):Bool:=match s.objs x.ob with
 | .pipe bs e0 e1=>!canRP bs e0 e1
 | _=>false
def kindN:TK→Int
 | .disk=>1
 | .scr=>2
 | .con=>3
def kind (s:AK) (d:Int):Int:=if s.find d 0≠0 then 0 else match s.desc d with
 | none=>0
 | some x=>kindN (s.objs x.ob).kd
def rdO (s:AK) (x:AD) (n:Int):List Int × AK:=match s.objs x.ob with
 | .file bs=>(piece bs x.at_ n,s.setD x.num (x.at_+((piece bs x.at_ n).length:Int)) x.hd)
 | .term LL scr=>((readT n LL).2.1,s.setO x.ob (.term (readT n LL).2.2 scr))
 | .pipe bs e0 e1=>((readP n bs e0 e1).1,s.setO x.ob (.pipe (readP n bs e0 e1).2.2 e0 e1))
def met0 (s:AK):AK:={ s with c0:=s.c0+1,ps:=s.ps.drop 1 }
def met1 (s:AK):AK:={ s with c1:=s.c1+1,ps:=s.ps.drop 1 }
def read (s:AK) (d n:Int):List Int × Int × AK:=
 if s.find d 1≠0 then ([],s.find d 1,s) else if n< 0∨n > 1048576 then ([],4,s) else if n=0 then ([],0,s) else match s.desc d with
  | none=>([],64,s)
  | some x=>if s.waits x=true then ([],52,s) else if (metF s.ps n).2≠0 then ([],(metF s.ps n).2,s.met0) else ((s.met0.rdO x (metF s.ps n).1).1,0,(s.met0.rdO x (metF s.ps n).1).2)
def roomO (s:AK) (x:AD) (n:Int):Int × Int:=match s.objs x.ob with
 | .file bs=>roomD (placeF x.fl x.at_ bs) n
 | .term LL scr=>roomD (scr.length:Int) n
 | .pipe bs e0 e1=>roomC n bs e0 e1
def wrO (s:AK) (x:AD) (ds:List Int) (most:Int):Int × AK:=match s.objs x.ob with
 | .file bs=>(((min ds.length most.toNat:Nat):Int),(s.setO x.ob (.file (writeF bs (placeF x.fl x.at_ bs) (ds.take (min ds.length most.toNat))).2)).setD x.num (placeF x.fl x.at_ bs+((min ds.length most.toNat:Nat):Int)) x.hd)
 | .term LL scr=>(((min ds.length most.toNat:Nat):Int),s.setO x.ob (.term LL (writeT (ds.take (min ds.length most.toNat)) scr).2))
 | .pipe bs e0 e1=>((writeP ds most bs e0 e1).1,s.setO x.ob (.pipe (writeP ds most bs e0 e1).2.2 e0 e1))
def write (s:AK) (d:Int) (ds:List Int):Int × Int × AK:=
 if s.find d 2≠0 then (0,s.find d 2,s) else if 1048576< ds.length then (0,5,s) else if ds.length=0 then (0,0,s) else match s.desc d with
  | none=>(0,64,s)
  | some x=>if (s.roomO x ds.length).2≠0 then (0,(s.roomO x ds.length).2,s) else if (metF s.ps ds.length).2≠0 then (0,(metF s.ps ds.length).2,s.met1) else
   ((s.met1.wrO x ds (min (metF s.ps ds.length).1 (s.roomO x ds.length).1)).1,0,(s.met1.wrO x ds (min (metF s.ps ds.length).1 (s.roomO x ds.length).1)).2)
def seek (s:AK) (d off wh:Int):Int × Int × AK:=
 if s.find d 0≠0 then (0,s.find d 0,s) else match s.desc d with
  | none=>(0,64,s)
  | some x=>match s.objs x.ob with
   | .file bs=>
    if wh< 0∨wh > 2 then (0,1,s) else
     let base:Int:=if wh=0 then 0 else if wh=1 then x.at_ else (bs.length:Int)
     if off< -base∨off > 1048576 - base then (0,4,s) else (base+off,0,s.setD d (base+off) x.hd)
   | _=>(0,66,s)
def keep (s:AK) (d:Int):Int × AK:=
 if s.find d 0≠0 then (s.find d 0,s) else match s.desc d with
  | none=>(64,s)
  | some x=>if x.hd≥1024 then (3,s) else (0,s.setD d x.at_ (x.hd+1))
def leave (s:AK) (x:AD):AK:=match s.objs x.ob with
 | .pipe bs e0 e1=>s.setO x.ob (.pipe bs (leaveP (bitI x.fl 2 != 0) e0 e1).2.1 (leaveP (bitI x.fl 2 != 0) e0 e1).2.2)
 | _=>s
def drop (s:AK) (d:Int):Int × AK:=
 if s.find d 0≠0 then (s.find d 0,s) else match s.desc d with
  | none=>(64,s)
  | some x=>if x.hd=1 then (0,(s.delD d).leave x) else (0,s.setD d x.at_ (x.hd - 1))
def flagged (f:Int):Bool:=decide (f≥0∧f≤63) && (bitI f 3 != 0) && ((bitI f 2 != 0) || (bitI f 20 == 0)) && ((bitI f 8 != 0) || (bitI f 32 == 0))
def fileOf (s:AK) (nm:ByteArray):Option (ByteArray × Nat):=s.files.find? fun f=>decide (f.1=nm)
def termOf (s:AK) (nm:ByteArray):Option (ByteArray × Nat):=s.terms.find? fun f=>decide (f.1=nm)
def openE (s:AK) (nm:ByteArray) (fl:Int):Int:=
 if namedS nm=false then 61 else if flagged fl=false then 65 else if 256≤s.descs.length then 3 else
  if (s.fileOf nm).isSome∨(s.termOf nm).isSome then (if bitI fl 32≠0 then 63 else 0)
  else if bitI fl 8=0 then 62 else if 256≤s.files.length+s.terms.length then 3 else 0
def openS (s:AK) (nm:ByteArray) (fl:Int):AK:=match s.termOf nm with
 | some t=>s.newD t.2 fl
 | none=>match s.fileOf nm with
  | some f=>(if bitI fl 16≠0 then s.setO f.2 (.file []) else s).newD f.2 fl
  | none=>({ s.newO (.file []) with files:=s.files ++ [(nm,s.nob)] }).newD s.nob fl
def open_ (s:AK) (nm:ByteArray) (fl:Int):Int × Int × AK:=if s.openE nm fl≠0 then (0,s.openE nm fl,s) else (s.next,0,s.openS nm fl)
def pipe (s:AK):Int × Int × Int × AK:=if 254< s.descs.length then (0,0,3,s) else (s.next,s.next+1,0,((s.newO (.pipe [] 1 1)).newD s.nob 1).newD s.nob 2)
end AK
inductive Tag
 | kern | mf | mt | md | plan | flts
 | desc (d:Int)
 | obj (i:Nat)
 | lines (i:Nat)
 deriving DecidableEq
structure KL where
 own:Nat→Option Tag
 loc:Nat→Nat
 dloc:Int→Nat
 rf:Nat
 rt:Nat
 rd:Nat
 pg:Nat
def ObjF (F R:Nat→Prop) (w:World) (b:Nat):AObj→Prop
 | .file bs=>FileO F w b bs
 | .term LL scr=>TermO F R w b LL scr
 | .pipe bs e0 e1=>PipeO w b bs e0 e1∧∀ z,F z↔z=b
theorem ObjF.keep {F R S:Nat→Prop} {w w':World} {b:Nat} {o:AObj} (h:ObjF F R w b o) (k:Kept S w w') (hf:∀ z,F z→¬ S z) (hr:∀ z,R z→¬ S z):ObjF F R w' b o:=by
 cases o with
 | file bs=>exact FileO.keep h k hf
 | term LL scr=>exact TermO.keep h k hf hr
 | pipe bs e0 e1=>exact ⟨PipeO.keep h.1 k (hf b ((h.2 b).2 rfl)),h.2⟩
theorem ObjF.mem {F R:Nat→Prop} {w:World} {b:Nat} {o:AObj} (h:ObjF F R w b o):F b:=by
 cases o with
 | file bs=>obtain ⟨a,l,c,hb,ho,hna,hl,hF⟩:=h; exact (hF b).2 (.inl rfl)
 | term LL scr=>obtain ⟨la,ll,lc,i,sa,sl,sc,raw,hb,hl,hc,ho,hna,hs,hF,hR,hlt,h1,h2⟩:=h; exact (hF b).2 (.inl rfl)
 | pipe bs e0 e1=>exact (h.2 b).2 rfl
theorem ObjF.lt {F R:Nat→Prop} {w:World} {b:Nat} {o:AObj} (h:ObjF F R w b o):∀ z,F z→z< w.heap.size:=by
 cases o with
 | file bs=>exact FileO.lt h
 | term LL scr=>exact fun z hz=>TermO.lt h z (.inl hz)
 | pipe bs e0 e1=>intro z hz; rw [(h.2 z).1 hz]; exact h.1.lt
theorem ObjF.congr {F F' R R':Nat→Prop} {w:World} {b:Nat} {o:AObj} (h:ObjF F R w b o) (hf:∀ z,F z↔F' z) (hr:∀ z,R z↔R' z):ObjF F' R' w b o:=by
 have e1:F=F':=funext fun z=>propext (hf z)
 have e2:R=R':=funext fun z=>propext (hr z)
 rw [← e1,← e2]; exact h
def ObjO (L:KL) (w:World) (i:Nat) (o:AObj):Prop:=ObjF (fun z=>L.own z=some (.obj i)) (fun z=>L.own z=some (.lines i)) w (L.loc i) o
structure AK.Ok (s:AK):Prop where
 fi:∀ f ∈ s.files,f.2< s.nob∧(s.objs f.2).kd=.disk
 ti:∀ t ∈ s.terms,t.2< s.nob∧(s.objs t.2).kd=.scr
 di:∀ d ∈ s.descs,d.ob< s.nob∧0≤d.at_∧d.at_≤1048576∧1≤d.hd∧d.hd≤1024∧1≤d.num∧d.num< s.next
 fn:(s.files.map (·.1)).Nodup
 tn:(s.terms.map (·.1)).Nodup
 ft:∀ f ∈ s.files,∀ t ∈ s.terms,f.1≠t.1
 fo:(s.files.map (·.2)).Nodup
 to:(s.terms.map (·.2)).Nodup
 dn:(s.descs.map (·.num)).Nodup
 nx:1≤s.next
 dl:s.descs.length≤256
 fl:s.files.length+s.terms.length≤256
 ps:s.ps.length≤4096
 pm:∀ p ∈ s.ps,mayP p
 c0:0≤s.c0
 c1:0≤s.c1
def AK.cells (s:AK) (L:KL):Array Value:=#[.bool true,.map (some L.rf),.map (some L.rt),.map (some L.rd),.int .i64 s.next,pd L.pg,.int .i64 s.c0,.int .i64 s.c1]
def AK.mF (s:AK) (L:KL):List (Value × Value):=s.files.map fun f=>(.string f.1,pd (L.loc f.2))
def AK.mT (s:AK) (L:KL):List (Value × Value):=s.terms.map fun f=>(.string f.1,pd (L.loc f.2))
def AK.mD (s:AK) (L:KL):List (Value × Value):=s.descs.map fun d=>(.int .i64 d.num,pd (L.dloc d.num))
structure KernO (w:World) (gk:Nat) (s:AK) (L:KL):Prop where
 blk:Blk w gk (s.cells L)
 mf:MapO w L.rf .string (s.mF L)
 mt:MapO w L.rt .string (s.mT L)
 md:MapO w L.rd (.int .i64) (s.mD L)
 pl:∃ a l c,PlO w L.pg a l c s.ps∧∀ b,inA a b→L.own b=some .flts
 ob:∀ i,i< s.nob→ObjO L w i (s.objs i)
 ds:∀ d ∈ s.descs,DsO w (L.dloc d.num) (s.objs d.ob).kd (L.loc d.ob) d.fl d.at_ d.hd
 oK:L.own gk=some .kern
 oF:L.own L.rf=some .mf
 oT:L.own L.rt=some .mt
 oD:L.own L.rd=some .md
 oP:L.own L.pg=some .plan
 od:∀ d ∈ s.descs,L.own (L.dloc d.num)=some (.desc d.num)
 lt:∀ k,L.own k≠none→k< w.heap.size
 ok:s.Ok
theorem KernO.keep {w w':World} {gk:Nat} {s:AK} {L:KL} (h:KernO w gk s L) {S:Nat→Prop} (k:Kept S w w') (hS:∀ x,S x→L.own x=none):KernO w' gk s L where
 blk:=h.blk.keep k fun e=>by have:=hS _ e; rw [h.oK] at this; cases this
 mf:=h.mf.keep k fun e=>by have:=hS _ e; rw [h.oF] at this; cases this
 mt:=h.mt.keep k fun e=>by have:=hS _ e; rw [h.oT] at this; cases this
 md:=h.md.keep k fun e=>by have:=hS _ e; rw [h.oD] at this; cases this
 pl:=by
  obtain ⟨a,l,c,h1,h3⟩:=h.pl
  exact ⟨a,l,c,h1.keep k (fun e=>by have:=hS _ e; rw [h.oP] at this; cases this) (fun b _ hb e=>by have:=hS _ e; rw [h3 b hb] at this; cases this),h3⟩
 ob:=fun i hi=>ObjF.keep (h.ob i hi) k (fun x hx e=>by have:=hS _ e; rw [hx] at this; cases this) (fun x hx e=>by have:=hS _ e; rw [hx] at this; cases this)
 ds:=fun d hd=>Blk.keep (h.ds d hd) k fun e=>by have:=hS _ e; rw [h.od d hd] at this; cases this
 oK:=h.oK
 oF:=h.oF
 oT:=h.oT
 oD:=h.oD
 oP:=h.oP
 od:=h.od
 lt:=fun x hx=>Nat.lt_of_lt_of_le (h.lt x hx) k.size
 ok:=h.ok
theorem KernO.no {w w':World} {gk:Nat} {s:AK} {L:KL} (h:KernO w gk s L) (k:Kept No w w'):KernO w' gk s L:=h.keep k fun _ e=>e.elim
structure KStep (w w':World) (L L':KL):Prop where
 kept:Kept (fun z=>L.own z≠none) w w'
 grew:∀ z,L'.own z≠none→L.own z≠none∨w.heap.size≤z
theorem KStep.refl (w:World) (L:KL):KStep w w L L:=⟨Kept.refl _ _,fun _ h=>.inl h⟩
theorem KStep.of_no {w w':World} {L:KL} (k:Kept No w w'):KStep w w' L L:=⟨k.mono fun _ _ e=>e.elim,fun _ h=>.inl h⟩
theorem KStep.trans {w w1 w2:World} {L L1 L2:KL} (h:KStep w w1 L L1) (k:KStep w1 w2 L1 L2):KStep w w2 L L2:=
 ⟨h.kept.trans k.kept fun x hx e=>by
  rcases h.grew x e with e | e
  ·exact e
  ·omega,fun z hz=>by
  rcases k.grew z hz with e | e
  ·exact h.grew z e
  ·exact .inr (Nat.le_trans h.kept.size e)⟩
theorem KStep.no {w w1 w2:World} {L L1:KL} (h:KStep w w1 L L1) (k:Kept No w1 w2):KStep w w2 L L1:=h.trans (.of_no k)
theorem KStep.fresh {w w0 w1:World} {L L1:KL} (k:Kept No w w0) (h:KStep w0 w1 L L1):KStep w w1 L L1:=(KStep.of_no k).trans h
theorem KStep.own {w w1 w2:World} {L L1:KL} (h:KStep w w1 L L1) {b:Nat} (k:Kept (·=b) w1 w2) (hb:w.heap.size≤b):KStep w w2 L L1:=
 ⟨h.kept.trans k fun x hx e=>by omega,h.grew⟩
theorem KStep.size {w w':World} {L L':KL} (h:KStep w w' L L'):w.heap.size≤w'.heap.size:=h.kept.size
namespace AK
theorem desc_of {s:AK} (h:s.Ok) {x:AD} (hx:x ∈ s.descs):s.desc x.num=some x:=by
 cases hd:s.desc x.num with
 | none=>exact absurd rfl (desc_none hd x hx)
 | some y=>
  obtain ⟨hy,hn⟩:=desc_some hd
  obtain ⟨i,hi,rfl⟩:=List.mem_iff_getElem.1 hx
  obtain ⟨j,hj,rfl⟩:=List.mem_iff_getElem.1 hy
  have:(s.descs.map (·.num))[j]'(by simpa using hj)=(s.descs.map (·.num))[i]'(by simpa using hi):=by rw [List.getElem_map,List.getElem_map]; exact hn
  have:=(List.getElem_inj h.dn).1 this
  subst this
  rfl
theorem Ok.setO {s:AK} (h:s.Ok) {i:Nat} {o:AObj} (ho:o.kd=(s.objs i).kd):(s.setO i o).Ok:=by
 have hk:∀ j,((s.setO i o).objs j).kd=(s.objs j).kd:=fun j=>by
  show (if j=i then o else s.objs j).kd=_
  by_cases e:j=i
  ·rw [if_pos e,ho,e]
  ·rw [if_neg e]
 exact
  { fi:=fun f hf=>⟨(h.fi f hf).1,by rw [hk]; exact (h.fi f hf).2⟩
    ti:=fun f hf=>⟨(h.ti f hf).1,by rw [hk]; exact (h.ti f hf).2⟩
    di:=h.di,fn:=h.fn,tn:=h.tn,ft:=h.ft,fo:=h.fo,to:=h.to,dn:=h.dn,nx:=h.nx,dl:=h.dl,fl:=h.fl,ps:=h.ps,pm:=h.pm,c0:=h.c0,c1:=h.c1 }
theorem setD_nums (s:AK) (d at_ hd:Int):(s.setD d at_ hd).descs.map (·.num)=s.descs.map (·.num):=by
 show (s.descs.map fun x=>if x.num=d then { x with at_:=at_,hd:=hd } else x).map (·.num)=_
 rw [List.map_map]
 apply List.map_congr_left
 intro x _
 show (if x.num=d then ({ x with at_:=at_,hd:=hd }:AD) else x).num=x.num
 split <;> rfl
theorem setD_mem {s:AK} {d at_ hd:Int} {y:AD} (hy:y ∈ (s.setD d at_ hd).descs):∃ x ∈ s.descs,(x.num=d∧y={ x with at_:=at_,hd:=hd })∨(x.num≠d∧y=x):=by
 obtain ⟨x,hx,rfl⟩:=List.mem_map.1 hy
 refine ⟨x,hx,?_⟩
 by_cases e:x.num=d
 ·exact .inl ⟨e,by rw [if_pos e]⟩
 ·exact .inr ⟨e,by rw [if_neg e]⟩
theorem Ok.setD {s:AK} (h:s.Ok) {d at_ hd:Int} (hr:0≤at_∧at_≤1048576∧1≤hd∧hd≤1024):(s.setD d at_ hd).Ok where
 fi:=h.fi
 ti:=h.ti
 di:=fun y hy=>by
  obtain ⟨x,hx,⟨_,rfl⟩ | ⟨_,rfl⟩⟩:=setD_mem hy
  ·have:=h.di x hx
   exact ⟨this.1,hr.1,hr.2.1,hr.2.2.1,hr.2.2.2,this.2.2.2.2.2.1,this.2.2.2.2.2.2⟩
  ·exact h.di y hx
 fn:=h.fn
 tn:=h.tn
 ft:=h.ft
 fo:=h.fo
 to:=h.to
 dn:=by rw [setD_nums]; exact h.dn
 nx:=h.nx
 dl:=by
  have:(s.setD d at_ hd).descs.length=s.descs.length:=by unfold AK.setD; simp
  rw [this]; exact h.dl
 fl:=h.fl
 ps:=h.ps
 pm:=h.pm
 c0:=h.c0
 c1:=h.c1
theorem setD_same {s:AK} (h:s.Ok) {d:Int} {x:AD} (hx:s.desc d=some x):s.setD d x.at_ x.hd=s:=by
 unfold AK.setD
 have:(s.descs.map fun y=>if y.num=d then { y with at_:=x.at_,hd:=x.hd } else y)=s.descs:=by
  rw [List.map_congr_left (g:=id),List.map_id]
  intro y hy
  by_cases e:y.num=d
  ·have:=desc_of h hy
   rw [e,hx] at this
   simp only [Option.some.injEq] at this
   subst this
   rw [if_pos e]; rfl
  ·rw [if_neg e]; rfl
 rw [this]
theorem Ok.newD {s:AK} (h:s.Ok) {i:Nat} (hi:i< s.nob) (fl:Int) (hl:s.descs.length< 256):(s.newD i fl).Ok where
 fi:=h.fi
 ti:=h.ti
 di:=fun d hd=>by
  have hd:d ∈ s.descs ++ [⟨s.next,i,fl,0,1⟩]:=hd
  have hn:(s.newD i fl).next=s.next+1:=rfl
  rw [hn]
  rcases List.mem_append.1 hd with hd | hd
  ·have:=h.di d hd
   exact ⟨this.1,by omega⟩
  ·have:=h.nx
   simp only [List.mem_singleton] at hd
   subst hd
   exact ⟨hi,by dsimp only; omega⟩
 fn:=h.fn
 tn:=h.tn
 ft:=h.ft
 fo:=h.fo
 to:=h.to
 dn:=by
  show ((s.descs ++ [(⟨s.next,i,fl,0,1⟩:AD)]).map (fun d=>d.num)).Nodup
  rw [List.map_append,List.nodup_append]
  refine ⟨h.dn,by simp,fun a ha b hb e=>?_⟩
  obtain ⟨x,hx,rfl⟩:=List.mem_map.1 ha
  simp only [List.map_cons,List.map_nil,List.mem_singleton] at hb
  subst hb
  have:=(h.di x hx).2.2.2.2.2.2
  omega
 nx:=by have:=h.nx; show 1≤s.next+1; omega
 dl:=by show (s.descs ++ [_]).length≤256; rw [List.length_append]; simp; omega
 fl:=h.fl
 ps:=h.ps
 pm:=h.pm
 c0:=h.c0
 c1:=h.c1
theorem Ok.delD {s:AK} (h:s.Ok) (d:Int):(s.delD d).Ok where
 fi:=h.fi
 ti:=h.ti
 di:=fun x hx=>h.di x (List.mem_filter.1 hx).1
 fn:=h.fn
 tn:=h.tn
 ft:=h.ft
 fo:=h.fo
 to:=h.to
 dn:=List.Sublist.nodup (List.filter_sublist.map _) h.dn
 nx:=h.nx
 dl:=Nat.le_trans (List.length_filter_le _ _) h.dl
 fl:=h.fl
 ps:=h.ps
 pm:=h.pm
 c0:=h.c0
 c1:=h.c1
theorem newO_old (s:AK) (o:AObj) {i:Nat} (hi:i< s.nob):(s.newO o).objs i=s.objs i:=by
 show (if i=s.nob then o else s.objs i)=_
 rw [if_neg (by omega)]
theorem objs_newO_new' (s:AK) (o:AObj):(s.newO o).objs s.nob=o:=by
 show (if s.nob=s.nob then o else _)=_
 rw [if_pos rfl]
theorem objs_setO_same' (s:AK) (i:Nat) (o:AObj):(s.setO i o).objs i=o:=by
 show (if i=i then o else _)=_
 rw [if_pos rfl]
theorem Ok.newO {s:AK} (h:s.Ok) (o:AObj):(s.newO o).Ok where
 fi:=fun f hf=>by
  have:=h.fi f hf
  exact ⟨Nat.lt_succ_of_lt this.1,by rw [newO_old s o this.1]; exact this.2⟩
 ti:=fun f hf=>by
  have:=h.ti f hf
  exact ⟨Nat.lt_succ_of_lt this.1,by rw [newO_old s o this.1]; exact this.2⟩
 di:=fun d hd=>by
  have:=h.di d hd
  exact ⟨Nat.lt_succ_of_lt this.1,this.2⟩
 fn:=h.fn
 tn:=h.tn
 ft:=h.ft
 fo:=h.fo
 to:=h.to
 dn:=h.dn
 nx:=h.nx
 dl:=h.dl
 fl:=h.fl
 ps:=h.ps
 pm:=h.pm
 c0:=h.c0
 c1:=h.c1
def addF (s:AK) (nm:ByteArray) (o:AObj):AK:={ s.newO o with files:=s.files ++ [(nm,s.nob)] }
def addT (s:AK) (nm:ByteArray) (o:AObj):AK:={ s.newO o with terms:=s.terms ++ [(nm,s.nob)] }
theorem nodup_snoc {α:Type} {l:List α} {x:α} (h:l.Nodup) (hx:x ∉ l):(l ++ [x]).Nodup:=by
 rw [List.nodup_append]
 refine ⟨h,by simp,fun a ha b hb e=>?_⟩
 simp only [List.mem_singleton] at hb
 subst hb; subst e
 exact hx ha
theorem Ok.addF {s:AK} (h:s.Ok) {nm:ByteArray} {o:AObj} (ho:o.kd=.disk) (h1:∀ f ∈ s.files,f.1≠nm) (h2:∀ f ∈ s.terms,f.1≠nm) (hl:s.files.length+s.terms.length< 256):(s.addF nm o).Ok:=
 have g:=h.newO o
 { fi:=fun f hf=>by
    have hf:f ∈ s.files ++ [(nm,s.nob)]:=hf
    rcases List.mem_append.1 hf with hf | hf
    ·exact g.fi f hf
    ·simp only [List.mem_singleton] at hf
     subst hf
     refine ⟨Nat.lt_succ_self _,?_⟩
     show (if s.nob=s.nob then o else _).kd=_
     rw [if_pos rfl]; exact ho
   ti:=g.ti
   di:=g.di
   fn:=by
    show ((s.files ++ [(nm,s.nob)]).map (·.1)).Nodup
    rw [List.map_append]
    exact nodup_snoc h.fn fun e=>by
     obtain ⟨f,hf,e⟩:=List.mem_map.1 e
     exact h1 f hf e
   tn:=h.tn
   ft:=fun f hf t ht=>by
    have hf:f ∈ s.files ++ [(nm,s.nob)]:=hf
    rcases List.mem_append.1 hf with hf | hf
    ·exact h.ft f hf t ht
    ·simp only [List.mem_singleton] at hf
     subst hf
     exact fun e=>h2 t ht e.symm
   fo:=by
    show ((s.files ++ [(nm,s.nob)]).map (·.2)).Nodup
    rw [List.map_append]
    exact nodup_snoc h.fo fun e=>by
     obtain ⟨f,hf,e⟩:=List.mem_map.1 e
     have:=(h.fi f hf).1
     dsimp only at e
     omega
   to:=h.to
   dn:=h.dn
   nx:=h.nx
   dl:=h.dl
   fl:=by show (s.files ++ [(nm,s.nob)]).length+s.terms.length≤256; rw [List.length_append]; simp; omega
   ps:=h.ps
   pm:=h.pm
   c0:=h.c0
   c1:=h.c1 }
theorem Ok.addT {s:AK} (h:s.Ok) {nm:ByteArray} {o:AObj} (ho:o.kd=.scr) (h1:∀ f ∈ s.files,f.1≠nm) (h2:∀ f ∈ s.terms,f.1≠nm) (hl:s.files.length+s.terms.length< 256):(s.addT nm o).Ok:=
 have g:=h.newO o
 { ti:=fun f hf=>by
    have hf:f ∈ s.terms ++ [(nm,s.nob)]:=hf
    rcases List.mem_append.1 hf with hf | hf
    ·exact g.ti f hf
    ·simp only [List.mem_singleton] at hf
     subst hf
     refine ⟨Nat.lt_succ_self _,?_⟩
     show (if s.nob=s.nob then o else _).kd=_
     rw [if_pos rfl]; exact ho
   fi:=g.fi
   di:=g.di
   tn:=by
    show ((s.terms ++ [(nm,s.nob)]).map (·.1)).Nodup
    rw [List.map_append]
    exact nodup_snoc h.tn fun e=>by
     obtain ⟨f,hf,e⟩:=List.mem_map.1 e
     exact h2 f hf e
   fn:=h.fn
   ft:=fun f hf t ht=>by
    have ht:t ∈ s.terms ++ [(nm,s.nob)]:=ht
    rcases List.mem_append.1 ht with ht | ht
    ·exact h.ft f hf t ht
    ·simp only [List.mem_singleton] at ht
     subst ht
     exact h1 f hf
   to:=by
    show ((s.terms ++ [(nm,s.nob)]).map (·.2)).Nodup
    rw [List.map_append]
    exact nodup_snoc h.to fun e=>by
     obtain ⟨f,hf,e⟩:=List.mem_map.1 e
     have:=(h.ti f hf).1
     dsimp only at e
     omega
   fo:=h.fo
   dn:=h.dn
   nx:=h.nx
   dl:=h.dl
   fl:=by show s.files.length+(s.terms ++ [(nm,s.nob)]).length≤256; rw [List.length_append]; simp; omega
   ps:=h.ps
   pm:=h.pm
   c0:=h.c0
   c1:=h.c1 }
theorem Ok.met0 {s:AK} (h:s.Ok):s.met0.Ok:=
 { fi:=h.fi,ti:=h.ti,di:=h.di,fn:=h.fn,tn:=h.tn,ft:=h.ft,fo:=h.fo,to:=h.to,dn:=h.dn,nx:=h.nx,dl:=h.dl,fl:=h.fl
   ps:=by have:=h.ps; show (s.ps.drop 1).length≤4096; rw [List.length_drop]; omega
   pm:=fun p hp=>h.pm p (List.mem_of_mem_drop hp)
   c0:=by have:=h.c0; show 0≤s.c0+1; omega
   c1:=h.c1 }
theorem Ok.met1 {s:AK} (h:s.Ok):s.met1.Ok:=
 { fi:=h.fi,ti:=h.ti,di:=h.di,fn:=h.fn,tn:=h.tn,ft:=h.ft,fo:=h.fo,to:=h.to,dn:=h.dn,nx:=h.nx,dl:=h.dl,fl:=h.fl
   ps:=by have:=h.ps; show (s.ps.drop 1).length≤4096; rw [List.length_drop]; omega
   pm:=fun p hp=>h.pm p (List.mem_of_mem_drop hp)
   c1:=by have:=h.c1; show 0≤s.c1+1; omega
   c0:=h.c0 }
theorem metF_ok {ps:List (Int × Int)} {n:Int} (hps:∀ p ∈ ps,mayP p) (h1:1≤n):(metF ps n).2=0∧1≤(metF ps n).1∧(metF ps n).1≤n∨(metF ps n).1=0∧((metF ps n).2=22∨(metF ps n).2=23)∧ps≠[]:=by
 cases ps with
 | nil=>left; exact ⟨rfl,h1,Int.le_refl _⟩
 | cons f r=>
  have hf:=hps f (by simp)
  unfold metF
  dsimp only
  by_cases e1:f.1=1
  ·left
   rw [if_pos e1]
   unfold mayP at hf
   dsimp only
   omega
  ·rw [if_neg e1]
   by_cases e2:f.1=2
   ·right
    rw [if_pos e2]
    exact ⟨rfl,.inl rfl,by simp⟩
   ·rw [if_neg e2]
    by_cases e3:f.1=3
    ·right; rw [if_pos e3]; exact ⟨rfl,.inr rfl,by simp⟩
    ·left; rw [if_neg e3]; exact ⟨rfl,h1,Int.le_refl _⟩
end AK
open Classical in
noncomputable def KL.setOwn (L:KL) (i:Nat) (F:Nat→Prop):KL:=
 { L with own:=fun z=>if F z then some (.obj i) else if L.own z=some (.obj i) then none else L.own z }
theorem KL.setOwn_eq (L:KL) (i:Nat) (F:Nat→Prop) (z:Nat):(L.setOwn i F).own z=some (.obj i)↔F z:=by
 unfold KL.setOwn
 dsimp only
 by_cases h:F z
 ·simp [h]
 ·rw [if_neg h]
  by_cases e:L.own z=some (.obj i)
  ·simp [e,h]
  ·rw [if_neg e]; exact ⟨fun h=>absurd h e,fun e=>absurd e h⟩
theorem KL.setOwn_ne (L:KL) {i:Nat} {F:Nat→Prop} (hF:∀ z,F z→L.own z=some (.obj i)∨L.own z=none) (z:Nat) {t:Tag} (ht:t≠.obj i):(L.setOwn i F).own z=some t↔L.own z=some t:=by
 unfold KL.setOwn
 dsimp only
 by_cases h:F z
 ·rw [if_pos h]
  rcases hF z h with e | e
  ·rw [e]
  ·rw [e]; simp [Ne.symm ht]
 ·rw [if_neg h]
  by_cases e:L.own z=some (.obj i)
  ·rw [if_pos e,e]; simp [Ne.symm ht]
  ·rw [if_neg e]
theorem KL.setOwn_some (L:KL) (i:Nat) (F:Nat→Prop) {z:Nat} (h:(L.setOwn i F).own z≠none):F z∨L.own z≠none:=by
 unfold KL.setOwn at h
 dsimp only at h
 by_cases e:F z
 ·exact .inl e
 ·rw [if_neg e] at h
  by_cases e2:L.own z=some (.obj i)
  ·rw [if_pos e2] at h; exact absurd rfl h
  ·rw [if_neg e2] at h; exact .inr h
theorem AK.mD_setD (s:AK) (L:KL) (d at_ hd:Int):(s.setD d at_ hd).mD L=s.mD L:=by
 show (s.descs.map fun x=>if x.num=d then { x with at_:=at_,hd:=hd } else x).map (fun d=>(Value.int .i64 d.num,pd (L.dloc d.num)))=_
 rw [List.map_map]
 apply List.map_congr_left
 intro x _
 show (Value.int .i64 (if x.num=d then ({ x with at_:=at_,hd:=hd }:AD) else x).num,pd (L.dloc (if x.num=d then ({ x with at_:=at_,hd:=hd }:AD) else x).num))=_
 split <;> rfl
theorem KernO.objStepG {w w':World} {gk:Nat} {s:AK} {L:KL} (h:KernO w gk s L) {i:Nat} {d:Int} {S:Nat→Prop} (k:Kept S w w')
 (hS:∀ z,S z→L.own z=some (.obj i)∨L.own z=some (.desc d)) {o:AObj} (ho:o.kd=(s.objs i).kd) {F:Nat→Prop} (hF:∀ z,F z→L.own z=some (.obj i)∨w.heap.size≤z)
 (hO:ObjF F (fun z=>L.own z=some (.lines i)) w' (L.loc i) o) {at' hd':Int} (hD:∀ y ∈ s.descs,y.num=d→DsO w' (L.dloc d) (s.objs y.ob).kd (L.loc y.ob) y.fl at' hd') (hr:0≤at'∧at'≤1048576∧1≤hd'∧hd'≤1024) :
 ∃ L',KernO w' gk ((s.setO i o).setD d at' hd') L'∧KStep w w' L L'∧L'.loc=L.loc∧L'.dloc=L.dloc∧∀ z,L'.own z≠none→F z∨L.own z≠none:=by
 have hF':∀ z,F z→L.own z=some (.obj i)∨L.own z=none:=fun z hz=>by
  rcases hF z hz with e | e
  ·exact .inl e
  ·right
   cases ho:L.own z with
   | none=>rfl
   | some t=>have:=h.lt z (by rw [ho]; simp); omega
 have ne:=fun z {t:Tag} (ht:t≠.obj i)=>L.setOwn_ne hF' z ht
 have eq:=L.setOwn_eq i F
 have no:∀ z t,L.own z=some t→t≠.obj i→t≠.desc d→¬ S z:=by
  intro z t hz h1 h2 hs
  rcases hS z hs with e | e
  ·rw [hz] at e; simp only [Option.some.injEq] at e; exact h1 e
  ·rw [hz] at e; simp only [Option.some.injEq] at e; exact h2 e
 have hkd:∀ j,((s.setO i o).objs j).kd=(s.objs j).kd:=fun j=>by
  show (if j=i then o else s.objs j).kd=_
  by_cases e:j=i
  ·rw [if_pos e,ho,e]
  ·rw [if_neg e]
 refine ⟨L.setOwn i F,
  { blk:=h.blk.keep k (no _ _ h.oK (by simp) (by simp))
    mf:=h.mf.keep k (no _ _ h.oF (by simp) (by simp))
    mt:=h.mt.keep k (no _ _ h.oT (by simp) (by simp))
    md:=by
     rw [AK.mD_setD]
     exact h.md.keep k (no _ _ h.oD (by simp) (by simp))
    pl:=?_
    ob:=fun j hj=>?_
    ds:=fun y hy=>?_
    oK:=(ne _ (by simp)).2 h.oK
    oF:=(ne _ (by simp)).2 h.oF
    oT:=(ne _ (by simp)).2 h.oT
    oD:=(ne _ (by simp)).2 h.oD
    oP:=(ne _ (by simp)).2 h.oP
    od:=fun y hy=>?_
    lt:=fun z hz=>?_
    ok:=(h.ok.setO ho).setD hr },⟨k.mono fun z _ hz=>?_,fun z hz=>?_⟩,rfl,rfl,fun z hz=>L.setOwn_some _ _ hz⟩
 ·obtain ⟨a,l,c,h1,h3⟩:=h.pl
  exact ⟨a,l,c,h1.keep k (no _ _ h.oP (by simp) (by simp)) (fun b _ hb=>no _ _ (h3 b hb) (by simp) (by simp)),fun b hb=>(ne _ (by simp)).2 (h3 b hb)⟩
 ·show ObjF _ _ w' (L.loc j) (if j=i then o else s.objs j)
  by_cases e:j=i
  ·subst e
   rw [if_pos rfl]
   exact hO.congr (fun z=>(eq z).symm) (fun z=>(ne z (by simp)).symm)
  ·rw [if_neg e]
   have hj':j< s.nob:=hj
   refine ((h.ob j hj').keep k (fun z hz=>no _ _ hz (by simpa using e) (by simp)) (fun z hz=>no _ _ hz (by simp) (by simp))).congr (fun z=>(ne z (by simpa using e)).symm) (fun z=>(ne z (by simp)).symm)
 ·obtain ⟨y',hy',⟨hn,rfl⟩ | ⟨hn,rfl⟩⟩:=AK.setD_mem hy
  ·show DsO w' (L.dloc y'.num) ((s.setO i o).objs y'.ob).kd (L.loc y'.ob) y'.fl at' hd'
   rw [hkd,hn]
   exact hD y' hy' hn
  ·show DsO w' (L.dloc y.num) ((s.setO i o).objs y.ob).kd (L.loc y.ob) y.fl y.at_ y.hd
   rw [hkd]
   have hy':y ∈ s.descs:=hy'
   exact Blk.keep (h.ds y hy') k (no _ _ (h.od y hy') (by simp) (by simpa using hn))
 ·obtain ⟨y',hy',⟨hn,rfl⟩ | ⟨hn,rfl⟩⟩:=AK.setD_mem hy
  ·exact (ne _ (by simp)).2 (h.od y' hy')
  ·exact (ne _ (by simp)).2 (h.od y hy')
 ·rcases L.setOwn_some _ _ hz with e | e
  ·exact hO.lt z e
  ·exact Nat.lt_of_lt_of_le (h.lt z e) k.size
 ·rcases hS z hz with e | e <;> rw [e] <;> simp
 ·rcases L.setOwn_some _ _ hz with e | e
  ·rcases hF z e with e | e
   ·left; rw [e]; simp
   ·exact .inr e
  ·exact .inl e
theorem KernO.objStep {w w':World} {gk:Nat} {s:AK} {L:KL} (h:KernO w gk s L) {d:Int} {x:AD} (hx:s.desc d=some x) {S:Nat→Prop} (k:Kept S w w')
 (hS:∀ z,S z→L.own z=some (.obj x.ob)∨L.own z=some (.desc d)) {o:AObj} (ho:o.kd=(s.objs x.ob).kd) {F:Nat→Prop} (hF:∀ z,F z→L.own z=some (.obj x.ob)∨w.heap.size≤z)
 (hO:ObjF F (fun z=>L.own z=some (.lines x.ob)) w' (L.loc x.ob) o) {at' hd':Int} (hD:DsO w' (L.dloc d) (s.objs x.ob).kd (L.loc x.ob) x.fl at' hd') (hr:0≤at'∧at'≤1048576∧1≤hd'∧hd'≤1024) :
 ∃ L',KernO w' gk ((s.setO x.ob o).setD d at' hd') L'∧KStep w w' L L'∧L'.loc=L.loc∧L'.dloc=L.dloc∧∀ z,L'.own z≠none→F z∨L.own z≠none:=
 h.objStepG k hS ho hF hO (fun y hy hn=>by
  have:=AK.desc_of h.ok hy
  rw [hn,hx] at this
  simp only [Option.some.injEq] at this
  subst this
  exact hD) hr
theorem KernO.obOnly {w w':World} {gk:Nat} {s:AK} {L:KL} (h:KernO w gk s L) {i:Nat} {S:Nat→Prop} (k:Kept S w w')
 (hS:∀ z,S z→L.own z=some (.obj i)) {o:AObj} (ho:o.kd=(s.objs i).kd) {F:Nat→Prop} (hF:∀ z,F z→L.own z=some (.obj i)∨w.heap.size≤z)
 (hO:ObjF F (fun z=>L.own z=some (.lines i)) w' (L.loc i) o) :
 ∃ L',KernO w' gk (s.setO i o) L'∧KStep w w' L L'∧L'.loc=L.loc∧L'.dloc=L.dloc∧∀ z,L'.own z≠none→F z∨L.own z≠none:=by
 have:=h.objStepG (d:=s.next) k (fun z hz=>.inl (hS z hz)) ho hF hO (at':=0) (hd':=1) (fun y hy hn=>by have:=(h.ok.di y hy).2.2.2.2.2.2; omega) ⟨by omega,by omega,by omega,by omega⟩
 have e:(s.setO i o).setD s.next 0 1=s.setO i o:=by
  unfold AK.setD
  have:((s.setO i o).descs.map fun x=>if x.num=s.next then { x with at_:=0,hd:=1 } else x)=(s.setO i o).descs:=by
   rw [List.map_congr_left (g:=id),List.map_id]
   intro y hy
   have:=(h.ok.di y hy).2.2.2.2.2.2
   rw [if_neg (by omega)]; rfl
  rw [this]
 rw [e] at this
 exact this
theorem KernO.ofD {w:World} {gk:Nat} {s:AK} {L:KL} (h:KernO w gk s L) {d:Int} {x:AD} (hx:s.desc d=some x):DsO w (L.dloc d) (s.objs x.ob).kd (L.loc x.ob) x.fl x.at_ x.hd:=by
 obtain ⟨hm,hn⟩:=AK.desc_some hx
 rw [← hn]; exact h.ds x hm
theorem KernO.ofO {w:World} {gk:Nat} {s:AK} {L:KL} (h:KernO w gk s L) {d:Int} {x:AD} (hx:s.desc d=some x):ObjO L w x.ob (s.objs x.ob):=h.ob _ (h.ok.di x (AK.desc_some hx).1).1
theorem KernO.ownD {w:World} {gk:Nat} {s:AK} {L:KL} (h:KernO w gk s L) {d:Int} {x:AD} (hx:s.desc d=some x):L.own (L.dloc d)=some (.desc d):=by
 obtain ⟨hm,hn⟩:=AK.desc_some hx
 rw [← hn]; exact h.od x hm
theorem KernO.descStep {w w':World} {gk:Nat} {s:AK} {L:KL} (h:KernO w gk s L) {d:Int} {x:AD} (hx:s.desc d=some x) (k:Kept (·=L.dloc d) w w')
 {at' hd':Int} (hD:DsO w' (L.dloc d) (s.objs x.ob).kd (L.loc x.ob) x.fl at' hd') (hr:0≤at'∧at'≤1048576∧1≤hd'∧hd'≤1024) :
 ∃ L',KernO w' gk (s.setD d at' hd') L'∧KStep w w' L L'∧L'.loc=L.loc∧L'.dloc=L.dloc∧∀ z,L'.own z≠none→L.own z≠none:=by
 have hd:=h.ownD hx
 have:=h.objStep hx k (fun z hz=>.inr (by rw [hz]; exact hd)) (o:=s.objs x.ob) rfl (F:=fun z=>L.own z=some (.obj x.ob)) (fun z hz=>.inl hz)
  (ObjF.keep (h.ofO hx) k (fun z hz e=>by rw [e,hd] at hz; cases hz) (fun z hz e=>by rw [e,hd] at hz; cases hz)) hD hr
 rw [AK.setO_same] at this
 obtain ⟨L',h1,h2,h3,h4,h5⟩:=this
 exact ⟨L',h1,h2,h3,h4,fun z hz=>by
  rcases h5 z hz with e | e
  ·rw [e]; simp
  ·exact e⟩
theorem KernO.obStep {w w':World} {gk:Nat} {s:AK} {L:KL} (h:KernO w gk s L) {d:Int} {x:AD} (hx:s.desc d=some x) {S:Nat→Prop} (k:Kept S w w')
 (hS:∀ z,S z→L.own z=some (.obj x.ob)) {o:AObj} (ho:o.kd=(s.objs x.ob).kd) {F:Nat→Prop} (hF:∀ z,F z→L.own z=some (.obj x.ob)∨w.heap.size≤z)
 (hO:ObjF F (fun z=>L.own z=some (.lines x.ob)) w' (L.loc x.ob) o) :
 ∃ L',KernO w' gk (s.setO x.ob o) L'∧KStep w w' L L'∧L'.loc=L.loc∧L'.dloc=L.dloc∧∀ z,L'.own z≠none→F z∨L.own z≠none:=by
 have hr:=h.ok.di x (AK.desc_some hx).1
 have:=h.objStep hx k (fun z hz=>.inl (hS z hz)) ho hF hO (Blk.keep (h.ofD hx) k fun e=>by have:=hS _ e; rw [h.ownD hx] at this; cases this) ⟨hr.2.1,hr.2.2.1,hr.2.2.2.1,hr.2.2.2.2.1⟩
 have e:(s.setO x.ob o).setD d x.at_ x.hd=s.setO x.ob o:=AK.setD_same (h.ok.setO ho) (x:=x) hx
 rw [e] at this
 exact this
theorem KernO.metStep {w w1 w2:World} {gk:Nat} {s:AK} {L:KL} (h:KernO w gk s L) {x y:Int} (hb:Blk w1 gk (AK.cells { s with c0:=x,c1:=y } L)) (k1:Kept (·=gk) w w1)
 (hp:∃ a l c,PlO w2 L.pg a l c (s.ps.drop 1)∧∀ b,inA a b→L.own b=some .flts) (k2:Kept (·=L.pg) w1 w2) (hok:AK.Ok { s with c0:=x,c1:=y,ps:=s.ps.drop 1 }) :
 KernO w2 gk { s with c0:=x,c1:=y,ps:=s.ps.drop 1 } L∧KStep w w2 L L:=by
 have k:Kept (fun z=>z=gk∨z=L.pg) w w2:=(k1.mono fun _ _ e=>.inl e).trans k2 fun _ _ e=>.inr e
 have no:∀ z t,L.own z=some t→t≠.kern→t≠.plan→¬ (z=gk∨z=L.pg):=by
  rintro z t hz h1 h2 (rfl | rfl)
  ·rw [h.oK] at hz; simp only [Option.some.injEq] at hz; exact h1 hz.symm
  ·rw [h.oP] at hz; simp only [Option.some.injEq] at hz; exact h2 hz.symm
 refine ⟨{ blk:=hb.keep k2 fun e=>by have:=h.oK; rw [e,h.oP] at this; cases this
           mf:=h.mf.keep k (no _ _ h.oF (by simp) (by simp))
           mt:=h.mt.keep k (no _ _ h.oT (by simp) (by simp))
           md:=h.md.keep k (no _ _ h.oD (by simp) (by simp))
           pl:=hp
           ob:=fun j hj=>(h.ob j hj).keep k (fun z hz=>no _ _ hz (by simp) (by simp)) (fun z hz=>no _ _ hz (by simp) (by simp))
           ds:=fun y hy=>Blk.keep (h.ds y hy) k (no _ _ (h.od y hy) (by simp) (by simp))
           oK:=h.oK,oF:=h.oF,oT:=h.oT,oD:=h.oD,oP:=h.oP,od:=h.od
           lt:=fun z hz=>Nat.lt_of_lt_of_le (h.lt z hz) k.size
           ok:=hok },⟨k.mono fun z _ hz=>?_,fun z hz=>.inl hz⟩⟩
 rcases hz with rfl | rfl
 ·rw [h.oK]; simp
 ·rw [h.oP]; simp
theorem KernO.mfStep {w w':World} {gk:Nat} {s:AK} {L:KL} (h:KernO w gk s L) {fs:List (ByteArray × Nat)} (k:Kept (·=L.rf) w w') (hm:MapO w' L.rf .string (AK.mF { s with files:=fs } L)) (hok:AK.Ok { s with files:=fs }) :
 KernO w' gk { s with files:=fs } L∧KStep w w' L L:=by
 have no:∀ z t,L.own z=some t→t≠.mf→¬ (z=L.rf):=by
  rintro z t hz h1 rfl
  rw [h.oF] at hz; simp only [Option.some.injEq] at hz; exact h1 hz.symm
 refine ⟨{ blk:=h.blk.keep k (no _ _ h.oK (by simp))
           mf:=hm
           mt:=h.mt.keep k (no _ _ h.oT (by simp))
           md:=h.md.keep k (no _ _ h.oD (by simp))
           pl:=?_
           ob:=fun j hj=>(h.ob j hj).keep k (fun z hz=>no _ _ hz (by simp)) (fun z hz=>no _ _ hz (by simp))
           ds:=fun y hy=>Blk.keep (h.ds y hy) k (no _ _ (h.od y hy) (by simp))
           oK:=h.oK,oF:=h.oF,oT:=h.oT,oD:=h.oD,oP:=h.oP,od:=h.od
           lt:=fun z hz=>Nat.lt_of_lt_of_le (h.lt z hz) k.size
           ok:=hok },⟨k.mono fun z _ hz=>?_,fun z hz=>.inl hz⟩⟩
 ·obtain ⟨a,l,c,h1,h3⟩:=h.pl
  exact ⟨a,l,c,h1.keep k (no _ _ h.oP (by simp)) (fun b _ hb=>no _ _ (h3 b hb) (by simp)),h3⟩
 ·subst hz; rw [h.oF]; simp
theorem KernO.mtStep {w w':World} {gk:Nat} {s:AK} {L:KL} (h:KernO w gk s L) {fs:List (ByteArray × Nat)} (k:Kept (·=L.rt) w w') (hm:MapO w' L.rt .string (AK.mT { s with terms:=fs } L)) (hok:AK.Ok { s with terms:=fs }) :
 KernO w' gk { s with terms:=fs } L∧KStep w w' L L:=by
 have no:∀ z t,L.own z=some t→t≠.mt→¬ (z=L.rt):=by
  rintro z t hz h1 rfl
  rw [h.oT] at hz; simp only [Option.some.injEq] at hz; exact h1 hz.symm
 refine ⟨{ blk:=h.blk.keep k (no _ _ h.oK (by simp))
           mt:=hm
           mf:=h.mf.keep k (no _ _ h.oF (by simp))
           md:=h.md.keep k (no _ _ h.oD (by simp))
           pl:=?_
           ob:=fun j hj=>(h.ob j hj).keep k (fun z hz=>no _ _ hz (by simp)) (fun z hz=>no _ _ hz (by simp))
           ds:=fun y hy=>Blk.keep (h.ds y hy) k (no _ _ (h.od y hy) (by simp))
           oK:=h.oK,oF:=h.oF,oT:=h.oT,oD:=h.oD,oP:=h.oP,od:=h.od
           lt:=fun z hz=>Nat.lt_of_lt_of_le (h.lt z hz) k.size
           ok:=hok },⟨k.mono fun z _ hz=>?_,fun z hz=>.inl hz⟩⟩
 ·obtain ⟨a,l,c,h1,h3⟩:=h.pl
  exact ⟨a,l,c,h1.keep k (no _ _ h.oP (by simp)) (fun b _ hb=>no _ _ (h3 b hb) (by simp)),h3⟩
 ·subst hz; rw [h.oT]; simp
theorem KernO.delStep {w w':World} {gk:Nat} {s:AK} {L:KL} (h:KernO w gk s L) {d:Int} {x:AD} (hx:s.desc d=some x) (k:Kept (fun z=>z=L.rd∨z=L.dloc d) w w') (hm:MapO w' L.rd (.int .i64) ((s.delD d).mD L)) :
 KernO w' gk (s.delD d) L∧KStep w w' L L:=by
 have no:∀ z t,L.own z=some t→t≠.md→t≠.desc d→¬ (z=L.rd∨z=L.dloc d):=by
  rintro z t hz h1 h2 (rfl | rfl)
  ·rw [h.oD] at hz; simp only [Option.some.injEq] at hz; exact h1 hz.symm
  ·rw [h.ownD hx] at hz; simp only [Option.some.injEq] at hz; exact h2 hz.symm
 have hyd:∀ y ∈ (s.delD d).descs,y ∈ s.descs∧y.num≠d:=fun y hy=>by
  have:=List.mem_filter.1 hy
  exact ⟨this.1,by simpa using this.2⟩
 refine ⟨{ blk:=h.blk.keep k (no _ _ h.oK (by simp) (by simp))
           md:=hm
           mf:=h.mf.keep k (no _ _ h.oF (by simp) (by simp))
           mt:=h.mt.keep k (no _ _ h.oT (by simp) (by simp))
           pl:=?_
           ob:=fun j hj=>(h.ob j hj).keep k (fun z hz=>no _ _ hz (by simp) (by simp)) (fun z hz=>no _ _ hz (by simp) (by simp))
           ds:=fun y hy=>Blk.keep (h.ds y (hyd y hy).1) k (no _ _ (h.od y (hyd y hy).1) (by simp) (by simpa using (hyd y hy).2))
           oK:=h.oK,oF:=h.oF,oT:=h.oT,oD:=h.oD,oP:=h.oP
           od:=fun y hy=>h.od y (hyd y hy).1
           lt:=fun z hz=>Nat.lt_of_lt_of_le (h.lt z hz) k.size
           ok:=h.ok.delD d },⟨k.mono fun z _ hz=>?_,fun z hz=>.inl hz⟩⟩
 ·obtain ⟨a,l,c,h1,h3⟩:=h.pl
  exact ⟨a,l,c,h1.keep k (no _ _ h.oP (by simp) (by simp)) (fun b _ hb=>no _ _ (h3 b hb) (by simp) (by simp)),h3⟩
 ·rcases hz with rfl | rfl
  ·rw [h.oD]; simp
  ·rw [h.ownD hx]; simp
open Classical in
noncomputable def KL.addO (L:KL) (i b:Nat) (F R:Nat→Prop):KL:=
 { L with loc:=fun j=>if j=i then b else L.loc j
          own:=fun z=>if F z then some (.obj i) else if R z then some (.lines i) else if L.own z=some (.obj i)∨L.own z=some (.lines i) then none else L.own z }
theorem KernO.newStep {w w':World} {gk:Nat} {s:AK} {L:KL} (h:KernO w gk s L) (k:Kept No w w') {b:Nat} {F R:Nat→Prop} {o:AObj} (hO:ObjF F R w' b o) (hF:∀ z,F z→w.heap.size≤z) (hR:∀ z,R z→w.heap.size≤z∧z< w'.heap.size∧¬ F z) :
 KernO w' gk (s.newO o) (L.addO s.nob b F R)∧KStep w w' L (L.addO s.nob b F R):=by
 have old:∀ z t,L.own z=some t→t≠.obj s.nob→t≠.lines s.nob→(L.addO s.nob b F R).own z=some t:=by
  intro z t hz h1 h2
  have:=h.lt z (by rw [hz]; simp)
  unfold KL.addO
  dsimp only
  rw [if_neg (fun e=>by have:=hF z e; omega),if_neg (fun e=>by have:=(hR z e).1; omega),hz,if_neg]
  simp [h1,h2]
 have back:∀ z t,t≠.obj s.nob→t≠.lines s.nob→(L.addO s.nob b F R).own z=some t→L.own z=some t:=by
  intro z t h1 h2 hz
  unfold KL.addO at hz
  dsimp only at hz
  by_cases hf:F z
  ·rw [if_pos hf] at hz; simp only [Option.some.injEq] at hz; exact absurd hz.symm h1
  ·rw [if_neg hf] at hz
   by_cases hr:R z
   ·rw [if_pos hr] at hz; simp only [Option.some.injEq] at hz; exact absurd hz.symm h2
   ·rw [if_neg hr] at hz
    split at hz
    ·cases hz
    ·exact hz
 have newF:∀ z,(L.addO s.nob b F R).own z=some (.obj s.nob)↔F z:=by
  intro z
  unfold KL.addO
  dsimp only
  by_cases hf:F z
  ·simp [hf]
  ·rw [if_neg hf]
   by_cases hr:R z
   ·simp [hr,hf]
   ·rw [if_neg hr]
    split
    ·simp [hf]
    ·rename_i hn; simp only [hf,iff_false]; exact fun e=>hn (.inl e)
 have newR:∀ z,(L.addO s.nob b F R).own z=some (.lines s.nob)↔R z:=by
  intro z
  unfold KL.addO
  dsimp only
  by_cases hf:F z
  ·rw [if_pos hf]
   exact ⟨fun e=>by simp at e,fun e=>absurd hf (hR z e).2.2⟩
  ·rw [if_neg hf]
   by_cases hr:R z
   ·simp [hr]
   ·rw [if_neg hr]
    split
    ·simp [hr]
    ·rename_i hn; simp only [hr,iff_false]; exact fun e=>hn (.inr e)
 have loc:∀ i,i< s.nob→(L.addO s.nob b F R).loc i=L.loc i:=fun i hi=>by
  show (if i=s.nob then b else L.loc i)=_
  rw [if_neg (by omega)]
 have some_:∀ z,(L.addO s.nob b F R).own z≠none→F z∨R z∨L.own z≠none:=by
  intro z hz
  unfold KL.addO at hz
  dsimp only at hz
  by_cases hf:F z
  ·exact .inl hf
  ·rw [if_neg hf] at hz
   by_cases hr:R z
   ·exact .inr (.inl hr)
   ·rw [if_neg hr] at hz
    split at hz
    ·exact absurd rfl hz
    ·exact .inr (.inr hz)
 refine ⟨{ blk:=h.blk.keep k (fun e=>e)
           mf:=?_
           mt:=?_
           md:=h.md.keep k (fun e=>e)
           pl:=?_
           ob:=fun j hj=>?_
           ds:=fun y hy=>?_
           oK:=old _ _ h.oK (by simp) (by simp)
           oF:=old _ _ h.oF (by simp) (by simp)
           oT:=old _ _ h.oT (by simp) (by simp)
           oD:=old _ _ h.oD (by simp) (by simp)
           oP:=old _ _ h.oP (by simp) (by simp)
           od:=fun y hy=>old _ _ (h.od y hy) (by simp) (by simp)
           lt:=fun z hz=>?_
           ok:=h.ok.newO o },⟨k.mono fun _ _ e=>e.elim,fun z hz=>?_⟩⟩
 ·have:(s.newO o).mF (L.addO s.nob b F R)=s.mF L:=by
   apply List.map_congr_left
   intro f hf
   rw [loc _ (h.ok.fi f hf).1]
  rw [this]; exact h.mf.keep k (fun e=>e)
 ·have:(s.newO o).mT (L.addO s.nob b F R)=s.mT L:=by
   apply List.map_congr_left
   intro f hf
   rw [loc _ (h.ok.ti f hf).1]
  rw [this]; exact h.mt.keep k (fun e=>e)
 ·obtain ⟨a,l,c,h1,h3⟩:=h.pl
  exact ⟨a,l,c,h1.keep k (fun e=>e) (fun b _ hb e=>e),fun b hb=>old _ _ (h3 b hb) (by simp) (by simp)⟩
 ·have hj:j< s.nob+1:=hj
  by_cases e:j=s.nob
  ·subst e
   show ObjF _ _ w' (if s.nob=s.nob then b else _) (if s.nob=s.nob then o else _)
   rw [if_pos rfl,if_pos rfl]
   exact hO.congr (fun z=>(newF z).symm) (fun z=>(newR z).symm)
  ·have hj':j< s.nob:=by omega
   rw [AK.newO_old s o hj']
   show ObjF _ _ w' ((L.addO s.nob b F R).loc j) _
   rw [loc j hj']
   refine ((h.ob j hj').keep k (fun _ _ e=>e) (fun _ _ e=>e)).congr (fun z=>⟨fun hz=>old _ _ hz (by simpa using e) (by simp),fun hz=>back _ _ (by simpa using e) (by simp) hz⟩) (fun z=>⟨fun hz=>old _ _ hz (by simp) (by simpa using e),fun hz=>back _ _ (by simp) (by simpa using e) hz⟩)
 ·have hy:y ∈ s.descs:=hy
  have:=(h.ok.di y hy).1
  show DsO w' (L.dloc y.num) ((s.newO o).objs y.ob).kd ((L.addO s.nob b F R).loc y.ob) y.fl y.at_ y.hd
  rw [AK.newO_old s o this,loc _ this]
  exact Blk.keep (h.ds y hy) k (fun e=>e)
 ·rcases some_ z hz with e | e | e
  ·exact hO.lt z e
  ·exact (hR z e).2.1
  ·exact Nat.lt_of_lt_of_le (h.lt z e) k.size
 ·rcases some_ z hz with e | e | e
  ·exact .inr (hF z e)
  ·exact .inr (hR z e).1
  ·exact .inl e
end Go.Proofs.YteojolihgijdhaaGreatDoor
namespace Go.Proofs.YteojolihgijdhaaGreatDoor
open Go.Lw
def KL.addD (L:KL) (d:Int) (nb:Nat):KL:=
 { L with dloc:=fun x=>if x=d then nb else L.dloc x,own:=fun z=>if z=nb then some (.desc d) else L.own z }
theorem KernO.new_none {w:World} {gk:Nat} {s:AK} {L:KL} (h:KernO w gk s L) {z:Nat} (hz:w.heap.size≤z):L.own z=none:=by
 cases ho:L.own z with
 | none=>rfl
 | some x=>have:=h.lt _ (by rw [ho]; simp); omega
theorem describe_ok {w:World} {gk:Nat} {s:AK} {L:KL} (h:KernO w gk s L) {i:Nat} (hi:i< s.nob) (fl:Int) (hn2:s.next≤4611686018427387904) (hl:s.descs.length< 256) :
 CallR Tryz.prog 189 [pd gk,tv (s.objs i).kd (L.loc i),.int .i64 fl] w fun v w'=>v=.int .i64 s.next∧∃ L',KernO w' gk (s.newD i fl) L'∧KStep w w' L L'∧L'.loc=L.loc:=by
 refine C189 ?_
 unfold L189
 have hn1:=h.ok.nx
 have hTT:Tryz.prog.underlying 77=some (.map 3 277):=by kernel_rfl
 have hI:Tryz.prog.underlying 3=some (.int .i64):=by kernel_rfl
 have hgd:gk≠L.rd:=fun e=>by have h1:=h.oK; rw [e,h.oD] at h1; cases h1
 have hnb:L.own w.heap.size=none:=h.new_none (Nat.le_refl _)
 refine nnI ⟨_,h.blk.at (i:=4) rfl,nnI ⟨_,h.blk.at (i:=4) rfl,⟨by omega,by omega⟩,nnI (stC_at h.blk (i:=4) (by simp [AK.cells]) fun w1 hb1 hk1 hs1=>?_)⟩⟩
 have hb1:Blk w1 gk ((s.newD i fl).cells L):=hb1
 refine nnI ⟨_,hb1.at (i:=3) rfl,?_⟩
 intro w2
 have hd2:Blk w2 w1.heap.size #[tv (s.objs i).kd (L.loc i),.int .i64 fl,.int .i64 0,.int .i64 1]:=Blk.alloc _ _ _
 have hk2:Kept No w1 w2:=Kept.alloc _ _ _
 clear_value w2
 rw [hs1] at hd2 ⊢
 have k2:Kept (·=gk) w w2:=hk1.no hk2
 have hmd2:=h.md.keep k2 (fun e=>hgd e.symm)
 have hout:∀ x ∈ s.mD L,x.1≠.int .i64 s.next:=by
  intro x hx e
  obtain ⟨y,hy,rfl⟩:=List.mem_map.1 hx
  simp only [Value.int.injEq,true_and] at e
  have:=(h.ok.di y hy).2.2.2.2.2.2
  omega
 obtain ⟨w3,hrun,hmd3,hk3,hs3⟩:=update_new hTT hI hmd2 (k:=.int .i64 s.next) rfl hout (pd w.heap.size)
 have kA:Kept (fun x=>x=gk∨x=L.rd) w w3:=(k2.mono fun _ _ e=>.inl e).trans hk3 fun _ _ e=>.inr e
 have hd2lt:=hd2.lt
 have no:∀ z t,L.own z=some t→t≠.kern→t≠.md→¬ (z=gk∨z=L.rd):=by
  rintro z t hz h1 h2 (rfl | rfl)
  ·rw [h.oK] at hz; simp only [Option.some.injEq] at hz; exact h1 hz.symm
  ·rw [h.oD] at hz; simp only [Option.some.injEq] at hz; exact h2 hz.symm
 have old:∀ z t,L.own z=some t→(L.addD s.next w.heap.size).own z=some t:=by
  intro z t hz
  show (if z=w.heap.size then _ else L.own z)=_
  rw [if_neg (fun e=>by rw [e,hnb] at hz; cases hz)]
  exact hz
 have back:∀ z t,t≠.desc s.next→(L.addD s.next w.heap.size).own z=some t→L.own z=some t:=by
  intro z t ht hz
  have hz:(if z=w.heap.size then some (Tag.desc s.next) else L.own z)=some t:=hz
  by_cases e:z=w.heap.size
  ·rw [if_pos e] at hz; simp only [Option.some.injEq] at hz; exact absurd hz.symm ht
  ·rw [if_neg e] at hz; exact hz
 have dl:∀ y ∈ s.descs,(L.addD s.next w.heap.size).dloc y.num=L.dloc y.num:=fun y hy=>by
  show (if y.num=s.next then w.heap.size else L.dloc y.num)=_
  have:=(h.ok.di y hy).2.2.2.2.2.2
  rw [if_neg (by omega)]
 refine ⟨w3,hrun,rfl,L.addD s.next w.heap.size,
  { blk:=(hb1.keep hk2 fun e=>e).keep hk3 hgd
    mf:=h.mf.keep kA (no _ _ h.oF (by simp) (by simp))
    mt:=h.mt.keep kA (no _ _ h.oT (by simp) (by simp))
    md:=?_
    pl:=?_
    ob:=fun j hj=>?_
    ds:=fun d hd=>?_
    oK:=old _ _ h.oK
    oF:=old _ _ h.oF
    oT:=old _ _ h.oT
    oD:=old _ _ h.oD
    oP:=old _ _ h.oP
    od:=fun d hd=>?_
    lt:=fun x hx=>?_
    ok:=h.ok.newD hi fl hl },⟨kA.mono fun z _ hz=>?_,fun z hz=>?_⟩,rfl⟩
 ·have:(s.newD i fl).mD (L.addD s.next w.heap.size)=s.mD L ++ [(.int .i64 s.next,pd w.heap.size)]:=by
   show (s.descs ++ [_]).map _=_
   rw [List.map_append]
   have e1:s.descs.map (fun d=>(Value.int .i64 d.num,pd ((L.addD s.next w.heap.size).dloc d.num)))=s.mD L:=List.map_congr_left fun y hy=>by rw [dl y hy]
   rw [e1]
   show _ ++ [(Value.int .i64 s.next,pd (if s.next=s.next then w.heap.size else _))]=_
   rw [if_pos rfl]
  rw [this]
  exact hmd3
 ·obtain ⟨a,l,c,h1,h3⟩:=h.pl
  exact ⟨a,l,c,h1.keep kA (no _ _ h.oP (by simp) (by simp)) (fun b _ hb=>no _ _ (h3 b hb) (by simp) (by simp)),fun b hb=>old _ _ (h3 b hb)⟩
 ·exact ((h.ob j hj).keep kA (fun z hz=>no _ _ hz (by simp) (by simp)) (fun z hz=>no _ _ hz (by simp) (by simp))).congr (fun z=>⟨fun hz=>old _ _ hz,fun hz=>back _ _ (by simp) hz⟩) (fun z=>⟨fun hz=>old _ _ hz,fun hz=>back _ _ (by simp) hz⟩)
 ·have hd:d ∈ s.descs ++ [⟨s.next,i,fl,0,1⟩]:=hd
  rcases List.mem_append.1 hd with hd | hd
  ·rw [dl d hd]
   exact Blk.keep (h.ds d hd) kA (no _ _ (h.od d hd) (by simp) (by simp))
  ·simp only [List.mem_singleton] at hd
   subst hd
   show DsO w3 (if s.next=s.next then w.heap.size else _) _ _ fl 0 1
   rw [if_pos rfl]
   have hrdlt:=h.md.lt
   exact Blk.keep hd2 hk3 (fun e=>by omega)
 ·have hd:d ∈ s.descs ++ [⟨s.next,i,fl,0,1⟩]:=hd
  rcases List.mem_append.1 hd with hd | hd
  ·rw [dl d hd]; exact old _ _ (h.od d hd)
  ·simp only [List.mem_singleton] at hd
   subst hd
   show (if (if s.next=s.next then w.heap.size else _)=w.heap.size then some (Tag.desc s.next) else _)=_
   rw [if_pos rfl,if_pos rfl]
 ·have hx:(if x=w.heap.size then some (Tag.desc s.next) else L.own x)≠none:=hx
  by_cases e:x=w.heap.size
  ·omega
  ·rw [if_neg e] at hx
   have:=h.lt x hx
   omega
 ·rcases hz with rfl | rfl
  ·rw [h.oK]; simp
  ·rw [h.oD]; simp
 ·have hx:(if z=w.heap.size then some (Tag.desc s.next) else L.own z)≠none:=hz
  by_cases e:z=w.heap.size
  ·exact .inr (by omega)
  ·rw [if_neg e] at hx
   exact .inl hx
theorem enone_to {w:World} {gk:Nat} {s:AK} {L:KL} (h:KernO w gk s L) {Q:Value→World→Prop} (hq:Q (.bool false) w):CallR Tryz.prog 110 [pd gk] w Q:=by
 refine C110 ?_
 unfold L110
 exact condF rfl (nnI ⟨_,h.blk.at0 rfl,hq⟩)
theorem find_ok {w:World} {gk:Nat} {s:AK} {L:KL} (h:KernO w gk s L) (d way:Int) :
 CallR Tryz.prog 173 [pd gk,.int .i64 d,.int .i64 way] w fun v w'=>w'=w∧((s.find d way≠0∧v=.tuple #[.pointer none,.int .i64 (s.find d way)])∨(s.find d way=0∧∃ x,s.desc d=some x∧v=.tuple #[pd (L.dloc d),.int .i64 0])):=by
 refine C173 ?_
 unfold L173
 have hT:Tryz.prog.underlying 77=some (.map 3 277):=by kernel_rfl
 have hI:Tryz.prog.underlying 3=some (.int .i64):=by kernel_rfl
 refine enone_to h ⟨false,rfl,condF rfl (nnI ⟨_,h.blk.at (i:=3) rfl,?_⟩)⟩
 unfold AK.find
 cases hd:s.desc d with
 | none=>
  have hout:∀ x ∈ s.mD L,x.1≠.int .i64 d:=by
   intro x hx e
   obtain ⟨y,hy,rfl⟩:=List.mem_map.1 hx
   simp only [Value.int.injEq,true_and] at e
   exact AK.desc_none hd y hy e
  refine ⟨none,false,w,lookup_out hT hI h.md (k:=.int .i64 d) rfl hout (z:=.pointer none) (by kernel_rfl) true,condT rfl ⟨rfl,.inl ⟨by simp,rfl⟩⟩⟩
 | some x=>
  obtain ⟨hx,hxn⟩:=AK.desc_some hd
  have hin:(Value.int .i64 d,pd (L.dloc d)) ∈ s.mD L:=List.mem_map.2 ⟨x,hx,by rw [hxn]⟩
  refine ⟨some ⟨L.dloc d,0,none⟩,true,w,lookup_in hT hI h.md (k:=.int .i64 d) rfl hin true,condF rfl (nnI ⟨_,Blk.at (h.ofD hd) (i:=1) rfl,?_⟩)⟩
  refine condI (fun hb=>⟨rfl,.inl ?_⟩) (fun hb=>⟨rfl,.inr ?_⟩)
  ·have hb:bitI x.fl way≠way:=by simpa [bitI] using hb
   dsimp only
   rw [if_pos hb]
   exact ⟨by decide,rfl⟩
  ·have hb:¬ bitI x.fl way≠way:=by simpa [bitI] using hb
   dsimp only
   rw [if_neg hb]
   exact ⟨rfl,x,rfl,rfl⟩
theorem waitsD_ok {w:World} {gk:Nat} {s:AK} {L:KL} (h:KernO w gk s L) {d:Int} {x:AD} (hx:s.desc d=some x):CallR Tryz.prog 236 [pd (L.dloc d)] w fun v w'=>v=.bool (s.waits x)∧Kept No w w':=by
 have hO:=h.ofO hx
 have hD:=h.ofD hx
 unfold AK.waits
 cases ho:s.objs x.ob with
 | file bs=>
  rw [ho] at hD
  refine (waits_ok hD (bs:=[]) (e0:=0) (e1:=0) (fun hk=>by cases hk)).mono fun v w' hv=>?_
  simpa [AObj.kd] using hv
 | term LL scr=>
  rw [ho] at hD
  refine (waits_ok hD (bs:=[]) (e0:=0) (e1:=0) (fun hk=>by cases hk)).mono fun v w' hv=>?_
  simpa [AObj.kd] using hv
 | pipe bs e0 e1=>
  rw [ho] at hD hO
  refine (waits_ok hD (bs:=bs) (e0:=e0) (e1:=e1) (fun hk=>hO.1)).mono fun v w' hv=>?_
  simpa [AObj.kd] using hv
theorem kindF_ok {w:World} (k:TK) (b:Nat):CallR Tryz.prog (kindF k) [ag b] w fun v w'=>v=.int .i64 (AK.kindN k)∧Kept No w w':=by
 cases k
 ·exact C364 ⟨rfl,Kept.alloc _ _ _⟩
 ·exact C359 ⟨rfl,Kept.alloc _ _ _⟩
 ·exact C379 ⟨rfl,Kept.alloc _ _ _⟩
theorem kind_ok {w:World} {gk:Nat} {s:AK} {L:KL} (h:KernO w gk s L) (d:Int):CallR Tryz.prog 137 [pd gk,.int .i64 d] w fun v w'=>v=.int .i64 (s.kind d)∧Kept No w w':=by
 refine C137 ?_
 unfold L137
 refine CallR.mono (find_ok h d 0) ?_
 unfold AK.kind
 rintro v w1 ⟨rfl,⟨hne,rfl⟩ | ⟨he,x,hd,rfl⟩⟩
 ·refine ⟨_,_,rfl,condI (fun _=>⟨?_,Kept.refl _ _⟩) (fun e=>absurd (by simpa using e) hne)⟩
  rw [if_pos hne]
 ·refine ⟨_,_,rfl,condFa2 (nnI ⟨_,Blk.at0 (h.ofD hd) rfl,_,_,_,tv_kind (s.objs x.ob).kd (L.loc x.ob) #[] _,CallR.mono (kindF_ok (s.objs x.ob).kd (L.loc x.ob)) ?_⟩)⟩
  rintro v w2 ⟨rfl,hk⟩
  refine ⟨_,rfl,?_,hk⟩
  rw [if_neg (fun e=>e he),hd]
end Go.Proofs.YteojolihgijdhaaGreatDoor
