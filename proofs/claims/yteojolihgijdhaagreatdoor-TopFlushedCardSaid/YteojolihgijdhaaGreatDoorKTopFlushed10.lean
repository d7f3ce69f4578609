/- Part 10 of 21 of the proof of TopFlushed. Conditions: the theorem's: none. -/
import Derived.Test.YteojolihgijdhaaGreatDoorKTopFlushed5
set_option linter.unusedVariables false
set_option maxRecDepth 512
namespace Go.Lw
open Go.ChangeShapes Go.WideShapes Go.RowKit
def cellsAt (W:World) (a:Addr):Nat→List Value→Prop
 | _,[]=>True
 | 0,v :: vs=>W.cell? a=some v∧cellsAt W a 1 vs
 | i+1,v :: vs=>W.cell? (a.add (i+1))=some v∧cellsAt W a (i+2) vs
theorem cellsAt_of {W:World} {a:Addr}:∀ {vs:List Value} {i:Nat},(∀ j v,vs[j]?=some v→W.cell? (a.add (i+j))=some v)→cellsAt W a i vs
 | [],i,_=>by cases i <;> exact trivial
 | v :: vs,0,h=>⟨by have:=h 0 v rfl; simpa [Addr.add] using this,cellsAt_of fun j u hj=>by have:=h (j+1) u hj; rw [← this]; congr 2; omega⟩
 | v :: vs,i+1,h=>⟨h 0 v rfl,cellsAt_of fun j u hj=>by have:=h (j+1) u hj; rw [← this]; congr 2; omega⟩
def contigB (P:Program):List Field→Nat→Nat→Bool
 | [],o,tot=>Nat.beq o tot
 | f :: r,o,tot=>Nat.beq f.offset o && contigB P r (o+P.cellsOf f.type) tot
def vwF (v:TypeId→(List Value→Prop)→Prop):List Field→List Value→(List Value→Prop)→Prop
 | [],acc,K=>K acc
 | f :: r,acc,K=>v f.type fun cs=>vwF v r (acc ++ cs) K
def vw (P:Program) (W:World):Nat→TypeId→(List Value→Prop)→Prop
 | 0,_,K=>∃ cs,K cs
 | fuel+1,t,K=>
  match P.underlying t with
  | some .bool=>∃ b,K [.bool b]
  | some (.int k)=>∃ n,(Lit.int k n).wf=true∧K [.int k n]
  | some .string=>∃ s:ByteArray,s.size≤140737488351232∧K [.string s]
  | some (.slice e)=>
   match P.underlying e with
   | some (.int k)=>bif !Nat.beq (P.cellsOf e) 1 then ∃ cs,K cs else ∃ (a:Option Addr) (l c:Nat) (ns:List Int),RdS 1 W a l c (ns.map (Value.int k))∧(∀ n ∈ ns,(Lit.int k n).wf=true)∧l * P.bytesOf e≤140737488351232∧K [.slice a l c]
   | some .string=>bif !Nat.beq (P.cellsOf e) 1 then ∃ cs,K cs else ∃ (a:Option Addr) (l c:Nat) (ss:List ByteArray),RdS 1 W a l c (ss.map Value.string)∧(∀ s ∈ ss,s.size≤140737488351232)∧l * P.bytesOf e≤140737488351232∧K [.slice a l c]
   | some .bool=>bif !Nat.beq (P.cellsOf e) 1 then ∃ cs,K cs else ∃ (a:Option Addr) (l c:Nat) (bs:List Bool),RdS 1 W a l c (bs.map Value.bool)∧l * P.bytesOf e≤140737488351232∧K [.slice a l c]
   | _=>∃ (a:Option Addr) (l c:Nat),l≤c∧(a=none→c=0)∧l * P.bytesOf e≤140737488351232∧
    (∀ (q:Addr),a=some q→∀ i:Nat,i< l→vw P W fuel e fun cs=>cellsAt W (q.add (i * P.cellsOf e)) 0 cs)∧K [.slice a l c]
  | some (.struct fs)=>bif contigB P fs.toList 0 (P.cellsOf t) then vwF (vw P W fuel) fs.toList [] K else ∃ cs,K cs
  | _=>∃ cs,K cs
section
variable {H : Type} {enc : TypeId × Value → H} {P : Program} {W : World}
def Small (P:Program) (t:TypeId) (d:DataW H):Prop:=∀ n ∈ d.weights P t,n≤reachBytes
theorem Small.slice {t e:TypeId} {elems spare:List (DataW H)} (hu:P.underlying t=some (.slice e)) (h:Small P t (.slice elems spare)) :
 (elems.length+spare.length) * P.bytesOf e≤reachBytes∧∀ d ∈ elems,Small P e d:=by
 have key:∀ (l:List (DataW H)) (d:DataW H),d ∈ l→∀ n ∈ d.weights P e,n ∈ DataW.weightsAll P e l:=by
  intro l
  induction l with
  | nil=>intro d hd; cases hd
  | cons x l ih=>
   intro d hd n hn
   simp only [DataW.weightsAll,List.mem_append]
   rcases List.mem_cons.1 hd with rfl | hd
   ·exact .inl hn
   ·exact .inr (ih d hd n hn)
 refine ⟨h _ (by simp [DataW.weights,hu]),fun d hd n hn=>h n ?_⟩
 simp only [DataW.weights,hu,List.mem_cons,List.mem_append]
 exact .inr (.inl (key _ d hd n hn))
theorem ofOne {e:TypeId} {sp:Nat→Bool} {n m:Nat} {V:Nat→Value} {D:Nat→DataW H} {Pl:Nat→List MemPlace} {α:Type} {f:α→Value} {p:α→Prop} [Inhabited α]
 (dec:∀ {v:Value} {x:DataW H × List MemPlace},DataW.trod enc P W 0 sp true n e [v]=some x→Small P e x.1→∃ y,v=f y∧p y)
 {a:Addr} (h:∀ i,i< m→W.cell? (a.add i)=some (V i)∧DataW.trod enc P W 0 sp true n e [V i]=some (D i,Pl i)) (hs:∀ i,i< m→Small P e (D i)) :
 ∃ ys:List α,ys.length=m∧(∀ y ∈ ys,p y)∧∀ i v,(ys.map f)[i]?=some v→W.cell? (a.add i)=some v:=by
 obtain ⟨g,hg⟩:=Deep.choose_lt (α:=α) (n:=m) (p:=fun i y=>V i=f y∧p y) (fun i hi=>dec (h i hi).2 (hs i hi))
 refine ⟨(List.range m).map g,by simp,fun y hy=>?_,fun i v hi=>?_⟩
 ·obtain ⟨i,hi,rfl⟩:=List.mem_map.1 hy
  exact (hg i (List.mem_range.1 hi)).2
 ·rw [List.getElem?_map,List.getElem?_map] at hi
  by_cases hlt:i< m
  ·simp [hlt] at hi
   subst hi
   rw [(h i hlt).1,(hg i hlt).1]
  ·simp [hlt] at hi
theorem vwF_of {sp:Nat→Bool} {m n:Nat} {cs:List Value} {K:List Value→Prop} (hK:K cs)
 (ih:∀ (t:TypeId) (cs:List Value) (x:DataW H × List MemPlace) (K:List Value→Prop),DataW.trod enc P W 0 sp true n t cs=some x→Small P t x.1→K cs→vw P W m t K) :
 ∀ (fl:List Field) (xs:List (DataW H × List MemPlace)) (o:Nat) (acc:List Value),acc=cs.take o→contigB P fl o cs.length=true→fl.length=xs.length→
  (∀ (i:Nat) (f:Field),fl[i]?=some f→DataW.trod enc P W 0 sp true n f.type ((cs.drop f.offset).take (P.cellsOf f.type))=xs[i]?)→
  (∀ w ∈ DataW.weightsEach P (fl.map (·.type)) (xs.map (·.1)),w≤reachBytes)→vwF (vw P W m) fl acc K
 | [],xs,o,acc,ha,hc,_,_,_=>by
  unfold contigB at hc
  have:o=cs.length:=Nat.eq_of_beq_eq_true hc
  subst this
  rw [List.take_length] at ha
  subst ha
  exact hK
 | f :: r,[],_,_,_,_,hl,_,_=>by cases hl
 | f :: r,x :: xs,o,acc,ha,hc,hl,hx,hw=>by
  unfold contigB at hc
  simp only [Bool.and_eq_true] at hc
  have ho:f.offset=o:=Nat.eq_of_beq_eq_true hc.1
  have h0:=hx 0 f rfl
  simp only [List.getElem?_cons_zero] at h0
  simp only [List.map_cons,DataW.weightsEach,List.mem_append] at hw
  unfold vwF
  refine ih f.type _ x _ h0 (fun n hn=>hw n (.inl hn)) ?_
  refine vwF_of hK ih r xs (o+P.cellsOf f.type) _ ?_ hc.2 (by simpa using hl) (fun i g hg=>hx (i+1) g hg) (fun n hn=>hw n (.inr hn))
  rw [ha,ho,List.take_add]
theorem vw_of {sp:Nat→Bool} (hsp:∀ b,sp b=true):∀ (m n:Nat) (t:TypeId) (cs:List Value) (x:DataW H × List MemPlace) (K:List Value→Prop),
 DataW.trod enc P W 0 sp true n t cs=some x→Small P t x.1→K cs→vw P W m t K
 | 0,_,_,cs,_,K,_,_,hK=>⟨cs,hK⟩
 | m+1,n,t,cs,x,K,h,hs,hK=>by
  unfold vw
  split
  ·rename_i ht
   obtain ⟨b,rfl,_⟩:=DataW.trod_bool ht h
   exact ⟨b,hK⟩
  ·rename_i k ht
   obtain ⟨z,rfl,_,hz⟩:=DataW.trod_int ht h
   exact ⟨z,hz,hK⟩
  ·rename_i ht
   obtain ⟨s,rfl,rfl,hz⟩:=DataW.trod_string ht h
   refine ⟨s,?_,hK⟩
   have:=hs s.data.toList.length (by simp [DataW.weights])
   rwa [Array.length_toList] at this
  ·rename_i e ht
   have gen:∀ {α:Type} [Inhabited α] {f:α→Value} {p:α→Prop},P.cellsOf e=1→
    (∀ {k:Nat} {v:Value} {x:DataW H × List MemPlace},DataW.trod enc P W 0 sp true k e [v]=some x→Small P e x.1→∃ y,v=f y∧p y)→
    ∃ (a:Option Addr) (l c:Nat) (ys:List α),cs=[.slice a l c]∧RdS 1 W a l c (ys.map f)∧(∀ y ∈ ys,p y)∧l * P.bytesOf e≤140737488351232:=by
    intro α _ f p hc dec
    rcases Deep.open_slice1 ht hc h with ⟨rfl,rfl⟩ | ⟨a,l,c,mm,k,V,D,Pl,rfl,hb,hlc,hcm,hmm,rfl,hx⟩
    ·exact ⟨none,0,0,[],rfl,by simpa using RdS.nil 1 W,by simp,by omega⟩
    ·rw [if_pos (hsp _)] at hmm
     obtain rfl:=hmm.symm
     obtain ⟨hsz,hel⟩:=hs.slice ht
     simp only [List.length_map,List.length_range] at hsz
     have hss:∀ i,i< l→Small P e (D i):=fun i hi=>hel _ (List.mem_map.2 ⟨i,List.mem_range.2 hi,rfl⟩)
     obtain ⟨ys,hyl,hyp,hyc⟩:=ofOne (a:=a) (m:=l) dec (fun i hi=>hx i (by omega)) hss
     refine ⟨some a,l,c,ys,rfl,⟨by simp [hyl],hlc,(fun h=>by cases h),fun ad had i v hi=>by cases had; exact hyc i v hi⟩,hyp,?_⟩
     have:l * P.bytesOf e≤(l+(c - l)) * P.bytesOf e:=Nat.mul_le_mul_right _ (by omega)
     unfold reachBytes at hsz
     omega
   split
   ·rename_i k he
    refine condI (fun _=>⟨cs,hK⟩) (fun hc=>?_)
    have hc:P.cellsOf e=1:=Nat.eq_of_beq_eq_true (by cases hb:Nat.beq (P.cellsOf e) 1 <;> simp_all)
    obtain ⟨a,l,c,ys,rfl,h1,h2,h3⟩:=gen (α:=Int) (f:=Value.int k) (p:=fun n=>(Lit.int k n).wf=true) hc (fun hx _=>by
     obtain ⟨z,hz,_,hw⟩:=DataW.trod_int he hx
     cases hz; exact ⟨z,rfl,hw⟩)
    exact ⟨a,l,c,ys,h1,h2,h3,hK⟩
   ·rename_i he
    refine condI (fun _=>⟨cs,hK⟩) (fun hc=>?_)
    have hc:P.cellsOf e=1:=Nat.eq_of_beq_eq_true (by cases hb:Nat.beq (P.cellsOf e) 1 <;> simp_all)
    obtain ⟨a,l,c,ys,rfl,h1,h2,h3⟩:=gen (α:=ByteArray) (f:=Value.string) (p:=fun s=>s.size≤140737488351232) hc (fun hx hsm=>by
     obtain ⟨s,hz,rfl,hw⟩:=DataW.trod_string he hx
     cases hz
     refine ⟨s,rfl,?_⟩
     have:=hsm s.data.toList.length (by simp [DataW.weights])
     rwa [Array.length_toList] at this)
    exact ⟨a,l,c,ys,h1,h2,h3,hK⟩
   ·rename_i he
    refine condI (fun _=>⟨cs,hK⟩) (fun hc=>?_)
    have hc:P.cellsOf e=1:=Nat.eq_of_beq_eq_true (by cases hb:Nat.beq (P.cellsOf e) 1 <;> simp_all)
    obtain ⟨a,l,c,ys,rfl,h1,_,h3⟩:=gen (α:=Bool) (f:=Value.bool) (p:=fun _=>True) hc (fun hx _=>by
     obtain ⟨b,hz,_⟩:=DataW.trod_bool he hx
     cases hz; exact ⟨b,rfl,trivial⟩)
    exact ⟨a,l,c,ys,h1,h3,hK⟩
   ·rcases Deep.open_slice ht h with ⟨rfl,rfl⟩ | ⟨a,l,c,mm,k,D,Pl,rfl,hb,hlc,hcm,hmm,rfl,hx⟩
    ·exact ⟨none,0,0,by omega,fun _=>rfl,by omega,(fun q hq=>by cases hq),hK⟩
    ·rw [if_pos (hsp _)] at hmm
     obtain rfl:=hmm.symm
     obtain ⟨hsz,hel⟩:=hs.slice ht
     simp only [List.length_map,List.length_range] at hsz
     have hle:l * P.bytesOf e≤(l+(c - l)) * P.bytesOf e:=Nat.mul_le_mul_right _ (by omega)
     unfold reachBytes at hsz
     refine ⟨some a,l,c,hlc,(fun h=>by cases h),by omega,fun q hq i hi=>?_,hK⟩
     cases hq
     obtain ⟨cs',h1,h2⟩:=hx i (by omega)
     obtain ⟨_,hlen,hcell⟩:=World.cells?_some h1
     refine vw_of hsp m k e cs' _ _ h2 (hel _ (List.mem_map.2 ⟨i,List.mem_range.2 hi,rfl⟩)) (cellsAt_of fun j v hj=>?_)
     have hjl:j< P.cellsOf e:=by rw [← hlen]; exact (List.getElem?_eq_some_iff.1 hj).1
     rw [Nat.zero_add,hcell j hjl]; exact hj
  ·rename_i fs ht
   obtain ⟨xs,k,_,rfl,hcl,hxl,hf⟩:=DataW.trod_struct ht h
   cases hB:contigB P fs.toList 0 (P.cellsOf t) with
   | false=>exact ⟨cs,hK⟩
   | true=>
    refine vwF_of (n:=k) hK (fun t cs x K h hs hK=>vw_of hsp m k t cs x K h hs hK) fs.toList xs 0 [] (by simp) (by rw [hcl]; exact hB) (by simp [hxl]) (fun i f hi=>hf i f (by simpa using hi)) ?_
    intro w hw
    exact hs w (by simpa [DataW.weights,ht] using hw)
  ·exact ⟨cs,hK⟩
end
def aggT (P:Program) (t:TypeId):Bool:=match P.underlying t with | some (.struct _)=>true | _=>false
def plainT (P:Program) (t:TypeId):Bool:=match P.underlying t with | some .bool | some (.int _) | some .string | some (.slice _)=>true | _=>false
def valOf (P:Program) (t:TypeId) (cs:List Value):Value:=bif aggT P t then .agg cs.toArray else cs.headD undef
def vwA (P:Program) (W:World) (m:Nat):List TypeId→(List Value→Prop)→Prop
 | [],K=>K []
 | t :: ts,K=>vw P W m t fun cs=>vwA P W m ts fun vs=>K (valOf P t cs :: vs)
theorem vwA_of {H:Type} {enc:TypeId × Value→H} {P:Program} {W:World} {base:Nat} (m:Nat) :
 ∀ (ts:List TypeId) (vs:List Value) (ds:List (DataW H)) (ps:List MemPlace) (K:List Value→Prop),ts.all (fun t=>aggT P t || plainT P t)=true→
 (∀ (j:Nat) t v,ts[j]?=some t→vs[j]?=some v→Value.okWide P W .any base t v)→DataW.TrodAll enc P W 0 (fun _=>true) true ts vs ds ps→
 (∀ n ∈ DataW.weightsEach P ts ds,n≤reachBytes)→K vs→vwA P W m ts K
 | [],vs,ds,ps,K,_,_,h,_,hK=>by
  obtain ⟨rfl,_,_⟩:=trodAll_nil h
  exact hK
 | t :: ts,vs,ds,ps,K,hall,hok,h,hw,hK=>by
  obtain ⟨v,vs1,d,ds1,p,q,rfl,rfl,rfl,h1,h2⟩:=trodAll_cons h
  simp only [List.all_cons,Bool.and_eq_true] at hall
  simp only [DataW.weightsEach,List.mem_append] at hw
  obtain ⟨fuel,hf⟩:=h1
  unfold vwA
  have hval:valOf P t v.cells.toList=v:=by
   have hv:=hok 0 t v rfl rfl
   unfold valOf
   have hB:=hall.1
   rw [Bool.or_eq_true] at hB
   cases ha:aggT P t with
   | true=>
    unfold aggT at ha
    split at ha
    ·rename_i fs hu
     obtain ⟨cs,rfl,_⟩:=okWide_struct hu hv
     simp [Value.cells]
    ·cases ha
   | false=>
    rw [ha] at hB
    simp only [Bool.false_eq_true,false_or] at hB
    unfold plainT at hB
    split at hB
    ·rename_i hu; obtain ⟨b,rfl⟩:=okWide_bool hu hv; simp [Value.cells]
    ·rename_i k hu; obtain ⟨n,rfl⟩:=okWide_int hu hv; simp [Value.cells]
    ·rename_i hu; obtain ⟨s,rfl⟩:=okWide_string hu hv; simp [Value.cells]
    ·rename_i e hu; obtain ⟨a,l,c,rfl⟩:=okWide_slice hu hv; simp [Value.cells]
    ·cases hB
  refine vw_of (fun _=>rfl) m fuel t _ _ _ hf (fun n hn=>hw n (.inl hn)) ?_
  rw [hval]
  exact vwA_of m ts vs1 ds1 q _ hall.2 (fun j t' v' h1 h2=>hok (j+1) t' v' h1 h2) h2 (fun n hn=>hw n (.inr hn)) hK
theorem trodAll_below {H:Type} {enc:TypeId × Value→H} {P:Program} (hl:laidOutB P=true) {W W':World} (hb:Below W.heap.size W W') :
 ∀ (ts:List TypeId) (vs:List Value) (ds:List (DataW H)) (ps:List MemPlace),(ts.all fun t=>P.readableRec t && decide (t< P.types.size))=true→
  DataW.TrodAll enc P W 0 (fun _=>true) true ts vs ds ps→(∀ x ∈ ps,x.block< W.heap.size)→DataW.TrodAll enc P W' 0 (fun b=>decide (b< W.heap.size)) true ts vs ds ps
 | [],vs,ds,ps,_,h,_=>by
  obtain ⟨rfl,rfl,rfl⟩:=trodAll_nil h
  exact trodAll_mk0
 | t :: ts,vs,ds,ps,hall,h,hlt=>by
  obtain ⟨v,vs1,d,ds1,p,q,rfl,rfl,rfl,h1,h2⟩:=trodAll_cons h
  simp only [List.all_cons,Bool.and_eq_true,decide_eq_true_eq] at hall
  exact trodAll_cons_mk (Below.trod hl hall.1.1 hall.1.2 h1 hb fun x hx=>hlt x (by simp [hx]))
   (trodAll_below hl hb ts vs1 ds1 q (by simpa using hall.2) h2 fun x hx=>hlt x (by simp [hx]))
theorem length_trodAll {H:Type} {enc:TypeId × Value→H} {P:Program} {W:World}:∀ {ts:List TypeId} {vs:List Value} {ds:List (DataW H)} {ps:List MemPlace},
 DataW.TrodAll enc P W 0 (fun _=>true) true ts vs ds ps→ds.length=ts.length
 | [],_,_,_,h=>by obtain ⟨_,rfl,_⟩:=trodAll_nil h; rfl
 | _ :: _,_,_,_,h=>by
  obtain ⟨v,vs1,d,ds1,p,q,rfl,rfl,rfl,_,h2⟩:=trodAll_cons h
  simp [length_trodAll h2]
theorem law_contract {H:Type} {enc:TypeId × Value→H} {P:Program} {f:FuncId} {fn:Func} {s:ChangeSpec} {fresh handsOn:Bool} {tb:TypeId} {ts:List TypeId} (hts:fn.params.toList=ts)
 (hl:laidOutB P=true) (hread:(ts.all fun t=>P.readableRec t && decide (t< P.types.size))=true) (hpl:ts.all (fun t=>aggT P t || plainT P t)=true)
 (hres:fn.resultTypes.toList=[tb]) (htb:P.underlying tb=some .bool) (hvars:s.vars=[])
 (hspec:∀ ds:List (DataW H),ds.length=ts.length→s.fn H ds={ results:=[.lit (.bool true)],args:=ds })
 (walk:∀ (W:World) (args:List Value),vwA P W 6 ts (fun vs=>args=vs)→CallR P f args W fun v w'=>v=.bool true∧Kept No W w')
 (W:World) (base:Nat) (args:Array Value) (ds gs:List (DataW H)) (before:List MemPlace)
 (hval:∀ (j:Nat) t v,fn.params[j]?=some t→args[j]?=some v→Value.okWide P W .any base t v)
 (hW:DataW.Whole enc P fn.params.toList s.vars false W args.toList ds gs before)
 (hsz:(DataW.weightsEach P (fn.params.toList ++ s.plain.varTypes P) (ds ++ gs)).all (·≤reachBytes)=true) :
 Calls P f args W fun e W'=>∃ v,e=.returned v∧s.post enc P fn false fresh handsOn false W args v W':=by
 have hW':=hW
 obtain ⟨p,q,hA,hV,rfl,hfz,hnd⟩:=hW
 rw [hvars] at hV
 obtain ⟨rfl,rfl⟩:=trodVars_none hV
 have hlen:=length_trodAll hA
 have hsz':∀ n ∈ DataW.weightsEach P ts ds,n≤reachBytes:=by
  have hvt:s.plain.varTypes P=[]:=by
   have:s.plain.vars=[]:=hvars
   unfold DataSpec.varTypes
   rw [this]; rfl
  rw [hvt] at hsz
  simp only [List.append_nil] at hsz
  rw [hts] at hsz
  intro n hn
  have:=List.all_eq_true.1 hsz n hn
  simpa using this
 have hlt:∀ x ∈ p,x.block< W.heap.size:=fun x hx=>hW'.lt x (by simp [hx])
 rw [hts] at hA hlen
 have hv:=vwA_of 6 ts args.toList ds p (fun vs=>args.toList=vs) hpl (fun j t v h1 h2=>hval j t v (by rw [← hts] at h1; simpa using h1) (by simpa using h2)) hA hsz' rfl
 have hc:=walk W args.toList hv
 unfold CallR at hc
 refine Calls.mono (by simpa using hc) fun e W' he=>?_
 obtain ⟨v,rfl,rfl,hk⟩:=he
 have hB:=hk.below
 refine ⟨_,rfl,ds,[],p ++ [],[],p,[],hW',?_,?_,?_,hB.frame _,fun h=>by cases h⟩
 ·rw [List.append_nil,hspec ds (by rw [hlen]),hres]
  have e1:(Value.bool true).resultList fn.resultTypes.size=[.bool true]:=by
   have:fn.resultTypes.size=1:=by rw [← Array.length_toList,hres]; rfl
   rw [this]; rfl
  rw [e1]
  exact trodAll_mk1 ⟨1,by simp [DataW.trod,htb,Value.cells]⟩
 ·rw [List.append_nil,hspec ds (by rw [hlen]),hts]
  exact trodAll_below hl hB ts args.toList ds p hread hA hlt
 ·rw [List.append_nil,hspec ds (by rw [hlen]),hvars]
  rfl
end Go.Lw
namespace Go.Lw
abbrev Slc:=Option Addr × Nat × Nat
def slv (e:Slc):Value:=.slice e.1 e.2.1 e.2.2
instance :Inhabited Slc:=⟨(none,0,0)⟩
theorem slv_one (es:List Slc):∀ u ∈ es.map slv,u.oneCell'=true:=by
 intro u hu; rw [List.mem_map] at hu; obtain ⟨e,_,rfl⟩:=hu; rfl
theorem RdS.keep0 {sz:Nat} {w w':World} {a:Option Addr} {l c:Nat} {xs:List Value} (h:RdS sz w a l c xs) {S:Nat→Prop} (k:Kept S w w') (hn:xs≠[]→∀ b,inA a b→¬ S b):RdS sz w' a l c xs:=by
 cases xs with
 | nil=>obtain ⟨hl,hlc,hz,_⟩:=h; exact ⟨hl,hlc,hz,fun ad _ i v hi=>by simp at hi⟩
 | cons x xs=>exact h.keep k (fun b _ hb=>hn (by simp) b hb)
theorem RdB.keep0 {w w':World} {a:Option Addr} {l c:Nat} {bs:List Int} (h:RdB w a l c bs) {S:Nat→Prop} (k:Kept S w w') (hn:bs≠[]→∀ b,inA a b→¬ S b):RdB w' a l c bs:=
 RdS.keep0 h k fun hne=>hn (fun e=>hne (by rw [e]; rfl))
theorem RdB.old {w:World} {a:Option Addr} {l c:Nat} {bs:List Int} (h:RdB w a l c bs) (hne:bs≠[]):∀ b,inA a b→b< w.heap.size:=
 RdS.old h fun e=>hne (By_inj (b:=[]) e)
def RdL (R:Nat→Prop) (w:World) (a:Option Addr) (l c:Nat) (xss:List (List Int)):Prop:=
 ∃ es:List Slc,RdS 1 w a l c (es.map slv)∧es.length=xss.length∧(l≠0→∀ k,inA a k→R k)∧
  ∀ (i:Nat) (e:Slc) (xs:List Int),es[i]?=some e→xss[i]?=some xs→RdB w e.1 e.2.1 e.2.2 xs∧(xs≠[]→∀ k,inA e.1 k→R k)
theorem RdL.len {R:Nat→Prop} {w:World} {a:Option Addr} {l c:Nat} {xss:List (List Int)} (h:RdL R w a l c xss):xss.length=l:=by
 obtain ⟨es,h1,h2,_⟩:=h
 have:=h1.1
 simp at this; omega
theorem RdL.keep {R S:Nat→Prop} {w w':World} {a:Option Addr} {l c:Nat} {xss:List (List Int)} (h:RdL R w a l c xss) (k:Kept S w w') (hn:∀ x,R x→¬ S x):RdL R w' a l c xss:=by
 have hlen:=h.len
 obtain ⟨es,h1,h2,h3,h4⟩:=h
 refine ⟨es,h1.keep0 k (fun hne b hb=>hn b (h3 (fun e=>hne (List.eq_nil_of_length_eq_zero (by rw [List.length_map]; omega))) b hb)),h2,h3,fun i e xs he hx=>?_⟩
 obtain ⟨h5,h6⟩:=h4 i e xs he hx
 exact ⟨h5.keep0 k fun hne b hb=>hn b (h6 hne b hb),h6⟩
theorem RdL.mono {R R':Nat→Prop} {w:World} {a:Option Addr} {l c:Nat} {xss:List (List Int)} (h:RdL R w a l c xss) (hr:∀ x,R x→R' x):RdL R' w a l c xss:=by
 obtain ⟨es,h1,h2,h3,h4⟩:=h
 exact ⟨es,h1,h2,fun hl k hk=>hr k (h3 hl k hk),fun i e xs he hx=>⟨(h4 i e xs he hx).1,fun hne k hk=>hr k ((h4 i e xs he hx).2 hne k hk)⟩⟩
theorem RdL.get {R:Nat→Prop} {w:World} {a:Option Addr} {l c:Nat} {xss:List (List Int)} (h:RdL R w a l c xss) {i:Nat} (hi:i< xss.length) :
 ∃ (q:Addr) (e:Slc),a=some q∧w.cell? (q.add i)=some (.slice e.1 e.2.1 e.2.2)∧RdB w e.1 e.2.1 e.2.2 xss[i]∧(xss[i]≠[]→∀ k,inA e.1 k→R k):=by
 obtain ⟨es,h1,h2,h3,h4⟩:=h
 have hie:i< es.length:=by omega
 cases a with
 | none=>
  have:=(RdS.isNone h1 rfl).2.2
  have hl:(es.map slv).length=0:=by rw [this]; rfl
  simp at hl; subst hl; simp at hie
 | some q=>
  have hc:=h1.2.2.2 q rfl i (slv es[i]) (by simp [hie])
  obtain ⟨h5,h6⟩:=h4 i es[i] xss[i] (by simp) (by simp)
  exact ⟨q,es[i],rfl,hc,h5,h6⟩
theorem RdL.nil (R:Nat→Prop) (w:World):RdL R w none 0 0 []:=⟨[],RdS.nil 1 w,rfl,fun h=>absurd rfl h,fun i e xs he=>by simp at he⟩
theorem RdL.from {R:Nat→Prop} {w:World} {a:Option Addr} {l c:Nat} {xss:List (List Int)} (h:RdL R w a l c xss) (i:Nat) (hi:i≤l):RdL R w (adv a i c 1) (l - i) (c - i) (xss.drop i):=by
 obtain ⟨es,h1,h2,h3,h4⟩:=h
 refine ⟨es.drop i,?_,by simp [h2],fun hl k hk=>h3 (by omega) k (inA_adv.1 hk),fun j e xs he hx=>h4 (i+j) e xs (by rw [List.getElem?_drop] at he; exact he) (by rw [List.getElem?_drop] at hx; exact hx)⟩
 have:=RdS.from h1 i hi
 rw [Nat.mul_one] at this
 rw [List.map_drop]; exact this
section
variable {P : Program}
def u8T (P:Program) (t:TypeId):Bool:=
 match P.underlying t with
 | some (.slice e)=>match P.underlying e with | some (.int .u8)=>true | _=>false
 | _=>false
theorem u8T_spec {t:TypeId} (h:u8T P t=true):∃ e,P.underlying t=some (.slice e)∧P.underlying e=some (.int .u8):=by
 unfold u8T at h
 split at h
 ·rename_i e he
  split at h
  ·rename_i hu; exact ⟨e,he,hu⟩
  ·cases h
 ·cases h
def u8E (P:Program) (t e:TypeId):Bool:=
 match P.underlying t with
 | some (.slice e')=>Nat.beq e' e && (match P.underlying e' with | some (.int .u8)=>true | _=>false)
 | _=>false
theorem u8E_spec {t e:TypeId} (h:u8E P t e=true):P.underlying t=some (.slice e)∧P.underlying e=some (.int .u8):=by
 unfold u8E at h
 split at h
 ·rename_i e' he
  simp only [Bool.and_eq_true] at h
  have:e'=e:=Nat.eq_of_beq_eq_true h.1
  subst this
  have h2:=h.2
  split at h2
  ·rename_i hu; exact ⟨he,hu⟩
  ·cases h2
 ·cases h
theorem run_const (w:World) {t e:TypeId} (ht:u8E P t e=true) (bs:List Int) :
 ∃ w',(convert t t (.slice (some ⟨w.heap.size,0,none⟩) bs.length bs.length)).run P (w.alloc (.cells (By bs).toArray e))=.ok (.slice (some ⟨w.heap.size,0,none⟩) bs.length bs.length) w'∧
  RdB w' (some ⟨w.heap.size,0,none⟩) bs.length bs.length bs∧Kept No w w'∧w'.heap.size=w.heap.size+1:=by
 obtain ⟨h1,h2⟩:=u8E_spec ht
 refine ⟨_,Lib.run_convert_bytes_const w t e (By bs).toArray bs.length bs.length h1 h2,⟨by simp,Nat.le_refl _,(fun h=>by cases h),fun ad had i v hi=>?_⟩,Kept.alloc _ _ _,by show (w.heap.push _).size=_; simp⟩
 cases had
 rw [add_none,Nat.zero_add]
 have hb:=heap_alloc_new w (.cells (By bs).toArray e ((By bs).toArray.size,(By bs).toArray.size+1))
 rw [cell_of_row _ _ i _ _ _ hb]
 simpa using hi
theorem run_str (w:World) {t ts:TypeId} (ht:u8T P t=true) (hs:isStringT P ts=true) {a:Option Addr} {l c:Nat} {bs:List Int} (h:RdB w a l c bs) :
 (convert t ts (.slice a l c)).run P w=.ok (.string (strOfNums bs)) w:=by
 obtain ⟨e,h1,h2⟩:=u8T_spec ht
 have h3:P.underlying ts=some .string:=by
  unfold isStringT at hs
  split at hs
  ·assumption
  ·cases hs
 have hlen:=h.len
 rw [run_convert_bytes_string w t ts e a l c h1 h2 h3]
 cases a with
 | none=>
  have:=(RdS.isNone h rfl).2.2
  have hb:bs=[]:=By_inj (b:=[]) this
  subst hb
  simp [Conv.bytesToString]
  rfl
 | some q=>
  have hl:(loadCells q l).run P w=.ok (bs.map (Value.int .u8)).toArray w:=by
   have:=run_loadCells_list (P:=P) w q (bs.map (Value.int .u8)) (fun j v hj=>h.2.2.2 q rfl j v hj)
   simpa [hlen] using this
  rw [run_bytesToString w q l c bs hl,foldl_push_bytes]
  simp [strOfNums,ByteArray.empty,ByteArray.emptyWithCapacity]
  rfl
end
end Go.Lw
set_option maxRecDepth 100000
namespace Go.Proofs.YteojolihgijdhaaGreatDoor
open Go.Lw
def V3 (W:World) (args:List Value):Prop:=
 ∃ (a1:Option Addr) (l2 c3:Nat),l2≤c3∧(a1=none→c3=0)∧l2 * 24≤140737488351232∧
 (∀ (q4:Addr),a1=some q4→∀ i5:Nat,i5< l2→∃ (a6:Option Addr) (l7 c8:Nat) (ns9:List Int),RdS 1 W a6 l7 c8 (ns9.map (Value.int .u8))∧(∀ n ∈ ns9,(Lit.int .u8 n).wf=true)∧l7 * 1≤140737488351232∧
 W.cell? (Addr.add q4 (i5 * 1))=some (.slice a6 l7 c8)∧True)∧
 ∃ n10,(Lit.int .i64 n10).wf=true∧∃ n11,(Lit.int .i64 n11).wf=true∧∃ (a12:Option Addr) (l13 c14:Nat),l13≤c14∧(a12=none→c14=0)∧l13 * 16≤140737488351232∧
 (∀ (q15:Addr),a12=some q15→∀ i16:Nat,i16< l13→∃ n17,(Lit.int .i64 n17).wf=true∧∃ n18,(Lit.int .i64 n18).wf=true∧W.cell? (Addr.add q15 (i16 * 2))=some (.int .i64 n17)∧W.cell? (Addr.add (Addr.add q15 (i16 * 2)) 1)=some (.int .i64 n18)∧True)∧
 args=[.slice a1 l2 c3,.int .i64 n10,.int .i64 n11,.slice a12 l13 c14]
theorem O3 {W:World} {args:List Value} (h:vwA Tryz.prog W 6 [22,3,3,23] (fun vs=>args=vs)):V3 W args:=Eq.mp (by kernel_rfl) h
set_option maxRecDepth 512
def Cloned (w:World) (a:Option Addr) (bs:List Int) (a':Option Addr) (c':Nat) (w':World):Prop:=
 OB w' a' bs.length c' bs∧Kept No w w'∧Fresh w a'∧(a'=none↔a=none)
theorem clone_ok {w:World} {a:Option Addr} {l c:Nat} {bs:List Int} (h:RdB w a l c bs) (hl:l≤140737488355328) :
 CallR Tryz.prog 47 [.slice a l c] w fun v w'=>∃ a' c',v=.slice a' l c'∧Cloned w a bs a' c' w':=by
 refine C47 ?_
 unfold L47
 have hlen:=h.len
 refine condI (fun hn=>?_) (fun hn=>?_)
 ·have ha:a=none:=by simpa using hn
  obtain ⟨h1,_,h3⟩:=RdS.isNone h ha
  have:bs=[]:=List.eq_nil_of_length_eq_zero (by omega)
  subst this h1 ha
  exact ⟨none,0,rfl,OB.nil w,Kept.refl _ _,Fresh.none w,by simp⟩
 ·intro w1
  have hk1:Kept No w w1:=Kept.alloc _ w _
  have hs0:SlO 1 w1 (some ⟨w.heap.size,0,none⟩) 0 0 (By []):=SlO.of_blk (Blk.alloc w #[] _) (by simp)
  obtain ⟨a',c',w2,hrun,hs,hk,hat,hnn⟩:=run_app_sl (P:=Tryz.prog) (t:=34) (t2:=34) (ty:=34) (by kernel_rfl:slTyB Tryz.prog 34 1 1=true) (by kernel_rfl) hs0 (RdB.keep h hk1 (fun _ _ _ e=>e)) (By_one bs) (by omega) (by omega)
  simp only [Nat.zero_add] at hrun hs
  refine ⟨a',l,c',w2,hrun,a',c',rfl,?_,?_,?_,?_⟩
  ·rw [hlen]; exact hs
  ·exact hk1.trans hk (fun b hb hin=>by rw [inA_some] at hin; subst hin; omega)
  ·exact hat.fresh (fun b hb=>by rw [inA_some] at hb; omega) (by exact hk1.size)
  ·constructor
   ·intro e; exact absurd (hnn e).1 (by simp)
   ·intro e; subst e; simp at hn
theorem notT {b:Bool} (h:(!b)=true):b=false:=by cases b <;> first | rfl | cases h
theorem notF {b:Bool} (h:(!b)=false):b=true:=by cases b <;> first | rfl | cases h
def ix (vs:List Value):Nat:=match vs with
 | .int _ n :: _=>n.toNat
 | _=>0
theorem same_ok {w:World} {a:Option Addr} {l c:Nat} {xs:List Int} (h:RdB w a l c xs) {a2:Option Addr} {l2 c2:Nat} {ys:List Int} (h2:RdB w a2 l2 c2 ys) (hl:l≤140737488355328) :
 CallR Tryz.prog 8 [.slice a l c,.slice a2 l2 c2] w fun v w'=>v=.bool (decide (xs=ys))∧Kept No w w'∧w'.heap=w.heap:=by
 refine C8 ?_
 unfold L8
 have hlen:=h.len
 have hlen2:=h2.len
 refine condI (fun hne=>⟨?_,Kept.refl _ _,rfl⟩) (fun heq=>?_)
 ·have:xs≠ys:=by rintro rfl; simp at hne; omega
  simp [this]
 ·have hll:l=l2:=by simp at heq; omega
  refine ⟨fun vs w'=>(Kept No w w'∧w'.heap=w.heap)∧∃ n:Nat,vs=[.int .i64 (n:Int)]∧n≤l∧xs.take n=ys.take n,fun vs _=>l - ix vs,⟨⟨Kept.refl _ _,rfl⟩,0,rfl,Nat.zero_le _,by simp⟩,fun _ n4 w1 hI=>?_⟩
  obtain ⟨⟨hk,hh⟩,n,hv,hn,htk⟩:=hI
  simp only [List.cons.injEq,Value.int.injEq,true_and,and_true] at hv
  subst hv
  refine condP (fun hlt=>?_) (fun hge=>?_)
  ·have hx:n< xs.length:=by omega
   have hy:n< ys.length:=by omega
   obtain ⟨q,ha,hg⟩:=(h.keep hk (fun _ _ _ e=>e)).get hx
   obtain ⟨q2,ha2,hg2⟩:=(h2.keep hk (fun _ _ _ e=>e)).get hy
   subst ha ha2
   refine ⟨⟨by omega,hlt⟩,_,by simpa using hg,⟨by omega,by omega⟩,_,by simpa using hg2,fun nd=>?_⟩
   refine condI (fun hne=>⟨?_,hk.trans (Kept.drewN No _ _) (fun _ _ h=>h),hh⟩) (fun he=>⟨by unfold inI; omega,⟨⟨hk.trans (Kept.drewN No _ _) (fun _ _ h=>h),hh⟩,n+1,by simp,by omega,?_⟩,?_⟩)
   ·have:xs≠ys:=by rintro rfl; simp at hne
    simp [this]
   ·rw [List.take_add_one,List.take_add_one,htk,List.getElem?_eq_getElem hx,List.getElem?_eq_getElem hy]
    simp at he; rw [he]
   ·simp only [ix]; omega
  ·have:n=l:=by omega
   subst this
   rw [List.take_of_length_le (by omega),List.take_of_length_le (by omega)] at htk
   exact ⟨by simp [htk],hk,hh⟩
theorem tyB:∃ e i,SlTy Tryz.prog 34 e i (.int .u8 0) 1 1:=slTyZ (by kernel_rfl) (by kernel_rfl)
abbrev pt (b:Nat):Value:=.pointer (some ⟨b,0,none⟩)
theorem ext_getD {a b:List Int} (hl:a.length=b.length) (h:∀ k,k< a.length→a.getD k 0=b.getD k 0):a=b:=by
 apply List.ext_getElem hl
 intro i h1 h2
 have:=h i h1
 simpa [List.getD,h1,h2] using this
theorem oneF {f:Fn} {a b:Array Value} {K:Prop} (h:K):oneC (.func f a b) K:=h
structure Md where
 r:Bool
 w:Bool
 a:Bool
 c:Bool
 t:Bool
 x:Bool
 b:Bool
 k:Bool
 deriving DecidableEq
def Md.no:Md:=⟨false,false,false,false,false,false,false,false⟩
def Md.cs (m:Md):Array Value:=#[.bool m.r,.bool m.w,.bool m.a,.bool m.c,.bool m.t,.bool m.x,.bool m.b,.bool m.k]
theorem set8 {cur:Array Value} (hs:cur.size=8) (v0 v1 v2 v3 v4 v5 v6 v7:Value) :
 (((((((cur.setIfInBounds 0 v0).setIfInBounds 1 v1).setIfInBounds 2 v2).setIfInBounds 3 v3).setIfInBounds 4 v4).setIfInBounds 5 v5).setIfInBounds 6 v6).setIfInBounds 7 v7=#[v0,v1,v2,v3,v4,v5,v6,v7]:=by
 obtain ⟨l⟩:=cur
 match l,hs with
 | [a0,a1,a2,a3,a4,a5,a6,a7],_=>simp
theorem st8 {w:World} {g:Nat} {cur:Array Value} (h:Blk w g cur) (hs:cur.size=8) {v0 v1 v2 v3 v4 v5 v6 v7:Value} {K:World→Prop}
 (hk:∀ w',Blk w' g #[v0,v1,v2,v3,v4,v5,v6,v7]→Kept (·=g) w w'→w'.heap.size=w.heap.size→K w') :
 stC (Addr.mk g 0 none) v0 w fun w1=>stC (Addr.mk g 1 none) v1 w1 fun w2=>stC (Addr.mk g 2 none) v2 w2 fun w3=>stC (Addr.mk g 3 none) v3 w3 fun w4=>
  stC (Addr.mk g 4 none) v4 w4 fun w5=>stC (Addr.mk g 5 none) v5 w5 fun w6=>stC (Addr.mk g 6 none) v6 w6 fun w7=>stC (Addr.mk g 7 none) v7 w7 K:=by
 have z:∀ {c:Array Value} (i:Nat) (v:Value),c.size=8→(c.setIfInBounds i v).size=8:=fun i v hc=>by rw [Array.size_setIfInBounds]; exact hc
 refine stC_blk h (by omega) fun w1 h1 k1 s1=>?_
 have z1:=z 0 v0 hs
 refine stC_blk h1 (by omega) fun w2 h2 k2 s2=>?_
 have z2:=z 1 v1 z1
 refine stC_blk h2 (by omega) fun w3 h3 k3 s3=>?_
 have z3:=z 2 v2 z2
 refine stC_blk h3 (by omega) fun w4 h4 k4 s4=>?_
 have z4:=z 3 v3 z3
 refine stC_blk h4 (by omega) fun w5 h5 k5 s5=>?_
 have z5:=z 4 v4 z4
 refine stC_blk h5 (by omega) fun w6 h6 k6 s6=>?_
 have z6:=z 5 v5 z5
 refine stC_blk h6 (by omega) fun w7 h7 k7 s7=>?_
 have z7:=z 6 v6 z6
 refine stC_blk h7 (by omega) fun w8 h8 k8 s8=>?_
 rw [set8 hs] at h8
 have k08:Kept (·=g) w w8:=((((((k1.trans k2 fun _ _ e=>e).trans k3 fun _ _ e=>e).trans k4 fun _ _ e=>e).trans k5 fun _ _ e=>e).trans k6 fun _ _ e=>e).trans k7 fun _ _ e=>e).trans k8 fun _ _ e=>e
 exact hk w8 h8 k08 (by omega)
theorem ld8 {w:World} {g:Nat} {m:Md} (h:Blk w g m.cs) {K:Bool→Bool→Bool→Bool→Bool→Bool→Bool→Bool→Prop} (hk:K m.r m.w m.a m.c m.t m.x m.b m.k) :
 ∃ (b0 b1 b2 b3 b4 b5 b6 b7:Bool),w.cell? (Addr.mk g 0 none)=some (.bool b0)∧w.cell? (Addr.mk g 1 none)=some (.bool b1)∧w.cell? (Addr.mk g 2 none)=some (.bool b2)∧w.cell? (Addr.mk g 3 none)=some (.bool b3)∧
  w.cell? (Addr.mk g 4 none)=some (.bool b4)∧w.cell? (Addr.mk g 5 none)=some (.bool b5)∧w.cell? (Addr.mk g 6 none)=some (.bool b6)∧w.cell? (Addr.mk g 7 none)=some (.bool b7)∧K b0 b1 b2 b3 b4 b5 b6 b7:=
 ⟨_,_,_,_,_,_,_,_,(h.cell 0).trans rfl,(h.cell 1).trans rfl,(h.cell 2).trans rfl,(h.cell 3).trans rfl,(h.cell 4).trans rfl,(h.cell 5).trans rfl,(h.cell 6).trans rfl,(h.cell 7).trans rfl,hk⟩
def firstM (c:Int):Option Md:=
 if c=114 then some { Md.no with r:=true } else if c=119 then some { Md.no with w:=true,c:=true,t:=true } else if c=97 then some { Md.no with w:=true,a:=true,c:=true } else none
def setM (m:Md) (c f:Int):Option Md:=
 if c=43 then some { m with r:=true,w:=true } else if c=98 then some { m with b:=true } else if c=120∧f=119 then some { m with x:=true } else if c=101 then some { m with k:=true } else none
def dup (s:ByteArray) (i:Nat):Prop:=∃ k:Nat,1≤k∧k< i∧byteAt s k=byteAt s i
instance (s:ByteArray) (i:Nat):Decidable (dup s i):=
 decidable_of_iff ((List.range i).any (fun k=>decide (1≤k) && decide (byteAt s k=byteAt s i))=true) (by
  rw [List.any_eq_true]
  unfold dup
  constructor
  ·rintro ⟨k,hk,h⟩
   simp only [Bool.and_eq_true,decide_eq_true_eq] at h
   exact ⟨k,h.1,List.mem_range.1 hk,h.2⟩
  ·rintro ⟨k,h1,h2,h3⟩
   exact ⟨k,List.mem_range.2 h2,by simp [h1,h3]⟩)
def goM (s:ByteArray):Nat→Nat→Md→Md × Int × Int
 | 0,_,m=>(m,0,(s.size:Int))
 | n+1,i,m=>if dup s i then (Md.no,91,(i:Int)) else
  match setM m (byteAt s i) (byteAt s 0) with
  | some m'=>goM s n (i+1) m'
  | none=>(Md.no,91,(i:Int))
def parseM (s:ByteArray):Md × Int × Int:=
 if s.size=0 then (Md.no,91,0) else
 match firstM (byteAt s 0) with
 | some m=>goM s (s.size - 1) 1 m
 | none=>(Md.no,91,0)
def parsed (s:ByteArray):Value:=.tuple #[.agg (parseM s).1.cs,.int .i64 (parseM s).2.1,.int .i64 (parseM s).2.2]
theorem empty_iff {s:ByteArray}:(ByteArray.toList s == ByteArray.toList (ByteArray.mk #[]))=decide (s.size=0):=by
 rw [ByteArray.toList_eq,ByteArray.toList_eq]
 show (s.data.toList == [])=_
 cases h:s.data.toList with
 | nil=>
  have:s.size=0:=by show s.data.size=0; rw [← Array.length_toList,h]; rfl
  simp [this]
 | cons x l=>
  have:s.size≠0:=by show s.data.size≠0; rw [← Array.length_toList,h]; simp
  simp [this]
theorem ofirst_ok {w:World} (c:Int):CallR Tryz.prog 127 [.int .u8 c] w fun v w'=>Kept No w w'∧v=(match firstM c with | some m=>.tuple #[.agg m.cs,.bool true] | none=>.tuple #[.agg Md.no.cs,.bool false]):=by
 refine C127 ?_
 unfold L127
 intro w1
 have hb:Blk w1 w.heap.size Md.no.cs:=Blk.alloc _ _ _
 have hk:Kept No w w1:=Kept.alloc _ _ _
 clear_value w1
 have fin:∀ w2,Kept (·=w.heap.size) w1 w2→Kept No w w2:=fun w2 h=>hk.fresh h (fun x e=>by rw [e]; exact Nat.le_refl _)
 refine condI (fun h1=>?_) (fun h1=>condI (fun h2=>?_) (fun h2=>condI (fun h3=>?_) (fun h3=>?_)))
 ·have e1:c=114:=by simpa using h1
  refine st8 hb rfl fun w2 hb2 hk2 _=>ld8 (m:={ Md.no with r:=true }) hb2 ⟨fin w2 hk2,?_⟩
  subst e1; rfl
 ·have e1:c=119:=by simpa using h2
  refine st8 hb rfl fun w2 hb2 hk2 _=>ld8 (m:={ Md.no with w:=true,c:=true,t:=true }) hb2 ⟨fin w2 hk2,?_⟩
  subst e1; rfl
 ·have e1:c=97:=by simpa using h3
  refine st8 hb rfl fun w2 hb2 hk2 _=>ld8 (m:={ Md.no with w:=true,a:=true,c:=true }) hb2 ⟨fin w2 hk2,?_⟩
  subst e1; rfl
 ·have e1:¬ c=114:=by simpa using h1
  have e2:¬ c=119:=by simpa using h2
  have e3:¬ c=97:=by simpa using h3
  refine st8 hb rfl fun w2 hb2 hk2 _=>ld8 (m:=Md.no) hb2 ⟨fin w2 hk2,?_⟩
  have:firstM c=none:=by unfold firstM; rw [if_neg e1,if_neg e2,if_neg e3]
  rw [this]; rfl
theorem oix_ok {w:World} (s:ByteArray) (c:Int):CallR Tryz.prog 129 [.string s,.int .u8 c] w fun v w'=>v=.int .i64 (firstIdx s c.toNat.toUInt8)∧w'=w:=by
 refine C129 ?_
 unfold L129
 refine C185 ?_
 unfold L185
 refine ⟨_,w,?_,_,rfl,rfl,rfl⟩
 rw [run_callFunc_indexByte (fn:=Tryz.f224) Tryz.func224 (by kernel_rfl) (by kernel_rfl) (by kernel_rfl) (by kernel_rfl),run_indexByte_string]
 rfl
theorem ix_dup (s:ByteArray) (i:Nat) (hi:i≤s.size):decide (firstIdx (s.extract 1 i) (byteAt s i).toNat.toUInt8< 0)=true↔¬ dup s i:=by
 have hsz:(s.extract 1 i).size=i - 1:=by simp [ByteArray.size_extract]; omega
 have hget:∀ j,j< i - 1→(s.extract 1 i)[j]! = (s.data.toList[j+1]?).getD 0:=by
  intro j hj
  have h1:j+1< s.data.size:=by show j+1< s.size; omega
  have h2:j< (s.extract 1 i).size:=by omega
  rw [getElem!_pos _ j h2,ByteArray.getElem_extract]
  rw [Array.getElem?_toList,Array.getElem?_eq_getElem h1]
  show s.data[1+j]=_
  simp [Nat.add_comm]
 have hb:(byteAt s i).toNat.toUInt8=(s.data.toList[i]?).getD 0:=by
  unfold byteAt
  simp
 rw [hb]
 unfold firstIdx dup
 rw [hsz]
 constructor
 ·intro h ⟨k,h1,h2,h3⟩
  split at h
  ·simp at h; omega
  ·rename_i hn
   rw [List.find?_eq_none] at hn
   have:=hn (k - 1) (List.mem_range.2 (by omega))
   rw [hget (k - 1) (by omega)] at this
   apply this
   have hk:k - 1+1=k:=by omega
   rw [hk]
   unfold byteAt at h3
   simp only [Int.toNat_natCast] at h3
   have:(s.data.toList[k]?).getD 0=(s.data.toList[i]?).getD 0:=UInt8.toNat_inj.1 (by omega)
   rw [this]; exact beq_self_eq_true _
 ·intro h
  split
  ·rename_i j hj
   exfalso
   have hm:=List.mem_range.1 (List.mem_of_find?_eq_some hj)
   have hp:=List.find?_some hj
   rw [hget j hm] at hp
   have hp':(s.data.toList[j+1]?).getD 0=(s.data.toList[i]?).getD 0:=by simpa using hp
   apply h
   refine ⟨j+1,by omega,by omega,?_⟩
   unfold byteAt
   simp only [Int.toNat_natCast]
   rw [hp']
  ·simp
def lc (j:Nat):Int:=match j with | 0=>43 | 1=>98 | 2=>120 | _=>101
def hasf (j:Nat):Nat:=match j with | 0=>177 | 1=>179 | 2=>181 | _=>183
def setf (j:Nat):Nat:=match j with | 0=>178 | 1=>180 | 2=>182 | _=>184
def setJ (j:Nat) (m:Md):Md:=match j with | 0=>{ m with r:=true,w:=true } | 1=>{ m with b:=true } | 2=>{ m with x:=true } | _=>{ m with k:=true }
def hasJ (j:Nat) (m:Md):Bool:=match j with | 0=>m.r && m.w | 1=>m.b | 2=>m.x | _=>m.k
def lets:Array Value:=#[.int .u8 43,.func (.func 177) #[] #[],.func (.func 178) #[] #[],.int .u8 98,.func (.func 179) #[] #[],.func (.func 180) #[] #[],.int .u8 120,.func (.func 181) #[] #[],.func (.func 182) #[] #[],.int .u8 101,.func (.func 183) #[] #[],.func (.func 184) #[] #[]]
theorem lets_at {j:Nat} (h:j< 4):lets[j * 3]?=some (.int .u8 (lc j))∧lets[j * 3+1]?=some (.func (.func (hasf j)) #[] #[])∧lets[j * 3+2]?=some (.func (.func (setf j)) #[] #[]):=by
 match j,h with
 | 0,_=>exact ⟨rfl,rfl,rfl⟩
 | 1,_=>exact ⟨rfl,rfl,rfl⟩
 | 2,_=>exact ⟨rfl,rfl,rfl⟩
 | 3,_=>exact ⟨rfl,rfl,rfl⟩
theorem letters_to {w:World} {Q:Value→World→Prop} (h:∀ w',Blk w' w.heap.size lets→Kept No w w'→Q (.slice (some ⟨w.heap.size,0,none⟩) 4 4) w'):CallR Tryz.prog 128 [] w Q:=by
 refine C128 ?_
 unfold L128
 exact h _ (Blk.alloc _ _ _) (Kept.alloc _ _ _)
theorem set_ok {w:World} {g:Nat} {m:Md} (hb:Blk w g m.cs) {j:Nat} (hj:j< 4):CallR Tryz.prog (setf j) [.pointer (some ⟨g,0,none⟩)] w fun v w'=>v=.tuple #[]∧Blk w' g (setJ j m).cs∧Kept (·=g) w w':=by
 match j,hj with
 | 0,_=>
  refine C178 ?_
  unfold L178
  exact nnI (stC_blk hb (by simp [Md.cs]) fun w1 hb1 hk1 _=>nnI (stC_at hb1 (by simp [Md.cs]) fun w2 hb2 hk2 _=>⟨rfl,hb2,hk1.trans hk2 fun _ _ e=>e⟩))
 | 1,_=>
  refine C180 ?_
  unfold L180
  exact nnI (stC_at hb (by simp [Md.cs]) fun w1 hb1 hk1 _=>⟨rfl,hb1,hk1⟩)
 | 2,_=>
  refine C182 ?_
  unfold L182
  exact nnI (stC_at hb (by simp [Md.cs]) fun w1 hb1 hk1 _=>⟨rfl,hb1,hk1⟩)
 | 3,_=>
  refine C184 ?_
  unfold L184
  exact nnI (stC_at hb (by simp [Md.cs]) fun w1 hb1 hk1 _=>⟨rfl,hb1,hk1⟩)
theorem has_ok {w:World} (m:Md) {j:Nat} (hj:j< 4):CallR Tryz.prog (hasf j) [.agg m.cs] w fun v w'=>v=.bool (hasJ j m)∧Kept No w w':=by
 match j,hj with
 | 0,_=>
  refine C177 ?_
  unfold L177
  intro w1
  have hb:Blk w1 w.heap.size m.cs:=Blk.alloc _ _ _
  refine ⟨_,(hb.cell 0).trans rfl,?_⟩
  cases h:m.r with
  | true=>exact ⟨_,(hb.cell 1).trans rfl,by simp [hasJ,h],Kept.alloc _ _ _⟩
  | false=>exact ⟨by simp [hasJ,h],Kept.alloc _ _ _⟩
 | 1,_=>
  refine C179 ?_
  unfold L179
  intro w1
  have hb:Blk w1 w.heap.size m.cs:=Blk.alloc _ _ _
  exact ⟨_,(hb.cell 6).trans rfl,rfl,Kept.alloc _ _ _⟩
 | 2,_=>
  refine C181 ?_
  unfold L181
  intro w1
  have hb:Blk w1 w.heap.size m.cs:=Blk.alloc _ _ _
  exact ⟨_,(hb.cell 5).trans rfl,rfl,Kept.alloc _ _ _⟩
 | 3,_=>
  refine C183 ?_
  unfold L183
  intro w1
  have hb:Blk w1 w.heap.size m.cs:=Blk.alloc _ _ _
  exact ⟨_,(hb.cell 7).trans rfl,rfl,Kept.alloc _ _ _⟩
theorem setM_lc (m:Md) (f:Int) {j:Nat} (hj:j< 4) (hx:lc j≠120∨f=119):setM m (lc j) f=some (setJ j m):=by
 match j,hj with
 | 0,_=>rfl
 | 1,_=>rfl
 | 2,_=>
  have:f=119:=hx.elim (fun h=>absurd rfl h) id
  subst this; rfl
 | 3,_=>rfl
theorem setM_none (m:Md) (c f:Int) (h:∀ j,j< 4→¬ (lc j=c∧(lc j≠120∨f=119))):setM m c f=none:=by
 have h0:=h 0 (by decide)
 have h1:=h 1 (by decide)
 have h2:=h 2 (by decide)
 have h3:=h 3 (by decide)
 simp only [lc] at h0 h1 h2 h3
 unfold setM
 rw [if_neg (by intro e; exact h0 ⟨e.symm,.inl (by decide)⟩),if_neg (by intro e; exact h1 ⟨e.symm,.inl (by decide)⟩),if_neg (by intro e; exact h2 ⟨e.1.symm,.inr e.2⟩),if_neg (by intro e; exact h3 ⟨e.symm,.inl (by decide)⟩)]
theorem goM_end {s:ByteArray} {i:Nat} {m:Md} (h:s.size - i=0):goM s (s.size - i) i m=(m,0,(s.size:Int)):=by rw [h]; rfl
theorem goM_bad {s:ByteArray} {i:Nat} {m:Md} (hi:i< s.size) (h:dup s i∨setM m (byteAt s i) (byteAt s 0)=none):goM s (s.size - i) i m=(Md.no,91,(i:Int)):=by
 obtain ⟨n,hn⟩:∃ n,s.size - i=n+1:=⟨s.size - i - 1,by omega⟩
 rw [hn]
 unfold goM
 by_cases hd:dup s i
 ·rw [if_pos hd]
 ·rw [if_neg hd]
  rcases h with h | h
  ·exact absurd h hd
  ·rw [h]
theorem goM_ok {s:ByteArray} {i:Nat} {m m':Md} (hi:i< s.size) (hd:¬ dup s i) (h:setM m (byteAt s i) (byteAt s 0)=some m'):goM s (s.size - i) i m=goM s (s.size - (i+1)) (i+1) m':=by
 obtain ⟨n,hn⟩:∃ n,s.size - i=n+1:=⟨s.size - i - 1,by omega⟩
 have hn':s.size - (i+1)=n:=by omega
 rw [hn,hn']
 conv=>lhs; unfold goM
 rw [if_neg hd,h]
theorem body_set {j:Nat} (hj:j< 4):bodyB Tryz.prog (setf j)=true:=by
 have h0:bodyB Tryz.prog 178=true:=by kernel_rfl
 have h1:bodyB Tryz.prog 180=true:=by kernel_rfl
 have h2:bodyB Tryz.prog 182=true:=by kernel_rfl
 have h3:bodyB Tryz.prog 184=true:=by kernel_rfl
 match j,hj with
 | 0,_=>exact h0
 | 1,_=>exact h1
 | 2,_=>exact h2
 | 3,_=>exact h3
theorem body_has {j:Nat} (hj:j< 4):bodyB Tryz.prog (hasf j)=true:=by
 have h0:bodyB Tryz.prog 177=true:=by kernel_rfl
 have h1:bodyB Tryz.prog 179=true:=by kernel_rfl
 have h2:bodyB Tryz.prog 181=true:=by kernel_rfl
 have h3:bodyB Tryz.prog 183=true:=by kernel_rfl
 match j,hj with
 | 0,_=>exact h0
 | 1,_=>exact h1
 | 2,_=>exact h2
 | 3,_=>exact h3
set_option maxHeartbeats 1000000 in
theorem oparse_ok {w:World} (s:ByteArray) (hs:s.size≤140737488351232):CallR Tryz.prog 69 [.string s] w fun v w'=>v=parsed s∧Kept No w w':=by
 refine C69 ?_
 unfold L69
 intro w1
 have hb1:Blk w1 w.heap.size Md.no.cs:=Blk.alloc _ _ _
 have hk1:Kept No w w1:=Kept.alloc _ _ _
 clear_value w1
 rw [empty_iff]
 have hg:∀ {w2 w3:World},Kept No w w2→Kept (·=w.heap.size) w2 w3→Kept No w w3:=fun h k=>h.fresh k (fun x e=>by rw [e]; exact Nat.le_refl _)
 refine condP (fun h0=>?_) (fun h0=>?_)
 ·refine st8 hb1 rfl fun w2 hb2 hk2 _=>ld8 (m:=Md.no) hb2 ⟨?_,hg hk1 hk2⟩
  unfold parsed parseM; rw [if_pos h0]; rfl
 refine ⟨⟨by omega,by omega⟩,(ofirst_ok (byteAt s 0)).mono fun v w2 ⟨hk2,hv⟩=>?_⟩
 have hb2:=hb1.keep hk2 (fun e=>e)
 have hk02:=hk1.no hk2
 cases hf:firstM (byteAt s 0) with
 | none=>
  rw [hf] at hv
  refine ⟨_,_,_,_,_,_,_,_,_,hv,?_⟩
  intro w11
  have hb11:=hb2.keep (Kept.alloc No w2 (Obj.cells #[.bool false,.bool false,.bool false,.bool false,.bool false,.bool false,.bool false,.bool false] 147)) (fun e=>e)
  have hn11:Blk w11 w2.heap.size Md.no.cs:=Blk.alloc _ _ _
  have hk11:Kept No w2 w11:=Kept.alloc _ _ _
  have hb11:Blk w11 w.heap.size Md.no.cs:=hb11
  clear_value w11
  have hne:w.heap.size≠w2.heap.size:=by have:=hb2.lt; omega
  refine st8 hn11 rfl fun w12 hn12 hk12 _=>condT rfl (st8 (hb11.keep hk12 hne) rfl fun w13 hb13 hk13 _=>ld8 (m:=Md.no) hb13 ⟨?_,?_⟩)
  ·unfold parsed parseM; rw [if_neg h0,hf]; rfl
  ·exact hg ((hk02.no hk11).fresh hk12 (fun x e=>by rw [e]; exact hk02.size)) hk13
 | some m0=>
  rw [hf] at hv
  refine ⟨_,_,_,_,_,_,_,_,_,hv,?_⟩
  intro w11
  have hb11:Blk w11 w.heap.size Md.no.cs:=hb2.keep (Kept.alloc No w2 (Obj.cells #[.bool false,.bool false,.bool false,.bool false,.bool false,.bool false,.bool false,.bool false] 147)) (fun e=>e)
  have hn11:Blk w11 w2.heap.size Md.no.cs:=Blk.alloc _ _ _
  have hk11:Kept No w2 w11:=Kept.alloc _ _ _
  clear_value w11
  have hne:w.heap.size≠w2.heap.size:=by have:=hb2.lt; omega
  have hmW:∀ x,x=w2.heap.size→w.heap.size≤x:=fun x e=>by rw [e]; exact hk02.size
  refine st8 hn11 rfl fun w12 hn12 hk12 _=>condF rfl ?_
  have hpm:parseM s=goM s (s.size - 1) 1 m0:=by unfold parseM; rw [if_neg h0,hf]
  refine ⟨fun vs w'=>∃ (i:Nat) (m:Md),vs=[.int .i64 (i:Int)]∧1≤i∧i≤s.size∧Blk w' w.heap.size Md.no.cs∧Blk w' w2.heap.size m.cs∧parseM s=goM s (s.size - i) i m∧Kept No w w',
   fun vs _=>match vs with | [.int _ i]=>(s.size - i).toNat | _=>0,⟨1,m0,rfl,Nat.le_refl _,by omega,hb11.keep hk12 hne,hn12,hpm,(hk02.no hk11).fresh hk12 hmW⟩,?_⟩
  clear hn12 hk12 hn11 hk11 hb11
  intro _ n30 w28 hI
  obtain ⟨i,m,hvs,hi1,hi2,hg1,hg2,hgo,hk28⟩:=hI
  simp only [List.cons.injEq,Value.int.injEq,true_and,and_true] at hvs
  subst hvs
  refine condP (fun hlt=>?_) (fun hge=>?_)
  ·have his:i< s.size:=by omega
   refine letters_to fun w29 hl29 hk29=>⟨_,_,_,rfl,?_⟩
   have hszl:w28.heap.size≠w.heap.size:=by have:=hg1.lt; omega
   have hszl2:w28.heap.size≠w2.heap.size:=by have:=hg2.lt; omega
   refine ⟨fun vs w'=>∃ j:Nat,vs=[.int .i64 (j:Int)]∧j≤4∧Blk w' w28.heap.size lets∧Blk w' w.heap.size Md.no.cs∧Blk w' w2.heap.size m.cs∧Kept No w w'∧
    ∀ j',j'< j→¬ (lc j'=byteAt s i∧¬ dup s i∧(lc j'≠120∨byteAt s 0=119)),
    fun vs _=>match vs with | [.int _ j]=>(4 - j).toNat | _=>0,⟨0,rfl,by omega,hl29,hg1.keep hk29 (fun e=>e),hg2.keep hk29 (fun e=>e),hk28.no hk29,fun j' h=>by omega⟩,?_⟩
   intro _ n35 w30 hJ
   obtain ⟨j,hvs,hj,hl30,hg30,hm30,hk30,hfail⟩:=hJ
   simp only [List.cons.injEq,Value.int.injEq,true_and,and_true] at hvs
   subst hvs
   refine condP (fun hjl=>?_) (fun hjg=>?_)
   ·have hj4:j< 4:=by omega
    obtain ⟨e0,e1,e2⟩:=lets_at hj4
    have hc0:w30.cell? (Addr.add ⟨w28.heap.size,0,none⟩ (Int.toNat (j:Int) * 3))=some (.int .u8 (lc j)):=hl30.at e0
    have hc1:w30.cell? (Addr.add (Addr.add ⟨w28.heap.size,0,none⟩ (Int.toNat (j:Int) * 3)) 1)=some (.func (.func (hasf j)) #[] #[]):=by
     rw [Lw.add_add]; exact hl30.at e1
    have hc2:w30.cell? (Addr.add (Addr.add ⟨w28.heap.size,0,none⟩ (Int.toNat (j:Int) * 3)) 2)=some (.func (.func (setf j)) #[] #[]):=by
     rw [Lw.add_add]; exact hl30.at e2
    refine ⟨⟨by omega,by omega⟩,nnI ⟨_,_,_,hc0,hc1,hc2,?_⟩⟩
    intro w31
    have hx31:Blk w31 w30.heap.size #[.int .u8 0,.nilFunc,.nilFunc]:=Blk.alloc _ _ _
    have hk31:Kept No w30 w31:=Kept.alloc _ _ _
    clear_value w31
    refine stC_blk hx31 (by simp) fun w32 hx32 hk32 _=>oneF (stC_blk hx32 (by simp) fun w33 hx33 hk33 _=>oneF (stC_blk hx33 (by simp) fun w34 hx34 hk34 _=>?_))
    have hk314:Kept (·=w30.heap.size) w31 w34:=(hk32.trans hk33 fun _ _ e=>e).trans hk34 fun _ _ e=>e
    intro w35
    have hx35:Blk w35 w30.heap.size #[.int .u8 (lc j),.func (.func (hasf j)) #[] #[],.func (.func (setf j)) #[] #[]]:=hx34
    have hk345:Kept No w34 w35:=Kept.drew _ _
    clear_value w35
    have hk305:Kept No w30 w35:=(hk31.fresh hk314 (fun x e=>by rw [e]; exact Nat.le_refl _)).no hk345
    have hl35:=hl30.keep hk305 (fun e=>e)
    have hg35:=hg30.keep hk305 (fun e=>e)
    have hm35:=hm30.keep hk305 (fun e=>e)
    have hk35:=hk30.no hk305
    clear hx34 hk34 hx33 hk33 hx32 hk32 hx31 hk31 hk314 hk345
    have hi64:inI ((j:Int)+1):=by unfold inI; omega
    have hmu:((4:Int) - ((j:Int)+1)).toNat< ((4:Int) - (j:Int)).toNat:=by omega
    have next:¬ (lc j=byteAt s i∧¬ dup s i∧(lc j≠120∨byteAt s 0=119))→∃ j':Nat,[Value.int .i64 ((j:Int)+1)]=[.int .i64 (j':Int)]∧j'≤4∧Blk w35 w28.heap.size lets∧Blk w35 w.heap.size Md.no.cs∧Blk w35 w2.heap.size m.cs∧Kept No w w35∧
     ∀ j'',j''< j'→¬ (lc j''=byteAt s i∧¬ dup s i∧(lc j''≠120∨byteAt s 0=119)):=fun hn=>
     ⟨j+1,rfl,by omega,hl35,hg35,hm35,hk35,fun j'' h''=>by
      by_cases hjj:j''=j
      ·subst hjj; exact hn
      ·exact hfail j'' (by omega)⟩
    have call:lc j=byteAt s i→¬ dup s i→(lc j≠120∨byteAt s 0=119)→CallR Tryz.prog (setf j) [.pointer (some ⟨w2.heap.size,0,none⟩)] w35 fun r w37=>r=.tuple #[]∧inI ((i:Int)+1)∧
     (∃ (i':Nat) (m:Md),[Value.int .i64 ((i:Int)+1)]=[.int .i64 (i':Int)]∧1≤i'∧i'≤s.size∧Blk w37 w.heap.size Md.no.cs∧Blk w37 w2.heap.size m.cs∧parseM s=goM s (s.size - i') i' m∧Kept No w w37)∧
     ((s.size:Int) - ((i:Int)+1)).toNat< ((s.size:Int) - (i:Int)).toNat:=by
     intro h1 h2 h3
     refine (set_ok hm35 hj4).mono fun v w37 ⟨hv,hm37,hk37⟩=>⟨hv,by unfold inI; omega,⟨i+1,setJ j m,rfl,by omega,by omega,hg35.keep hk37 hne,hm37,?_,hk35.fresh hk37 hmW⟩,by omega⟩
     rw [hgo]
     exact goM_ok his h2 (by rw [← h1]; exact setM_lc m _ hj4 h3)
    have hbody:bodyB Tryz.prog (setf j)=true:=body_set hj4
    refine ⟨_,(hx35.cell 0).trans rfl,⟨by omega,by omega⟩,condI (fun heq=>?_) (fun hneq=>⟨hi64,next (fun h=>by simp [h.1] at hneq),hmu⟩)⟩
    have heq':lc j=byteAt s i:=by simpa using heq
    refine ⟨⟨by omega,by omega⟩,⟨by omega,by omega⟩,_,(hx35.cell 0).trans rfl,(oix_ok _ _).mono fun v w36 ⟨hv36,hw36⟩=>⟨_,hv36,?_⟩⟩
    rw [hw36,heq']
    have hdd:decide (firstIdx (s.extract (Int.toNat 1) (Int.toNat (i:Int))) (byteAt s i).toNat.toUInt8< 0)=true↔¬ dup s i:=ix_dup s i (by omega)
    refine condI (fun hfree=>?_) (fun hnf=>⟨hi64,next (fun h=>by rw [hdd.2 h.2.1] at hnf; cases hnf),hmu⟩)
    have hnd:¬ dup s i:=hdd.1 hfree
    refine ⟨_,(hx35.cell 0).trans rfl,condI (fun hx=>?_) (fun hx=>⟨⟨by omega,by omega⟩,condI (fun h119=>?_) (fun h119=>⟨hi64,next (fun h=>?_),hmu⟩)⟩)⟩
    ·exact ⟨_,(hx35.cell 2).trans rfl,_,_,_,rfl,hbody,call heq' hnd (.inl (by simpa using hx))⟩
    ·exact ⟨_,(hx35.cell 2).trans rfl,_,_,_,rfl,hbody,call heq' hnd (.inr (by simpa using h119))⟩
    ·rcases h.2.2 with h | h
     ·simp at hx; exact h hx
     ·simp [h] at h119
   ·have hj4:j=4:=by omega
    subst hj4
    refine st8 hg30 rfl fun w40 hg40 hk40 _=>ld8 (m:=Md.no) hg40 ⟨?_,hg hk30 hk40⟩
    unfold parsed
    rw [hgo,goM_bad his]
    ·rfl
    by_cases hd:dup s i
    ·exact .inl hd
    ·exact .inr (setM_none m _ _ fun j' hj' h=>hfail j' hj' ⟨h.1,hd,h.2⟩)
  ·have hii:s.size - i=0:=by omega
   refine ld8 hg2 (st8 hg1 rfl fun w40 hg40 hk40 _=>ld8 (m:=m) hg40 ⟨?_,hg hk28 hk40⟩)
   unfold parsed
   rw [hgo,goM_end hii]; rfl
def boolsB (P : Program) : List Field → Nat → Bool
 | [], o => Nat.beq o 8
 | f :: r, o => Nat.beq f.offset o && !(f.name == "_") && (match P.underlying f.type with | some .bool => true | _ => false) && boolsB P r (o + 1)
theorem eqf {P : Program} {w : World} {xs ys : Array Value} {X Y : Nat → Bool} (hx : ∀ i, i < 8 → xs[i]? = some (.bool (X i))) (hy : ∀ i, i < 8 → ys[i]? = some (.bool (Y i))) (d : Nat) :
 ∀ (fs : List Field) (o : Nat), boolsB P fs o = true → (Op.eqFields (d + 1) xs ys fs).run P w = .ok ((List.range' o fs.length).all fun i => X i == Y i) w ∧ o + fs.length = 8
 | [], o, h => by
  have := Nat.eq_of_beq_eq_true h
  subst this
  exact ⟨rfl, rfl⟩
 | f :: r, o, h => by
  unfold boolsB at h
  simp only [Bool.and_eq_true] at h
  obtain ⟨⟨⟨h1, h2⟩, h3⟩, h4⟩ := h
  have ho : f.offset = o := Nat.eq_of_beq_eq_true h1
  have hn : f.name ≠ "_" := by simpa using h2
  have hu : P.underlying f.type = some .bool := by
   split at h3
   ·assumption
   ·cases h3
  obtain ⟨ih, hl⟩ := eqf (w := w) hx hy d r (o + 1) h4
  have hlen : o + (f :: r).length = 8 := by simp; omega
  have ho8 : o < 8 := by omega
  have hag : isAggB P f.type = false := by unfold isAggB; rw [hu]
  have px : (part f.type xs f.offset).run P w = .ok (.bool (X o)) w := by
   unfold part
   simp only [Sem.run_bind, run_isAgg hu, hag, Result.andThen_ok, Bool.false_eq_true, if_false, ho, hx o ho8, Sem.run_pure]
  have py : (part f.type ys f.offset).run P w = .ok (.bool (Y o)) w := by
   unfold part
   simp only [Sem.run_bind, run_isAgg hu, hag, Result.andThen_ok, Bool.false_eq_true, if_false, ho, hy o ho8, Sem.run_pure]
  refine ⟨?_, hlen⟩
  unfold Op.eqFields
  simp only [hn, ne_eq, not_false_eq_true, if_true, Sem.run_bind, px, py, Result.andThen_ok, run_equalIn_bool' w d f.type (X o) (Y o) hu]
  cases hxy : (X o == Y o) with
  | false => simp [List.range'_succ, hxy]
  | true => simp [List.range'_succ, hxy, ih]
theorem run_Bind {α β:Type} {P:Program} (m:Sem α) (f:α→Sem β) (w:World):Sem.run P (Sem.bind m f) w=(m.run P w).andThen fun a w'=>(f a).run P w':=by
 have:Sem.bind m f=(m >>= f):=rfl
 rw [this,Sem.run_bind]
def Md.at (m:Md) (i:Nat):Bool:=match i with | 0=>m.r | 1=>m.w | 2=>m.a | 3=>m.c | 4=>m.t | 5=>m.x | 6=>m.b | _=>m.k
theorem Md.cs_at (m:Md):∀ i,i< 8→m.cs[i]?=some (.bool (m.at i)):=by
 intro i hi
 match i,hi with
 | 0,_=>rfl
 | 1,_=>rfl
 | 2,_=>rfl
 | 3,_=>rfl
 | 4,_=>rfl
 | 5,_=>rfl
 | 6,_=>rfl
 | 7,_=>rfl
theorem Md.all_iff (m n:Md):((List.range' 0 8).all fun i=>m.at i == n.at i)=decide (m=n):=by
 obtain ⟨a0,a1,a2,a3,a4,a5,a6,a7⟩:=m
 obtain ⟨b0,b1,b2,b3,b4,b5,b6,b7⟩:=n
 rw [Bool.eq_iff_iff]
 simp [List.range'_succ,Md.at]
theorem eqMd {w:World} {x y:Operand} (m n:Md):Sem.run Tryz.prog (Sem.bind (eqGuard .eql 147 x y (.agg m.cs) (.agg n.cs)) (fun _=>binOp .eql 147 (.agg m.cs) (.agg n.cs))) w=.ok (.bool (decide (m=n))) w:=by
 have h1:Tryz.prog.eqGuardType Tryz.prog.depth 147=false:=by kernel_rfl
 have h2:Tryz.prog.underlying 147=some (.struct (Tryz.prog.fieldsOf 147)):=by kernel_rfl
 have h3:Tryz.prog.stoodInHeld 147=false:=by kernel_rfl
 have h4:boolsB Tryz.prog (Tryz.prog.fieldsOf 147).toList 0=true:=by kernel_rfl
 have he:=eqf (P:=Tryz.prog) (w:=w) m.cs_at n.cs_at 9998 _ 0 h4
 have hlen:(Tryz.prog.fieldsOf 147).toList.length=8:=by have:=he.2; omega
 rw [run_Bind,run_eqGuard_agg w .eql 147 x y m.cs n.cs h1,Result.andThen_ok,run_eql_struct,run_equalIn_struct w 9999 147 m.cs n.cs h2 h3,he.1,hlen,Md.all_iff]
 rfl
def txtJ (c:Int) (m:Md):Nat→ByteArray
 | 0=>Utf8.encode c
 | j+1=>if hasJ j m then txtJ c m j ++ Utf8.encode (IntKind.wrap .i32 (lc j)) else txtJ c m j
theorem txt_t {c:Int} {m:Md} {j:Nat} (h:hasJ j m=true):txtJ c m (j+1)=txtJ c m j ++ Utf8.encode (IntKind.wrap .i32 (lc j)):=by
 show (if hasJ j m then _ else _)=_
 rw [if_pos h]
theorem txt_f {c:Int} {m:Md} {j:Nat} (h:hasJ j m=false):txtJ c m (j+1)=txtJ c m j:=by
 show (if hasJ j m then _ else _)=_
 rw [if_neg (by rw [h]; simp)]
def fitsM (c:Int) (m:Md):Bool:=decide ((parseM (txtJ c m 4)).2.1=0) && decide ((parseM (txtJ c m 4)).1=m)
def printM (m:Md):ByteArray × Int:=
 if fitsM 114 m then (txtJ 114 m 4,0) else if fitsM 119 m then (txtJ 119 m 4,0) else if fitsM 97 m then (txtJ 97 m 4,0) else (ByteArray.mk #[],91)
def rwa:ByteArray:=ByteArray.mk #[114,119,97]
def cAt (p:Nat):Int:=match p with | 0=>114 | 1=>119 | _=>97
theorem c0:cAt 0=114:=rfl
theorem c1:cAt 1=119:=rfl
theorem c2:cAt 2=97:=rfl
theorem printM_at {m:Md} {p:Nat} (hp:p< 3) (hf:fitsM (cAt p) m=true) (hno:∀ p',p'< p→fitsM (cAt p') m=false):printM m=(txtJ (cAt p) m 4,0):=by
 have h:p=0∨p=1∨p=2:=by omega
 unfold printM
 rcases h with h | h | h
 ·subst h
  rw [c0] at hf ⊢
  rw [if_pos hf]
 ·subst h
  have f0:=hno 0 (by omega)
  rw [c0] at f0
  rw [c1] at hf ⊢
  rw [if_neg (by rw [f0]; simp),if_pos hf]
 ·subst h
  have f0:=hno 0 (by omega)
  have f1:=hno 1 (by omega)
  rw [c0] at f0
  rw [c1] at f1
  rw [c2] at hf ⊢
  rw [if_neg (by rw [f0]; simp),if_neg (by rw [f1]; simp),if_pos hf]
theorem printM_none {m:Md} (hno:∀ p',p'< 3→fitsM (cAt p') m=false):printM m=(ByteArray.mk #[],91):=by
 have f0:=hno 0 (by omega)
 have f1:=hno 1 (by omega)
 have f2:=hno 2 (by omega)
 rw [c0] at f0
 rw [c1] at f1
 rw [c2] at f2
 unfold printM
 rw [if_neg (by rw [f0]; simp),if_neg (by rw [f1]; simp),if_neg (by rw [f2]; simp)]
theorem enc1 {j:Nat} (h:j< 4):(Utf8.encode (IntKind.wrap .i32 (lc j))).size=1:=by
 match j,h with
 | 0,_=>decide
 | 1,_=>decide
 | 2,_=>decide
 | 3,_=>decide
theorem encC {p:Nat} (h:p< 3):(Utf8.encode (cAt p)).size=1:=by
 match p,h with
 | 0,_=>decide
 | 1,_=>decide
 | 2,_=>decide
theorem txt_size {p:Nat} (hp:p< 3) (m:Md):∀ j,j≤4→(txtJ (cAt p) m j).size≤1+j
 | 0,_=>by unfold txtJ; rw [encC hp]; omega
 | j+1,h=>by
  have ih:=txt_size hp m j (by omega)
  unfold txtJ
  split
  ·rw [ByteArray.size_append,enc1 (by omega)]; omega
  ·omega
theorem Kept.iter (w:World) (k:Nat) (s:ByteArray) (p:Nat):Kept (·=k) w (w.iterAt k s p):=
 ⟨rfl,rfl,rfl,by rw [Lib.iterAt_size]; exact Nat.le_refl _,fun j _ hn=>Lib.iterAt_other w k j s p hn⟩
theorem rwa_at {p:Nat} (h:p< 3):∃ hq:p< rwa.size,((rwa[p]'hq).toNat:Int)=cAt p∧(rwa[p]'hq).toNat< 128:=by
 match p,h with
 | 0,_=>exact ⟨by decide,by decide,by decide⟩
 | 1,_=>exact ⟨by decide,by decide,by decide⟩
 | 2,_=>exact ⟨by decide,by decide,by decide⟩
set_option maxHeartbeats 1000000 in
theorem oprint_ok {w:World} (m:Md):CallR Tryz.prog 186 [.agg m.cs] w fun v w'=>v=.tuple #[.string (printM m).1,.int .i64 (printM m).2]∧Kept No w w':=by
 refine C186 ?_
 unfold L186
 intro w1
 have hb1:Blk w1 w.heap.size m.cs:=Blk.alloc _ _ _
 have hk1:Kept No w w1:=Kept.alloc _ _ _
 clear_value w1
 have hit2:(w1.iter rwa 0).heap[w1.heap.size]?=some (.stringIter rwa 0):=World.iter_heap _ _ _
 have hk2:Kept No w1 (w1.iter rwa 0):=Kept.alloc _ _ _
 refine ⟨_,run_range_string w1 9 rwa (by kernel_rfl),?_⟩
 generalize w1.iter rwa 0=w2 at hit2 hk2 ⊢
 have hne:w.heap.size≠w1.heap.size:=by have:=hb1.lt; omega
 have hKW:∀ x,x=w1.heap.size→w.heap.size≤x:=fun x e=>by rw [e]; exact hk1.size
 refine ⟨fun vs w'=>vs=[]∧∃ p:Nat,p≤3∧w'.heap[w1.heap.size]?=some (.stringIter rwa p)∧Blk w' w.heap.size m.cs∧Kept No w w'∧∀ p',p'< p→fitsM (cAt p') m=false,
  fun _ w'=>match w'.heap[w1.heap.size]? with | some (.stringIter _ p)=>3 - p | _=>0,⟨rfl,0,by omega,hit2,hb1.keep hk2 (fun e=>e),hk1.no hk2,fun p' h=>by omega⟩,?_⟩
 intro _ w3 hI
 obtain ⟨_,p,hp,hit,hb3,hk3,hno⟩:=hI
 by_cases hp3:p< 3
 ·right
  obtain ⟨hps,hc,ha⟩:=rwa_at hp3
  refine ⟨_,_,_,Lib.run_next_ascii_at w3 w1.heap.size rwa p 0 hit hps ha,_,rfl,?_⟩
  rw [hc]
  have hk5:=Kept.iter w3 w1.heap.size rwa (p+1)
  have hit5:=Lib.iterAt_heap w3 w1.heap.size rwa p (p+1) hit
  generalize w3.iterAt w1.heap.size rwa (p+1)=w5 at hk5 hit5 ⊢
  have hb5:=hb3.keep hk5 hne
  have hk05:=hk3.fresh hk5 hKW
  have hk1lt:w1.heap.size< w5.heap.size:=(Array.getElem?_eq_some_iff.1 hit5).1
  have keepIt:∀ {w6 w7:World} {S:Nat→Prop},w6.heap[w1.heap.size]?=some (.stringIter rwa (p+1))→Kept S w6 w7→¬ S w1.heap.size→w7.heap[w1.heap.size]?=some (.stringIter rwa (p+1)):=fun h k hn=>by
   rw [k.block _ (Array.getElem?_eq_some_iff.1 h).1 hn]; exact h
  refine letters_to fun w6 hl6 hk6=>⟨_,_,_,rfl,?_⟩
  refine ⟨fun vs w'=>∃ j:Nat,vs=[.string (txtJ (cAt p) m j),.int .i64 (j:Int)]∧j≤4∧Blk w' w5.heap.size lets∧Blk w' w.heap.size m.cs∧w'.heap[w1.heap.size]?=some (.stringIter rwa (p+1))∧Kept No w w',
   fun vs _=>match vs with | [_,.int _ j]=>(4 - j).toNat | _=>0,⟨0,rfl,by omega,hl6,hb5.keep hk6 (fun e=>e),keepIt hit5 hk6 (fun e=>e),hk05.no hk6⟩,?_⟩
  intro _ s18 n19 w7 hJ
  obtain ⟨j,hvs,hj,hl7,hb7,hit7,hk7⟩:=hJ
  simp only [List.cons.injEq,Value.string.injEq,Value.int.injEq,true_and,and_true] at hvs
  obtain ⟨rfl,rfl⟩:=hvs
  have hszt:=txt_size hp3 m
  refine condP (fun hjl=>?_) (fun hjg=>?_)
  ·have hj4:j< 4:=by omega
   obtain ⟨e0,e1,e2⟩:=lets_at hj4
   have hc0:w7.cell? (Addr.add ⟨w5.heap.size,0,none⟩ (Int.toNat (j:Int) * 3))=some (.int .u8 (lc j)):=hl7.at e0
   have hc1:w7.cell? (Addr.add (Addr.add ⟨w5.heap.size,0,none⟩ (Int.toNat (j:Int) * 3)) 1)=some (.func (.func (hasf j)) #[] #[]):=by
    rw [Lw.add_add]; exact hl7.at e1
   have hc2:w7.cell? (Addr.add (Addr.add ⟨w5.heap.size,0,none⟩ (Int.toNat (j:Int) * 3)) 2)=some (.func (.func (setf j)) #[] #[]):=by
    rw [Lw.add_add]; exact hl7.at e2
   refine ⟨⟨by omega,by omega⟩,nnI ⟨_,_,_,hc0,hc1,hc2,?_⟩⟩
   intro w31
   have hx31:Blk w31 w7.heap.size #[.int .u8 0,.nilFunc,.nilFunc]:=Blk.alloc _ _ _
   have hk31:Kept No w7 w31:=Kept.alloc _ _ _
   clear_value w31
   refine stC_blk hx31 (by simp) fun w32 hx32 hk32 _=>oneF (stC_blk hx32 (by simp) fun w33 hx33 hk33 _=>oneF (stC_blk hx33 (by simp) fun w34 hx34 hk34 _=>?_))
   have hk314:Kept (·=w7.heap.size) w31 w34:=(hk32.trans hk33 fun _ _ e=>e).trans hk34 fun _ _ e=>e
   have hx35:Blk w34 w7.heap.size #[.int .u8 (lc j),.func (.func (hasf j)) #[] #[],.func (.func (setf j)) #[] #[]]:=hx34
   have hk305:Kept No w7 w34:=hk31.fresh hk314 (fun x e=>by rw [e]; exact Nat.le_refl _)
   have hl35:=hl7.keep hk305 (fun e=>e)
   have hb35:=hb7.keep hk305 (fun e=>e)
   have hit35:=keepIt hit7 hk305 (fun e=>e)
   have hk35:=hk7.no hk305
   have hi64:inI ((j:Int)+1):=by unfold inI; omega
   have hmu:((4:Int) - ((j:Int)+1)).toNat< ((4:Int) - (j:Int)).toNat:=by omega
   refine ⟨_,(hx35.cell 1).trans rfl,ld8 hb35 ⟨_,_,_,rfl,body_has hj4,(has_ok m hj4).mono fun v w36 ⟨hv36,hk36⟩=>⟨_,hv36,?_⟩⟩⟩
   have fin:∀ s',s'=txtJ (cAt p) m (j+1)→∃ j':Nat,[Value.string s',.int .i64 ((j:Int)+1)]=[.string (txtJ (cAt p) m j'),.int .i64 (j':Int)]∧j'≤4∧Blk w36 w5.heap.size lets∧Blk w36 w.heap.size m.cs∧w36.heap[w1.heap.size]?=some (.stringIter rwa (p+1))∧Kept No w w36:=fun s' hs'=>
    ⟨j+1,by rw [hs']; rfl,by omega,hl35.keep hk36 (fun e=>e),hb35.keep hk36 (fun e=>e),keepIt hit35 hk36 (fun e=>e),hk35.no hk36⟩
   refine condI (fun hh=>⟨_,((hx35.keep hk36 (fun e=>e)).cell 0).trans rfl,?_,hi64,fin _ ?_,hmu⟩) (fun hh=>⟨hi64,fin _ ?_,hmu⟩)
   ·have:=hszt j (by omega)
    rw [enc1 hj4]; omega
   ·exact (txt_t hh).symm
   ·exact (txt_f hh).symm
  ·have hj4:j=4:=by omega
   subst hj4
   have hs4:=hszt 4 (by omega)
   refine (oparse_ok (txtJ (cAt p) m 4) (by omega)).mono fun v w13 ⟨hv13,hk13⟩=>⟨_,_,_,_,_,_,_,_,_,_,hv13,?_⟩
   intro w14
   have hx14:Blk w14 w13.heap.size Md.no.cs:=Blk.alloc _ _ _
   have hk14:Kept No w13 w14:=Kept.alloc _ _ _
   clear_value w14
   refine st8 hx14 rfl fun w22 hx22 hk22 _=>?_
   have hx22:Blk w22 w13.heap.size (parseM (txtJ (cAt p) m 4)).1.cs:=hx22
   have hk722:Kept No w7 w22:=(hk13.no hk14).fresh hk22 (fun x e=>by rw [e]; exact hk13.size)
   have hb22:=hb7.keep hk722 (fun e=>e)
   have hit22:=keepIt hit7 hk722 (fun e=>e)
   have hk022:=hk7.no hk722
   have again:fitsM (cAt p) m=false→(([]:List Value)=[]∧∃ p:Nat,p≤3∧w22.heap[w1.heap.size]?=some (.stringIter rwa p)∧Blk w22 w.heap.size m.cs∧Kept No w w22∧∀ p',p'< p→fitsM (cAt p') m=false)∧
    (match w22.heap[w1.heap.size]? with | some (.stringIter _ p)=>3 - p | _=>0)< (match w3.heap[w1.heap.size]? with | some (.stringIter _ p)=>3 - p | _=>0):=fun hf=>by
    refine ⟨⟨rfl,p+1,by omega,hit22,hb22,hk022,fun p' hp'=>?_⟩,?_⟩
    ·by_cases hpp:p'=p
     ·subst hpp; exact hf
     ·exact hno p' (by omega)
    ·rw [hit22,hit]; show 3 - (p+1)< 3 - p; omega
   have nfit:¬ (parseM (txtJ (cAt p) m 4)).2.1=0→fitsM (cAt p) m=false:=fun h=>by unfold fitsM; simp [h]
   refine condI (fun hok=>?_) (fun hbad=>again (nfit (by simpa using hbad)))
   have hok':(parseM (txtJ (cAt p) m 4)).2.1=0:=by simpa using hok
   refine ld8 hx22 (ld8 hb22 ⟨_,w22,eqMd (parseM (txtJ (cAt p) m 4)).1 m,?_⟩)
   refine condP (fun he=>⟨?_,hk022⟩) (fun hne'=>again (by unfold fitsM; simp [hne']))
   have hfit:fitsM (cAt p) m=true:=by unfold fitsM; simp [hok',he]
   have hpr:printM m=(txtJ (cAt p) m 4,0):=printM_at hp3 hfit hno
   rw [hpr]
 ·left
  have hpe:p=3:=by omega
  subst hpe
  refine ⟨w3,Lib.run_next_end_at w3 w1.heap.size rwa 3 0 hit (by decide),?_,hk3⟩
  have hpr:=printM_none hno
  rw [hpr]
theorem ocheck_ok {w:World} (m:Md):CallR Tryz.prog 130 [.agg m.cs] w fun v w'=>v=.int .i64 (printM m).2∧Kept No w w':=by
 refine C130 ?_
 unfold L130
 intro w1
 have hb1:Blk w1 w.heap.size m.cs:=Blk.alloc _ _ _
 have hk1:Kept No w w1:=Kept.alloc _ _ _
 clear_value w1
 exact ld8 hb1 ((oprint_ok m).mono fun v w2 ⟨hv,hk⟩=>⟨_,_,hv,rfl,hk1.no hk⟩)
structure Pu where
 r:Bool
 w:Bool
 m:Int
 z:Int
 o:List Int
 i:List Int
 k:List Int
 d:Int
 e:Bool
 b:Bool
 c:Bool
structure Sl3 where
 oa:Option Addr
 ol:Nat
 oc:Nat
 ia:Option Addr
 il:Nat
 ic:Nat
 ka:Option Addr
 kl:Nat
 kc:Nat
def cs (p:Pu) (s:Sl3):Array Value:=#[.bool p.r,.bool p.w,.int .i64 p.m,.int .i64 p.z,.slice s.oa s.ol s.oc,.slice s.ia s.il s.ic,.slice s.ka s.kl s.kc,.int .i64 p.d,.bool p.e,.bool p.b,.bool p.c]
def Rd3 (w:World) (s:Sl3) (p:Pu):Prop:=RdB w s.oa s.ol s.oc p.o∧RdB w s.ia s.il s.ic p.i∧RdB w s.ka s.kl s.kc p.k
def Ow3 (w0 w:World) (s:Sl3) (p:Pu):Prop:=
 (OB w s.oa s.ol s.oc p.o∧OB w s.ia s.il s.ic p.i∧OB w s.ka s.kl s.kc p.k)∧(Fresh w0 s.oa∧Fresh w0 s.ia∧Fresh w0 s.ka)∧
  (∀ b,inA s.ka b→¬ inA s.ia b∧¬ inA s.oa b)∧(∀ b,inA s.ia b→¬ inA s.oa b)
def Bd (p:Pu):Prop:=p.o.length≤140737488355328∧p.i.length≤140737488355328∧p.k.length≤140737488355328
theorem Rd3.keep {w w':World} {s:Sl3} {p:Pu} (h:Rd3 w s p) {S:Nat→Prop} (k:Kept S w w') (hn:∀ b,b< w.heap.size→inA s.oa b∨inA s.ia b∨inA s.ka b→¬ S b):Rd3 w' s p:=
 ⟨h.1.keep k fun b hb hi=>hn b hb (.inl hi),h.2.1.keep k fun b hb hi=>hn b hb (.inr (.inl hi)),h.2.2.keep k fun b hb hi=>hn b hb (.inr (.inr hi))⟩
theorem Rd3.no {w w':World} {s:Sl3} {p:Pu} (h:Rd3 w s p) (k:Kept No w w'):Rd3 w' s p:=h.keep k fun _ _ _ e=>e
theorem Ow3.rd {w0 w:World} {s:Sl3} {p:Pu} (h:Ow3 w0 w s p):Rd3 w s p:=⟨h.1.1.rd,h.1.2.1.rd,h.1.2.2.rd⟩
theorem Ow3.keep {w0 w w':World} {s:Sl3} {p:Pu} (h:Ow3 w0 w s p) {S:Nat→Prop} (k:Kept S w w') (hn:∀ b,inA s.oa b∨inA s.ia b∨inA s.ka b→¬ S b):Ow3 w0 w' s p:=
 ⟨⟨h.1.1.keep k fun b hi=>hn b (.inl hi),h.1.2.1.keep k fun b hi=>hn b (.inr (.inl hi)),h.1.2.2.keep k fun b hi=>hn b (.inr (.inr hi))⟩,h.2⟩
theorem Ow3.no {w0 w w':World} {s:Sl3} {p:Pu} (h:Ow3 w0 w s p) (k:Kept No w w'):Ow3 w0 w' s p:=h.keep k fun _ _ e=>e
theorem Fresh.base {w w0:World} {a:Option Addr} (h:Fresh w a) (hs:w0.heap.size≤w.heap.size):Fresh w0 a:=fun b hb=>Nat.le_trans hs (h b hb)
theorem Ow3.base {w1 w0 w:World} {s:Sl3} {p:Pu} (h:Ow3 w1 w s p) (hs:w0.heap.size≤w1.heap.size):Ow3 w0 w s p:=
 ⟨h.1,⟨Fresh.base h.2.1.1 hs,Fresh.base h.2.1.2.1 hs,Fresh.base h.2.1.2.2 hs⟩,h.2.2⟩
theorem set11 {cur:Array Value} (hs:cur.size=11) (v0 v1 v2 v3 v4 v5 v6 v7 v8 v9 v10:Value) :
 (((((((((((cur.setIfInBounds 0 v0).setIfInBounds 1 v1).setIfInBounds 2 v2).setIfInBounds 3 v3).setIfInBounds 4 v4).setIfInBounds 5 v5).setIfInBounds 6 v6).setIfInBounds 7 v7).setIfInBounds 8 v8).setIfInBounds 9 v9).setIfInBounds 10 v10)=#[v0,v1,v2,v3,v4,v5,v6,v7,v8,v9,v10]:=by
 obtain ⟨l⟩:=cur
 match l,hs with
 | [a0,a1,a2,a3,a4,a5,a6,a7,a8,a9,a10],_=>simp
theorem st11 {w:World} {g:Nat} {cur:Array Value} (h:Blk w g cur) (hs:cur.size=11) {p:Pu} {s:Sl3} {K:World→Prop} (hk:∀ w',Blk w' g (cs p s)→Kept (·=g) w w'→K w') :
 stC (Addr.mk g 0 none) (.bool p.r) w fun w1=>stC (Addr.mk g 1 none) (.bool p.w) w1 fun w2=>stC (Addr.mk g 2 none) (.int .i64 p.m) w2 fun w3=>stC (Addr.mk g 3 none) (.int .i64 p.z) w3 fun w4=>stC (Addr.mk g 4 none) (.slice s.oa s.ol s.oc) w4 fun w5=>stC (Addr.mk g 5 none) (.slice s.ia s.il s.ic) w5 fun w6=>stC (Addr.mk g 6 none) (.slice s.ka s.kl s.kc) w6 fun w7=>stC (Addr.mk g 7 none) (.int .i64 p.d) w7 fun w8=>stC (Addr.mk g 8 none) (.bool p.e) w8 fun w9=>stC (Addr.mk g 9 none) (.bool p.b) w9 fun w10=>stC (Addr.mk g 10 none) (.bool p.c) w10 K:=by
 have z:∀ {c:Array Value} (i:Nat) (v:Value),c.size=11→(c.setIfInBounds i v).size=11:=fun i v hc=>by rw [Array.size_setIfInBounds]; exact hc
 have k0:Kept (·=g) w w:=Kept.refl _ _
 refine stC_blk h (by omega) fun w1 h1 k1 s1=>?_
 have z1:=z 0 (.bool p.r) hs
 refine stC_blk h1 (by omega) fun w2 h2 k2 s2=>?_
 have z2:=z 1 (.bool p.w) z1
 refine stC_blk h2 (by omega) fun w3 h3 k3 s3=>?_
 have z3:=z 2 (.int .i64 p.m) z2
 refine stC_blk h3 (by omega) fun w4 h4 k4 s4=>?_
 have z4:=z 3 (.int .i64 p.z) z3
 refine stC_blk h4 (by omega) fun w5 h5 k5 s5=>?_
 have z5:=z 4 (.slice s.oa s.ol s.oc) z4
 refine stC_blk h5 (by omega) fun w6 h6 k6 s6=>?_
 have z6:=z 5 (.slice s.ia s.il s.ic) z5
 refine stC_blk h6 (by omega) fun w7 h7 k7 s7=>?_
 have z7:=z 6 (.slice s.ka s.kl s.kc) z6
 refine stC_blk h7 (by omega) fun w8 h8 k8 s8=>?_
 have z8:=z 7 (.int .i64 p.d) z7
 refine stC_blk h8 (by omega) fun w9 h9 k9 s9=>?_
 have z9:=z 8 (.bool p.e) z8
 refine stC_blk h9 (by omega) fun w10 h10 k10 s10=>?_
 have z10:=z 9 (.bool p.b) z9
 refine stC_blk h10 (by omega) fun w11 h11 k11 s11=>?_
 have z11:=z 10 (.bool p.c) z10
 rw [set11 hs] at h11
 exact hk w11 h11 (((((((((((k1.trans k2 fun _ _ e=>e).trans k3 fun _ _ e=>e).trans k4 fun _ _ e=>e).trans k5 fun _ _ e=>e).trans k6 fun _ _ e=>e).trans k7 fun _ _ e=>e).trans k8 fun _ _ e=>e).trans k9 fun _ _ e=>e).trans k10 fun _ _ e=>e).trans k11 fun _ _ e=>e))
theorem ld11 {w:World} {g:Nat} {p:Pu} {s:Sl3} (h:Blk w g (cs p s)) {K:Bool→Bool→Int→Int→Option Addr→Nat→Nat→Option Addr→Nat→Nat→Option Addr→Nat→Nat→Int→Bool→Bool→Bool→Prop} (hk:K p.r p.w p.m p.z s.oa s.ol s.oc s.ia s.il s.ic s.ka s.kl s.kc p.d p.e p.b p.c) :
 ∃ (b0:Bool) (b1:Bool) (n2:Int) (n3:Int) (a4:Option Addr) (l4:Nat) (c4:Nat) (a5:Option Addr) (l5:Nat) (c5:Nat) (a6:Option Addr) (l6:Nat) (c6:Nat) (n7:Int) (b8:Bool) (b9:Bool) (b10:Bool),w.cell? (Addr.mk g 0 none)=some (.bool b0)∧w.cell? (Addr.mk g 1 none)=some (.bool b1)∧w.cell? (Addr.mk g 2 none)=some (.int .i64 n2)∧w.cell? (Addr.mk g 3 none)=some (.int .i64 n3)∧w.cell? (Addr.mk g 4 none)=some (.slice a4 l4 c4)∧w.cell? (Addr.mk g 5 none)=some (.slice a5 l5 c5)∧w.cell? (Addr.mk g 6 none)=some (.slice a6 l6 c6)∧w.cell? (Addr.mk g 7 none)=some (.int .i64 n7)∧w.cell? (Addr.mk g 8 none)=some (.bool b8)∧w.cell? (Addr.mk g 9 none)=some (.bool b9)∧w.cell? (Addr.mk g 10 none)=some (.bool b10)∧K b0 b1 n2 n3 a4 l4 c4 a5 l5 c5 a6 l6 c6 n7 b8 b9 b10:=
 ⟨_,_,_,_,_,_,_,_,_,_,_,_,_,_,_,_,_,(h.cell 0).trans rfl,(h.cell 1).trans rfl,(h.cell 2).trans rfl,(h.cell 3).trans rfl,(h.cell 4).trans rfl,(h.cell 5).trans rfl,(h.cell 6).trans rfl,(h.cell 7).trans rfl,(h.cell 8).trans rfl,(h.cell 9).trans rfl,(h.cell 10).trans rfl,hk⟩
def ckV (r w c:Bool) (m z d:Int) (ol il kl:Nat):Prop:=1≤m∧m≤3∧1≤z∧z≤65536∧(d=0∨d=1∨d=2)∧(ol:Int)≤z∧(m=1→ol=0)∧il≤65536∧kl≤8∧
 (d=1→r=true)∧(d=2→w=true)∧(d≠2→ol=0)∧(d≠1→il+kl=0)∧(c=true→d=0)
def ckP (p:Pu):Prop:=ckV p.r p.w p.c p.m p.z p.d p.o.length p.i.length p.k.length
instance (p:Pu):Decidable (ckP p):=by unfold ckP ckV; infer_instance
theorem buf_ok {w:World} (m z:Int):CallR Tryz.prog 131 [.int .i64 m,.int .i64 z] w fun v w'=>v=.int .i64 (if m< 1∨3< m then 1 else if z< 1∨65536< z then 4 else 0)∧w'=w:=by
 refine C131 ?_
 unfold L131
 refine condP (fun h1=>?_) (fun h1=>condP (fun h2=>?_) (fun h2=>condP (fun h3=>?_) (fun h3=>condP (fun h4=>?_) (fun h4=>?_))))
 ·exact ⟨by rw [if_pos (.inl h1)],rfl⟩
 ·exact ⟨by rw [if_pos (.inr h2)],rfl⟩
 ·exact ⟨by rw [if_neg (by omega),if_pos (.inl h3)],rfl⟩
 ·exact ⟨by rw [if_neg (by omega),if_pos (.inr h4)],rfl⟩
 ·exact ⟨by rw [if_neg (by omega),if_neg (by omega)],rfl⟩
theorem condE {a b:Int} {A B:Prop} (ha:a=b→A) (hb:a≠b→B):cond (a == b) A B:=condI (fun h=>ha (by simpa using h)) (fun h=>hb (by simpa using h))
theorem condN {a b:Int} {A B:Prop} (ha:a≠b→A) (hb:a=b→B):cond (a != b) A B:=condI (fun h=>ha (by simpa using h)) (fun h=>hb (by simpa using h))
theorem condNE {a b:Int} {A B:Prop} (ha:a≠b→A) (hb:a=b→B):cond (!(a == b)) A B:=condI (fun h=>ha (by simpa using h)) (fun h=>hb (by simpa using h))
theorem condTr {A B:Prop} (h:A):cond true A B:=h
theorem condFa {A B:Prop} (h:B):cond false A B:=h
theorem leaf51 {p:Pu} (h:¬ ckP p):Value.int .i64 51=Value.int .i64 (if ckP p then 0 else 51):=by rw [if_neg h]
theorem leaf0 {p:Pu} (h:ckP p):Value.int .i64 0=Value.int .i64 (if ckP p then 0 else 51):=by rw [if_pos h]
set_option maxHeartbeats 8000000 in
theorem check_ok {w:World} (p:Pu) (s:Sl3) (h:Rd3 w s p) (hbd:Bd p):CallR Tryz.prog 157 [.agg (cs p s)] w fun v w'=>v=.int .i64 (if ckP p then 0 else 51)∧Kept No w w':=by
 refine C157 ?_
 unfold L157
 intro w1
 have hb:Blk w1 w.heap.size (cs p s):=Blk.alloc _ _ _
 have hk:Kept No w w1:=Kept.alloc _ _ _
 clear_value w1
 obtain ⟨l1,l2,l3⟩:=h
 have l1:=l1.len
 have l2:=l2.len
 have l3:=l3.len
 obtain ⟨b1,b2,b3⟩:=hbd
 have hv:ckP p↔ckV p.r p.w p.c p.m p.z p.d s.ol s.il s.kl:=by unfold ckP; rw [l1,l2,l3]
 rw [l1] at b1
 rw [l2] at b2
 rw [l3] at b3
 clear l1 l2 l3
 obtain ⟨r,ww,m,z,o,i,k,d,e,b,c⟩:=p
 obtain ⟨oa,ol,oc,ia,il,ic,ka,kl,kc⟩:=s
 simp only [cs] at hb
 dsimp only at *
 refine ⟨_,_,_,(hb.cell 5).trans rfl,_,_,_,(hb.cell 6).trans rfl,⟨by omega,by omega⟩,_,(hb.cell 2).trans rfl,_,(hb.cell 3).trans rfl,CallR.mono (buf_ok _ _) ?_⟩
 rintro v w2 ⟨rfl,rfl⟩
 refine ⟨_,rfl,?_⟩
 have hb0:((if m< 1∨3< m then (1:Int) else if z< 1∨65536< z then 4 else 0)=0∧(1≤m∧m≤3∧1≤z∧z≤65536))∨((if m< 1∨3< m then (1:Int) else if z< 1∨65536< z then 4 else 0)≠0∧¬ (1≤m∧m≤3∧1≤z∧z≤65536)):=by
  split
  ·right; constructor <;> omega
  ·split
   ·right; constructor <;> omega
   ·left; constructor <;> omega
 revert hb0
 generalize (if m< 1∨3< m then (1:Int) else if z< 1∨65536< z then 4 else 0)=q
 intro hb0
 repeat' first
  | refine condP (fun _=>?_) (fun _=>?_)
  | refine condE (fun _=>?_) (fun _=>?_)
  | refine condN (fun _=>?_) (fun _=>?_)
  | refine condNE (fun _=>?_) (fun _=>?_)
  | refine condTr ?_
  | refine condFa ?_
  | (refine condI (fun hq=>?_) (fun hq=>?_) <;> subst hq)
  | (refine condI (fun hq=>?_) (fun hq=>?_) <;> simp only [Bool.not_eq_true',Bool.not_eq_false'] at hq <;> subst hq)
  | refine ⟨_,(Blk.cell hb _).trans rfl,?_⟩
  | refine ⟨_,_,_,(Blk.cell hb _).trans rfl,?_⟩
  | refine ⟨⟨by omega,by omega⟩,?_⟩
  | (refine ⟨leaf51 ?_,hk⟩; rw [hv]; intro hck; simp only [ckV,reduceCtorEq,implies_true,imp_false,and_true,true_and,true_implies,false_implies] at hck; omega)
  | (refine ⟨leaf0 ?_,hk⟩; rw [hv]; simp only [ckV,reduceCtorEq,implies_true,and_true,true_and,true_implies,false_implies]; omega)
end Go.Proofs.YteojolihgijdhaaGreatDoor
set_option maxRecDepth 100000
namespace Go.Proofs.YteojolihgijdhaaGreatDoor
open Go.Proofs Go.Shelf Go.Sort
def laysSort_ren:Go.Shelf.Ren:=⟨fun | 190=>13 | 125=>24 | 258=>23 | 128=>67 | 129=>68 | 302=>58 | 303=>59 | 304=>60 | 305=>61 | 306=>62 | 307=>63 | 308=>64 | 309=>65 | 310=>66 | 333=>121 | 329=>122 | 330=>123 | 334=>124 | 335=>125 | 336=>126 | 344=>176 | n=>n,fun | 31=>61 | 9=>9 | 3=>3 | 46=>101 | 0=>0 | 51=>144 | 53=>109 | 4=>4 | 183=>136 | 182=>135 | 131=>141 | 5=>5 | 218=>209 | 222=>213 | 228=>286 | 229=>287 | n=>n,fun | n=>n⟩
theorem laysSort:Go.Proofs.Lays.n190 Tryz.prog laysSort_ren:={ 
 mixed:=by kernel_rfl,
 f125:=Tryz.func24.trans (congrArg some (by kernel_rfl)),
 f128:=Tryz.func67.trans (congrArg some (by kernel_rfl)),
 f129:=Tryz.func68.trans (congrArg some (by kernel_rfl)),
 f190:=Tryz.func13.trans (congrArg some (by kernel_rfl)),
 f258:=Tryz.func23.trans (congrArg some (by kernel_rfl)),
 f302:=Tryz.func58.trans (congrArg some (by kernel_rfl)),
 f303:=Tryz.func59.trans (congrArg some (by kernel_rfl)),
 f304:=Tryz.func60.trans (congrArg some (by kernel_rfl)),
 f305:=Tryz.func61.trans (congrArg some (by kernel_rfl)),
 f306:=Tryz.func62.trans (congrArg some (by kernel_rfl)),
 f307:=Tryz.func63.trans (congrArg some (by kernel_rfl)),
 f308:=Tryz.func64.trans (congrArg some (by kernel_rfl)),
 f309:=Tryz.func65.trans (congrArg some (by kernel_rfl)),
 f310:=Tryz.func66.trans (congrArg some (by kernel_rfl)),
 f329:=Tryz.func122.trans (congrArg some (by kernel_rfl)),
 f330:=Tryz.func123.trans (congrArg some (by kernel_rfl)),
 f333:=Tryz.func121.trans (congrArg some (by kernel_rfl)),
 f334:=Tryz.func124.trans (congrArg some (by kernel_rfl)),
 f335:=Tryz.func125.trans (congrArg some (by kernel_rfl)),
 f336:=Tryz.func126.trans (congrArg some (by kernel_rfl)),
 f344:=Tryz.func176.trans (congrArg some (by kernel_rfl)),
 t0:=Tryz.underlying0,
 a0:=Tryz.isAgg0,
 z0:=Tryz.sizeOf0,
 v0:=Tryz.zeroValue0,
 t3:=Tryz.underlying3,
 a3:=Tryz.isAgg3,
 z3:=Tryz.sizeOf3,
 v3:=Tryz.zeroValue3,
 t4:=Tryz.underlying4,
 a4:=Tryz.isAgg4,
 z4:=Tryz.sizeOf4,
 v4:=Tryz.zeroValue4,
 t5:=Tryz.underlying5,
 a5:=Tryz.isAgg5,
 z5:=Tryz.sizeOf5,
 v5:=Tryz.zeroValue5,
 t9:=Tryz.underlying9,
 a9:=Tryz.isAgg9,
 z9:=Tryz.sizeOf9,
 v9:=Tryz.zeroValue9,
 t31:=Tryz.underlying61,
 a31:=Tryz.isAgg61,
 z31:=Tryz.sizeOf61,
 v31:=Tryz.zeroValue61,
 t46:=Tryz.underlying101,
 a46:=Tryz.isAgg101,
 z46:=Tryz.sizeOf101,
 v46:=Tryz.zeroValue101,
 t51:=Tryz.underlying144,
 a51:=Tryz.isAgg144,
 z51:=Tryz.sizeOf144,
 v51:=Tryz.zeroValue144,
 t53:=Tryz.underlying109,
 a53:=Tryz.isAgg109,
 z53:=Tryz.sizeOf109,
 v53:=Tryz.zeroValue109,
 t131:=Tryz.underlying141,
 a131:=Tryz.isAgg141,
 z131:=Tryz.sizeOf141,
 v131:=Tryz.zeroValue141,
 t182:=Tryz.underlying135,
 a182:=Tryz.isAgg135,
 z182:=Tryz.sizeOf135,
 v182:=Tryz.zeroValue135,
 t183:=Tryz.underlying136,
 a183:=Tryz.isAgg136,
 z183:=Tryz.sizeOf136,
 v183:=Tryz.zeroValue136,
 t218:=Tryz.underlying209,
 a218:=Tryz.isAgg209,
 z218:=Tryz.sizeOf209,
 v218:=Tryz.zeroValue209,
 t222:=Tryz.underlying213,
 a222:=Tryz.isAgg213,
 z222:=Tryz.sizeOf213,
 v222:=Tryz.zeroValue213,
 t228:=Tryz.underlying286,
 a228:=Tryz.isAgg286,
 z228:=Tryz.sizeOf286,
 v228:=Tryz.zeroValue286,
 t229:=Tryz.underlying287,
 a229:=Tryz.isAgg287,
 z229:=Tryz.sizeOf287,
 v229:=Tryz.zeroValue287 }
theorem sortStr (blk off cap:Nat) (ss:List (List UInt8)) (w:World) (hH:Holds encStr w blk off ss.toArray) (hblk:blk< w.heap.size) (hsz:ss.length< 4611686018427387904) :
 Calls Tryz.prog (laysSort_ren.f 190) #[.slice (some ⟨blk,off,none⟩) ss.length cap] w fun e w'=>
  e=.returned (.tuple #[])∧∃ n os,w'=grow (putRow encStr (Sort.ahead w n) blk off (ss.mergeSort fun x y=>decide (x≤y)).toArray) os:=
 calls_of_every_depth fun D=>AnyS.slices_Sort_string_in laysSort D blk off cap ss w hH hblk hsz
theorem lenBits (n:Nat) (w:World) (hn:n< 4611686018427387904):Calls Tryz.prog (laysSort_ren.f 125) #[.int .u64 (n:Int)] w fun e w'=>e=.returned (.int .i64 (bitsLen n:Nat))∧w'=w:=
 calls_of_every_depth fun D=>Any.lenWalkInSAll { laysSort with } D n w hn
end Go.Proofs.YteojolihgijdhaaGreatDoor
set_option maxRecDepth 512
namespace Go.Proofs.YteojolihgijdhaaGreatDoor
open Go.Lw
def Grew (F:Nat→Prop) (w:World) (F':Nat→Prop):Prop:=∀ k,F' k→F k∨w.heap.size≤k
theorem Grew.same {F:Nat→Prop} {w:World}:Grew F w F:=fun _ h=>.inl h
def grown (bs:List Int) (n:Nat):List Int:=bs ++ List.replicate (n - bs.length) 0
def piece (bs:List Int) (off n:Int):List Int:=(bs.drop off.toNat).take n.toNat
def lay (bs:List Int) (off:Nat) (ds:List Int):List Int:=over (grown bs (off+ds.length)) ds off
theorem over_get {α:Type} (xs ys:List α) (i k:Nat) (h:i+ys.length≤xs.length):(over xs ys i)[k]?=if k< i then xs[k]? else if k< i+ys.length then ys[k - i]? else xs[k]?:=by
 unfold over
 have hl:(xs.take i).length=i:=by rw [List.length_take]; omega
 by_cases h1:k< i
 ·rw [if_pos h1,List.getElem?_append_left (by omega),List.getElem?_take,if_pos h1]
 ·rw [if_neg h1,List.getElem?_append_right (by omega),hl]
  by_cases h2:k< i+ys.length
  ·rw [if_pos h2,List.getElem?_append_left (by omega)]
  ·rw [if_neg h2,List.getElem?_append_right (by omega),List.getElem?_drop]
   congr 1; omega
theorem over_window {α:Type} (xs ys:List α) (o l i:Nat) (h:o+l≤xs.length) (hy:i+ys.length≤l):((over xs ys (o+i)).drop o).take l=over ((xs.drop o).take l) ys i:=by
 apply List.ext_getElem?
 intro k
 rw [over_get _ _ _ _ (by rw [List.length_take,List.length_drop]; omega),List.getElem?_take,List.getElem?_take,List.getElem?_drop,List.getElem?_drop,over_get _ _ _ _ (by omega)]
 by_cases hk:k< l
 ·rw [if_pos hk,if_pos hk]
  by_cases h1:k< i
  ·rw [if_pos h1,if_pos (by omega)]
  ·rw [if_neg h1,if_neg (by omega)]
   by_cases h2:k< i+ys.length
   ·rw [if_pos h2,if_pos (by omega)]; congr 1; omega
   ·rw [if_neg h2,if_neg (by omega)]
 ·rw [if_neg hk,if_neg hk,if_neg (by omega),if_neg (by omega)]
theorem By_over (a b:List Int) (i:Nat):By (over a b i)=over (By a) (By b) i:=by
 unfold over; rw [By_append,By_append,By_take,By_drop,By_length]
theorem grown_len (bs:List Int) (n:Nat):(grown bs n).length=max bs.length n:=by simp [grown]; omega
theorem grown_getD (bs:List Int) (n k:Nat):(grown bs n).getD k 0=bs.getD k 0:=by
 unfold grown
 simp only [List.getD_eq_getElem?_getD,List.getElem?_append,List.getElem?_replicate]
 by_cases h:k< bs.length
 ·rw [if_pos h]
 ·rw [if_neg h,List.getElem?_eq_none (by omega)]
  split <;> rfl
theorem lay_len (bs:List Int) (o:Nat) (ds:List Int):(lay bs o ds).length=max bs.length (o+ds.length):=by
 unfold lay; rw [over_length _ _ _ (by rw [grown_len]; omega),grown_len]
theorem lay_getD (bs:List Int) (o:Nat) (ds:List Int) (k:Nat):(lay bs o ds).getD k 0=if o≤k∧k< o+ds.length then ds.getD (k - o) 0 else bs.getD k 0:=by
 unfold lay
 rw [List.getD_eq_getElem?_getD,over_get _ _ _ _ (by rw [grown_len]; omega)]
 by_cases h1:k< o
 ·rw [if_pos h1,if_neg (by omega),← List.getD_eq_getElem?_getD,grown_getD]
 ·rw [if_neg h1]
  by_cases h2:k< o+ds.length
  ·rw [if_pos h2,if_pos ⟨by omega,h2⟩,← List.getD_eq_getElem?_getD]
  ·rw [if_neg h2,if_neg (by omega),← List.getD_eq_getElem?_getD,grown_getD]
theorem Grew.trans {F F' F'':Nat→Prop} {w w':World} (h:Grew F w F') (k:Grew F' w' F'') (hs:w.heap.size≤w'.heap.size):Grew F w F'':=fun x hx=>by
 rcases k x hx with h1 | h1
 ·exact h x h1
 ·right; omega
theorem Kept.grew {F F':Nat→Prop} {a b c:World} (h:Kept F a b) (g:Grew F a F') (k:Kept F' b c):Kept F a c:=
 h.trans k fun x hx hf=>by
  rcases g x hf with h1 | h1
  ·exact h1
  ·omega
end Go.Proofs.YteojolihgijdhaaGreatDoor
namespace Go.Lw
open Go.MapKept
def MapO (w:World) (r:Nat) (d:TypeDesc) (m:List (Value × Value)):Prop:=
 ∃ es clock,w.heap[r]?=some (.map es clock)∧Stamped es clock∧(∀ x ∈ es.toList,IsKey d x.key)∧es.toList.map (fun e=>(e.key,e.val))=m
theorem MapO.lt {w:World} {r:Nat} {d:TypeDesc} {m:List (Value × Value)} (h:MapO w r d m):r< w.heap.size:=by
 obtain ⟨es,clock,hb,_⟩:=h
 exact (Array.getElem?_eq_some_iff.1 hb).1
theorem MapO.keep {w w':World} {r:Nat} {d:TypeDesc} {m:List (Value × Value)} (h:MapO w r d m) {S:Nat→Prop} (k:Kept S w w') (hn:¬ S r):MapO w' r d m:=by
 obtain ⟨es,clock,hb,h⟩:=h
 exact ⟨es,clock,(k.block _ (Array.getElem?_eq_some_iff.1 hb).1 hn).trans hb,h⟩
theorem MapO.new (w:World) (d:TypeDesc):MapO (w.alloc (.map #[] 0)) w.heap.size d []:=
 ⟨#[],0,heap_alloc_new w _,stamped_empty 0,by simp,rfl⟩
theorem MapO.uniq {w:World} {r:Nat} {d:TypeDesc} {m:List (Value × Value)} (h:MapO w r d m):(m.map (·.1)).Nodup:=by
 obtain ⟨es,clock,hb,hs,hks,rfl⟩:=h
 rw [List.map_map]
 exact hs.2.2
section
variable {P : Program} {w : World} {mty kt et : TypeId} {d : TypeDesc} {r : Nat} {m : List (Value × Value)} {k : Value}
theorem Kept.setMap {es:Array MapEntry} {clock:Nat} (hb:w.heap[r]?=some (.map es clock)) (o:Obj):Kept (·=r) w { w with heap:=w.heap.setIfInBounds r o }:=
 ⟨rfl,rfl,rfl,by simp,fun i _ hn=>(heap_set hb).2 i hn⟩
theorem lookup_in (hm:P.underlying mty=some (.map kt et)) (hd:P.underlying kt=some d) (h:MapO w r d m) (hk:IsKey d k) {v:Value} (hin:(k,v) ∈ m) (c:Bool) :
 (Instr.lookup mty (.map (some r)) k c).run P w=.ok (if c then .tuple #[v,.bool true] else v) w:=by
 obtain ⟨es,clock,hb,hs,hks,rfl⟩:=h
 obtain ⟨x,hx,hxe⟩:=List.mem_map.1 hin
 simp only [Prod.mk.injEq] at hxe
 rcases findNow_spec hk es.toList 0 hks with ⟨h1,h2⟩ | ⟨j,e,h1,h2,h3⟩
 ·exact absurd hxe.1 (h2 x hx)
 ·have he:e=x:=by
   obtain ⟨i,hi,hxi⟩:=List.mem_iff_getElem.1 hx
   have hj:=(List.getElem?_eq_some_iff.1 h2)
   obtain ⟨hj,hje⟩:=hj
   have hnd:=hs.2.2
   have hij:i=j:=by
    have h4:(es.toList.map (·.key))[i]'(by simpa using hi)=(es.toList.map (·.key))[j]'(by simpa using hj):=by
     rw [List.getElem_map,List.getElem_map,hxi,hje,h3,hxe.1]
    exact (List.getElem_inj hnd).1 h4
   subst hij
   rw [← hje,← hxi]
  subst he
  have hv:e.val=v:=hxe.2
  cases c <;> simp [Instr.lookup,run_underlying hm,MapKept.run_getObj_map hb,run_checkKey hd hk,run_findKey hd h1,Result.andThen,hv]
theorem lookup_out (hm:P.underlying mty=some (.map kt et)) (hd:P.underlying kt=some d) (h:MapO w r d m) (hk:IsKey d k) (hout:∀ x ∈ m,x.1≠k) {z:Value} (hz:(zeroValue et).run P w=.ok z w) (c:Bool) :
 (Instr.lookup mty (.map (some r)) k c).run P w=.ok (if c then .tuple #[z,.bool false] else z) w:=by
 obtain ⟨es,clock,hb,hs,hks,rfl⟩:=h
 rcases findNow_spec hk es.toList 0 hks with ⟨h1,h2⟩ | ⟨j,e,h1,h2,h3⟩
 ·cases c <;> simp [Instr.lookup,run_underlying hm,MapKept.run_getObj_map hb,run_checkKey hd hk,run_findKey hd h1,Result.andThen,hz]
 ·have:e ∈ es.toList:=List.mem_iff_getElem?.2 ⟨j,h2⟩
  exact absurd h3 (hout (e.key,e.val) (List.mem_map.2 ⟨e,this,rfl⟩))
theorem update_new (hm:P.underlying mty=some (.map kt et)) (hd:P.underlying kt=some d) (h:MapO w r d m) (hk:IsKey d k) (hout:∀ x ∈ m,x.1≠k) (v:Value) :
 ∃ w',(Instr.mapUpdate mty (.map (some r)) k v).run P w=.ok () w'∧MapO w' r d (m ++ [(k,v)])∧Kept (·=r) w w'∧w'.heap.size=w.heap.size:=by
 obtain ⟨es,clock,hb,hs,hks,rfl⟩:=h
 rcases findNow_spec hk es.toList 0 hks with ⟨h1,h2⟩ | ⟨j,e,h1,h2,h3⟩
 ·refine ⟨{ w with heap:=w.heap.setIfInBounds r (.map (es.push { key:=k,val:=v,born:=clock }) (clock+1)) },?_,⟨_,_,(heap_set hb).1,stamped_push hs h2,?_,by simp⟩,Kept.setMap hb _,by simp⟩
  ·simp [Instr.mapUpdate,run_underlying hm,MapKept.run_getObj_map hb,run_checkKey hd hk,run_findKey hd h1,run_setObj_map _ hb,Result.andThen]
  ·intro x hx
   simp only [Array.toList_push,List.mem_append,List.mem_singleton] at hx
   rcases hx with hx | rfl
   ·exact hks x hx
   ·exact hk
 ·have:e ∈ es.toList:=List.mem_iff_getElem?.2 ⟨j,h2⟩
  exact absurd h3 (hout (e.key,e.val) (List.mem_map.2 ⟨e,this,rfl⟩))
theorem len_map (hm:P.underlying mty=some (.map kt et)) (h:MapO w r d m) (t:TypeId):(Builtin.len_ #[mty] t #[.map (some r)]).run P w=.ok (.int .i64 (m.length:Int)) w:=by
 obtain ⟨es,clock,hb,hs,hks,rfl⟩:=h
 simp [Builtin.len_,run_underlying hm,MapKept.run_getObj_map hb,Result.andThen,goInt]
theorem delete_in (hm:P.underlying mty=some (.map kt et)) (hd:P.underlying kt=some d) (h:MapO w r d m) (hk:IsKey d k) {v:Value} {m1 m2:List (Value × Value)} (he:m=m1 ++ (k,v) :: m2) (ty:TypeId) :
 ∃ w',(Builtin.delete_ #[mty,kt] ty #[.map (some r),k]).run P w=.ok (.tuple #[]) w'∧MapO w' r d (m1 ++ m2)∧Kept (·=r) w w'∧w'.heap.size=w.heap.size:=by
 have hnd:=h.uniq
 obtain ⟨es,clock,hb,hs,hks,hes⟩:=h
 rcases findNow_spec hk es.toList 0 hks with ⟨h1,h2⟩ | ⟨j,e,h1,h2,h3⟩
 ·have:(k,v) ∈ es.toList.map (fun e=>(e.key,e.val)):=by rw [hes,he]; simp
  obtain ⟨x,hx,hxe⟩:=List.mem_map.1 this
  simp only [Prod.mk.injEq] at hxe
  exact absurd hxe.1 (h2 x hx)
 ·have hj:j=m1.length:=by
   have e1:(m.map (·.1))[j]?=some k:=by
    rw [← hes,List.map_map,List.getElem?_map,h2]
    simp [h3]
   have e2:(m.map (·.1))[m1.length]?=some k:=by rw [he]; simp
   obtain ⟨h5,h6⟩:=List.getElem?_eq_some_iff.1 e1
   obtain ⟨h7,h8⟩:=List.getElem?_eq_some_iff.1 e2
   exact (List.getElem_inj hnd).1 (h6.trans h8.symm)
  subst hj
  refine ⟨{ w with heap:=w.heap.setIfInBounds r (.map (es.eraseIdxIfInBounds m1.length) clock) },?_,⟨_,_,(heap_set hb).1,stamped_erase hs _,?_,?_⟩,Kept.setMap hb _,by simp⟩
  ·simp [Builtin.delete_,run_underlying hm,MapKept.run_getObj_map hb,run_checkKey hd hk,run_findKey hd h1,run_setObj_map _ hb,Result.andThen]
  ·intro x hx
   have:x ∈ es.toList:=by
    have e3:(es.eraseIdxIfInBounds m1.length).toList=es.toList.eraseIdx m1.length:=by simp
    rw [e3] at hx
    exact List.mem_of_mem_eraseIdx hx
   exact hks x this
  ·have e3:(es.eraseIdxIfInBounds m1.length).toList=es.toList.eraseIdx m1.length:=by simp
   rw [e3,List.eraseIdx_eq_take_drop_succ,List.map_append,List.map_take,List.map_drop,hes,he]
   simp
end
end Go.Lw
namespace Go.Proofs.YteojolihgijdhaaGreatDoor
open Go.Lw
def plainS (s:ByteArray):Prop:=∀ i,(h:i< s.size)→33≤(s[i]'h).toNat∧(s[i]'h).toNat≤126
instance (s:ByteArray):Decidable (plainS s):=by unfold plainS; infer_instance
def namedS (s:ByteArray):Bool:=decide (s.size≠0∧s.size≤64∧plainS s)
theorem Kept.iterB (w:World) (k:Nat) (s:ByteArray) (p:Nat):Kept (·=k) w (w.iterAt k s p):=
 ⟨rfl,rfl,rfl,by rw [Lib.iterAt_size]; exact Nat.le_refl _,fun j _ hn=>Lib.iterAt_other w k j s p hn⟩
theorem indexFunc_ok {w:World} (s:ByteArray):CallR Tryz.prog 223 [.string s,.func (.func 117) #[] #[],.bool true] w fun v w'=>∃ n:Int,v=.int .i64 n∧(0≤n↔¬ plainS s)∧Kept No w w':=by
 refine C223 ?_
 unfold L223
 have hit:(w.iter s 0).heap[w.heap.size]?=some (.stringIter s 0):=World.iter_heap _ _ _
 have hk1:Kept No w (w.iter s 0):=Kept.alloc _ _ _
 refine ⟨_,run_range_string w 9 s (by kernel_rfl),?_⟩
 generalize w.iter s 0=w1 at hit hk1 ⊢
 refine ⟨fun vs w'=>vs=[]∧∃ p:Nat,w'.heap[w.heap.size]?=some (.stringIter s p)∧Kept No w w'∧∀ i,(h:i< s.size)→i< p→33≤(s[i]'h).toNat∧(s[i]'h).toNat≤126,
  fun _ w'=>match w'.heap[w.heap.size]? with | some (.stringIter _ p)=>s.size - p | _=>0,⟨rfl,0,hit,hk1,fun i _ h=>by omega⟩,?_⟩
 rintro _ w2 ⟨_,p,hp,hk2,hall⟩
 by_cases hps:p< s.size
 ·right
  refine ⟨_,_,_,Lib.run_next_any_at w2 w.heap.size s p 0 hp hps,_,rfl,_,rfl,117,#[],#[],rfl,by kernel_rfl,?_⟩
  have hk3:=Kept.iterB w2 w.heap.size s (p+(Utf8.decode s p).2)
  have hit3:=Lib.iterAt_heap w2 w.heap.size s p (p+(Utf8.decode s p).2) hp
  have hk03:Kept No w (w2.iterAt w.heap.size s (p+(Utf8.decode s p).2)):=hk2.fresh hk3 (fun x e=>by omega)
  generalize w2.iterAt w.heap.size s (p+(Utf8.decode s p).2)=w3 at hk3 hit3 hk03 ⊢
  have stop:¬ (33≤(s[p]'hps).toNat∧(s[p]'hps).toNat≤126)→∃ n:Int,Value.int .i64 (p:Int)=.int .i64 n∧(0≤n↔¬ plainS s)∧Kept No w w3:=fun hb=>
   ⟨p,rfl,⟨fun _ hpl=>hb (hpl p hps),fun _=>by omega⟩,hk03⟩
  by_cases ha:(s[p]'hps).toNat< 128
  ·rw [decode_ascii s p hps ha] at hit3 ⊢
   refine C117 (condP (fun hlt=>⟨_,rfl,condT rfl (stop (by omega))⟩) (fun hge=>⟨_,rfl,?_⟩))
   refine condI (fun hb=>stop ?_) (fun hb=>?_)
   ·simp at hb; omega
   ·have hb:¬ (((s[p]'hps).toNat:Nat):Int) > 126:=by simpa using hb
    refine ⟨⟨rfl,p+1,hit3,hk03,fun i h hi=>?_⟩,?_⟩
    ·by_cases e:i=p
     ·subst e; dsimp only at hge hb; omega
     ·exact hall i h (by omega)
    ·dsimp only; rw [hit3,hp]; dsimp only; omega
  ·have hd:=(decode_high s p hps (by omega)).1
   refine C117 (condF (by simp; omega) ⟨_,rfl,condT (by simp; omega) (stop (by omega))⟩)
 ·left
  refine ⟨_,Lib.run_next_end_at w2 w.heap.size s p 0 hp hps,-1,rfl,⟨fun h=>by omega,fun h=>absurd (fun i hi=>hall i hi (by omega)) h⟩,hk2⟩
theorem named_ok {w:World} (s:ByteArray):CallR Tryz.prog 55 [.string s] w fun v w'=>v=.bool (namedS s)∧Kept No w w':=by
 refine C55 ?_
 unfold L55
 have hemp:(ByteArray.toList s == ByteArray.toList (ByteArray.mk #[]))=decide (s.size=0):=by
  rw [ByteArray.toList_eq,ByteArray.toList_eq]
  show (s.data.toList == [])=_
  cases h:s.data.toList with
  | nil=>
   have:s.size=0:=by show s.data.size=0; rw [← Array.length_toList,h]; rfl
   simp [this]
  | cons x l=>
   have:s.size≠0:=by show s.data.size≠0; rw [← Array.length_toList,h]; simp
   simp [this]
 rw [hemp]
 refine condI (fun h1=>condP (fun h2=>?_) (fun h2=>⟨?_,Kept.refl _ _⟩)) (fun h1=>⟨?_,Kept.refl _ _⟩)
 ·have h1:s.size≠0:=by simpa using h1
  refine C116 (C175 (CallR.mono (indexFunc_ok s) ?_))
  rintro v w1 ⟨n,rfl,hn,hk⟩
  refine ⟨_,rfl,_,rfl,_,rfl,?_,hk⟩
  unfold namedS
  by_cases hp:plainS s
  ·have e1:decide (n≥0)=false:=decide_eq_false (fun h=>(hn.1 h) hp)
   have e2:decide (s.size≠0∧s.size≤64∧plainS s)=true:=decide_eq_true ⟨h1,by omega,hp⟩
   rw [e1,e2]; rfl
  ·have e1:decide (n≥0)=true:=decide_eq_true (hn.2 hp)
   have e2:decide (s.size≠0∧s.size≤64∧plainS s)=false:=decide_eq_false (fun h=>hp h.2.2)
   rw [e1,e2]; rfl
 ·unfold namedS
  have:¬ s.size≤64:=by omega
  simp [this]
 ·have h1:s.size=0:=by simpa using h1
  unfold namedS
  simp [h1]
def seenM (seen:List ByteArray):List (Value × Value):=seen.map fun s=>(.string s,.bool true)
theorem seen_in {seen:List ByteArray} {s:ByteArray} (h:s ∈ seen):((.string s,.bool true):Value × Value) ∈ seenM seen:=List.mem_map.2 ⟨s,h,rfl⟩
theorem seen_out {seen:List ByteArray} {s:ByteArray} (h:s ∉ seen):∀ x ∈ seenM seen,x.1≠.string s:=by
 intro x hx e
 obtain ⟨t,ht,rfl⟩:=List.mem_map.1 hx
 simp only [Value.string.injEq] at e
 subst e
 exact h ht
instance instDecBytes:DecidableEq ByteArray:=fun a b=>decidable_of_iff (a.data=b.data) ⟨fun h=>by cases a; cases b; simp only at h; rw [h],fun h=>by rw [h]⟩
def decMem (s:ByteArray):∀ l:List ByteArray,Decidable (s ∈ l)
 | []=>isFalse (by simp)
 | t :: r=>if h:s=t then isTrue (by simp [h]) else match decMem s r with
  | isTrue h2=>isTrue (.tail _ h2)
  | isFalse h2=>isFalse (by simp [h,h2])
instance instDecMem (s:ByteArray) (l:List ByteArray):Decidable (s ∈ l):=decMem s l
def freshK (seen:List ByteArray) (s:ByteArray):Int:=if namedS s=false then 61 else if s ∈ seen then 6 else 0
theorem fresh_ok {w:World} {g r:Nat} {seen:List ByteArray} (hb:Blk w g #[.map (some r)]) (hm:MapO w r .string (seenM seen)) (hgr:g≠r) (s:ByteArray) :
 CallR Tryz.prog 54 [.string s,.pointer (some ⟨g,0,none⟩)] w fun v w'=>v=.int .i64 (freshK seen s)∧(freshK seen s=0→MapO w' r .string (seenM (seen ++ [s])))∧Kept (·=r) w w':=by
 refine C54 ?_
 unfold L54
 refine CallR.mono (named_ok s) ?_
 rintro v w1 ⟨rfl,hk1⟩
 have hT:Tryz.prog.underlying 120=some (.map 9 4):=by kernel_rfl
 have hS:Tryz.prog.underlying 9=some .string:=by kernel_rfl
 have hb1:=hb.keep hk1 (fun e=>e)
 have hm1:=hm.keep hk1 (fun e=>e)
 have k1:Kept (·=r) w w1:=hk1.mono fun _ _ e=>e.elim
 refine ⟨_,rfl,condI (fun h=>?_) (fun h=>?_)⟩
 ·have h:=notT h
  have e:freshK seen s=61:=by unfold freshK; rw [if_pos h]
  rw [e]
  exact ⟨rfl,fun e=>by omega,k1⟩
 ·have h:=notF h
  refine nnI ⟨some r,(hb1.cell 0).trans rfl,?_⟩
  by_cases hin:s ∈ seen
  ·have e:freshK seen s=6:=by unfold freshK; rw [if_neg (by rw [h]; simp),if_pos hin]
   rw [e]
   refine ⟨true,w1,lookup_in hT hS hm1 (k:=.string s) trivial (seen_in hin) false,condT rfl ⟨rfl,fun e=>by omega,k1⟩⟩
  ·have e:freshK seen s=0:=by unfold freshK; rw [if_neg (by rw [h]; simp),if_neg hin]
   rw [e]
   refine ⟨false,w1,lookup_out hT hS hm1 (k:=.string s) trivial (seen_out hin) (z:=.bool false) (by kernel_rfl) false,condF rfl (nnI ⟨some r,(hb1.cell 0).trans rfl,?_⟩)⟩
   obtain ⟨w2,hrun,hm2,hk2,_⟩:=update_new hT hS hm1 (k:=.string s) trivial (seen_out hin) (.bool true)
   refine ⟨w2,hrun,rfl,fun _=>?_,k1.trans hk2 fun _ _ e=>e⟩
   have:seenM (seen ++ [s])=seenM seen ++ [(.string s,.bool true)]:=by simp [seenM]
   rw [this]
   exact hm2
end Go.Proofs.YteojolihgijdhaaGreatDoor
