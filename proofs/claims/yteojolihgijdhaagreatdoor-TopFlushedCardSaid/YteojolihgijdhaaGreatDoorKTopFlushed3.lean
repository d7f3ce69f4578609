/- Part 3 of 21 of the proof of TopFlushed. Conditions: the theorem's: none. -/
import Derived.Test.YteojolihgijdhaaGreatDoorKTopFlushed2
set_option linter.unusedVariables false
set_option maxRecDepth 512
namespace Go.Lw
structure Kept (S:Nat→Prop) (w w':World):Prop where
 os:w'.os=w.os
 tape:w'.tape=w.tape
 output:w'.output=w.output
 size:w.heap.size≤w'.heap.size
 block:∀ k,k< w.heap.size→¬ S k→w'.heap[k]?=w.heap[k]?
abbrev No:Nat→Prop:=fun _=>False
theorem Kept.refl (S:Nat→Prop) (w:World):Kept S w w:=⟨rfl,rfl,rfl,Nat.le_refl _,fun _ _ _=>rfl⟩
theorem Kept.trans {S S':Nat→Prop} {a b c:World} (h:Kept S a b) (k:Kept S' b c) (hs:∀ x,x< a.heap.size→S' x→S x):Kept S a c:=
 ⟨k.os.trans h.os,k.tape.trans h.tape,k.output.trans h.output,Nat.le_trans h.size k.size,
  fun i hi hn=>(k.block i (Nat.lt_of_lt_of_le hi h.size) (fun e=>hn (hs i hi e))).trans (h.block i hi hn)⟩
theorem Kept.mono {S S':Nat→Prop} {a b:World} (h:Kept S a b) (hs:∀ x,x< a.heap.size→S x→S' x):Kept S' a b:=
 ⟨h.os,h.tape,h.output,h.size,fun i hi hn=>h.block i hi (fun e=>hn (hs i hi e))⟩
theorem Kept.alloc (S:Nat→Prop) (w:World) (o:Obj):Kept S w (w.alloc o):=⟨rfl,rfl,rfl,by simp,fun i hi _=>RowKit.Below.heap_alloc w o i hi⟩
theorem Kept.drew (S:Nat→Prop) (w:World):Kept S w w.drew:=⟨rfl,rfl,rfl,Nat.le_refl _,fun _ _ _=>rfl⟩
theorem Kept.drewN (S:Nat→Prop) (w:World) (n:Nat):Kept S w (w.drewN n):=⟨rfl,rfl,rfl,Nat.le_refl _,fun _ _ _=>rfl⟩
theorem Kept.setCell (w:World) (a:Addr) (v:Value):Kept (·=a.block) w (w.setCell a v):=
 ⟨rfl,rfl,rfl,by simp,fun k _ hn=>heap_setCell_other w a k v hn⟩
theorem Kept.setRow (w:World) (g:Nat) (cs:Array Value):Kept (·=g) w (w.setRow g cs):=
 ⟨rfl,rfl,rfl,by simp,fun k _ hn=>setRow_other w g k cs hn⟩
theorem Kept.cell {S:Nat→Prop} {w w':World} (h:Kept S w w') {a:Addr} {v:Value} (hc:w.cell? a=some v) (hn:¬ S a.block):w'.cell? a=some v:=by
 rw [← hc]
 exact World.cell?_of_block (h.block _ (World.block_lt_of_cell? w a hc) hn)
theorem Kept.below {w w':World} (h:Kept No w w'):RowKit.Below w.heap.size w w':=⟨h.os,h.tape,h.output,h.size,fun k hk=>h.block k hk (fun e=>e)⟩
theorem Kept.fresh {S:Nat→Prop} {a b c:World} (h:Kept No a b) (k:Kept S b c) (hs:∀ x,S x→a.heap.size≤x):Kept No a c:=
 h.trans k fun x hx e=>by have:=hs x e; omega
theorem Kept.no {S:Nat→Prop} {a b c:World} (h:Kept S a b) (k:Kept No b c):Kept S a c:=h.trans k fun _ _ e=>e.elim
def Blk (w:World) (g:Nat) (cur:Array Value):Prop:=∃ e,w.heap[g]?=some (.cells cur e (0,0))
theorem Blk.lt {w:World} {g:Nat} {cur:Array Value} (h:Blk w g cur):g< w.heap.size:=by
 obtain ⟨e,h⟩:=h; exact (Array.getElem?_eq_some_iff.1 h).1
theorem Blk.keep {w w':World} {g:Nat} {cur:Array Value} (h:Blk w g cur) {S:Nat→Prop} (k:Kept S w w') (hn:¬ S g):Blk w' g cur:=by
 have hl:=h.lt
 obtain ⟨e,h⟩:=h; exact ⟨e,(k.block g hl hn).trans h⟩
theorem Blk.cell {w:World} {g:Nat} {cur:Array Value} (h:Blk w g cur) (i:Nat):w.cell? ⟨g,i,none⟩=cur[i]?:=by
 obtain ⟨e,h⟩:=h; exact cell_of_row w g i cur e _ h
theorem Blk.frozen {w:World} {g:Nat} {cur:Array Value} (h:Blk w g cur) (i:Nat):w.frozen? ⟨g,i,none⟩=false:=by
 obtain ⟨e,h⟩:=h; exact frozen_of_row w g i cur e h
theorem Blk.alloc (w:World) (cs:Array Value) (e:TypeId):Blk (w.alloc (.cells cs e)) w.heap.size cs:=⟨e,heap_alloc_new w _⟩
theorem Blk.drew {w:World} {g:Nat} {cur:Array Value} (h:Blk w g cur):Blk w.drew g cur:=h
theorem Blk.drewN {w:World} {g:Nat} {cur:Array Value} (h:Blk w g cur) (n:Nat):Blk (w.drewN n) g cur:=h
theorem Blk.setRow {w:World} {g:Nat} {cur:Array Value} (h:Blk w g cur) (cs:Array Value):Blk (w.setRow g cs) g cs:=by
 obtain ⟨e,h⟩:=h; exact ⟨e,setRow_heap w g cur cs e _ h⟩
theorem Blk.setCell {w:World} {g:Nat} {cur:Array Value} (h:Blk w g cur) (i:Nat) (v:Value):Blk (w.setCell ⟨g,i,none⟩ v) g (cur.setIfInBounds i v):=by
 obtain ⟨e,h⟩:=h
 exact ⟨e,heap_setCell_same w g i cur e v h⟩
theorem Blk.uniq {w:World} {g:Nat} {a b:Array Value} (h:Blk w g a) (k:Blk w g b):a=b:=by
 obtain ⟨e,h⟩:=h; obtain ⟨e',k⟩:=k; rw [h] at k; cases k; rfl
theorem stC_blk {w:World} {g i:Nat} {cur:Array Value} {v:Value} {K:World→Prop} (h:Blk w g cur) (hi:i< cur.size)
 (hk:∀ w',Blk w' g (cur.setIfInBounds i v)→Kept (·=g) w w'→w'.heap.size=w.heap.size→K w'):stC ⟨g,i,none⟩ v w K:=by
 refine ⟨⟨cur[i],by rw [h.cell]; simp [hi]⟩,h.frozen i,?_⟩
 exact hk _ (h.setCell i v) (Kept.setCell w ⟨g,i,none⟩ v) (by simp)
theorem Blk.at {w:World} {g:Nat} {cur:Array Value} (h:Blk w g cur) {i:Nat} {v:Value} (hi:cur[i]?=some v):w.cell? ((⟨g,0,none⟩:Addr).add i)=some v:=by
 rw [Addr.add_lit,h.cell,Nat.zero_add]; exact hi
theorem Blk.at0 {w:World} {g:Nat} {cur:Array Value} (h:Blk w g cur) {v:Value} (hi:cur[0]?=some v):w.cell? ⟨g,0,none⟩=some v:=by
 rw [h.cell]; exact hi
theorem stC_at {w:World} {g i:Nat} {cur:Array Value} {v:Value} {K:World→Prop} (h:Blk w g cur) (hi:i< cur.size)
 (hk:∀ w',Blk w' g (cur.setIfInBounds i v)→Kept (·=g) w w'→w'.heap.size=w.heap.size→K w'):stC ((⟨g,0,none⟩:Addr).add i) v w K:=by
 rw [Addr.add_lit,Nat.zero_add]; exact stC_blk h hi hk
theorem condI {b:Bool} {A B:Prop} (ha:b=true→A) (hb:b=false→B):cond b A B:=by
 cases b with
 | true=>exact ha rfl
 | false=>exact hb rfl
theorem nnI {q:Addr} {K:Addr→Prop} (h:K q):nn (some q) K:=h
theorem condT {b:Bool} {A B:Prop} (h:b=true) (ha:A):cond b A B:=by subst h; exact ha
theorem condF {b:Bool} {A B:Prop} (h:b=false) (hb:B):cond b A B:=by subst h; exact hb
theorem condP {p:Prop} [Decidable p] {A B:Prop} (ha:p→A) (hb:¬ p→B):cond (decide p) A B:=by
 by_cases h:p
 ·simp only [h,decide_true,cond_true]; exact ha h
 ·simp only [h,decide_false,cond_false]; exact hb h
def RdS (sz:Nat) (w:World) (a:Option Addr) (l c:Nat) (xs:List Value):Prop:=
 xs.length=l * sz∧l≤c∧(a=none→c=0)∧∀ ad,a=some ad→∀ i v,xs[i]?=some v→w.cell? (ad.add i)=some v
def SlO (sz:Nat) (w:World) (a:Option Addr) (l c:Nat) (xs:List Value):Prop:=
 xs.length=l * sz∧((a=none∧l=0∧c=0)∨
  ∃ g off cur,a=some ⟨g,off,none⟩∧Blk w g cur∧l≤c∧off+c * sz≤cur.size∧(cur.toList.drop off).take (l * sz)=xs)
def inA (a:Option Addr) (b:Nat):Prop:=∃ ad,a=some ad∧ad.block=b
theorem inA_some (g off:Nat) (s:Option Nat) (b:Nat):inA (some ⟨g,off,s⟩) b↔b=g:=by
 unfold inA
 constructor
 ·rintro ⟨ad,h,rfl⟩; cases h; rfl
 ·rintro rfl; exact ⟨_,rfl,rfl⟩
theorem inA_none (b:Nat):¬ inA none b:=by rintro ⟨ad,h,_⟩; cases h
theorem add_none (g off i:Nat):(⟨g,off,none⟩:Addr).add i=⟨g,off+i,none⟩:=Addr.add_lit g off i
theorem SlO.rd {sz:Nat} {w:World} {a:Option Addr} {l c:Nat} {xs:List Value} (h:SlO sz w a l c xs):RdS sz w a l c xs:=by
 obtain ⟨hl,h⟩:=h
 rcases h with ⟨rfl,rfl,rfl⟩ | ⟨g,off,cur,rfl,hb,hlc,hsz,htk⟩
 ·exact ⟨hl,Nat.le_refl _,fun _=>rfl,fun ad h=>by cases h⟩
 ·refine ⟨hl,hlc,(fun h=>by cases h),fun ad had i v hi=>?_⟩
  cases had
  rw [add_none,hb.cell]
  rw [← htk,List.getElem?_take] at hi
  split at hi
  ·rw [List.getElem?_drop] at hi; simpa using hi
  ·cases hi
theorem SlO.lt {sz:Nat} {w:World} {a:Option Addr} {l c:Nat} {xs:List Value} (h:SlO sz w a l c xs):∀ b,inA a b→b< w.heap.size:=by
 rintro b ⟨ad,rfl,rfl⟩
 rcases h.2 with ⟨h,_⟩ | ⟨g,off,cur,h,hb,_⟩
 ·cases h
 ·cases h; exact hb.lt
theorem SlO.keep {sz:Nat} {w w':World} {a:Option Addr} {l c:Nat} {xs:List Value} (h:SlO sz w a l c xs) {S:Nat→Prop} (k:Kept S w w') (hn:∀ b,inA a b→¬ S b):SlO sz w' a l c xs:=by
 obtain ⟨hl,h⟩:=h
 refine ⟨hl,?_⟩
 rcases h with h | ⟨g,off,cur,rfl,hb,h⟩
 ·exact .inl h
 ·exact .inr ⟨g,off,cur,rfl,hb.keep k (hn g ((inA_some g off none g).2 rfl)),h⟩
theorem RdS.keep {sz:Nat} {w w':World} {a:Option Addr} {l c:Nat} {xs:List Value} (h:RdS sz w a l c xs) {S:Nat→Prop} (k:Kept S w w') (hn:∀ b,b< w.heap.size→inA a b→¬ S b):RdS sz w' a l c xs:=by
 obtain ⟨hl,hlc,hz,h⟩:=h
 refine ⟨hl,hlc,hz,fun ad had i v hi=>?_⟩
 have hc:=h ad had i v hi
 have hbl:=World.block_lt_of_cell? w _ hc
 have hbe:(ad.add i).block=ad.block:=by unfold Addr.add; split <;> rfl
 refine k.cell hc (hn _ hbl ⟨ad,had,hbe.symm⟩)
theorem RdS.old {sz:Nat} {w:World} {a:Option Addr} {l c:Nat} {xs:List Value} (h:RdS sz w a l c xs) (hne:xs≠[]):∀ b,inA a b→b< w.heap.size:=by
 rintro b ⟨ad,rfl,rfl⟩
 obtain ⟨_,_,_,h⟩:=h
 cases xs with
 | nil=>exact absurd rfl hne
 | cons v vs=>
  have hc:=h ad rfl 0 v rfl
  have:=World.block_lt_of_cell? w _ hc
  have hbe:(ad.add 0).block=ad.block:=by unfold Addr.add; split <;> rfl
  omega
theorem SlO.nil (sz:Nat) (w:World):SlO sz w none 0 0 []:=⟨by simp,.inl ⟨rfl,rfl,rfl⟩⟩
theorem RdS.nil (sz:Nat) (w:World):RdS sz w none 0 0 []:=(SlO.nil sz w).rd
theorem SlO.drew {sz:Nat} {w:World} {a:Option Addr} {l c:Nat} {xs:List Value} (h:SlO sz w a l c xs):SlO sz w.drew a l c xs:=h
theorem SlO.drewN {sz:Nat} {w:World} {a:Option Addr} {l c:Nat} {xs:List Value} (h:SlO sz w a l c xs) (n:Nat):SlO sz (w.drewN n) a l c xs:=h
theorem RdS.drew {sz:Nat} {w:World} {a:Option Addr} {l c:Nat} {xs:List Value} (h:RdS sz w a l c xs):RdS sz w.drew a l c xs:=h
theorem RdS.drewN {sz:Nat} {w:World} {a:Option Addr} {l c:Nat} {xs:List Value} (h:RdS sz w a l c xs) (n:Nat):RdS sz (w.drewN n) a l c xs:=h
theorem SlO.of_blk {sz:Nat} {w:World} {g n:Nat} {cur:Array Value} (h:Blk w g cur) (hs:cur.size=n * sz):SlO sz w (some ⟨g,0,none⟩) n n cur.toList:=
 ⟨by simp [hs],.inr ⟨g,0,cur,rfl,h,Nat.le_refl _,by omega,by rw [← hs]; simp [List.take_of_length_le]⟩⟩
theorem RdS.isNone {sz:Nat} {w:World} {a:Option Addr} {l c:Nat} {xs:List Value} (h:RdS sz w a l c xs) (ha:a=none):l=0∧c=0∧xs=[]:=by
 have hc:=h.2.2.1 ha
 have hl:l=0:=by have:=h.2.1; omega
 refine ⟨hl,hc,?_⟩
 have:=h.1; subst hl; simpa using this
theorem adv_map (a:Option Addr) (i c sz:Nat) (hne:c≠i):adv a i c sz=a.map (·.add (i * sz)):=by unfold adv; rw [if_neg hne]
theorem adv_same (a:Option Addr) (c sz:Nat):adv a c c sz=a:=by unfold adv; rw [if_pos rfl]
theorem add_add (ad:Addr) (i j:Nat):(ad.add i).add j=ad.add (i+j):=by
 unfold Addr.add
 by_cases hi:i=0
 ·subst hi; simp
 ·by_cases hj:j=0
  ·subst hj; simp [hi]
  ·simp [hi,hj]; omega
theorem RdS.from {sz:Nat} {w:World} {a:Option Addr} {l c:Nat} {xs:List Value} (h:RdS sz w a l c xs) (i:Nat) (hi:i≤l):RdS sz w (adv a i c sz) (l - i) (c - i) (xs.drop (i * sz)):=by
 obtain ⟨hl,hlc,hz,h⟩:=h
 have hlen:(xs.drop (i * sz)).length=(l - i) * sz:=by rw [List.length_drop,hl,Nat.sub_mul]
 refine ⟨hlen,by omega,fun hn=>?_,fun ad had j v hj=>?_⟩
 ·unfold adv at hn
  split at hn
  ·omega
  ·cases a with
   | none=>have:=hz rfl; omega
   | some x=>cases hn
 ·by_cases hci:c=i
  ·subst hci
   rw [adv_same] at had
   have:(xs.drop (c * sz)).length=0:=by rw [hlen]; have:l - c=0:=by omega
                                        simp [this]
   have:=(List.getElem?_eq_some_iff.1 hj).1
   omega
  ·rw [adv_map _ _ _ _ hci] at had
   cases a with
   | none=>cases had
   | some x=>
    cases had
    rw [add_add]
    refine h x rfl _ v ?_
    rw [List.getElem?_drop] at hj; exact hj
theorem RdS.to {sz:Nat} {w:World} {a:Option Addr} {l c:Nat} {xs:List Value} (h:RdS sz w a l c xs) (j:Nat) (hj:j≤l):RdS sz w a j c (xs.take (j * sz)):=by
 obtain ⟨hl,hlc,hz,h⟩:=h
 refine ⟨?_,by omega,hz,fun ad had i v hi=>h ad had i v ?_⟩
 ·rw [List.length_take,hl]; exact Nat.min_eq_left (Nat.mul_le_mul_right _ hj)
 ·rw [List.getElem?_take] at hi
  split at hi
  ·exact hi
  ·cases hi
theorem RdS.cut {sz:Nat} {w:World} {a:Option Addr} {l c:Nat} {xs:List Value} (h:RdS sz w a l c xs) (i j:Nat) (hi:i≤j) (hj:j≤l) :
 RdS sz w (adv a i c sz) (j - i) (c - i) ((xs.take (j * sz)).drop (i * sz)):=(h.to j hj).from i hi
theorem SlO.from {sz:Nat} {w:World} {a:Option Addr} {l c:Nat} {xs:List Value} (h:SlO sz w a l c xs) (i:Nat) (hi:i≤l):SlO sz w (adv a i c sz) (l - i) (c - i) (xs.drop (i * sz)):=by
 obtain ⟨hl,h⟩:=h
 refine ⟨by rw [List.length_drop,hl,Nat.sub_mul],?_⟩
 rcases h with ⟨rfl,rfl,rfl⟩ | ⟨g,off,cur,rfl,hb,hlc,hsz,htk⟩
 ·have:i=0:=by omega
  subst this
  exact .inl ⟨by simp [adv],by omega,by omega⟩
 ·have hm:i * sz≤c * sz:=Nat.mul_le_mul_right _ (by omega)
  have hcs:(c - i) * sz=c * sz - i * sz:=Nat.sub_mul c i sz
  have hls:(l - i) * sz=l * sz - i * sz:=Nat.sub_mul l i sz
  by_cases hci:c=i
  ·subst hci
   refine .inr ⟨g,off,cur,by rw [adv_same],hb,by omega,by rw [hcs]; omega,?_⟩
   have:l=c:=by omega
   subst this
   simp [← htk]
  ·rw [adv_map _ _ _ _ hci]
   refine .inr ⟨g,off+i * sz,cur,by simp [add_none],hb,by omega,by rw [hcs]; omega,?_⟩
   rw [← htk,hls,List.drop_take,List.drop_drop]
theorem SlO.to {sz:Nat} {w:World} {a:Option Addr} {l c:Nat} {xs:List Value} (h:SlO sz w a l c xs) (j:Nat) (hj:j≤l):SlO sz w a j c (xs.take (j * sz)):=by
 obtain ⟨hl,h⟩:=h
 have hm:j * sz≤l * sz:=Nat.mul_le_mul_right _ hj
 refine ⟨by rw [List.length_take,hl]; exact Nat.min_eq_left hm,?_⟩
 rcases h with ⟨rfl,rfl,rfl⟩ | ⟨g,off,cur,rfl,hb,hlc,hsz,htk⟩
 ·exact .inl ⟨rfl,by omega,rfl⟩
 ·refine .inr ⟨g,off,cur,rfl,hb,by omega,hsz,?_⟩
  rw [← htk,List.take_take,Nat.min_eq_left hm]
theorem SlO.to3 {sz:Nat} {w:World} {a:Option Addr} {l c:Nat} {xs:List Value} (h:SlO sz w a l c xs) (j m:Nat) (hj:j≤l) (hjm:j≤m) (hm:m≤c):SlO sz w a j m (xs.take (j * sz)):=by
 obtain ⟨hl,h⟩:=h.to j hj
 refine ⟨hl,?_⟩
 rcases h with ⟨rfl,rfl,rfl⟩ | ⟨g,off,cur,rfl,hb,hlc,hsz,htk⟩
 ·exact .inl ⟨rfl,rfl,by omega⟩
 ·exact .inr ⟨g,off,cur,rfl,hb,hjm,by have:m * sz≤c * sz:=Nat.mul_le_mul_right _ hm
                                      omega,htk⟩
theorem inA_adv {a:Option Addr} {i c sz b:Nat}:inA (adv a i c sz) b↔inA a b:=by
 unfold adv
 split
 ·rfl
 ·cases a with
  | none=>constructor <;> (intro h; exact absurd h (inA_none b))
  | some x=>
   have:(x.add (i * sz)).block=x.block:=by unfold Addr.add; split <;> rfl
   unfold inA
   constructor
   ·rintro ⟨ad,h,hb⟩; simp at h; subst h; exact ⟨x,rfl,by rw [← hb,this]⟩
   ·rintro ⟨ad,h,hb⟩; cases h; exact ⟨_,rfl,by rw [this,hb]⟩
def SlTy (P:Program) (t e:TypeId) (i:TypeInfo) (z:Value) (sz by_:Nat):Prop:=
 P.underlying t=some (.slice e)∧P.info? e=some i∧i.zero=some z∧i.size=sz∧i.bytes=by_∧z.cells.size=sz∧0< sz
def slTyB (P:Program) (t sz by_:Nat):Bool:=
 match P.underlying t with
 | some (.slice e)=>
  match P.info? e with
  | some i=>match i.zero with | some z=>Nat.beq i.size sz && Nat.beq i.bytes by_ && Nat.beq z.cells.size sz && Nat.blt 0 sz | none=>false
  | none=>false
 | _=>false
theorem slTy_of {P:Program} {t sz by_:Nat} (h:slTyB P t sz by_=true):∃ e i z,SlTy P t e i z sz by_:=by
 unfold slTyB at h
 split at h
 ·rename_i e hu
  split at h
  ·rename_i i hi
   split at h
   ·rename_i z hz
    simp only [Bool.and_eq_true] at h
    exact ⟨e,i,z,hu,hi,hz,Nat.eq_of_beq_eq_true h.1.1.1,Nat.eq_of_beq_eq_true h.1.1.2,Nat.eq_of_beq_eq_true h.1.2,bltL h.2⟩
   ·cases h
  ·cases h
 ·cases h
def slZ (P:Program) (t:TypeId):Option Value:=
 match P.underlying t with
 | some (.slice e)=>match P.info? e with | some i=>i.zero | none=>none
 | _=>none
theorem slTyZ {P:Program} {t sz by_:Nat} {z:Value} (h:slTyB P t sz by_=true) (hz:slZ P t=some z):∃ e i,SlTy P t e i z sz by_:=by
 obtain ⟨e,i,z',hu,hi,hz',hr⟩:=slTy_of h
 unfold slZ at hz
 simp only [hu,hi,hz'] at hz
 cases hz
 exact ⟨e,i,hu,hi,hz',hr⟩
def AppAt (w:World) (a a':Option Addr) (w':World):Prop:=
 (a'=a∧w'.heap.size=w.heap.size)∨(a'=some ⟨w.heap.size,0,none⟩∧w'.heap.size=w.heap.size+1)
theorem AppAt.in {w w':World} {a a':Option Addr} (h:AppAt w a a' w') {b:Nat} (hb:inA a' b):inA a b∨b=w.heap.size:=by
 rcases h with ⟨rfl,_⟩ | ⟨rfl,_⟩
 ·exact .inl hb
 ·exact .inr ((inA_some _ _ _ _).1 hb)
theorem add_lit0 (g off n:Nat):(⟨g,off,none⟩:Addr).add n=⟨g,off+n,none⟩:=Addr.add_lit g off n
theorem zc_size (z:Array Value) (n:Nat):(Builtin.zeroCells z n).size=n * z.size:=size_zeroCells z n
section
variable {P : Program}
theorem run_app {t t2 ty e:TypeId} {i:TypeInfo} {z:Value} {sz by_:Nat} (hT:SlTy P t e i z sz by_) {d2:TypeDesc} (hu2:P.underlying t2=some d2) (hd2:(∃ e2,d2=.slice e2)∨d2=.string)
 {w:World} {a:Option Addr} {l c:Nat} {xs:List Value} (hs:SlO sz w a l c xs) {x:Value} {m:Nat} {ys:List Value} (hm:∀ w,(Builtin.lenOf x).run P w=.ok m w) (hy:ys.length=m * sz)
 (hf:(Builtin.firstCells sz m x).run P w=.ok ys.toArray w) (hfd:(Builtin.firstCells sz m x).run P w.drew=.ok ys.toArray w.drew) (h1:∀ u ∈ ys,u.oneCell'=true)
 (hb:(l+m) * by_≤140737488355328) (h63:l+m≤9223372036854775807) :
 ∃ a' c' w',(Builtin.append_ #[t,t2] ty #[.slice a l c,x]).run P w=.ok (.slice a' (l+m) c') w'∧SlO sz w' a' (l+m) c' (xs ++ ys)∧Kept (inA a) w w'∧AppAt w a a' w'∧(a'=none→a=none∧m=0):=by
 obtain ⟨hu,hi,hz,hsz,hby,hzs,hpos⟩:=hT
 subst hsz hby
 have hlen:(xs ++ ys).length=(l+m) * i.size:=by rw [List.length_append,hs.1,hy,Nat.add_mul]
 by_cases hroom:l+m≤c
 ·
  rcases hs.2 with ⟨rfl,rfl,rfl⟩ | ⟨g,off,cur,rfl,⟨e',hg⟩,hlc,hcs,htk⟩
  ·have hm0:m=0:=by omega
   subst hm0
   have hx:xs=[]:=List.eq_nil_of_length_eq_zero (by simpa using hs.1)
   have hys:ys=[]:=List.eq_nil_of_length_eq_zero (by simpa using hy)
   subst hx hys
   refine ⟨none,0,w,?_,SlO.nil _ _,Kept.refl _ _,.inl ⟨rfl,rfl⟩,fun _=>⟨rfl,rfl⟩⟩
   rcases hd2 with ⟨e2,rfl⟩ | rfl <;> simp [Builtin.append_,run_underlying hu,run_underlying hu2,sizeOf,typeInfo,hi,hm,hf]
  ·have hst:=run_storeCells_at P g (off+l * i.size) e' ys 0 cur w hg (by rw [hy]; have:(l+m) * i.size≤c * i.size:=Nat.mul_le_mul_right _ hroom
                                                                         rw [Nat.add_mul] at this; omega) h1
   refine ⟨some ⟨g,off,none⟩,c,w.setRow g (cur.toList.take (off+l * i.size+0) ++ ys ++ cur.toList.drop (off+l * i.size+0+ys.length)).toArray,?_,⟨hlen,.inr ⟨g,off,_,rfl,Blk.setRow ⟨e',hg⟩ _,hroom,?_,?_⟩⟩,(Kept.setRow w g _).mono (fun b _ hb=>(inA_some _ _ _ _).2 hb),.inl ⟨rfl,by simp⟩,fun h=>by cases h⟩
   ·simp only [Nat.add_zero] at hst
    rcases hd2 with ⟨e2,rfl⟩ | rfl <;> simp [Builtin.append_,run_underlying hu,run_underlying hu2,sizeOf,typeInfo,hi,hm,hroom,hf,add_lit0,hst]
   ·have hlm:(l+m) * i.size≤c * i.size:=Nat.mul_le_mul_right _ hroom
    rw [Nat.add_mul] at hlm
    simp only [Nat.add_zero,List.size_toArray,List.length_append,List.length_take,List.length_drop,Array.length_toList,hy]
    omega
   ·have hlm:(l+m) * i.size≤c * i.size:=Nat.mul_le_mul_right _ hroom
    rw [Nat.add_mul] at hlm
    simp only [Nat.add_zero]
    have hxs:xs=(cur.toList.drop off).take (l * i.size):=htk.symm
    have e1:cur.toList.take (off+l * i.size)=cur.toList.take off ++ xs:=by
     rw [hxs]; rw [List.take_add]
    rw [e1]
    have hoff:(cur.toList.take off).length=off:=by rw [List.length_take,Array.length_toList]; omega
    rw [List.append_assoc,List.append_assoc,List.drop_append_of_le_length (by omega),List.drop_of_length_le (by omega),List.nil_append]
    rw [← List.append_assoc,← hlen]
    exact List.take_left
 ·
  have hnr:¬ l+m≤c:=hroom
  have hold:∀ w0:World,w0.heap=w.heap→(Builtin.firstCells i.size l (.slice a l c)).run P w0=.ok xs.toArray w0:=by
   intro w0 hw0
   have hrd:RdS i.size w0 a l c xs:=by
    obtain ⟨r1,r2,r3,r4⟩:=hs.rd
    exact ⟨r1,r2,r3,fun ad had j v hj=>by rw [← r4 ad had j v hj]; simp [World.cell?,hw0]⟩
   cases a with
   | none=>have:=hrd.isNone rfl; obtain ⟨rfl,rfl,rfl⟩:=this; exact run_firstCells_none w0 _ _ _ _
   | some ad=>exact run_firstCells_some w0 _ _ ad _ _ xs hrd.1 (fun j v hj=>hrd.2.2.2 ad rfl j v hj)
  have hfit:=growslice_fits (bytes:=i.bytes) (need:=l+m) (old:=c) (by omega) hb
  have hfit':¬ (281474976710656< Builtin.nextslicecap (l+m) c * i.bytes):=by omega
  have hge:=grownCap_ge w (l+m) c e
  have h63':¬ (9223372036854775807< ((l:Int)+(m:Int))):=by omega
  have hg2:(Builtin.zeroCells z.cells (grownCap w (l+m) c e - (l+m))).size=(grownCap w (l+m) c e - (l+m)) * i.size:=by rw [zc_size,hzs]
  refine ⟨some ⟨w.heap.size,0,none⟩,grownCap w (l+m) c e,w.drew.alloc (.cells (xs.toArray ++ ys.toArray ++ Builtin.zeroCells z.cells (grownCap w (l+m) c e - (l+m))) e),?_,⟨hlen,.inr ⟨w.heap.size,0,_,rfl,Blk.alloc w.drew _ e,hge,?_,?_⟩⟩,
   (Kept.drew _ w).trans (Kept.alloc (inA a) _ _) (fun _ _ h=>h),.inr ⟨rfl,by simp⟩,fun h=>by cases h⟩
  ·rcases hd2 with ⟨e2,rfl⟩ | rfl <;> simp [Builtin.append_,run_underlying hu,run_underlying hu2,sizeOf,typeInfo,zeroValue,hi,hz,hm,hnr,h63',hfit',Question.forced,hold w.drew rfl,hfd,newRow,grownCap] <;> (congr 2; rw [← Array.append_assoc]; simp)
  ·simp only [Array.size_append,List.size_toArray,hg2,hs.1,hy,← Nat.add_mul]
   apply Nat.le_of_eq
   rw [Nat.zero_add]; congr 1; omega
  ·simp only [Array.toList_append,List.drop_zero]
   rw [List.append_assoc,← List.append_assoc,← hlen]
   exact List.take_left
theorem run_app_sl {t t2 ty:TypeId} {sz by_:Nat} (hT:slTyB P t sz by_=true) (hT2:isSliceT P t2=true) {w:World} {a:Option Addr} {l c:Nat} {xs:List Value} (hs:SlO sz w a l c xs)
 {a2:Option Addr} {l2 c2:Nat} {ys:List Value} (hr:RdS sz w a2 l2 c2 ys) (h1:∀ u ∈ ys,u.oneCell'=true) (hb:(l+l2) * by_≤140737488355328) (h63:l+l2≤9223372036854775807) :
 ∃ a' c' w',(Builtin.append_ #[t,t2] ty #[.slice a l c,.slice a2 l2 c2]).run P w=.ok (.slice a' (l+l2) c') w'∧SlO sz w' a' (l+l2) c' (xs ++ ys)∧Kept (inA a) w w'∧AppAt w a a' w'∧(a'=none→a=none∧l2=0):=by
 obtain ⟨e,i,z,hT⟩:=slTy_of hT
 obtain ⟨d2,hu2,hni⟩:∃ d2,P.underlying t2=some d2∧((∃ e2,d2=.slice e2)∨d2=.string):=by
  unfold isSliceT at hT2
  cases hu:P.underlying t2 with
  | none=>simp [hu] at hT2
  | some d=>cases d <;> simp [hu] at hT2; exact ⟨_,rfl,.inl ⟨_,rfl⟩⟩
 have hfc:∀ w0:World,w0.heap=w.heap→(Builtin.firstCells sz l2 (.slice a2 l2 c2)).run P w0=.ok ys.toArray w0:=by
  intro w0 hw0
  cases a2 with
  | none=>have:=hr.isNone rfl; obtain ⟨rfl,rfl,rfl⟩:=this; exact run_firstCells_none w0 _ _ _ _
  | some ad=>exact run_firstCells_some w0 _ _ ad _ _ ys hr.1 (fun j v hj=>by have:=hr.2.2.2 ad rfl j v hj; rw [← this]; simp [World.cell?,hw0])
 exact run_app hT hu2 hni hs (fun w=>rfl) hr.1 (hfc w rfl) (hfc w.drew rfl) h1 hb h63
theorem run_app_zeros {t t2 ty:TypeId} {sz by_:Nat} {z:Value} (hT:∃ e i,SlTy P t e i z sz by_) (hT2:isIntT P t2=true) {w:World} {a:Option Addr} {l c:Nat} {xs:List Value} (hs:SlO sz w a l c xs)
 {k:IntKind} {m:Nat} (h1:∀ u ∈ z.cells,u.oneCell'=true) (hb:(l+m) * by_≤140737488355328) (h63:l+m≤9223372036854775807) :
 ∃ a' c' w',(Builtin.append_ #[t,t2] ty #[.slice a l c,.int k (m:Int)]).run P w=.ok (.slice a' (l+m) c') w'∧SlO sz w' a' (l+m) c' (xs ++ (Builtin.zeroCells z.cells m).toList)∧Kept (inA a) w w'∧AppAt w a a' w'∧(a'=none→a=none∧m=0):=by
 obtain ⟨e,i,hu,hi,hz,hsz,hby,hzs,hpos⟩:=hT
 subst hsz hby
 obtain ⟨kn,hu2⟩:∃ kn,P.underlying t2=some (.int kn):=by
  unfold isIntT at hT2
  cases hu:P.underlying t2 with
  | none=>simp [hu] at hT2
  | some d=>cases d <;> simp [hu] at hT2; exact ⟨_,rfl⟩
 have hzl:(Builtin.zeroCells z.cells m).toList.length=m * i.size:=by rw [Array.length_toList,zc_size,hzs]
 have hlen:(xs ++ (Builtin.zeroCells z.cells m).toList).length=(l+m) * i.size:=by rw [List.length_append,hs.1,hzl,Nat.add_mul]
 have hw:IntKind.i64.wrap (m:Int)=m:=by rw [IntKind.wrap_i64]; omega
 have h48i:¬ (281474976710656< (m:Int) * (i.bytes:Int)):=by
  have:m * i.bytes≤(l+m) * i.bytes:=Nat.mul_le_mul_right _ (by omega)
  rw [← Int.natCast_mul]; omega
 have hneg:¬ ((m:Int)< 0):=by omega
 have hone:∀ u ∈ (Builtin.zeroCells z.cells m).toList,u.oneCell'=true:=by
  intro u hu'
  rw [Array.mem_toList_iff] at hu'
  unfold Builtin.zeroCells at hu'
  rw [Array.mem_map] at hu'
  obtain ⟨j,hj,rfl⟩:=hu'
  have hj':j % z.cells.size< z.cells.size:=Nat.mod_lt _ (by omega)
  rw [getElem!_pos z.cells _ hj']
  exact h1 _ (Array.getElem_mem hj')
 by_cases hm0:m=0
 ·
  subst hm0
  have hz0:(Builtin.zeroCells z.cells 0).toList=[]:=List.eq_nil_of_length_eq_zero (by rw [hzl]; simp)
  rw [hz0,List.append_nil]
  have hlc:l+0≤c:=hs.rd.2.1
  refine ⟨a,c,w,?_,hs,Kept.refl _ _,.inl ⟨rfl,rfl⟩,fun h=>⟨h,rfl⟩⟩
  have hw0:IntKind.i64.wrap 0=0:=by decide
  simp only [Nat.add_zero] at hlc
  cases a with
  | none=>simp [Builtin.append_,run_underlying hu,run_underlying hu2,sizeOf,typeInfo,hi,asInt,asIntOf,hw0,hlc]
  | some ad=>simp [Builtin.append_,run_underlying hu,run_underlying hu2,sizeOf,typeInfo,hi,asInt,asIntOf,hw0,hlc,storeCells]
 have hns:¬ (m * i.size=0):=Nat.mul_ne_zero hm0 (by omega)
 by_cases hroom:l+m≤c
 ·rcases hs.2 with ⟨rfl,rfl,rfl⟩ | ⟨g,off,cur,rfl,⟨e',hg⟩,hlc,hcs,htk⟩
  ·omega
  ·have hlm:(l+m) * i.size≤c * i.size:=Nat.mul_le_mul_right _ hroom
   have hlm':=hlm
   rw [Nat.add_mul] at hlm'
   have hst:=run_storeCells_at P g (off+l * i.size) e' (Builtin.zeroCells z.cells m).toList 0 cur w hg (by rw [hzl]; omega) hone
   refine ⟨some ⟨g,off,none⟩,c,w.setRow g (cur.toList.take (off+l * i.size+0) ++ (Builtin.zeroCells z.cells m).toList ++ cur.toList.drop (off+l * i.size+0+(Builtin.zeroCells z.cells m).toList.length)).toArray,?_,
    ⟨hlen,.inr ⟨g,off,_,rfl,Blk.setRow ⟨e',hg⟩ _,hroom,?_,?_⟩⟩,(Kept.setRow w g _).mono (fun b _ hb=>(inA_some _ _ _ _).2 hb),.inl ⟨rfl,by simp⟩,fun h=>by cases h⟩
   ·simp only [Nat.add_zero] at hst
    simp [Builtin.append_,run_underlying hu,run_underlying hu2,sizeOf,typeInfo,zeroValue,hi,hz,asInt,asIntOf,hw,hneg,h48i,hns,hroom,add_lit0,hst]
   ·simp only [Nat.add_zero,List.size_toArray,List.length_append,List.length_take,List.length_drop,Array.length_toList,hzl]
    have:(Builtin.zeroCells z.cells m).size=m * i.size:=by rw [zc_size,hzs]
    omega
   ·simp only [Nat.add_zero]
    have hxs:xs=(cur.toList.drop off).take (l * i.size):=htk.symm
    have e1:cur.toList.take (off+l * i.size)=cur.toList.take off ++ xs:=by rw [hxs,List.take_add]
    rw [e1]
    have hoff:(cur.toList.take off).length=off:=by rw [List.length_take,Array.length_toList]; omega
    rw [List.append_assoc,List.append_assoc,List.drop_append_of_le_length (by omega),List.drop_of_length_le (by omega),List.nil_append]
    rw [← List.append_assoc,← hlen]
    exact List.take_left
 ·have hnr:¬ l+m≤c:=hroom
  have hold:∀ w0:World,w0.heap=w.heap→(Builtin.firstCells i.size l (.slice a l c)).run P w0=.ok xs.toArray w0:=by
   intro w0 hw0
   have hrd:RdS i.size w0 a l c xs:=by
    obtain ⟨r1,r2,r3,r4⟩:=hs.rd
    exact ⟨r1,r2,r3,fun ad had j v hj=>by rw [← r4 ad had j v hj]; simp [World.cell?,hw0]⟩
   cases a with
   | none=>have:=hrd.isNone rfl; obtain ⟨rfl,rfl,rfl⟩:=this; exact run_firstCells_none w0 _ _ _ _
   | some ad=>exact run_firstCells_some w0 _ _ ad _ _ xs hrd.1 (fun j v hj=>hrd.2.2.2 ad rfl j v hj)
  have hfit:=growslice_fits (bytes:=i.bytes) (need:=l+m) (old:=c) (by omega) hb
  have hfit':¬ (281474976710656< Builtin.nextslicecap (l+m) c * i.bytes):=by omega
  have hge:=grownCap_ge w (l+m) c e
  have h63':¬ (9223372036854775807< ((l:Int)+(m:Int))):=by omega
  have hg2:(Builtin.zeroCells z.cells (grownCap w (l+m) c e - (l+m))).size=(grownCap w (l+m) c e - (l+m)) * i.size:=by rw [zc_size,hzs]
  refine ⟨some ⟨w.heap.size,0,none⟩,grownCap w (l+m) c e,w.drew.alloc (.cells (xs.toArray ++ Builtin.zeroCells z.cells m ++ Builtin.zeroCells z.cells (grownCap w (l+m) c e - (l+m))) e),?_,⟨hlen,.inr ⟨w.heap.size,0,_,rfl,Blk.alloc w.drew _ e,hge,?_,?_⟩⟩,
   (Kept.drew _ w).trans (Kept.alloc (inA a) _ _) (fun _ _ h=>h),.inr ⟨rfl,by simp⟩,fun h=>by cases h⟩
  ·simp [Builtin.append_,run_underlying hu,run_underlying hu2,sizeOf,typeInfo,zeroValue,hi,hz,asInt,asIntOf,hw,hneg,h48i,hns,hnr,h63',hfit',Question.forced,hold w.drew rfl,newRow,grownCap]
  ·have:(Builtin.zeroCells z.cells m).size=m * i.size:=by rw [zc_size,hzs]
   simp only [Array.size_append,List.size_toArray,hg2,hs.1,this,← Nat.add_mul]
   apply Nat.le_of_eq
   rw [Nat.zero_add]; congr 1; omega
  ·simp only [Array.toList_append,List.drop_zero]
   rw [List.append_assoc,← List.append_assoc,← hlen]
   exact List.take_left
def over {α:Type} (xs ys:List α) (i:Nat):List α:=xs.take i ++ (ys ++ xs.drop (i+ys.length))
theorem over_length {α:Type} (xs ys:List α) (i:Nat) (h:i+ys.length≤xs.length):(over xs ys i).length=xs.length:=by simp [over]; omega
theorem run_copy_own {t t2 ty:TypeId} {sz by_:Nat} (hT:slTyB P t sz by_=true) {w:World} {a:Option Addr} {l c:Nat} {xs:List Value} (hs:SlO sz w a l c xs)
 {a2:Option Addr} {l2 c2:Nat} {ys:List Value} (hr:RdS sz w a2 l2 c2 ys) (h1:∀ u ∈ ys,u.oneCell'=true) :
 ∃ w',(Builtin.copy_ #[t,t2] ty #[.slice a l c,.slice a2 l2 c2]).run P w=.ok (.int .i64 ((min l2 l:Nat):Int)) w'∧SlO sz w' a l c (over xs (ys.take (min l2 l * sz)) 0)∧Kept (inA a) w w'∧w'.heap.size=w.heap.size∧
  (∀ g off cur,a=some ⟨g,off,none⟩→Blk w g cur→Blk w' g (over cur.toList (ys.take (min l2 l * sz)) off).toArray):=by
 obtain ⟨e,i,z,hu,hi,hz,hsz,hby,hzs,hpos⟩:=slTy_of hT
 subst hsz
 have hn1:min l2 l * i.size≤l2 * i.size:=Nat.mul_le_mul_right _ (Nat.min_le_left _ _)
 have hn2:min l2 l * i.size≤l * i.size:=Nat.mul_le_mul_right _ (Nat.min_le_right _ _)
 have hyl:(ys.take (min l2 l * i.size)).length=min l2 l * i.size:=by rw [List.length_take,hr.1]; omega
 have hfc:(Builtin.firstCells i.size (min l2 l) (.slice a2 l2 c2)).run P w=.ok (ys.take (min l2 l * i.size)).toArray w:=by
  cases a2 with
  | none=>
   obtain ⟨rfl,rfl,rfl⟩:=hr.isNone rfl
   simp [Builtin.firstCells]
  | some ad=>exact run_firstCells_some w _ _ ad _ _ _ hyl (fun j v hj=>hr.2.2.2 ad rfl j v (by rw [List.getElem?_take] at hj; split at hj <;> first | exact hj | cases hj))
 have hone:∀ u ∈ ys.take (min l2 l * i.size),u.oneCell'=true:=fun u hu'=>h1 u (List.mem_of_mem_take hu')
 rcases hs.2 with ⟨rfl,rfl,rfl⟩ | ⟨g,off,cur,rfl,⟨e',hg⟩,hlc,hcs,htk⟩
 ·refine ⟨w,?_,?_,Kept.refl _ _,rfl,fun g off cur h=>by cases h⟩
  ·simp only [Nat.min_zero] at hfc
   simp [Builtin.copy_,run_underlying hu,sizeOf,typeInfo,hi,Builtin.lenOf,hfc,goInt]
  ·have hx:xs=[]:=List.eq_nil_of_length_eq_zero (by simpa using hs.1)
   subst hx
   simpa [over] using SlO.nil i.size w
 ·have hle:l * i.size≤c * i.size:=Nat.mul_le_mul_right _ hlc
  have hst:=run_storeCells_at P g off e' (ys.take (min l2 l * i.size)) 0 cur w hg (by rw [hyl]; omega) hone
  simp only [Nat.add_zero] at hst
  have heq:(cur.toList.take off ++ ys.take (min l2 l * i.size) ++ cur.toList.drop (off+(ys.take (min l2 l * i.size)).length))=over cur.toList (ys.take (min l2 l * i.size)) off:=by simp [over]
  rw [heq] at hst
  refine ⟨w.setRow g (over cur.toList (ys.take (min l2 l * i.size)) off).toArray,?_,⟨?_,.inr ⟨g,off,_,rfl,Blk.setRow ⟨e',hg⟩ _,hlc,?_,?_⟩⟩,(Kept.setRow w g _).mono (fun b _ hb=>(inA_some _ _ _ _).2 hb),by simp,?_⟩
  ·have hmin:Nat.min l2 l=min l2 l:=rfl
   simp [Builtin.copy_,run_underlying hu,sizeOf,typeInfo,hi,Builtin.lenOf,hmin,hfc,hst,goInt]
  ·rw [over_length _ _ _ (by rw [hyl,hs.1]; omega),hs.1]
  ·simp only [List.size_toArray]
   rw [over_length _ _ _ (by rw [hyl,Array.length_toList]; omega),Array.length_toList]; exact hcs
  ·
   have hxs:xs=(cur.toList.drop off).take (l * i.size):=htk.symm
   simp only [over,List.take_zero,List.nil_append,Nat.zero_add]
   have hoff:(cur.toList.take off).length=off:=by rw [List.length_take,Array.length_toList]; omega
   rw [List.drop_append_of_le_length (by omega),List.drop_of_length_le (by omega),List.nil_append,hyl]
   rw [List.take_append,hyl,List.take_of_length_le (by rw [hyl]; exact hn2),hxs,List.drop_take,List.drop_drop]
  ·intro g' off' cur' h hb'
   cases h
   have:=Blk.uniq hb' ⟨e',hg⟩
   subst this
   exact Blk.setRow ⟨e',hg⟩ _
theorem run_mk {t:TypeId} {sz by_:Nat} {z:Value} (hT:∃ e i,SlTy P t e i z sz by_) {w:World} {k k':IntKind} {n m:Nat} (hnm:n≤m) (hb:m * by_≤281474976710656) (h63:m≤9223372036854775807) :
 ∃ w',(Instr.makeSlice t (.int k (n:Int)) (.int k' (m:Int))).run P w=.ok (.slice (some ⟨w.heap.size,0,none⟩) n m) w'∧SlO sz w' (some ⟨w.heap.size,0,none⟩) n m (Builtin.zeroCells z.cells n).toList∧Kept No w w'∧w'.heap.size=w.heap.size+1:=by
 obtain ⟨e,i,hu,hi,hz,hsz,hby,hzs,hpos⟩:=hT
 subst hsz hby
 have h:=run_make (P:=P) w t e i z hu hi hz k k' (n:Int) (m:Int) (by omega) (by omega) (by rw [← Int.natCast_mul,Nat.mul_comm]; omega) (by omega)
 simp only [Int.toNat_natCast] at h
 refine ⟨_,h,⟨by rw [Array.length_toList,zc_size,hzs],.inr ⟨w.heap.size,0,_,rfl,Blk.alloc w _ e,hnm,by rw [size_madeCells]; omega,?_⟩⟩,Kept.alloc _ w _,by simp⟩
 apply List.ext_getElem?
 intro j
 unfold madeCells Builtin.zeroCells
 simp only [List.drop_zero,Array.toList_map,Array.toList_range,List.getElem?_take,List.getElem?_map]
 have hle:n * i.size≤m * i.size:=Nat.mul_le_mul_right _ hnm
 by_cases hj:j< n * i.size
 ·simp [hj,hzs,show j< m * i.size by omega]
 ·simp [hj,hzs]
end
theorem stC_slo {w:World} {a:Option Addr} {l c:Nat} {xs:List Value} (hs:SlO 1 w a l c xs) {q:Addr} (hq:a=some q) {j:Nat} (hj:j< l) {v:Value} {K:World→Prop}
 (hk:∀ w',SlO 1 w' a l c (xs.set j v)→Kept (inA a) w w'→w'.heap.size=w.heap.size→K w'):stC (q.add j) v w K:=by
 rcases hs.2 with ⟨rfl,_,_⟩ | ⟨g,off,cur,rfl,hb,hlc,hcs,htk⟩
 ·cases hq
 ·cases hq
  rw [add_none]
  refine stC_blk hb (by omega) fun w' hb' hk' hsz=>hk w' ⟨by rw [List.length_set,hs.1],.inr ⟨g,off,_,rfl,hb',hlc,by simpa using hcs,?_⟩⟩ (hk'.mono fun b _ h=>(inA_some _ _ _ _).2 h) hsz
  rw [← htk,Nat.mul_one]
  apply List.ext_getElem?
  intro k
  simp only [Array.toList_setIfInBounds,List.getElem?_take,List.getElem?_drop,List.getElem?_set,List.length_take,List.length_drop,Array.length_toList]
  have hm:min l (cur.size - off)=l:=by omega
  by_cases hkl:k< l
  ·by_cases hjk:j=k
   ·subst hjk
    simp [hkl,hm,show off+j< cur.size by omega]
   ·simp [hjk]
  ·have:¬ j=k:=by omega
   simp [hkl,this]
def By (bs:List Int):List Value:=bs.map (Value.int .u8)
def In (ns:List Int):List Value:=ns.map (Value.int .i64)
theorem By_one (bs:List Int):∀ u ∈ By bs,u.oneCell'=true:=by
 intro u hu; unfold By at hu; rw [List.mem_map] at hu; obtain ⟨n,_,rfl⟩:=hu; rfl
theorem In_one (bs:List Int):∀ u ∈ In bs,u.oneCell'=true:=by
 intro u hu; unfold In at hu; rw [List.mem_map] at hu; obtain ⟨n,_,rfl⟩:=hu; rfl
@[simp] theorem By_length (bs:List Int):(By bs).length=bs.length:=by simp [By]
@[simp] theorem In_length (bs:List Int):(In bs).length=bs.length:=by simp [In]
theorem By_append (a b:List Int):By (a ++ b)=By a ++ By b:=by simp [By]
theorem By_take (a:List Int) (n:Nat):By (a.take n)=(By a).take n:=by simp [By,List.map_take]
theorem By_drop (a:List Int) (n:Nat):By (a.drop n)=(By a).drop n:=by simp [By,List.map_drop]
theorem In_append (a b:List Int):In (a ++ b)=In a ++ In b:=by simp [In]
theorem By_get (bs:List Int) (i:Nat) (h:i< bs.length):(By bs)[i]?=some (.int .u8 bs[i]):=by simp [By,h]
theorem In_get (bs:List Int) (i:Nat) (h:i< bs.length):(In bs)[i]?=some (.int .i64 bs[i]):=by simp [In,h]
theorem By_set (bs:List Int) (i:Nat) (n:Int):(By bs).set i (.int .u8 n)=By (bs.set i n):=by simp [By,List.map_set]
theorem By_zeros (n:Nat):(Builtin.zeroCells #[.int .u8 0] n).toList=By (List.replicate n 0):=by
 apply List.ext_getElem?
 intro j
 unfold Builtin.zeroCells By
 simp only [Array.toList_map,Array.toList_range,List.getElem?_map]
 by_cases hj:j< n
 ·simp [hj,Nat.mod_one]
 ·simp [hj]
theorem By_inj {a b:List Int} (h:By a=By b):a=b:=by
 unfold By at h
 exact List.map_inj_right (fun x y h=>by cases h; rfl) |>.1 h
def RdB (w:World) (a:Option Addr) (l c:Nat) (bs:List Int):Prop:=RdS 1 w a l c (By bs)
def OB (w:World) (a:Option Addr) (l c:Nat) (bs:List Int):Prop:=SlO 1 w a l c (By bs)
theorem RdB.len {w:World} {a:Option Addr} {l c:Nat} {bs:List Int} (h:RdB w a l c bs):bs.length=l:=by have:=h.1; simpa using this
theorem OB.len {w:World} {a:Option Addr} {l c:Nat} {bs:List Int} (h:OB w a l c bs):bs.length=l:=by have:=h.1; simpa using this
theorem OB.rd {w:World} {a:Option Addr} {l c:Nat} {bs:List Int} (h:OB w a l c bs):RdB w a l c bs:=SlO.rd h
theorem RdB.keep {w w':World} {a:Option Addr} {l c:Nat} {bs:List Int} (h:RdB w a l c bs) {S:Nat→Prop} (k:Kept S w w') (hn:∀ b,b< w.heap.size→inA a b→¬ S b):RdB w' a l c bs:=RdS.keep h k hn
theorem OB.keep {w w':World} {a:Option Addr} {l c:Nat} {bs:List Int} (h:OB w a l c bs) {S:Nat→Prop} (k:Kept S w w') (hn:∀ b,inA a b→¬ S b):OB w' a l c bs:=SlO.keep h k hn
theorem RdB.get {w:World} {a:Option Addr} {l c:Nat} {bs:List Int} (h:RdB w a l c bs) {i:Nat} (hi:i< bs.length):∃ q,a=some q∧w.cell? (q.add i)=some (.int .u8 bs[i]):=by
 cases a with
 | none=>
  have:=(RdS.isNone h rfl).2.2
  have hl:(By bs).length=0:=by rw [this]; rfl
  simp at hl; subst hl; simp at hi
 | some q=>exact ⟨q,rfl,h.2.2.2 q rfl i _ (By_get bs i hi)⟩
theorem RdB.nil (w:World):RdB w none 0 0 []:=RdS.nil 1 w
theorem OB.nil (w:World):OB w none 0 0 []:=SlO.nil 1 w
theorem RdB.from {w:World} {a:Option Addr} {l c:Nat} {bs:List Int} (h:RdB w a l c bs) (i:Nat) (hi:i≤l):RdB w (adv a i c 1) (l - i) (c - i) (bs.drop i):=by
 have:=RdS.from h i hi; unfold RdB; rw [By_drop]; simpa using this
theorem RdB.to {w:World} {a:Option Addr} {l c:Nat} {bs:List Int} (h:RdB w a l c bs) (j:Nat) (hj:j≤l):RdB w a j c (bs.take j):=by
 have:=RdS.to h j hj; unfold RdB; rw [By_take]; simpa using this
theorem OB.from {w:World} {a:Option Addr} {l c:Nat} {bs:List Int} (h:OB w a l c bs) (i:Nat) (hi:i≤l):OB w (adv a i c 1) (l - i) (c - i) (bs.drop i):=by
 have:=SlO.from h i hi; unfold OB; rw [By_drop]; simpa using this
theorem OB.to {w:World} {a:Option Addr} {l c:Nat} {bs:List Int} (h:OB w a l c bs) (j:Nat) (hj:j≤l):OB w a j c (bs.take j):=by
 have:=SlO.to h j hj; unfold OB; rw [By_take]; simpa using this
def Fresh (w:World) (a:Option Addr):Prop:=∀ b,inA a b→w.heap.size≤b
theorem Fresh.none (w:World):Fresh w none:=fun b h=>absurd h (inA_none b)
theorem AppAt.fresh {w w0 w':World} {a a':Option Addr} (h:AppAt w a a' w') (hf:Fresh w0 a) (hs:w0.heap.size≤w.heap.size):Fresh w0 a':=fun b hb=>by
 rcases h.in hb with h | rfl
 ·exact hf b h
 ·exact hs
end Go.Lw
namespace Go.Lw
open Go
abbrev PutOff:=FuncId × List Value × List Value
def dfr (d:PutOff):Deferred:={ target:=.fn (.func d.1) d.2.1.toArray,args:=d.2.2.toArray }
def DefR (P:Program) (k:FuncId) (args:List Value) (w:World) (K:World→Prop):Prop:=
 bodyB P k=true∧CallsD P k args.toArray .returning w fun e u' w'=>u'=.returning∧(∃ v,e=.returned v)∧K w'
def defB (o:Oper):Bool:=match o.op with | .defer _=>true | _=>false
def defS (o:Oper) (e:Env) (K:PutOff→Prop):Prop:=
 match o.guard with
 | some _=>False
 | none=>match o.op with
  | .defer c=>match c.callee with
   | .value f=>match ev e f with
    | .func (.func k) first cap=>K (k,cap.toList,first.toList ++ c.args.toList.map (ev e))
    | _=>False
   | _=>False
  | _=>False
def opsF (P:Program) (ops:Array Oper):List Oper→List PutOff→Env→World→(List PutOff→Env→World→Prop)→Prop
 | [],D,e,w,K=>K D e w
 | o :: r,D,e,w,K=>bif defB o then defS o e (fun d=>opsF P ops r (d :: D) (upd e o.dst undef) w K)
  else guardS ops o e (fun e=>opS P (ev e) o (fun v w'=>opsF P ops r D (upd e o.dst v) w' K) w) (fun e=>opsF P ops r D (upd e o.dst undef) w K)
theorem dfr_ofValue {k:FuncId} {first cap:Array Value} (xs:Array Value) (e:Env) {args:Array Operand} (w:World) (P:Program):Sem.run P (Deferred.ofValue (.func (.func k) first cap) (args.map (ev e))) w=.ok (dfr (k,cap.toList,first.toList ++ args.toList.map (ev e))) w:=by
 have:first ++ Array.map (ev e) args=(first.toList ++ List.map (ev e) args.toList).toArray:=by
  apply Array.ext'
  simp
 simp [Deferred.ofValue,dfr,this]
theorem opsF_sound {P:Program} {ops:Array Oper} {Q:Exit→Act→World→Prop}:∀ (l:List Oper) (D:List PutOff) (e:Env) (w:World) (a:Act) (K:List PutOff→Env→World→Prop),AgreeX (D.map dfr) a e→fitsOps a.tmps.size l=true→opsF P ops l D e w K→
 (∀ D' a' e' w',AgreeX (D'.map dfr) a' e'→a'.tmps.size=a.tmps.size→K D' e' w'→Q .normal a' w')→wpList P ops Q l a w
 | [],D,e,w,a,K,ha,_,h,hK=>hK D a e w ha rfl h
 | o :: r,D,e,w,a,K,ha,hf,h,hK=>by
  simp only [fitsOps,List.all_cons,Bool.and_eq_true] at hf
  have hd:∀ k,o.dst=some k→k< a.tmps.size:=fun k hk=>by
   have:=hf.1; rw [hk] at this; exact bltL this
  unfold opsF at h
  cases hb:defB o with
  | true=>
   rw [hb,cond_true] at h
   unfold defS at h
   split at h
   ·exact h.elim
   ·rename_i hg
    split at h
    ·rename_i c hc
     split at h
     ·rename_i f hf'
      split at h
      ·rename_i k first cap hfv
       unfold wpList
       rw [if_pos (by unfold Region.wanted; simp [hg])]
       refine .inl ?_
       unfold Oper.wp
       have hex:(execOp a.eval o).run P w=.ok (.defer (dfr (k,cap.toList,first.toList ++ c.args.toList.map (ev e)))) w:=by
        unfold execOp
        rw [hc]
        simp only [Sem.run_bind]
        unfold resolve
        rw [ha.eval,hf']
        dsimp only
        rw [hfv,dfr_ofValue #[] e w P]
        rfl
       rw [hex,Oper.upon_defer]
       have ha':AgreeX (((k,cap.toList,first.toList ++ c.args.toList.map (ev e)) :: D).map dfr) ({ a with defers:=dfr (k,cap.toList,first.toList ++ c.args.toList.map (ev e)) :: a.defers }:Act) e:=⟨by rw [List.map_cons,ha.1],ha.2⟩
       refine opsF_sound r _ _ _ _ K (ha'.put _ _ hd) (by rw [put_size]; exact hf.2) h fun D' a' e' w' hA hs hk=>hK D' a' e' w' hA (by rw [hs,put_size]) hk
      ·exact h.elim
     ·exact h.elim
    ·exact h.elim
  | false=>
   rw [hb,cond_false] at h
   have step:∀ v w',opsF P ops r D (upd e o.dst v) w' K→wpList P ops Q r (a.put o.dst v) w':=fun v w' h'=>
    opsF_sound r D _ _ _ K (ha.put _ _ hd) (by rw [put_size]; exact hf.2) h' fun D' a' e' w'' ha' hs hk=>hK D' a' e' w'' ha' (by rw [hs,put_size]) hk
   rcases guardS_elim ha h with ⟨hw,h⟩ | ⟨hw,h⟩
   ·unfold wpList
    rw [if_pos hw]
    rw [← ha.eval] at h
    exact .inl (opS_sound h step)
   ·unfold wpList
    rw [if_neg (by rw [hw]; simp)]
    exact step _ _ h
def seqF (next:List PutOff→Env→World→Prop) (Q:Exit→List PutOff→Env→World→Prop):Exit→List PutOff→Env→World→Prop
 | .normal,D,e,w=>next D e w
 | .exit i,D,e,w=>Q (.exit i) D e w
 | .goto i,D,e,w=>Q (.goto i) D e w
 | .ret,D,e,w=>Q .ret D e w
 | .panic c,D,e,w=>Q (.panic c) D e w
 | .outgrown,D,e,w=>Q .outgrown D e w
def semF (P:Program) (A:Ann):Code→(Exit→List PutOff→Env→World→Prop)→List PutOff→Env→World→Prop
 | .seq a b,Q,D,e,w=>
  match lk A.cuts (firstId b) with
  | none=>semF P A a (seqF (fun D' e' w'=>semF P A b Q D' e' w') Q) D e w
  | some ls=>bif subB (ls.map (·.1)) (written a) then
   ∃ J:List Value→World→Prop,
    sem P A a (seqQ (fun e' w'=>bif shsB (ls.map (·.2)) (ls.map fun s=>e' s.1) then J (ls.map fun s=>e' s.1) w' else False) (fun ex e w=>Q ex D e w)) e w∧
    ∀ d:Env,allShs (ls.map (·.2)) fun vs=>∀ w',J vs w'→semF P A b Q D (havoc e d (written a) (ls.map (·.1)) vs) w'
   else False
 | .cond c a b,Q,D,e,w=>match ev e c with | .bool t=>cond t (semF P A a Q D e w) (semF P A b Q D e w) | _=>False
 | .region id ops draw,Q,D,e,w=>bif !draw && ops.toList.any defB then opsF P ops ops.toList D e w (Q .normal) else sem P A (.region id ops draw) (fun ex e w=>Q ex D e w) e w
 | .block id c,Q,D,e,w=>sem P A (.block id c) (fun ex e w=>Q ex D e w) e w
 | .ret,Q,D,e,w=>Q .ret D e w
 | .skip,Q,D,e,w=>Q .normal D e w
 | _,_,_,_,_=>False
def liftF (n:Nat) (Q:Exit→List PutOff→Env→World→Prop) (ex:Exit) (a:Act) (w:World):Prop:=
 okEx ex∧∃ D e,AgreeX (D.map dfr) a e∧a.tmps.size=n∧Q ex D e w
theorem liftF_of {n:Nat} {W:List Nat} {e0:Env} {D:List PutOff} {Q:Exit→List PutOff→Env→World→Prop} {ex:Exit} {a:Act} {w:World} (h:liftQ (D.map dfr) n W e0 (fun ex e w=>Q ex D e w) ex a w):liftF n Q ex a w:=by
 obtain ⟨h1,e,h2,h3,_,h4⟩:=h
 exact ⟨h1,D,e,h2,h3,h4⟩
theorem semF_sound {P:Program} {A:Ann} (hm:P.follows .mixedOrders=true):∀ (c:Code) (Q:Exit→List PutOff→Env→World→Prop) (D:List PutOff) (e:Env) (w:World) (a:Act),AgreeX (D.map dfr) a e→fits a.tmps.size c=true→semF P A c Q D e w→
 c.wp P (liftF a.tmps.size Q) a w:=by
 intro c
 induction c with
 | skip=>intro Q D e w a ha _ h; exact wp_skip ⟨trivial,D,e,ha,rfl,h⟩
 | region id ops draw=>
  intro Q D e w a ha hf h
  unfold semF at h
  cases hb:(!draw && ops.toList.any defB) with
  | false=>
   rw [hb,cond_false] at h
   exact Code.wp_mono (fun ex a' w' hq=>liftF_of hq) (sem_sound hm _ _ e w a ha hf h)
  | true=>
   rw [hb,cond_true] at h
   simp only [Bool.and_eq_true,Bool.not_eq_true'] at hb
   obtain ⟨hdr,_⟩:=hb
   subst hdr
   refine wp_region_list (opsF_sound _ D e w a _ ha hf h fun D' a' e' w' ha' hs hk=>⟨trivial,D',e',ha',hs,hk⟩)
 | seq x y ihx ihy=>
  intro Q D e w a ha hf h
  unfold fits at hf
  simp only [Bool.and_eq_true] at hf
  unfold semF at h
  split at h
  ·refine wp_seq (Code.wp_mono ?_ (ihx _ D e w a ha hf.1 h))
   rintro ex a' w' ⟨hok,D',e',ha',hs,hq⟩
   cases ex with
   | normal=>
    have:=ihy Q D' e' w' a' ha' (by rw [hs]; exact hf.2) hq
    rw [hs] at this
    exact this
   | ret=>exact ⟨trivial,D',e',ha',hs,hq⟩
   | exit i=>exact ⟨trivial,D',e',ha',hs,hq⟩
   | goto i=>exact ⟨trivial,D',e',ha',hs,hq⟩
   | panic c=>exact hok.elim
   | outgrown=>exact hok.elim
  ·rename_i ls _
   cases hsub:subB (ls.map (·.1)) (written x) with
   | false=>rw [hsub,cond_false] at h; exact h.elim
   | true=>
    rw [hsub,cond_true] at h
    obtain ⟨J,hx,hy⟩:=h
    refine wp_seq (Code.wp_mono ?_ (sem_sound hm _ _ e w a ha hf.1 hx))
    rintro ex a' w' ⟨hok,e',ha',hs,hfr,hq⟩
    cases ex with
    | normal=>
     simp only [seqQ] at hq
     cases hsh:shsB (ls.map (·.2)) (ls.map fun s=>e' s.1) with
     | false=>rw [hsh,cond_false] at hq; exact hq.elim
     | true=>
      rw [hsh,cond_true] at hq
      have h2:=allShs_elim (hy e') hsh w' hq
      rw [map_fst,havoc_self hfr] at h2
      have:=ihy Q D e' w' a' ha' (by rw [hs]; exact hf.2) h2
      rw [hs] at this
      exact this
    | ret=>exact ⟨trivial,D,e',ha',hs,hq⟩
    | exit i=>exact ⟨trivial,D,e',ha',hs,hq⟩
    | goto i=>exact ⟨trivial,D,e',ha',hs,hq⟩
    | panic c=>exact hok.elim
    | outgrown=>exact hok.elim
 | cond c x y ihx ihy=>
  intro Q D e w a ha hf h
  unfold fits at hf
  simp only [Bool.and_eq_true] at hf
  unfold semF at h
  split at h
  ·rename_i t ht
   rw [← ha.eval] at ht
   cases t with
   | true=>exact wp_cond_true ht (ihx Q D e w a ha hf.1 h)
   | false=>exact wp_cond_false ht (ihy Q D e w a ha hf.2 h)
  ·exact h.elim
 | block id c _=>
  intro Q D e w a ha hf h
  unfold semF at h
  exact Code.wp_mono (fun ex a' w' hq=>liftF_of hq) (sem_sound hm _ _ e w a ha hf h)
 | ret=>intro Q D e w a ha _ h; exact wp_ret ⟨trivial,D,e,ha,rfl,h⟩
 | _=>intro Q D e w a ha hf h; exact absurd h (by unfold semF; exact fun h=>h)
def runOff (P:Program):List PutOff→(World→Prop)→World→Prop
 | [],K,w=>K w
 | d :: D,K,w=>DefR P d.1 (d.2.2 ++ d.2.1) w (fun w'=>runOff P D K w')
def funF (P:Program) (rs:List ResultVar) (Q:Value→World→Prop):Exit→List PutOff→Env→World→Prop
 | .normal,D,e,w=>runOff P D (fun w'=>resS P rs e w' fun vs=>Q (retV vs) w') w
 | .ret,D,e,w=>runOff P D (fun w'=>resS P rs e w' fun vs=>Q (retV vs) w') w
 | _,_,_,_=>False
theorem leaves_of {P:Program} {fn:Func} {tmps:Array Value} {R:Ending→World→Prop} {K:World→Prop} (hk:∀ w,K w→∃ v,(results fn tmps).run P w=.ok v w∧R (.returned v) w):∀ (D:List PutOff) (w:World),runOff P D K w→Leaves P fn tmps R (D.map dfr) .returning w
 | [],w,h=>hk w h
 | d :: D,w,⟨hb,hc⟩=>by
   refine ⟨by simp,_,_,d.1,(d.2.2 ++ d.2.1).toArray,rfl,?_,?_⟩
   ·show (invoke (.fn (.func d.1) d.2.1.toArray) d.2.2.toArray).run P w=_
    have e1:(d.2.2 ++ d.2.1).toArray=d.2.2.toArray ++ d.2.1.toArray:=by simp
    rw [e1]
    exact bodyB_run hb _ _
   ·refine CallsD.mono hc ?_
    rintro e u' w' ⟨rfl,⟨v,rfl⟩,h⟩
    exact leaves_of hk D w' h
theorem fun_callsF {P:Program} {A:Ann} {k:FuncId} {fn:Func} {c:Code} {args:List Value} {w:World} {Q:Value→World→Prop} (hm:P.follows .mixedOrders=true)
 (hf:P.funcs[k]?=some fn) (hb:fn.body=some c) (hn:(Nat.ble args.length fn.ntmps && fits fn.ntmps c)=true)
 (h:semF P A c (funF P fn.results.toList Q) [] (env0 args) w):CallR P k args w Q:=by
 simp only [Bool.and_eq_true] at hn
 have hle:=Nat.le_of_ble_eq_true hn.1
 have hsz:(args.toArray ++ Array.replicate (fn.ntmps - args.toArray.size) undef).size=fn.ntmps:=by simp; omega
 have ha:AgreeX (([]:List PutOff).map dfr) { tmps:=args.toArray ++ Array.replicate (fn.ntmps - args.toArray.size) undef,defers:=[] } (env0 args):=by
  refine ⟨rfl,fun t=>?_⟩
  unfold env0
  simp only [Array.getD_eq_getD_getElem?]
  by_cases ht:t< args.length
  ·rw [Array.getElem?_append_left (by simpa using ht)]; simp
  ·have h1:args[t]?=none:=by simp; omega
   rw [h1]
   rw [Array.getElem?_append_right (by simp; omega)]
   by_cases h2:t - args.length< fn.ntmps - args.length
   ·simp [h2]
   ·simp [h2]
 refine calls_of_wp_defers hf hb ?_
 refine Code.wp_mono ?_ (semF_sound hm c _ [] (env0 args) w _ ha (by simp only [hsz]; exact hn.2) h)
 intro ex a' w' ⟨_,D,e',ha',_,hq⟩
 have fin:runOff P D (fun w'=>resS P fn.results.toList e' w' fun vs=>Q (retV vs) w') w'→Leaves P fn a'.tmps (fun e w'=>∃ v',e=.returned v'∧Q v' w') a'.defers .returning w':=fun hr=>by
  rw [ha'.1]
  refine leaves_of (fun w hk=>?_) D w' hr
  obtain ⟨vs,hK,hrun⟩:=resS_run ha' _ _ hk
  exact ⟨retV vs,results_run hrun,_,rfl,hK⟩
 cases ex with
 | normal=>exact fin hq
 | ret=>exact fin hq
 | exit i=>exact hq.elim
 | goto i=>exact hq.elim
 | panic c=>exact hq.elim
 | outgrown=>exact hq.elim
end Go.Lw
namespace Go.Lw
open Go
def recB (o:Oper):Bool:=match o.op with | .call c=>(match c.callee with | .builtin .recover=>true | _=>false) | _=>false
def opsR (P:Program) (ops:Array Oper):List Oper→Env→World→(Env→World→Prop)→Prop
 | [],e,w,K=>K e w
 | o :: r,e,w,K=>bif recB o then (match o.guard with | some _=>False | none=>opsR P ops r (upd e o.dst .nilIface) w K)
  else guardS ops o e (fun e=>opS P (ev e) o (fun v w'=>opsR P ops r (upd e o.dst v) w' K) w) (fun e=>opsR P ops r (upd e o.dst undef) w K)
theorem opsR_sound {P:Program} {ops:Array Oper} {Q:Exit→Act→List Frame→World→Prop} {cs:List Frame} (hcs:recoverD cs=none):∀ (l:List Oper) (k:Nat) (e:Env) (w:World) (a:Act) (K:Env→World→Prop),(∀ j,l[j]?=ops[k+j]?)→Agree a e→fitsOps a.tmps.size l=true→opsR P ops l e w K→
 (∀ a' e' w',Agree a' e'→a'.tmps.size=a.tmps.size→K e' w'→Q .normal a' cs w')→wpOpsS P ops Q (List.range' k l.length) a cs w
 | [],k,e,w,a,K,_,ha,_,h,hK=>hK a e w ha rfl h
 | o :: r,k,e,w,a,K,hj,ha,hf,h,hK=>by
  simp only [fitsOps,List.all_cons,Bool.and_eq_true] at hf
  have hd:∀ k,o.dst=some k→k< a.tmps.size:=fun k hk=>by
   have:=hf.1; rw [hk] at this; exact bltL this
  have h0:ops[k]?=some o:=by simpa using (hj 0).symm
  have hj':∀ j,r[j]?=ops[k+1+j]?:=fun j=>by have:=hj (j+1); simpa [Nat.add_assoc,Nat.add_comm 1 j] using this
  have step:∀ v w',opsR P ops r (upd e o.dst v) w' K→wpOpsS P ops Q (List.range' (k+1) r.length) (a.put o.dst v) cs w':=fun v w' h'=>
   opsR_sound hcs r (k+1) _ _ _ K hj' (ha.put _ _ hd) (by rw [put_size]; exact hf.2) h' fun a' e' w'' ha' hs hk=>hK a' e' w'' ha' (by rw [hs,put_size]) hk
  rw [List.length_cons,List.range'_succ]
  unfold opsR at h
  unfold wpOpsS
  simp only [h0]
  cases hb:recB o with
  | true=>
   rw [hb,cond_true] at h
   split at h
   ·exact h.elim
   ·rename_i hg
    rw [if_pos (by unfold Region.wanted; simp [hg])]
    unfold recB at hb
    split at hb
    ·rename_i c hc
     split at hb
     ·rename_i hce
      have hex:(execOp a.eval o).run P w=.ok .recover w:=by
       unfold execOp
       rw [hc]
       simp only [Sem.run_bind]
       unfold resolve
       rw [hce]
       rfl
      rw [hex]
      simp only [hcs]
      exact step _ _ h
     ·simp at hb
    ·simp at hb
  | false=>
   rw [hb,cond_false] at h
   rcases guardS_elim ha h with ⟨hw,h⟩ | ⟨hw,h⟩
   ·rw [if_pos hw]
    rw [← ha.eval] at h
    have hwp:o.wp P a w (fun a' w'=>wpOpsS P ops Q (List.range' (k+1) r.length) a' cs w') (fun e a' w'=>Q e a' cs w'):=opS_sound h step
    unfold Oper.wp at hwp
    split
    ·rename_i w' hr
     rw [hr] at hwp
     exact hwp.elim
    ·exact hwp
   ·rw [if_neg (by rw [hw]; simp)]
    exact step _ _ h
def semR (P:Program) (A:Ann):Code→(Exit→Env→World→Prop)→Env→World→Prop
 | .seq a b,Q,e,w=>semR P A a (seqQ (fun e' w'=>semR P A b Q e' w') Q) e w
 | .cond c a b,Q,e,w=>match ev e c with | .bool t=>cond t (semR P A a Q e w) (semR P A b Q e w) | _=>False
 | .region id ops draw,Q,e,w=>bif !draw && ops.toList.any recB then opsR P ops ops.toList e w (Q .normal) else sem P A (.region id ops draw) Q e w
 | .block id c,Q,e,w=>sem P A (.block id c) Q e w
 | .ret,Q,e,w=>sem P A .ret Q e w
 | .skip,Q,e,w=>sem P A .skip Q e w
 | _,_,_,_=>False
def liftR (n:Nat) (Q:Exit→Env→World→Prop) (cs:List Frame) (ex:Exit) (a:Act) (cs':List Frame) (w:World):Prop:=
 okEx ex∧cs'=cs∧∃ e,Agree a e∧a.tmps.size=n∧Q ex e w
theorem wpS_mono {P:Program} {c:Code} {Q Q':Exit→Act→List Frame→World→Prop} {a:Act} {cs:List Frame} {w:World} (hq:∀ ex a' cs' w',Q ex a' cs' w'→Q' ex a' cs' w') (h:c.wpS P Q a cs w):c.wpS P Q' a cs w:=
 fun b k hb hr=>let ⟨e,a',cs',w',q,r⟩:=h b k hb hr; ⟨e,a',cs',w',hq _ _ _ _ q,r⟩
theorem liftR_of_sem {P:Program} {A:Ann} (hm:P.follows .mixedOrders=true) {c:Code} {Q:Exit→Env→World→Prop} {e:Env} {w:World} {a:Act} {cs:List Frame} (ha:Agree a e) (hf:fits a.tmps.size c=true) (h:sem P A c Q e w) :
 c.wpS P (liftR a.tmps.size Q cs) a cs w:=by
 refine wpS_of_wp (Code.wp_mono ?_ (sem_sound hm c Q e w a ha hf h))
 rintro ex a' w' ⟨hok,e',ha',hs,_,hq⟩
 exact ⟨hok,rfl,e',ha',hs,hq⟩
theorem semR_sound {P:Program} {A:Ann} (hm:P.follows .mixedOrders=true) {cs:List Frame} (hcs:recoverD cs=none):∀ (c:Code) (Q:Exit→Env→World→Prop) (e:Env) (w:World) (a:Act),Agree a e→fits a.tmps.size c=true→semR P A c Q e w→
 c.wpS P (liftR a.tmps.size Q cs) a cs w:=by
 intro c
 induction c with
 | skip=>intro Q e w a ha hf h; exact liftR_of_sem hm ha hf h
 | ret=>intro Q e w a ha hf h; exact liftR_of_sem hm ha hf h
 | block id c _=>intro Q e w a ha hf h; exact liftR_of_sem hm ha hf h
 | region id ops draw=>
  intro Q e w a ha hf h
  unfold semR at h
  cases hb:(!draw && ops.toList.any recB) with
  | false=>
   rw [hb,cond_false] at h
   exact liftR_of_sem hm ha hf h
  | true=>
   rw [hb,cond_true] at h
   simp only [Bool.and_eq_true,Bool.not_eq_true'] at hb
   obtain ⟨hdr,_⟩:=hb
   subst hdr
   refine wpS_region ?_
   have:=opsR_sound (P:=P) (Q:=liftR a.tmps.size Q cs) hcs ops.toList 0 e w a _ (by simp) ha hf h fun a' e' w' ha' hs hk=>⟨trivial,rfl,e',ha',hs,hk⟩
   rw [List.range_eq_range']
   simpa using this
 | seq x y ihx ihy=>
  intro Q e w a ha hf h
  unfold fits at hf
  simp only [Bool.and_eq_true] at hf
  unfold semR at h
  refine wpS_seq (wpS_mono ?_ (ihx _ e w a ha hf.1 h))
  rintro ex a' cs' w' ⟨hok,rfl,e',ha',hs,hq⟩
  cases ex with
  | normal=>
   have:=ihy Q e' w' a' ha' (by rw [hs]; exact hf.2) hq
   rw [hs] at this
   exact this
  | ret=>exact ⟨trivial,rfl,e',ha',hs,hq⟩
  | exit i=>exact ⟨trivial,rfl,e',ha',hs,hq⟩
  | goto i=>exact ⟨trivial,rfl,e',ha',hs,hq⟩
  | panic c=>exact hok.elim
  | outgrown=>exact hok.elim
 | cond c x y ihx ihy=>
  intro Q e w a ha hf h
  unfold fits at hf
  simp only [Bool.and_eq_true] at hf
  unfold semR at h
  split at h
  ·rename_i t ht
   rw [← ha.eval] at ht
   cases t with
   | true=>exact wpS_cond ht (ihx Q e w a ha hf.1 h)
   | false=>exact wpS_cond ht (ihy Q e w a ha hf.2 h)
  ·exact h.elim
 | _=>intro Q e w a ha hf h; exact absurd h (by unfold semR; exact fun h=>h)
theorem fun_callsR {P:Program} {A:Ann} {k:FuncId} {fn:Func} {c:Code} {args:List Value} {w:World} {K:World→Prop} (hm:P.follows .mixedOrders=true)
 (hf:P.funcs[k]?=some fn) (hb:fn.body=some c) (hn:(Nat.ble args.length fn.ntmps && fits fn.ntmps c && bodyB P k)=true)
 (h:semR P A c (funQ P fn.results.toList fun _ w'=>K w') (env0 args) w):DefR P k args w K:=by
 simp only [Bool.and_eq_true] at hn
 have hle:=Nat.le_of_ble_eq_true hn.1.1
 have hsz:(args.toArray ++ Array.replicate (fn.ntmps - args.toArray.size) undef).size=fn.ntmps:=by simp; omega
 have ha:Agree { tmps:=args.toArray ++ Array.replicate (fn.ntmps - args.toArray.size) undef,defers:=[] } (env0 args):=by
  refine ⟨rfl,fun t=>?_⟩
  unfold env0
  simp only [Array.getD_eq_getD_getElem?]
  by_cases ht:t< args.length
  ·rw [Array.getElem?_append_left (by simpa using ht)]; simp
  ·have h1:args[t]?=none:=by simp; omega
   rw [h1]
   rw [Array.getElem?_append_right (by simp; omega)]
   by_cases h2:t - args.length< fn.ntmps - args.length
   ·simp [h2]
   ·simp [h2]
 refine ⟨hn.2,callsD_of_wpS hf hb fun c₀ cs hc=>?_⟩
 have hrec:recoverD (c₀ :: cs)=none:=by simp only [recoverD,hc]
 refine wpS_mono ?_ (semR_sound hm hrec c _ (env0 args) w _ ha (by simp only [hsz]; exact hn.1.2) h)
 rintro ex a' cs' w' ⟨_,rfl,e',ha',_,hq⟩
 have fin:resS P fn.results.toList e' w' (fun vs=>K w')→a'.defers=[]∧∃ u',c₀ :: cs={ c₀ with mode:=u' } :: cs∧∃ v,(results fn a'.tmps).run P w'=.ok v w'∧(u'=.returning∧(∃ v',Ending.returned v=.returned v')∧K w'):=fun hr=>by
  obtain ⟨vs,hK,hrun⟩:=resS_run ha' _ _ hr
  refine ⟨ha'.1,.returning,?_,retV vs,results_run hrun,rfl,⟨_,rfl⟩,hK⟩
  cases c₀
  simp only at hc
  subst hc
  rfl
 cases ex with
 | normal=>exact fin hq
 | ret=>exact fin hq
 | exit i=>exact hq.elim
 | goto i=>exact hq.elim
 | panic c=>exact hq.elim
 | outgrown=>exact hq.elim
end Go.Lw
namespace Go.Lw
def FW (ro:Option Nat):Fence:={ fn:=fun _=>True,depth:=none,alive:=false,round:=ro }
theorem FW_in (l:Nat):(FW none).inRound l=FW (some l):=rfl
theorem callsIn_FW {ro:Option Nat} {n:Nat} {P:Program} {f:FuncId} {args:Array Value} {w:World} {R:Ending→World→Prop}:CallsIn (FW ro) n P f args w R↔Calls P f args w R:=
 callsIn_wide (n:=n)
def AgreeD (ds:List Deferred) (a:Act) (e:Env):Prop:=a.defers=ds∧∀ t,a.tmps.getD t undef=e t
theorem AgreeD.eval {ds:List Deferred} {a:Act} {e:Env} (h:AgreeD ds a e):a.eval=ev e:=by
 funext x
 cases x with
 | tmp t=>exact h.2 t
 | _=>rfl
theorem AgreeD.put {ds:List Deferred} {a:Act} {e:Env} (h:AgreeD ds a e) (d:Option Nat) (v:Value) (hd:∀ k,d=some k→k< a.tmps.size):AgreeD ds (a.put d v) (upd e d v):=by
 have h0:Agree { a with defers:=[] } e:=⟨rfl,h.2⟩
 have h1:=h0.put d v hd
 cases d with
 | none=>exact ⟨h.1,h1.2⟩
 | some d=>exact ⟨h.1,h1.2⟩
def YieldR (P:Program) (l:Nat) (args:List Value) (W:World) (R:Bool→World→Prop):Prop:=
 ∃ fn tmps assign body,(Instr.yield l args.toArray).run P W=.ok (.round l fn tmps assign body) W∧RoundIn (FW none) 0 P l fn tmps assign body W fun e W'=>∃ b,e=.returned (.bool b)∧R b W'
def opSI (P:Program) (r:Operand→Value) (o:Oper) (K:Value→World→Prop) (w:World):Prop:=
 match o.op with
 | .call c=>
  match c.callee with
  | .value (.tmp t)=>∃ l:Nat,r (.tmp t)=.func (.yield l) #[] #[]∧YieldR P l (c.args.toList.map r) w fun b w'=>K (.bool b) w'
  | _=>opS P r o K w
 | .load t x=>match r x with | .pointer p=>nn p fun a=>loadS P t a w (fun v=>K v w) | _=>False
 | .store t x y=>match r x with | .pointer p=>nn p fun a=>storeS P t a (r y) w (fun w=>K undef w) | _=>False
 | _=>opS P r o K w
section
variable {P : Program} {o : Oper} {a : Act} {w : World} {K' : Act → World → Prop} {Q : Exit → Act → World → Prop} {ro : Option Nat}
theorem opS_nodefer {r:Operand→Value} {K:Value→World→Prop} (h:opS P r o K w):∀ c,o.op≠.defer c:=by
 intro c hc
 unfold opS at h
 rw [hc] at h
 exact h
theorem opIn_of_wp (hnd:∀ c,o.op≠.defer c) (h:o.wp P a w K' Q):o.wpIn (FW ro) 0 P a w K' Q:=by
 refine ⟨fun _ _=>trivial,?_⟩
 rw [Oper.semAt_eq _ _ _ hnd]
 unfold Oper.wp at h
 cases hr:(execOp a.eval o).run P w with
 | ok nx w'=>
  rw [hr] at h
  cases nx with
  | value v=>exact h
  | skip=>exact h
  | defer d=>exact h
  | enter f args=>
   refine ⟨(fun e=>by cases e),?_⟩
   exact callsIn_FW.2 h
  | row row args=>
   refine ⟨(fun e=>by cases e),?_⟩
   intro c cs _
   obtain ⟨v,w'',h1,h2⟩:=h c cs
   exact ⟨v,w'',h1,stepsIn_wide.2 h2⟩
  | _=>exact h.elim
 | halt hh w'=>
  rw [hr] at h
  cases hh with
  | panic v=>exact h
  | _=>exact h.elim
theorem opSI_sound {K:Value→World→Prop} (h:opSI P a.eval o K w) (hk:∀ v w',K v w'→K' (a.put o.dst v) w'):o.wpIn (FW ro) 0 P a w K' Q:=by
 unfold opSI at h
 split at h
 ·rename_i c ho
  split at h
  ·rename_i t hc
   obtain ⟨l,hl,fn,tmps,assign,body,hy,hR⟩:=h
   refine ⟨fun _ _=>trivial,?_⟩
   rw [Oper.semAt_eq _ _ _ (by rw [ho]; intro c' e; cases e)]
   have hrun:(execOp a.eval o).run P w=.ok (.round l fn tmps assign body) w:=by
    have e:(#[] ++ c.args.map a.eval:Array Value)=(c.args.toList.map a.eval).toArray:=by simp [mapL]
    unfold execOp
    simp only [ho,resolve,hc,Deferred.ofValue,hl,Sem.run_bind,Sem.run_pure,Result.andThen_ok,invoke,e]
    simpa using hy
   rw [hrun]
   refine ⟨(fun e=>by cases e),RoundIn.mono hR ?_⟩
   rintro e w' ⟨b,rfl,hb⟩
   exact hk _ _ hb
  ·exact opIn_of_wp (opS_nodefer h) (opS_sound h hk)
 ·rename_i t x ho
  split at h
  ·rename_i p hx
   obtain ⟨q,rfl,h⟩:=nn_elim h
   have h':opS P a.eval o K w:=by
    unfold opS
    simp only [ho,hx]
    exact h
   exact opIn_of_wp (opS_nodefer h') (opS_sound h' hk)
  ·exact h.elim
 ·rename_i t x y ho
  split at h
  ·rename_i p hx
   obtain ⟨q,rfl,h⟩:=nn_elim h
   have h':opS P a.eval o K w:=by
    unfold opS
    simp only [ho,hx]
    exact h
   exact opIn_of_wp (opS_nodefer h') (opS_sound h' hk)
  ·exact h.elim
 ·exact opIn_of_wp (opS_nodefer h) (opS_sound h hk)
end
def opsSI (P:Program) (ops:Array Oper):List Oper→Env→World→(Env→World→Prop)→Prop
 | [],e,w,K=>K e w
 | o :: r,e,w,K=>guardS ops o e (fun e=>opSI P (ev e) o (fun v w'=>opsSI P ops r (upd e o.dst v) w' K) w) (fun e=>opsSI P ops r (upd e o.dst undef) w K)
theorem opsSI_sound {P:Program} {ops:Array Oper} {Q:Exit→Act→World→Prop} {ro:Option Nat} {ds:List Deferred}:∀ (l:List Oper) (e:Env) (w:World) (a:Act) (K:Env→World→Prop),AgreeD ds a e→fitsOps a.tmps.size l=true→opsSI P ops l e w K→
 (∀ a' e' w',AgreeD ds a' e'→a'.tmps.size=a.tmps.size→(∀ t,(∀ o ∈ l,o.dst≠some t)→e' t=e t)→K e' w'→Q .normal a' w')→wpListIn (FW ro) 0 P ops Q l a w
 | [],e,w,a,K,ha,_,h,hK=>hK a e w ha rfl (fun _ _=>rfl) h
 | o :: r,e,w,a,K,ha,hf,h,hK=>by
  simp only [fitsOps,List.all_cons,Bool.and_eq_true] at hf
  have hd:∀ k,o.dst=some k→k< a.tmps.size:=fun k hk=>by
   have:=hf.1; rw [hk] at this; exact bltL this
  have step:∀ v w',opsSI P ops r (upd e o.dst v) w' K→wpListIn (FW ro) 0 P ops Q r (a.put o.dst v) w':=fun v w' h'=>by
   refine opsSI_sound r _ _ _ K (ha.put _ _ hd) (by rw [put_size]; exact hf.2) h' fun a' e' w'' ha' hs hfr hk=>?_
   refine hK a' e' w'' ha' (by rw [hs,put_size]) (fun t ht=>?_) hk
   rw [hfr t (fun o' ho'=>ht o' (by simp [ho']))]
   have hne:=ht o (by simp)
   cases hdd:o.dst with
   | none=>rfl
   | some d=>rw [upd_eq,if_neg (fun e=>hne (by rw [hdd,e]))]
  have hA:Agree { a with defers:=[] } e:=⟨rfl,ha.2⟩
  rcases guardS_elim hA h with ⟨hw,h⟩ | ⟨hw,h⟩
  ·unfold wpListIn
   have hw':Region.wanted o (yielded ops a.tmps)=true:=hw
   rw [if_pos hw']
   rw [← ha.eval] at h
   exact opSI_sound h step
  ·unfold wpListIn
   have hw':Region.wanted o (yielded ops a.tmps)=false:=hw
   rw [if_neg (by rw [hw']; simp)]
   exact ⟨fun _ _=>trivial,step _ _ h⟩
def semI (P:Program) (A:Ann):Code→(Exit→Env→World→Prop)→Env→World→Prop
 | .skip,Q,e,w=>Q .normal e w
 | .region _ ops draw,Q,e,w=>bif draw then False else opsSI P ops ops.toList e w (Q .normal)
 | .seq a b,Q,e,w=>semI P A a (seqQ (fun e w=>semI P A b Q e w) Q) e w
 | .cond c a b,Q,e,w=>match ev e c with | .bool t=>cond t (semI P A a Q e w) (semI P A b Q e w) | _=>False
 | .block id c,Q,e,w=>semI P A c (blockQ id Q) e w
 | .loop c,Q,e,w=>
  match lk A.loops (firstId c) with
  | none=>False
  | some ls=>bif subB (ls.map (·.1)) (written c) && shsB (ls.map (·.2)) (ls.map fun s=>e s.1) then
   ∃ (I:List Value→World→Prop) (μ:List Value→World→Nat),I (ls.map fun s=>e s.1) w∧
    ∀ d:Env,allShs (ls.map (·.2)) fun vs=>∀ w',I vs w'→
     semI P A c (seqQ (fun e' w''=>bif shsB (ls.map (·.2)) (ls.map fun s=>e' s.1) then I (ls.map fun s=>e' s.1) w''∧μ (ls.map fun s=>e' s.1) w''< μ vs w' else False) Q) (havoc e d (written c) (ls.map (·.1)) vs) w'
   else False
 | .exit id,Q,e,w=>Q (.exit id) e w
 | .ret,Q,e,w=>Q .ret e w
 | _,_,_,_=>False
def liftD (ds:List Deferred) (n:Nat) (W:List Nat) (e0:Env) (Q:Exit→Env→World→Prop) (ex:Exit) (a:Act) (w:World):Prop:=
 okEx ex∧∃ e,AgreeD ds a e∧a.tmps.size=n∧(∀ t,memB W t=false→e t=e0 t)∧Q ex e w
theorem semI_sound {P:Program} {A:Ann} {ro:Option Nat} {ds:List Deferred}:∀ (c:Code) (Q:Exit→Env→World→Prop) (e:Env) (w:World) (a:Act),AgreeD ds a e→fits a.tmps.size c=true→semI P A c Q e w→
 c.wpIn (FW ro) 0 P (liftD ds a.tmps.size (written c) e Q) a w:=by
 intro c
 induction c with
 | skip=>intro Q e w a ha _ h; exact wpIn_skip ⟨trivial,e,ha,rfl,fun _ _=>rfl,h⟩
 | region id ops draw=>
  intro Q e w a ha hf h
  unfold semI at h
  cases draw with
  | true=>exact h.elim
  | false=>
   rw [cond_false] at h
   exact wpIn_region_list (opsSI_sound _ _ _ _ _ ha hf h fun a' e' w' ha' hs hfr hk=>⟨trivial,e',ha',hs,fun t ht=>hfr t (dsts_out ht),hk⟩)
 | seq x y ihx ihy=>
  intro Q e w a ha hf h
  unfold fits at hf
  simp only [Bool.and_eq_true] at hf
  unfold semI at h
  refine wpIn_seq (wpIn_mono (ihx _ e w a ha hf.1 h) ?_)
  intro ex a' w' ⟨hok,e',ha',hs,hfr,hq⟩
  have hother:Q ex e' w'→liftD ds a.tmps.size (written (.seq x y)) e Q ex a' w':=fun hq=>⟨hok,e',ha',hs,fun t ht=>hfr t (memB_append ht).1,hq⟩
  cases ex with
  | normal=>
   refine wpIn_mono (ihy Q e' w' a' ha' (by rw [hs]; exact hf.2) hq) ?_
   intro ex a2 w2 ⟨hok2,e2,ha2,hs2,hfr2,hq2⟩
   exact ⟨hok2,e2,ha2,by rw [hs2,hs],fun t ht=>by rw [hfr2 t (memB_append ht).2,hfr t (memB_append ht).1],hq2⟩
  | exit i=>exact hother hq
  | goto i=>exact hother hq
  | ret=>exact hother hq
  | panic c=>exact hok.elim
  | outgrown=>exact hok.elim
 | cond c x y ihx ihy=>
  intro Q e w a ha hf h
  unfold fits at hf
  simp only [Bool.and_eq_true] at hf
  unfold semI at h
  split at h
  ·rename_i t ht
   refine wpIn_cond (t:=t) (by rw [ha.eval]; exact ht) ?_
   cases t with
   | true=>
    simp only [cond_true] at h
    refine wpIn_mono (ihx Q e w a ha hf.1 h) ?_
    intro ex a2 w2 ⟨hok2,e2,ha2,hs2,hfr2,hq2⟩
    exact ⟨hok2,e2,ha2,hs2,fun t ht=>hfr2 t (memB_append ht).1,hq2⟩
   | false=>
    simp only [cond_false] at h
    refine wpIn_mono (ihy Q e w a ha hf.2 h) ?_
    intro ex a2 w2 ⟨hok2,e2,ha2,hs2,hfr2,hq2⟩
    exact ⟨hok2,e2,ha2,hs2,fun t ht=>hfr2 t (memB_append ht).2,hq2⟩
  ·exact h.elim
 | block id x ih=>
  intro Q e w a ha hf h
  unfold semI at h
  refine wpIn_block (wpIn_mono (ih _ e w a ha hf h) ?_)
  intro ex a2 w2 ⟨hok2,e2,ha2,hs2,hfr2,hq2⟩
  cases ex with
  | exit i=>
   simp only [blockQ] at hq2
   change (if i=id then _ else _)
   by_cases hi:i=id
   ·subst hi
    simp only [Nat.beq_refl,cond_true] at hq2
    rw [if_pos rfl]
    exact ⟨trivial,e2,ha2,hs2,hfr2,hq2⟩
   ·have:Nat.beq i id=false:=by
     cases hb:Nat.beq i id with
     | false=>rfl
     | true=>exact absurd (Nat.eq_of_beq_eq_true hb) hi
    simp only [this,cond_false] at hq2
    rw [if_neg hi]
    exact ⟨trivial,e2,ha2,hs2,hfr2,hq2⟩
  | normal=>exact ⟨hok2,e2,ha2,hs2,hfr2,hq2⟩
  | goto l=>exact ⟨hok2,e2,ha2,hs2,hfr2,hq2⟩
  | ret=>exact ⟨hok2,e2,ha2,hs2,hfr2,hq2⟩
  | panic ch=>exact hok2.elim
  | outgrown=>exact hok2.elim
 | loop x ih=>
  intro Q e w a ha hf h
  unfold semI at h
  split at h
  ·exact h.elim
  ·rename_i ls _
   cases hb:(subB (ls.map (·.1)) (written x) && shsB (ls.map (·.2)) (ls.map fun s=>e s.1)) with
   | false=>rw [hb,cond_false] at h; exact h.elim
   | true=>
    rw [hb,cond_true] at h
    simp only [Bool.and_eq_true] at hb
    obtain ⟨hsub,hsh⟩:=hb
    obtain ⟨I,μ,hI,hr⟩:=h
    have hread:∀ {a':Act} {e':Env},AgreeD ds a' e'→(ls.map fun s=>a'.tmps.getD s.1 undef)=ls.map fun s=>e' s.1:=fun ha'=>by
     apply List.map_congr_left; intro s _; exact ha'.2 s.1
    refine wpIn_loop (fun a' w'=>∃ e',AgreeD ds a' e'∧a'.tmps.size=a.tmps.size∧(∀ t,memB (written x) t=false→e' t=e t)∧shsB (ls.map (·.2)) (ls.map fun s=>e' s.1)=true∧I (ls.map fun s=>e' s.1) w')
     (fun a' w'=>μ (ls.map fun s=>a'.tmps.getD s.1 undef) w') ⟨e,ha,rfl,fun _ _=>rfl,hsh,hI⟩ ?_
    intro a1 w1 ⟨e1,ha1,hs1,hfr1,hsh1,hI1⟩
    have h1:=allShs_elim (hr e1) hsh1 w1 hI1
    rw [map_fst,havoc_self hfr1] at h1
    refine wpIn_mono (ih _ e1 w1 a1 ha1 (by rw [hs1]; exact hf) h1) ?_
    intro ex a2 w2 ⟨hok2,e2,ha2,hs2,hfr2,hq2⟩
    have hfr:∀ t,memB (written x) t=false→e2 t=e t:=fun t ht=>by rw [hfr2 t ht,hfr1 t ht]
    cases ex with
    | normal=>
     simp only [seqQ] at hq2
     cases hsh2:shsB (ls.map (·.2)) (ls.map fun s=>e2 s.1) with
     | false=>rw [hsh2,cond_false] at hq2; exact hq2.elim
     | true=>
      rw [hsh2,cond_true] at hq2
      refine ⟨⟨e2,ha2,by rw [hs2,hs1],hfr,hsh2,hq2.1⟩,?_⟩
      rw [hread ha2,hread ha1,map_fst ls e1]
      exact hq2.2
    | exit i=>exact ⟨hok2,e2,ha2,by rw [hs2,hs1],hfr,hq2⟩
    | goto l=>exact ⟨hok2,e2,ha2,by rw [hs2,hs1],hfr,hq2⟩
    | ret=>exact ⟨hok2,e2,ha2,by rw [hs2,hs1],hfr,hq2⟩
    | panic ch=>exact hok2.elim
    | outgrown=>exact hok2.elim
 | exit id=>intro Q e w a ha _ h; exact wpIn_exit ⟨trivial,e,ha,rfl,fun _ _=>rfl,h⟩
 | ret=>intro Q e w a ha _ h; exact wpIn_ret ⟨trivial,e,ha,rfl,fun _ _=>rfl,h⟩
 | label l=>intro Q e w a _ _ h; exact (h:False).elim
 | scope x _=>intro Q e w a _ _ h; exact (h:False).elim
 | rangeFunc _ _ _ _=>intro Q e w a _ _ h; exact (h:False).elim
 | goto _=>intro Q e w a _ _ h; exact (h:False).elim
 | refuse _=>intro Q e w a _ _ h; exact (h:False).elim
end Go.Lw
namespace Go.Lw
theorem funI_calls {P:Program} {A:Ann} {k:FuncId} {fn:Func} {c:Code} {args:List Value} {w:World} {Q:Value→World→Prop}
 (hf:P.funcs[k]?=some fn) (hb:fn.body=some c) (hn:(Nat.ble args.length fn.ntmps && fits fn.ntmps c)=true)
 (h:semI P A c (funQ P fn.results.toList Q) (env0 args) w):CallR P k args w Q:=by
 simp only [Bool.and_eq_true] at hn
 have hle:=Nat.le_of_ble_eq_true hn.1
 have hsz:(args.toArray ++ Array.replicate (fn.ntmps - args.toArray.size) undef).size=fn.ntmps:=by simp; omega
 have ha:AgreeD [] { tmps:=args.toArray ++ Array.replicate (fn.ntmps - args.toArray.size) undef,defers:=[] } (env0 args):=by
  refine ⟨rfl,fun t=>?_⟩
  unfold env0
  simp only [Array.getD_eq_getD_getElem?]
  by_cases ht:t< args.length
  ·rw [Array.getElem?_append_left (by simpa using ht)]; simp
  ·have h1:args[t]?=none:=by simp; omega
   rw [h1]
   rw [Array.getElem?_append_right (by simp; omega)]
   by_cases h2:t - args.length< fn.ntmps - args.length
   ·simp [h2]
   ·simp [h2]
 unfold CallR
 rw [← callsIn_FW (ro:=none) (n:=0)]
 refine callsIn_of_wp hf hb trivial ?_ rfl
 refine wpIn_mono (semI_sound c _ (env0 args) w _ ha (by simp only [hsz]; exact hn.2) h) ?_
 intro ex a' w' ⟨_,e',ha',_,_,hq⟩
 have fin:resS P fn.results.toList e' w' (fun vs=>Q (retV vs) w')→a'.defers=[]∧∃ v,(results fn a'.tmps).run P w'=.ok v w'∧∃ v',Ending.returned v=.returned v'∧Q v' w':=fun hr=>by
  obtain ⟨vs,hK,hrun⟩:=resS_run ha' _ _ hr
  exact ⟨ha'.1,retV vs,results_run hrun,_,rfl,hK⟩
 cases ex with
 | normal=>exact fin hq
 | ret=>exact fin hq
 | exit i=>exact hq.elim
 | goto i=>exact hq.elim
 | panic c=>exact hq.elim
 | outgrown=>exact hq.elim
def IterOK (P:Program) (gf:FuncId) (lb:List Value) (xs:List (List Value)) (Kp:Nat→Prop) (w:World):Prop:=
 ∀ (l:Nat) (J Jx:Nat→World→Prop) (W:World),Kept No w W→(∀ i A B,J i A→Kept No A B→J i B)→(∀ i A B,Jx i A→Kept No A B→Jx i B)→
  (∀ i x A,xs[i]?=some x→J i A→YieldR P l x A fun b B=>cond b (J (i+1) B∧Kept (fun z=>¬ Kp z) A B) (Jx i B))→J 0 W→
  CallR P gf (.func (.yield l) #[] #[] :: lb) W fun _ W'=>J xs.length W'∨∃ i,i< xs.length∧Jx i W'
def updL (e:Env):List Nat→List Value→Env
 | p :: ps,v :: vs=>updL (upd e (some p) v) ps vs
 | _,_=>e
theorem updL_agree:∀ (ps:List Nat) (vs:List Value) (a:Act) (e:Env),AgreeD [] a e→(∀ p ∈ ps,p< a.tmps.size)→
 AgreeD [] { tmps:=(ps.zip vs).foldl (fun t (pv:Nat × Value)=>t.setIfInBounds pv.1 pv.2) a.tmps,defers:=[] } (updL e ps vs)∧((ps.zip vs).foldl (fun t (pv:Nat × Value)=>t.setIfInBounds pv.1 pv.2) a.tmps).size=a.tmps.size
 | [],vs,a,e,ha,_=>⟨⟨rfl,ha.2⟩,rfl⟩
 | p :: ps,[],a,e,ha,_=>⟨⟨rfl,ha.2⟩,rfl⟩
 | p :: ps,v :: vs,a,e,ha,hp=>by
  have h1:=ha.put (some p) v (fun k hk=>by cases hk; exact hp p (by simp))
  have:=updL_agree ps vs (a.put (some p) v) _ h1 (fun q hq=>by rw [put_size]; exact hp q (by simp [hq]))
  simp only [List.zip_cons_cons,List.foldl_cons,updL]
  refine ⟨this.1,?_⟩
  have h2:=this.2
  rw [put_size] at h2
  exact h2
def Steady (D:Nat) (I:Nat→World→Prop):Prop:=∀ i A B,I i A→Kept (fun z=>z=D∨z=D+1) A B→I i B
def roundS (P:Program) (A:Ann) (D:Nat) (assign body:Code) (T:Nat→Prop) (next stop:World→Prop) (e:Env) (W:World):Prop:=
 semI P A assign (fun ex e' w'=>match ex with
  | .normal=>w'=W∧∀ W',Kept (fun z=>z=D+1) W W'→semI P A body (fun ex _ W''=>match ex with
   | .normal=>Kept T W' W''∧next W''
   | .ret=>Kept T W' W''∧stop W''
   | _=>False) e' W'
  | _=>False) e W
def markD (D:Nat):List Deferred:=[{ target:=.collected D,args:=#[] }]
theorem Kept.putObj (w:World) (l:Nat) (o:Obj):Kept (fun z=>z=l) w (w.putObj l o):=
 ⟨rfl,rfl,rfl,by simp,fun k _ hk=>World.putObj_heap_other hk⟩
theorem rf_sound {P:Program} {A:Ann} {g:Operand} {ps:Array Tmp} {assign body:Code} {Q:Exit→Act→World→Prop} {a:Act} {e:Env} {w:World} (ha:AgreeD [] a e)
 (hfit:(fits a.tmps.size assign && fits a.tmps.size body && ps.toList.all (Nat.blt · a.tmps.size))=true)
 {gf:FuncId} {lb:Array Value} (hg:ev e g=.func (.func gf) #[] lb) (hb:bodyB P gf=true)
 {xs:List (List Value)} {Kp T:Nat→Prop} (hit:IterOK P gf lb.toList xs Kp w) (hKp:∀ z,Kp z→z< w.heap.size) (hT:∀ z,T z→¬ Kp z∧z≠w.heap.size∧z≠w.heap.size+1)
 {I Ix:Nat→World→Prop} (hI:Steady w.heap.size I) (hIx:Steady w.heap.size Ix) (h0:I 0 w)
 (hround:∀ i x W,xs[i]?=some x→I i W→w.heap.size+2≤W.heap.size→x.length=ps.size∧roundS P A w.heap.size assign body T (I (i+1)) (Ix i) (updL e ps.toList x) W)
 (hdone:∀ W,I xs.length W→W.heap[w.heap.size]?=some (.deferred (some []))→Q .normal { a with defers:=markD w.heap.size } W)
 (hstop:∀ i W,Ix i W→W.heap[w.heap.size]?=some (.deferred (some []))→Q .ret { a with defers:=markD w.heap.size } W) :
 (Code.rangeFunc g ps assign body).wpIn (FW none) 0 P Q a w:=by
 simp only [Bool.and_eq_true] at hfit
 obtain ⟨⟨hfa,hfb⟩,hfp⟩:=hfit
 refine wpIn_rangeFunc ?_
 intro fn _
 obtain ⟨rec,hrec⟩:∃ rec:LoopState→Option Code→Loop,rec=fun st pe=>{ state:=st,pending:=pe,fn:=fn,tmps:=a.tmps,params:=ps,assign:=assign,body:=body,defers:=w.heap.size }:=⟨_,rfl⟩
 obtain ⟨W1,hW1⟩:∃ W1,(w.alloc (.deferred (some []))).alloc (.loop (rec .ready none))=W1:=⟨_,rfl⟩
 have hL1:W1.heap[w.heap.size+1]?=some (.loop (rec .ready none)):=by
  rw [← hW1]; have:=World.alloc_heap_new (w.alloc (.deferred (some []))) (.loop (rec .ready none)); rwa [World.size_alloc] at this
 have hk1:Kept No w W1:=by rw [← hW1]; exact (Kept.alloc No w _).no (Kept.alloc No _ _)
 have hD1:W1.heap[w.heap.size]?=some (.deferred (some [])):=by
  rw [← hW1]
  exact ((Kept.alloc No (w.alloc (.deferred (some []))) (.loop (rec .ready none))).block w.heap.size (by simp) (fun e=>e)).trans (World.alloc_heap_new w _)
 have hnb:∀ {A B:World},Kept No A B→Kept (fun z=>z=w.heap.size∨z=w.heap.size+1) A B:=fun h=>h.mono fun _ _ e=>e.elim
 have blk:∀ {A B:World} {k:Nat} {o:Obj} {S:Nat→Prop},A.heap[k]?=some o→Kept S A B→¬ S k→B.heap[k]?=some o:=fun h k hn=>(k.block _ (Array.getElem?_eq_some_iff.1 h).1 hn).trans h
 have heg:a.eval g=.func (.func gf) #[] lb:=by rw [ha.eval]; exact hg
 refine ⟨w.heap.size+1,markD w.heap.size,W1,{ target:=.fn (.func gf) lb,args:=#[.func (.yield (w.heap.size+1)) #[] #[]] },W1,gf,
  #[.func (.yield (w.heap.size+1)) #[] #[]] ++ lb,W1,?_,?_,fun _ _=>trivial,?_,(fun e=>by cases e),?_⟩
 ·rw [← hW1,hrec]; exact run_enterLoop_outer _ _ _ _ _
 ·simp only [resolve,heg]
  simp [go_sem]
 ·simp [invoke,go_sem,bodyB_run hb]
 ·have hcall:=hit (w.heap.size+1)
   (fun i W=>I i W∧W.heap[w.heap.size+1]?=some (.loop (rec .ready none))∧W.heap[w.heap.size]?=some (.deferred (some [])))
   (fun i W=>Ix i W∧W.heap[w.heap.size+1]?=some (.loop (rec .done (some .ret)))∧W.heap[w.heap.size]?=some (.deferred (some [])))
   W1 hk1 (fun i A B h k=>⟨hI i A B h.1 (hnb k),blk h.2.1 k (fun e=>e),blk h.2.2 k (fun e=>e)⟩) (fun i A B h k=>⟨hIx i A B h.1 (hnb k),blk h.2.1 k (fun e=>e),blk h.2.2 k (fun e=>e)⟩)
   ?_ ⟨hI 0 _ _ h0 (hnb hk1),hL1,hD1⟩
  ·unfold CallR at hcall
   have e1:(#[.func (.yield (w.heap.size+1)) #[] #[]] ++ lb:Array Value)=(.func (.yield (w.heap.size+1)) #[] #[] :: lb.toList).toArray:=by simp
   rw [e1]
   refine (callsIn_FW.2 hcall).mono ?_
   rintro ex W2 ⟨v,rfl,⟨hi,hl,hd⟩ | ⟨i,_,hi,hl,hd⟩⟩
   ·have hk:Kept (fun z=>z=w.heap.size+1) W2 (W2.putObj (w.heap.size+1) (.loop { rec .ready none with state:=.exhausted })):=Kept.putObj _ _ _
    refine ⟨none,W2.putObj (w.heap.size+1) (.loop { rec .ready none with state:=.exhausted }),by have:=run_endLoop (P:=P) hl (by rw [hrec]; simp); rw [hrec] at this ⊢; exact this,?_⟩
    have hq:=hdone _ (hI _ _ _ hi (hk.mono fun z _ e=>.inr e)) (blk hd hk (by omega))
    have hds:markD w.heap.size ++ a.defers=markD w.heap.size:=by rw [ha.1]; simp
    show Q .normal { a with defers:=markD w.heap.size ++ a.defers } _
    rw [hds]; exact hq
   ·have hk:Kept (fun z=>z=w.heap.size+1) W2 (W2.putObj (w.heap.size+1) (.loop { rec .done (some .ret) with state:=.exhausted })):=Kept.putObj _ _ _
    refine ⟨some .ret,W2.putObj (w.heap.size+1) (.loop { rec .done (some .ret) with state:=.exhausted }),by have:=run_endLoop (P:=P) hl (by rw [hrec]; simp); rw [hrec] at this ⊢; exact this,wpIn_ret ?_⟩
    have hq:=hstop i _ (hIx _ _ _ hi (hk.mono fun z _ e=>.inr e)) (blk hd hk (by omega))
    have hds:markD w.heap.size ++ a.defers=markD w.heap.size:=by rw [ha.1]; simp
    rw [hds]; exact hq
  ·
   rintro i x W hx ⟨hi,hl,hd⟩
   have hlt:w.heap.size+1< W.heap.size:=(Array.getElem?_eq_some_iff.1 hl).1
   obtain ⟨hxl,hr⟩:=hround i x W hx hi hlt
   have hy:=run_yield (P:=P) (args:=x.toArray) hl (by rw [hrec]; simpa using hxl)
   rw [hrec] at hy
   refine ⟨fn,_,assign,body,hy,roundIn_of_wpIn trivial ?_⟩
   obtain ⟨hag,hsz⟩:=updL_agree ps.toList x a e ha (fun p hp=>bltL (List.all_eq_true.1 hfp p hp))
   have etm:((ps.zip x.toArray).foldl (fun tmps (t,a)=>tmps.setIfInBounds t a) a.tmps)=((ps.toList.zip x).foldl (fun t (pv:Nat × Value)=>t.setIfInBounds pv.1 pv.2) a.tmps):=by
    rw [← Array.foldl_toList]; simp
   rw [FW_in]
   simp only [etm]
   refine wpIn_mono (semI_sound (ro:=some (w.heap.size+1)) (ds:=[]) assign _ _ W _ hag (by rw [hsz]; exact hfa) hr) ?_
   rintro ex a' w' ⟨_,e',ha',hs',_,hq⟩
   cases ex with
   | normal=>
    obtain ⟨rfl,hq⟩:=hq
    refine ⟨_,run_beginRound hl (by rw [hrec]),?_⟩
    have hk2:Kept (fun z=>z=w.heap.size+1) w' (w'.putObj (w.heap.size+1) (.loop { rec .ready none with state:=.busy })):=Kept.putObj _ _ _
    have hl2:(w'.putObj (w.heap.size+1) (.loop { rec .ready none with state:=.busy })).heap[w.heap.size+1]?=some (.loop { rec .ready none with state:=.busy }):=World.putObj_heap_same hlt
    have hd2:=blk hd hk2 (by omega)
    refine wpIn_mono (semI_sound (ro:=some (w.heap.size+1)) (ds:=[]) body _ e' _ a' ha' (by rw [hs',hsz]; exact hfb) (hq _ hk2)) ?_
    rintro ex a3 W3 ⟨_,_,_,_,_,hp⟩
    have fin:∀ (jump:Option Code),Kept T (w'.putObj (w.heap.size+1) (.loop { rec .ready none with state:=.busy })) W3→
     (Instr.endRound (w.heap.size+1) jump).run P W3=.ok (.bool jump.isNone) (W3.putObj (w.heap.size+1) (.loop (rec (if jump.isNone then .ready else .done) jump)))∧
     (W3.putObj (w.heap.size+1) (.loop (rec (if jump.isNone then .ready else .done) jump))).heap[w.heap.size+1]?=some (.loop (rec (if jump.isNone then .ready else .done) jump))∧
     (W3.putObj (w.heap.size+1) (.loop (rec (if jump.isNone then .ready else .done) jump))).heap[w.heap.size]?=some (.deferred (some [])):=fun jump hk3=>by
     have hl3:=blk hl2 hk3 (fun h=>(hT _ h).2.2 rfl)
     have hd3:=blk hd2 hk3 (fun h=>(hT _ h).2.1 rfl)
     have:=run_endRound (P:=P) jump hl3
     rw [hrec] at this ⊢
     exact ⟨this,World.putObj_heap_same (Array.getElem?_eq_some_iff.1 hl3).1,(World.putObj_heap_other (by omega)).trans hd3⟩
    cases ex with
    | normal=>
     obtain ⟨hk3,hn⟩:=hp
     obtain ⟨hrun,hl4,hd4⟩:=fin none hk3
     have hk4:Kept (fun z=>z=w.heap.size+1) W3 (W3.putObj (w.heap.size+1) (.loop (rec (if (none:Option Code).isNone then .ready else .done) none))):=Kept.putObj _ _ _
     refine ⟨_,_,hrun,true,rfl,⟨hI _ _ _ hn (hk4.mono fun z _ e=>.inr e),hl4,hd4⟩,?_⟩
     refine ((hk2.mono (S':=fun z=>¬ Kp z) fun z _ e h=>by have:=hKp z h; omega).trans hk3 fun z _ h=>(hT z h).1).trans hk4 fun z _ e h=>by have:=hKp z h; omega
    | ret=>
     obtain ⟨hk3,hn⟩:=hp
     obtain ⟨hrun,hl4,hd4⟩:=fin (some .ret) hk3
     have hk4:Kept (fun z=>z=w.heap.size+1) W3 (W3.putObj (w.heap.size+1) (.loop (rec (if (some Code.ret).isNone then .ready else .done) (some .ret)))):=Kept.putObj _ _ _
     exact ⟨_,_,hrun,false,rfl,hIx _ _ _ hn (hk4.mono fun z _ e=>.inr e),hl4,hd4⟩
    | exit i=>exact hp.elim
    | goto i=>exact hp.elim
    | panic c=>exact hp.elim
    | outgrown=>exact hp.elim
   | exit i=>exact hq.elim
   | goto i=>exact hq.elim
   | ret=>exact hq.elim
   | panic c=>exact hq.elim
   | outgrown=>exact hq.elim
end Go.Lw
namespace Go.Lw
def chainC:List Code→Code→Code
 | [],z=>z
 | c :: cs,z=>.seq c (chainC cs z)
def fitsL (n:Nat):List Code→Bool
 | []=>true
 | c :: cs=>fits n c && fitsL n cs
def semPre (P:Program) (A:Ann) (K R:Env→World→Prop):List Code→Env→World→Prop
 | [],e,w=>K e w
 | c :: cs,e,w=>sem P A c (fun ex e w=>match ex with
  | .normal=>semPre P A K R cs e w
  | .ret=>R e w
  | _=>False) e w
theorem semPre_sound {P:Program} {A:Ann} (hm:P.follows .mixedOrders=true) {z:Code} {QQ:Exit→Act→World→Prop} {K R:Env→World→Prop} {n:Nat}
 (hz:∀ a e w,Agree a e→a.tmps.size=n→K e w→z.wpIn (FW none) 0 P QQ a w) (hr:∀ a e w,Agree a e→a.tmps.size=n→R e w→QQ .ret a w) :
 ∀ (cs:List Code) (a:Act) (e:Env) (w:World),Agree a e→a.tmps.size=n→fitsL n cs=true→semPre P A K R cs e w→(chainC cs z).wpIn (FW none) 0 P QQ a w
 | [],a,e,w,ha,hs,_,h=>hz a e w ha hs h
 | c :: cs,a,e,w,ha,hs,hf,h=>by
  unfold fitsL at hf
  simp only [Bool.and_eq_true] at hf
  have hw:=sem_sound hm c _ e w a ha (by rw [hs]; exact hf.1) h
  refine wpIn_seq (wpIn_mono (wpIn_wide.2 hw) ?_)
  rintro ex a' w' ⟨_,e',ha',hs',_,hq⟩
  cases ex with
  | normal=>exact semPre_sound hm hz hr cs a' e' w' ha' (by rw [hs',hs]) hf.2 hq
  | ret=>exact hr a' e' w' ha' (by rw [hs',hs]) hq
  | exit i=>exact hq.elim
  | goto i=>exact hq.elim
  | panic c=>exact hq.elim
  | outgrown=>exact hq.elim
def rfS (P:Program) (A:Ann) (rs:List ResultVar) (g:Operand) (ps:Array Tmp) (shs:List Sh) (assign bd post:Code) (Q:Value→World→Prop) (e:Env) (w:World):Prop:=
 ∃ (gf:FuncId) (lb:Array Value) (xs:List (List Value)) (Kp T:Nat→Prop) (I Ix:Nat→World→Prop),
  ev e g=.func (.func gf) #[] lb∧bodyB P gf=true∧IterOK P gf lb.toList xs Kp w∧(∀ z,Kp z→z< w.heap.size)∧(∀ z,T z→¬ Kp z∧z≠w.heap.size∧z≠w.heap.size+1)∧
  Steady w.heap.size I∧Steady w.heap.size Ix∧I 0 w∧
  (∀ (i:Nat) (x:List Value) (W:World),xs[i]?=some x→I i W→w.heap.size+2≤W.heap.size→x.length=ps.size∧exShs shs fun vs=>x=vs∧roundS P A w.heap.size assign bd T (I (i+1)) (Ix i) (updL e ps.toList vs) W)∧
  (∀ W,I xs.length W→sem P A post (fun ex e' W'=>match ex with
   | .normal | .ret=>Kept (fun z=>z≠w.heap.size) W W'∧∀ W'',Kept (fun z=>z=w.heap.size) W' W''→resS P rs e' W'' fun vs=>Q (retV vs) W''
   | _=>False) e W)∧
  (∀ i W,Ix i W→∀ W'',Kept (fun z=>z=w.heap.size) W W''→resS P rs e W'' fun vs=>Q (retV vs) W'')
theorem funRF_calls {P:Program} {A:Ann} {k:FuncId} {fn:Func} {pre:List Code} {id:Nat} {g:Operand} {ps:Array Tmp} {shs:List Sh} {c assign bd post:Code} {args:List Value} {w:World} {Q:Value→World→Prop} (hm:P.follows .mixedOrders=true)
 (hf:P.funcs[k]?=some fn) (hb:fn.body=some (chainC pre (.seq (.seq c (.block id (.rangeFunc g ps assign bd))) post)))
 (hn:(Nat.ble args.length fn.ntmps && fitsL fn.ntmps (pre ++ [c]) && (fits fn.ntmps assign && fits fn.ntmps bd && ps.toList.all (Nat.blt · fn.ntmps)) && fits fn.ntmps post)=true)
 (h:semPre P A (fun e w=>sem P A c (fun ex e w=>match ex with | .normal=>rfS P A fn.results.toList g ps shs assign bd post Q e w | _=>False) e w) (fun e w=>resS P fn.results.toList e w fun vs=>Q (retV vs) w) pre (env0 args) w):CallR P k args w Q:=by
 simp only [Bool.and_eq_true] at hn
 obtain ⟨⟨⟨hlen,hfl⟩,hfr⟩,hfpost⟩:=hn
 have hle:=Nat.le_of_ble_eq_true hlen
 have hfl':fitsL fn.ntmps pre=true∧fits fn.ntmps c=true:=by
  have key:∀ l:List Code,fitsL fn.ntmps (l ++ [c])=true→fitsL fn.ntmps l=true∧fits fn.ntmps c=true:=by
   intro l
   induction l with
   | nil=>
    intro h
    have h':(fits fn.ntmps c && fitsL fn.ntmps [])=true:=h
    simp only [Bool.and_eq_true] at h'
    exact ⟨rfl,h'.1⟩
   | cons x l ih=>
    intro h
    have h:(fits fn.ntmps x && fitsL fn.ntmps (l ++ [c]))=true:=h
    simp only [Bool.and_eq_true] at h
    exact ⟨by unfold fitsL; simp only [Bool.and_eq_true]; exact ⟨h.1,(ih h.2).1⟩,(ih h.2).2⟩
  exact key pre hfl
 have hsz:(args.toArray ++ Array.replicate (fn.ntmps - args.toArray.size) undef).size=fn.ntmps:=by simp; omega
 have ha:Agree { tmps:=args.toArray ++ Array.replicate (fn.ntmps - args.toArray.size) undef,defers:=[] } (env0 args):=by
  refine ⟨rfl,fun t=>?_⟩
  unfold env0
  simp only [Array.getD_eq_getD_getElem?]
  by_cases ht:t< args.length
  ·rw [Array.getElem?_append_left (by simpa using ht)]; simp
  ·have h1:args[t]?=none:=by simp; omega
   rw [h1]
   rw [Array.getElem?_append_right (by simp; omega)]
   by_cases h2:t - args.length< fn.ntmps - args.length
   ·simp [h2]
   ·simp [h2]
 unfold CallR
 rw [← callsIn_FW (ro:=none) (n:=0)]
 refine callsIn_of_wp_marks hf hb trivial ?_ rfl
 have out:∀ (a:Act) (e:Env) (w:World),Agree a e→resS P fn.results.toList e w (fun vs=>Q (retV vs) w)→LeavesInM (FW none) 0 P fn a.tmps (fun e w'=>∃ v,e=.returned v∧Q v w') a.defers .returning w:=by
  intro a e w ha hr
  rw [ha.1]
  obtain ⟨vs,hK,hrun⟩:=resS_run ha _ _ hr
  exact ⟨retV vs,results_run hrun,_,rfl,hK⟩
 have outM:∀ (D:Nat) (a:Act) (e:Env) (w:World),AgreeD (markD D) a e→w.heap[D]?=some (.deferred (some []))→(∀ W'',Kept (fun z=>z=D) w W''→resS P fn.results.toList e W'' fun vs=>Q (retV vs) W'')→
  LeavesInM (FW none) 0 P fn a.tmps (fun e w'=>∃ v,e=.returned v∧Q v w') a.defers .returning w:=by
  intro D a e w ha hD hr
  rw [ha.1]
  refine ⟨by simp,.inl ⟨D,_,rfl,run_takeDeferred hD,?_⟩⟩
  have hr':=hr _ (Kept.putObj w D (.deferred none))
  have ha0:Agree { a with defers:=[] } e:=⟨rfl,ha.2⟩
  obtain ⟨vs,hK,hrun⟩:=resS_run ha0 _ _ hr'
  exact ⟨retV vs,results_run hrun,_,rfl,hK⟩
 refine semPre_sound hm (n:=fn.ntmps) ?_ (fun a e w ha _ hr=>out a e w ha hr) pre _ (env0 args) w ha hsz hfl'.1 h
 intro a e w ha hs hK
 have hw:=sem_sound hm c _ e w a ha (by rw [hs]; exact hfl'.2) hK
 refine wpIn_seq (wpIn_seq (wpIn_mono (wpIn_wide.2 hw) ?_))
 rintro ex a1 w1 ⟨_,e1,ha1,hs1,_,hq⟩
 cases ex with
 | normal=>
  obtain ⟨gf,lb,xs,Kp,T,I,Ix,hg,hbd,hit,hKp,hT,hI,hIx,h0,hround,hdone,hstop⟩:=hq
  refine wpIn_block ?_
  refine rf_sound (P:=P) (A:=A) (e:=e1) ha1 (by rw [hs1,hs]; simpa only [Bool.and_eq_true] using hfr) hg hbd hit hKp hT hI hIx h0 ?_ ?_ ?_
  ·intro i x W hx hi hz
   obtain ⟨hl,hr⟩:=hround i x W hx hi hz
   obtain ⟨vs,rfl,hr⟩:=exShs_elim hr
   exact ⟨hl,hr⟩
  ·intro W hi hD
   have hp:=hdone W hi
   have hag:AgreeD (markD w1.heap.size) { a1 with defers:=markD w1.heap.size } e1:=⟨rfl,ha1.2⟩
   refine wpIn_mono (wpIn_wide.2 (sem_sound (D:=markD w1.heap.size) hm post _ e1 W { a1 with defers:=markD w1.heap.size } hag (by show fits a1.tmps.size post=true; rw [hs1,hs]; exact hfpost) hp)) ?_
   rintro ex a2 w2 ⟨_,e2,ha2,hs2,_,hq⟩
   have hD2:Kept (fun z=>z≠w1.heap.size) W w2→w2.heap[w1.heap.size]?=some (.deferred (some [])):=fun k=>
    (k.block _ (Array.getElem?_eq_some_iff.1 hD).1 (fun h=>h rfl)).trans hD
   cases ex with
   | normal=>exact outM _ _ _ _ ha2 (hD2 hq.1) hq.2
   | ret=>exact outM _ _ _ _ ha2 (hD2 hq.1) hq.2
   | exit i=>exact hq.elim
   | goto i=>exact hq.elim
   | panic c=>exact hq.elim
   | outgrown=>exact hq.elim
  ·intro i W hi hD
   have hag:AgreeD (markD w1.heap.size) { a1 with defers:=markD w1.heap.size } e1:=⟨rfl,ha1.2⟩
   exact outM _ _ _ _ hag hD (hstop i W hi)
 | exit i=>exact hq.elim
 | goto i=>exact hq.elim
 | ret=>exact hq.elim
 | panic c=>exact hq.elim
 | outgrown=>exact hq.elim
structure RfP where
 c:Code
 id:Nat
 g:Operand
 ps:Array Tmp
 assign:Code
 bd:Code
 post:Code
def RfP.code (p:RfP):Code:=.seq (.seq p.c (.block p.id (.rangeFunc p.g p.ps p.assign p.bd))) p.post
def rfParts:Code→List Code × Option RfP
 | .seq x y=>
  match x with
  | .seq c (.block id (.rangeFunc g ps as0 bd))=>([],some ⟨c,id,g,ps,as0,bd,y⟩)
  | _=>(x :: (rfParts y).1,(rfParts y).2)
 | _=>([],none)
theorem rfParts_eq:∀ (c:Code) (pre:List Code) (p:RfP),rfParts c=(pre,some p)→c=chainC pre p.code
 | .seq x y,pre,p,h=>by
  unfold rfParts at h
  split at h
  ·cases h; rfl
  ·have h1:pre=x :: (rfParts y).1:=(congrArg Prod.fst h).symm
   have h2:(rfParts y).2=some p:=congrArg Prod.snd h
   subst h1
   have:=rfParts_eq y (rfParts y).1 p (by rw [← h2])
   show Code.seq x y=.seq x (chainC (rfParts y).1 p.code)
   rw [← this]
 | .skip,_,_,h | .region _ _ _,_,_,h | .cond _ _ _,_,_,h | .block _ _,_,_,h | .loop _,_,_,h | .rangeFunc _ _ _ _,_,_,h | .exit _,_,_,h | .scope _,_,_,h | .label _,_,_,h | .goto _,_,_,h | .ret,_,_,h | .refuse _,_,_,h=>by
  unfold rfParts at h; cases h
def fitsRF (n:Nat) (c:Code):Bool:=
 match rfParts c with
 | (pre,some p)=>fitsL n (pre ++ [p.c]) && (fits n p.assign && fits n p.bd && p.ps.toList.all (Nat.blt · n)) && fits n p.post
 | _=>false
def semRF (P:Program) (A:Ann) (rs:List ResultVar) (shs:List Sh) (Q:Value→World→Prop) (c:Code) (e:Env) (w:World):Prop:=
 match rfParts c with
 | (pre,some p)=>semPre P A (fun e w=>sem P A p.c (fun ex e w=>match ex with | .normal=>rfS P A rs p.g p.ps shs p.assign p.bd p.post Q e w | _=>False) e w) (fun e w=>resS P rs e w fun vs=>Q (retV vs) w) pre e w
 | _=>False
theorem funRF {P:Program} {A:Ann} {k:FuncId} {fn:Func} {c:Code} {shs:List Sh} {args:List Value} {w:World} {Q:Value→World→Prop} (hm:P.follows .mixedOrders=true)
 (hf:P.funcs[k]?=some fn) (hb:fn.body=some c) (hn:(Nat.ble args.length fn.ntmps && fitsRF fn.ntmps c)=true)
 (h:semRF P A fn.results.toList shs Q c (env0 args) w):CallR P k args w Q:=by
 unfold semRF at h
 unfold fitsRF at hn
 split at h
 ·rename_i pre p hp
  rw [hp] at hn
  have:=rfParts_eq c pre p hp
  refine funRF_calls (A:=A) (pre:=pre) (c:=p.c) (id:=p.id) (g:=p.g) (ps:=p.ps) (shs:=shs) (assign:=p.assign) (bd:=p.bd) (post:=p.post) hm hf (by rw [hb,this]; rfl) ?_ h
  simp only [Bool.and_eq_true] at hn ⊢
  exact ⟨⟨⟨hn.1,hn.2.1.1⟩,hn.2.1.2⟩,hn.2.2⟩
 ·exact h.elim
end Go.Lw
