/-
  Bytes put back and what is held, by the page. Conditions: as each says.
-/
import Derived.Test.YtbiofmgebbdflaaPbB
set_option linter.unusedVariables false
namespace Go.Proofs.Ytbiofmgebbdflaa
open Go.Lw

def ungP (p : Pu) (bs : List Int) : Pu × Int :=
  if begP p ≠ 0 then (p, begP p) else if p.r = false then (p, 65) else if p.d = 2 then (p, 112) else if 8 < p.k.length + bs.length then (p, 31) else if bs.length = 0 then (p, 0) else
    ({ p with k := p.k ++ bs.reverse, d := 1, e := false }, 0)

def heldP (p : Pu) : List Int × Int := if begP p ≠ 0 then ([], begP p) else (p.k.reverse ++ p.i, 0)

theorem begP_ck {p : Pu} (h : begP p = 0) : ckP p := by
  by_cases hc : ckP p
  · exact hc
  · unfold begP at h; rw [if_neg hc] at h; omega

theorem ck8 {p : Pu} (h : ckP p) : p.k.length ≤ 8 ∧ p.i.length ≤ 65536 := by
  unfold ckP ckV at h
  obtain ⟨_, _, _, _, _, _, _, h1, h2, _⟩ := h
  exact ⟨h2, h1⟩

theorem OB1 {w : World} {n : Int} {e : TypeId} : RdB (w.alloc (.cells #[.int .u8 n] e)) (some ⟨w.heap.size, 0, none⟩) 1 1 [n] := rd_alloc w [n] e

theorem sz11 {w : World} {g : Nat} {cur : Array Value} (h : Blk w g cur) (hs : cur.size = 11) {i : Nat} (hi : i < 11) : i < cur.size := by omega

theorem Ow3.kput {w0 w w' : World} {s : Sl3} {p : Pu} (h : Ow3 w0 w s p) {S : Nat → Prop} (k : Kept S w w') (hS : ∀ b, S b → inA s.ka b ∨ w.heap.size ≤ b) {a : Option Addr} {l c : Nat} {ks : List Int} (ho : OB w' a l c ks) (hw0 : w0.heap.size ≤ w.heap.size) (ha : ∀ b, inA a b → inA s.ka b ∨ w.heap.size ≤ b) (d : Int) (e : Bool) :
    Ow3 w0 w' { s with ka := a, kl := l, kc := c } { p with k := ks, d := d, e := e } := by
  obtain ⟨⟨o1, o2, o3⟩, ⟨f1, f2, f3⟩, d1, d2⟩ := h
  have l1 := o1.lt
  have l2 := o2.lt
  refine ⟨⟨o1.keep k fun b hb hs => ?_, o2.keep k fun b hb hs => ?_, ho⟩, ⟨f1, f2, fun b hb => ?_⟩, fun b hb => ⟨fun hi => ?_, fun hi => ?_⟩, d2⟩
  · rcases hS b hs with h | h
    · exact (d1 b h).2 hb
    · have := l1 b hb; omega
  · rcases hS b hs with h | h
    · exact (d1 b h).1 hb
    · have := l2 b hb; omega
  · rcases ha b hb with h | h
    · exact f3 b h
    · omega
  · rcases ha b hb with h | h
    · exact (d1 b h).1 hi
    · have := l2 b hi; omega
  · rcases ha b hb with h | h
    · exact (d1 b h).2 hi
    · have := l1 b hi; omega

theorem kset {p : Pu} {s : Sl3} {a : Option Addr} {l c : Nat} {ks : List Int} : (cs p s).setIfInBounds 6 (.slice a l c) = cs { p with k := ks } { s with ka := a, kl := l, kc := c } := rfl
theorem dset {p : Pu} {s : Sl3} {d : Int} : (cs p s).setIfInBounds 7 (.int .i64 d) = cs { p with d := d } s := rfl
theorem eset {p : Pu} {s : Sl3} {e : Bool} : (cs p s).setIfInBounds 8 (.bool e) = cs { p with e := e } s := rfl

theorem rev_take {bs : List Int} {j : Nat} (h : j < bs.length) : bs.reverse.take (j + 1) = bs.reverse.take j ++ [bs[bs.length - 1 - j]'(by omega)] := by
  rw [List.take_add_one, List.getElem?_eq_getElem (by simpa using h), List.getElem_reverse]
  rfl

/-- A byte more at the state's back. -/
theorem push1 {w0 w : World} {g : Nat} {p : Pu} {t : Sl3} {c : Int} {a2 : Option Addr} (hb : Blk w g (cs p t)) (ho : Ow3 w0 w t p) (hn : ∀ b, inA t.oa b ∨ inA t.ia b ∨ inA t.ka b → b ≠ g) (hone : RdB w a2 1 1 [c]) (hl : p.k.length ≤ 2199023255552) (hw0 : w0.heap.size ≤ w.heap.size) {K : World → Prop}
    (hk : ∀ t' w', Blk w' g (cs { p with k := p.k ++ [c] } t') → Ow3 w0 w' t' { p with k := p.k ++ [c] } → Kept (fun z => inA t.ka z ∨ z = g) w w' → (∀ b, inA t'.oa b ∨ inA t'.ia b ∨ inA t'.ka b → b ≠ g) → (∀ b, inA t'.oa b ∨ inA t'.ia b ∨ inA t'.ka b → (inA t.oa b ∨ inA t.ia b ∨ inA t.ka b) ∨ w.heap.size ≤ b) → K w') :
    ∃ (a169 : Option Addr) (l169 : Nat) (c169 : Nat) (w75 : World), Sem.run Try.prog (Builtin.append_ #[36, 36] 36 #[.slice t.ka t.kl t.kc, .slice a2 1 1]) w = .ok ((.slice a169 l169 c169 : Value)) w75 ∧ stC (Addr.mk g 6 none) (.slice a169 l169 c169) w75 K := by
  have hkl : t.kl = p.k.length := ho.1.2.2.len.symm
  obtain ⟨a', c', w75, hrun, hs, hk5, hat, hnn⟩ := run_app_sl (P := Try.prog) (t := 36) (t2 := 36) (ty := 36) (by kernel_rfl : slTyB Try.prog 36 1 1 = true) (by kernel_rfl) ho.1.2.2 hone (By_one _) (by omega) (by omega)
  rw [← By_append] at hs
  refine ⟨a', _, c', w75, hrun, ?_⟩
  have hg := hb.lt
  have hb75 := hb.keep hk5 (fun e => hn g (.inr (.inr e)) rfl)
  have hin : ∀ b, inA a' b → inA t.ka b ∨ w.heap.size ≤ b := fun b hb => by
    rcases hat.in hb with h | h
    · exact .inl h
    · right; omega
  have hing : ∀ b, inA a' b → b ≠ g := fun b hb e => by
    rcases hin b hb with h | h
    · exact hn b (.inr (.inr h)) e
    · omega
  refine stC_blk hb75 (by simp [cs]) fun w76 hb76 hk76 hs76 => ?_
  have hs76' : OB w76 a' (t.kl + 1) c' (p.k ++ [c]) := OB.keep hs hk76 hing
  have hk2 : Kept (fun z => inA t.ka z ∨ z = g) w w76 := (hk5.mono (fun z _ h => Or.inl h)).trans hk76 fun z _ e => Or.inr e
  obtain ⟨⟨o1, o2, o3⟩, ⟨f1, f2, f3⟩, d1, d2⟩ := ho
  have l1 := o1.lt
  have l2 := o2.lt
  refine hk { t with ka := a', kl := t.kl + 1, kc := c' } w76 (by rw [kset (ks := p.k ++ [c])] at hb76; exact hb76) ⟨⟨o1.keep hk2 fun b hb e => ?_, o2.keep hk2 fun b hb e => ?_, hs76'⟩, ⟨f1, f2, fun b hb => ?_⟩, fun b hb => ⟨fun hi => ?_, fun hi => ?_⟩, d2⟩ hk2
    (fun b hb => ?_) (fun b hb => ?_)
  · rcases e with e | e
    · exact (d1 b e).2 hb
    · exact hn b (.inl hb) e
  · rcases e with e | e
    · exact (d1 b e).1 hb
    · exact hn b (.inr (.inl hb)) e
  · rcases hin b hb with h | h
    · exact f3 b h
    · omega
  · rcases hin b hb with h | h
    · exact (d1 b h).1 hi
    · have := l2 b hi; omega
  · rcases hin b hb with h | h
    · exact (d1 b h).2 hi
    · have := l1 b hi; omega
  · rcases hb with hb | hb | hb
    · exact hn b (.inl hb)
    · exact hn b (.inr (.inl hb))
    · exact hing b hb
  · rcases hb with hb | hb | hb
    · exact .inl (.inl hb)
    · exact .inl (.inr (.inl hb))
    · rcases hin b hb with h | h
      · exact .inl (.inr (.inr h))
      · exact .inr h

/-- The state's way and end are set; it is moved to the result. -/
theorem fin1 {w0 w : World} {g g1 : Nat} {p : Pu} {t : Sl3} {cur : Array Value} (hb : Blk w g (cs p t)) (hb1 : Blk w g1 cur) (hs1 : cur.size = 11) (ho : Ow3 w0 w t p) (hn : ∀ b, inA t.oa b ∨ inA t.ia b ∨ inA t.ka b → b ≠ g ∧ b ≠ g1) (hgg : g ≠ g1) {K : World → Prop}
    (hk : ∀ w', Blk w' g (cs { p with d := 1, e := false } t) → Kept (· = g) w w' → Blk w' g1 cur → Ow3 w0 w' t { p with d := 1, e := false } → K w') :
    stC (Addr.mk g 7 none) (.int .i64 1) w fun w77 => stC (Addr.mk g 8 none) (.bool false) w77 K := by
  refine stC_blk hb (by simp [cs]) fun w2 h2 k2 s2 => ?_
  rw [dset] at h2
  refine stC_blk h2 (by simp [cs]) fun w3 h3 k3 s3 => ?_
  rw [eset] at h3
  have k : Kept (· = g) w w3 := k2.trans k3 fun _ _ e => e
  exact hk w3 h3 k (hb1.keep k (fun e => hgg e.symm)) (ho.keep k fun b hb => (hn b hb).1)

end Go.Proofs.Ytbiofmgebbdflaa
