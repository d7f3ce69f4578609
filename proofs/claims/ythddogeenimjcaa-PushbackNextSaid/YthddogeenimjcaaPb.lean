/-
  Streams' states: eleven cells and three slices; whether one may be; a copy of one. Conditions: as each says.
-/
import Derived.Test.YthddogeenimjcaaBas
import Derived.Test.YthddogeenimjcaaOmC
import Derived.Test.YthddogeenimjcaaPbL
set_option linter.unusedVariables false
namespace Go.Proofs.Ythddogeenimjcaa
open Go.Lw

structure Pu where
  r : Bool
  w : Bool
  m : Int
  z : Int
  o : List Int
  i : List Int
  k : List Int
  d : Int
  e : Bool
  b : Bool
  c : Bool

structure Sl3 where
  oa : Option Addr
  ol : Nat
  oc : Nat
  ia : Option Addr
  il : Nat
  ic : Nat
  ka : Option Addr
  kl : Nat
  kc : Nat

def cs (p : Pu) (s : Sl3) : Array Value := #[.bool p.r, .bool p.w, .int .i64 p.m, .int .i64 p.z, .slice s.oa s.ol s.oc, .slice s.ia s.il s.ic, .slice s.ka s.kl s.kc, .int .i64 p.d, .bool p.e, .bool p.b, .bool p.c]

def Rd3 (w : World) (s : Sl3) (p : Pu) : Prop := RdB w s.oa s.ol s.oc p.o ∧ RdB w s.ia s.il s.ic p.i ∧ RdB w s.ka s.kl s.kc p.k

def Ow3 (w0 w : World) (s : Sl3) (p : Pu) : Prop :=
  (OB w s.oa s.ol s.oc p.o ∧ OB w s.ia s.il s.ic p.i ∧ OB w s.ka s.kl s.kc p.k) ∧ (Fresh w0 s.oa ∧ Fresh w0 s.ia ∧ Fresh w0 s.ka) ∧
    (∀ b, inA s.ka b → ¬ inA s.ia b ∧ ¬ inA s.oa b) ∧ (∀ b, inA s.ia b → ¬ inA s.oa b)

def Bd (p : Pu) : Prop := p.o.length ≤ 140737488355328 ∧ p.i.length ≤ 140737488355328 ∧ p.k.length ≤ 140737488355328

theorem Rd3.keep {w w' : World} {s : Sl3} {p : Pu} (h : Rd3 w s p) {S : Nat → Prop} (k : Kept S w w') (hn : ∀ b, b < w.heap.size → inA s.oa b ∨ inA s.ia b ∨ inA s.ka b → ¬ S b) : Rd3 w' s p :=
  ⟨h.1.keep k fun b hb hi => hn b hb (.inl hi), h.2.1.keep k fun b hb hi => hn b hb (.inr (.inl hi)), h.2.2.keep k fun b hb hi => hn b hb (.inr (.inr hi))⟩

theorem Rd3.no {w w' : World} {s : Sl3} {p : Pu} (h : Rd3 w s p) (k : Kept No w w') : Rd3 w' s p := h.keep k fun _ _ _ e => e

theorem Ow3.rd {w0 w : World} {s : Sl3} {p : Pu} (h : Ow3 w0 w s p) : Rd3 w s p := ⟨h.1.1.rd, h.1.2.1.rd, h.1.2.2.rd⟩

theorem Ow3.keep {w0 w w' : World} {s : Sl3} {p : Pu} (h : Ow3 w0 w s p) {S : Nat → Prop} (k : Kept S w w') (hn : ∀ b, inA s.oa b ∨ inA s.ia b ∨ inA s.ka b → ¬ S b) : Ow3 w0 w' s p :=
  ⟨⟨h.1.1.keep k fun b hi => hn b (.inl hi), h.1.2.1.keep k fun b hi => hn b (.inr (.inl hi)), h.1.2.2.keep k fun b hi => hn b (.inr (.inr hi))⟩, h.2⟩

theorem Ow3.no {w0 w w' : World} {s : Sl3} {p : Pu} (h : Ow3 w0 w s p) (k : Kept No w w') : Ow3 w0 w' s p := h.keep k fun _ _ e => e

theorem Fresh.base {w w0 : World} {a : Option Addr} (h : Fresh w a) (hs : w0.heap.size ≤ w.heap.size) : Fresh w0 a := fun b hb => Nat.le_trans hs (h b hb)

theorem Ow3.base {w1 w0 w : World} {s : Sl3} {p : Pu} (h : Ow3 w1 w s p) (hs : w0.heap.size ≤ w1.heap.size) : Ow3 w0 w s p :=
  ⟨h.1, ⟨Fresh.base h.2.1.1 hs, Fresh.base h.2.1.2.1 hs, Fresh.base h.2.1.2.2 hs⟩, h.2.2⟩

theorem set11 {cur : Array Value} (hs : cur.size = 11) (v0 v1 v2 v3 v4 v5 v6 v7 v8 v9 v10 : Value) :
    (((((((((((cur.setIfInBounds 0 v0).setIfInBounds 1 v1).setIfInBounds 2 v2).setIfInBounds 3 v3).setIfInBounds 4 v4).setIfInBounds 5 v5).setIfInBounds 6 v6).setIfInBounds 7 v7).setIfInBounds 8 v8).setIfInBounds 9 v9).setIfInBounds 10 v10) = #[v0, v1, v2, v3, v4, v5, v6, v7, v8, v9, v10] := by
  obtain ⟨l⟩ := cur
  match l, hs with
  | [a0, a1, a2, a3, a4, a5, a6, a7, a8, a9, a10], _ => simp

theorem st11 {w : World} {g : Nat} {cur : Array Value} (h : Blk w g cur) (hs : cur.size = 11) {p : Pu} {s : Sl3} {K : World → Prop} (hk : ∀ w', Blk w' g (cs p s) → Kept (· = g) w w' → K w') :
    stC (Addr.mk g 0 none) (.bool p.r) w fun w1 => stC (Addr.mk g 1 none) (.bool p.w) w1 fun w2 => stC (Addr.mk g 2 none) (.int .i64 p.m) w2 fun w3 => stC (Addr.mk g 3 none) (.int .i64 p.z) w3 fun w4 => stC (Addr.mk g 4 none) (.slice s.oa s.ol s.oc) w4 fun w5 => stC (Addr.mk g 5 none) (.slice s.ia s.il s.ic) w5 fun w6 => stC (Addr.mk g 6 none) (.slice s.ka s.kl s.kc) w6 fun w7 => stC (Addr.mk g 7 none) (.int .i64 p.d) w7 fun w8 => stC (Addr.mk g 8 none) (.bool p.e) w8 fun w9 => stC (Addr.mk g 9 none) (.bool p.b) w9 fun w10 => stC (Addr.mk g 10 none) (.bool p.c) w10 K := by
  have z : ∀ {c : Array Value} (i : Nat) (v : Value), c.size = 11 → (c.setIfInBounds i v).size = 11 := fun i v hc => by rw [Array.size_setIfInBounds]; exact hc
  have k0 : Kept (· = g) w w := Kept.refl _ _
  refine stC_blk h (by omega) fun w1 h1 k1 s1 => ?_
  have z1 := z 0 (.bool p.r) hs
  refine stC_blk h1 (by omega) fun w2 h2 k2 s2 => ?_
  have z2 := z 1 (.bool p.w) z1
  refine stC_blk h2 (by omega) fun w3 h3 k3 s3 => ?_
  have z3 := z 2 (.int .i64 p.m) z2
  refine stC_blk h3 (by omega) fun w4 h4 k4 s4 => ?_
  have z4 := z 3 (.int .i64 p.z) z3
  refine stC_blk h4 (by omega) fun w5 h5 k5 s5 => ?_
  have z5 := z 4 (.slice s.oa s.ol s.oc) z4
  refine stC_blk h5 (by omega) fun w6 h6 k6 s6 => ?_
  have z6 := z 5 (.slice s.ia s.il s.ic) z5
  refine stC_blk h6 (by omega) fun w7 h7 k7 s7 => ?_
  have z7 := z 6 (.slice s.ka s.kl s.kc) z6
  refine stC_blk h7 (by omega) fun w8 h8 k8 s8 => ?_
  have z8 := z 7 (.int .i64 p.d) z7
  refine stC_blk h8 (by omega) fun w9 h9 k9 s9 => ?_
  have z9 := z 8 (.bool p.e) z8
  refine stC_blk h9 (by omega) fun w10 h10 k10 s10 => ?_
  have z10 := z 9 (.bool p.b) z9
  refine stC_blk h10 (by omega) fun w11 h11 k11 s11 => ?_
  have z11 := z 10 (.bool p.c) z10
  rw [set11 hs] at h11
  exact hk w11 h11 (((((((((((k1.trans k2 fun _ _ e => e).trans k3 fun _ _ e => e).trans k4 fun _ _ e => e).trans k5 fun _ _ e => e).trans k6 fun _ _ e => e).trans k7 fun _ _ e => e).trans k8 fun _ _ e => e).trans k9 fun _ _ e => e).trans k10 fun _ _ e => e).trans k11 fun _ _ e => e))

theorem ld11 {w : World} {g : Nat} {p : Pu} {s : Sl3} (h : Blk w g (cs p s)) {K : Bool → Bool → Int → Int → Option Addr → Nat → Nat → Option Addr → Nat → Nat → Option Addr → Nat → Nat → Int → Bool → Bool → Bool → Prop} (hk : K p.r p.w p.m p.z s.oa s.ol s.oc s.ia s.il s.ic s.ka s.kl s.kc p.d p.e p.b p.c) :
    ∃ (b0 : Bool) (b1 : Bool) (n2 : Int) (n3 : Int) (a4 : Option Addr) (l4 : Nat) (c4 : Nat) (a5 : Option Addr) (l5 : Nat) (c5 : Nat) (a6 : Option Addr) (l6 : Nat) (c6 : Nat) (n7 : Int) (b8 : Bool) (b9 : Bool) (b10 : Bool), w.cell? (Addr.mk g 0 none) = some (.bool b0) ∧ w.cell? (Addr.mk g 1 none) = some (.bool b1) ∧ w.cell? (Addr.mk g 2 none) = some (.int .i64 n2) ∧ w.cell? (Addr.mk g 3 none) = some (.int .i64 n3) ∧ w.cell? (Addr.mk g 4 none) = some (.slice a4 l4 c4) ∧ w.cell? (Addr.mk g 5 none) = some (.slice a5 l5 c5) ∧ w.cell? (Addr.mk g 6 none) = some (.slice a6 l6 c6) ∧ w.cell? (Addr.mk g 7 none) = some (.int .i64 n7) ∧ w.cell? (Addr.mk g 8 none) = some (.bool b8) ∧ w.cell? (Addr.mk g 9 none) = some (.bool b9) ∧ w.cell? (Addr.mk g 10 none) = some (.bool b10) ∧ K b0 b1 n2 n3 a4 l4 c4 a5 l5 c5 a6 l6 c6 n7 b8 b9 b10 :=
  ⟨_, _, _, _, _, _, _, _, _, _, _, _, _, _, _, _, _, (h.cell 0).trans rfl, (h.cell 1).trans rfl, (h.cell 2).trans rfl, (h.cell 3).trans rfl, (h.cell 4).trans rfl, (h.cell 5).trans rfl, (h.cell 6).trans rfl, (h.cell 7).trans rfl, (h.cell 8).trans rfl, (h.cell 9).trans rfl, (h.cell 10).trans rfl, hk⟩


/-! ## May a state be? -/

def ckV (r w c : Bool) (m z d : Int) (ol il kl : Nat) : Prop := 1 ≤ m ∧ m ≤ 3 ∧ 1 ≤ z ∧ z ≤ 65536 ∧ (d = 0 ∨ d = 1 ∨ d = 2) ∧ (ol : Int) ≤ z ∧ (m = 1 → ol = 0) ∧ il ≤ 65536 ∧ kl ≤ 8 ∧
  (d = 1 → r = true) ∧ (d = 2 → w = true) ∧ (d ≠ 2 → ol = 0) ∧ (d ≠ 1 → il + kl = 0) ∧ (c = true → d = 0)

def ckP (p : Pu) : Prop := ckV p.r p.w p.c p.m p.z p.d p.o.length p.i.length p.k.length

instance (p : Pu) : Decidable (ckP p) := by unfold ckP ckV; infer_instance

def begP (p : Pu) : Int := if ckP p then (if p.c = true then 113 else 0) else 51

theorem buf_ok {w : World} (m z : Int) : CallR Try.prog 29 [.int .i64 m, .int .i64 z] w fun v w' => v = .int .i64 (if m < 1 ∨ 3 < m then 1 else if z < 1 ∨ 65536 < z then 4 else 0) ∧ w' = w := by
  refine C29 ?_
  unfold L29
  refine condP (fun h1 => ?_) (fun h1 => condP (fun h2 => ?_) (fun h2 => condP (fun h3 => ?_) (fun h3 => condP (fun h4 => ?_) (fun h4 => ?_))))
  · exact ⟨by rw [if_pos (.inl h1)], rfl⟩
  · exact ⟨by rw [if_pos (.inr h2)], rfl⟩
  · exact ⟨by rw [if_neg (by omega), if_pos (.inl h3)], rfl⟩
  · exact ⟨by rw [if_neg (by omega), if_pos (.inr h4)], rfl⟩
  · exact ⟨by rw [if_neg (by omega), if_neg (by omega)], rfl⟩


theorem condE {a b : Int} {A B : Prop} (ha : a = b → A) (hb : a ≠ b → B) : cond (a == b) A B := condI (fun h => ha (by simpa using h)) (fun h => hb (by simpa using h))
theorem condN {a b : Int} {A B : Prop} (ha : a ≠ b → A) (hb : a = b → B) : cond (a != b) A B := condI (fun h => ha (by simpa using h)) (fun h => hb (by simpa using h))
theorem condNE {a b : Int} {A B : Prop} (ha : a ≠ b → A) (hb : a = b → B) : cond (!(a == b)) A B := condI (fun h => ha (by simpa using h)) (fun h => hb (by simpa using h))
theorem condTr {A B : Prop} (h : A) : cond true A B := h
theorem condFa {A B : Prop} (h : B) : cond false A B := h

end Go.Proofs.Ythddogeenimjcaa
