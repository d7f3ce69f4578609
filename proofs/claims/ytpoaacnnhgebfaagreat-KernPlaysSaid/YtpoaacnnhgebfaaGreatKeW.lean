/-
  A row's raw calls, one by one. Conditions: as each says.
-/
import Derived.Test.YtpoaacnnhgebfaaGreatKeV
import Derived.Test.YtpoaacnnhgebfaaGreatCf
set_option linter.unusedVariables false
namespace Go.Proofs.YtpoaacnnhgebfaaGreat
open Go.Lw

/-- A raw call as a law has it. -/
structure SV where
  what : Int
  nm : ByteArray
  a : Int
  b : Int
  c : Int
  sl : Slc
  bs : List Int

instance : Inhabited SV := ⟨⟨0, ByteArray.mk #[], 0, 0, 0, (none, 0, 0), []⟩⟩

/-- Its cells. -/
structure SVat (w : World) (q : Addr) (x : SV) : Prop where
  e0 : w.cell? q = some (.int .i64 x.what)
  e1 : w.cell? (q.add 1) = some (.string x.nm)
  e2 : w.cell? (q.add 2) = some (.int .i64 x.a)
  e3 : w.cell? (q.add 3) = some (.int .i64 x.b)
  e4 : w.cell? (q.add 4) = some (.int .i64 x.c)
  e5 : w.cell? (q.add 5) = some (.slice x.sl.1 x.sl.2.1 x.sl.2.2)
  rd : RdB w x.sl.1 x.sl.2.1 x.sl.2.2 x.bs
  le : x.sl.2.1 ≤ 140737488351232

theorem SVat.no {w w' : World} {q : Addr} {x : SV} (h : SVat w q x) (k : Kept No w w') : SVat w' q x :=
  ⟨k.cell h.e0 fun e => e, k.cell h.e1 fun e => e, k.cell h.e2 fun e => e, k.cell h.e3 fun e => e, k.cell h.e4 fun e => e, k.cell h.e5 fun e => e, h.rd.keep k fun _ _ _ e => e, h.le⟩

/-- A row's raw calls. -/
def StepsO (w : World) (a : Option Addr) (l : Nat) (xs : List SV) : Prop := xs.length = l ∧ ∀ i, (h : i < xs.length) → ∃ q, a = some q ∧ SVat w (q.add (i * 6)) xs[i]

theorem StepsO.no {w w' : World} {a : Option Addr} {l : Nat} {xs : List SV} (h : StepsO w a l xs) (k : Kept No w w') : StepsO w' a l xs :=
  ⟨h.1, fun i hi => by
    obtain ⟨q, hq, hs⟩ := h.2 i hi
    exact ⟨q, hq, hs.no k⟩⟩

theorem steps_of_view {W : World} {a : Option Addr} {l c : Nat} (hlc : l ≤ c) (hz : a = none → c = 0)
    (h : ∀ q : Addr, a = some q → ∀ i : Nat, i < l → ∃ n1, (Lit.int .i64 n1).wf = true ∧ ∃ s : ByteArray, s.size ≤ 140737488351232 ∧ ∃ n2, (Lit.int .i64 n2).wf = true ∧ ∃ n3, (Lit.int .i64 n3).wf = true ∧ ∃ n4, (Lit.int .i64 n4).wf = true ∧
      ∃ (a' : Option Addr) (l' c' : Nat) (ns : List Int), RdS 1 W a' l' c' (ns.map (Value.int .u8)) ∧ (∀ n ∈ ns, (Lit.int .u8 n).wf = true) ∧ l' * 1 ≤ 140737488351232 ∧
      W.cell? (q.add (i * 6)) = some (.int .i64 n1) ∧ W.cell? ((q.add (i * 6)).add 1) = some (.string s) ∧ W.cell? ((q.add (i * 6)).add 2) = some (.int .i64 n2) ∧ W.cell? ((q.add (i * 6)).add 3) = some (.int .i64 n3) ∧ W.cell? ((q.add (i * 6)).add 4) = some (.int .i64 n4) ∧ W.cell? ((q.add (i * 6)).add 5) = some (.slice a' l' c') ∧ True) :
    ∃ xs, StepsO W a l xs := by
  cases a with
  | none =>
    have := hz rfl
    obtain rfl : l = 0 := by omega
    exact ⟨[], rfl, fun i hi => by simp at hi⟩
  | some q =>
    obtain ⟨f, hf⟩ := Deep.choose_lt (α := SV) (n := l) (p := fun i x => SVat W (q.add (i * 6)) x) (fun i hi => by
      obtain ⟨n1, _, s, _, n2, _, n3, _, n4, _, a', l', c', ns, h1, _, h2, g0, g1, g2, g3, g4, g5, _⟩ := h q rfl i hi
      exact ⟨⟨n1, s, n2, n3, n4, (a', l', c'), ns⟩, g0, g1, g2, g3, g4, g5, h1, by simpa using h2⟩)
    refine ⟨(List.range l).map f, by simp, fun i hi => ⟨q, rfl, ?_⟩⟩
    have hi : i < l := by simpa using hi
    rw [List.getElem_map, List.getElem_range]
    exact hf i hi


/-- A row's setup. -/
theorem setup_of_view {W : World} {a1 : Option Addr} {l1 c1 : Nat} (h1 : l1 ≤ c1) (h2 : a1 = none → c1 = 0) (h3 : l1 * 40 ≤ 140737488351232)
    (h4 : ∀ q : Addr, a1 = some q → ∀ i : Nat, i < l1 → ∃ s : ByteArray, s.size ≤ 140737488351232 ∧ ∃ (a' : Option Addr) (l' c' : Nat) (ns : List Int), RdS 1 W a' l' c' (ns.map (Value.int .u8)) ∧ (∀ n ∈ ns, (Lit.int .u8 n).wf = true) ∧ l' * 1 ≤ 140737488351232 ∧ W.cell? (q.add (i * 2)) = some (.string s) ∧ W.cell? ((q.add (i * 2)).add 1) = some (.slice a' l' c') ∧ True)
    {a2 : Option Addr} {l2 c2 : Nat} (g1 : l2 ≤ c2) (g2 : a2 = none → c2 = 0) (g3 : l2 * 40 ≤ 140737488351232)
    (g4 : ∀ q : Addr, a2 = some q → ∀ i : Nat, i < l2 → ∃ s : ByteArray, s.size ≤ 140737488351232 ∧ ∃ (a' : Option Addr) (l' c' : Nat), l' ≤ c' ∧ (a' = none → c' = 0) ∧ l' * 24 ≤ 140737488351232 ∧
      (∀ q' : Addr, a' = some q' → ∀ j : Nat, j < l' → ∃ (a'' : Option Addr) (l'' c'' : Nat) (ns : List Int), RdS 1 W a'' l'' c'' (ns.map (Value.int .u8)) ∧ (∀ n ∈ ns, (Lit.int .u8 n).wf = true) ∧ l'' * 1 ≤ 140737488351232 ∧ W.cell? (q'.add (j * 1)) = some (.slice a'' l'' c'') ∧ True) ∧
      W.cell? (q.add (i * 2)) = some (.string s) ∧ W.cell? ((q.add (i * 2)).add 1) = some (.slice a' l' c') ∧ True)
    {a3 : Option Addr} {l3 c3 : Nat} (k1 : l3 ≤ c3) (k2 : a3 = none → c3 = 0) (k3 : l3 * 16 ≤ 140737488351232)
    (k4 : ∀ q : Addr, a3 = some q → ∀ i : Nat, i < l3 → ∃ n1, (Lit.int .i64 n1).wf = true ∧ ∃ n2, (Lit.int .i64 n2).wf = true ∧ W.cell? (q.add (i * 2)) = some (.int .i64 n1) ∧ W.cell? ((q.add (i * 2)).add 1) = some (.int .i64 n2) ∧ True) :
    ∃ fs ts ps, SetupO W fs ts ps a1 l1 c1 a2 l2 c2 a3 l3 c3 := by
  obtain ⟨fs, ef, hf, _, hfb⟩ := rdN_of (R := RB) (B := fun bs => bs.length ≤ 140737488355328) h1 h2 (fun q hq i hi => by
    obtain ⟨s, _, a', l', c', ns, r1, _, r2, r3, r4, _⟩ := h4 q hq i hi
    have r1 : RdB W a' l' c' ns := r1
    exact ⟨s, (a', l', c'), ns, r1, by have := r1.len; omega, r3, r4⟩)
  obtain ⟨ts, et, ht, _, htb⟩ := rdN_of (R := RL) (B := fun LL => LL.length * 24 ≤ 140737488355328) g1 g2 (fun q hq i hi => by
    obtain ⟨s, _, a', l', c', r1, r2, r3, r4, r5, r6, _⟩ := g4 q hq i hi
    obtain ⟨xss, e1, e2, _⟩ := rdL_of_view r1 r2 r4
    exact ⟨s, (a', l', c'), xss, ⟨e1.mono fun _ _ => trivial, fun x hx => by have := e2 x hx; omega⟩, by have := e1.len; omega, r5, r6⟩)
  obtain ⟨ps, hp, _⟩ := rdF_of_view k1 k2 k4
  exact ⟨fs, ts, ps, ⟨ef, hf⟩, ⟨et, ht⟩, hp, by omega, by omega, by omega, hfb, htb⟩

end Go.Proofs.YtpoaacnnhgebfaaGreat
