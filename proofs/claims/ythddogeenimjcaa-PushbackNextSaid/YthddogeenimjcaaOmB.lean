/-
  Modes: equality, the page's reader, the program's printer. Conditions: as each says.
-/
import Derived.Test.YthddogeenimjcaaOm
import Derived.Laws.StructEq
import Derived.Lib.OthersKept
set_option linter.unusedVariables false
namespace Go.Proofs.Ythddogeenimjcaa
open Go.Lw

def boolsB (P : Program) : List Field → Nat → Bool
  | [], o => Nat.beq o 8
  | f :: r, o => Nat.beq f.offset o && !(f.name == "_") && (match P.underlying f.type with | some .bool => true | _ => false) && boolsB P r (o + 1)

theorem eqf {P : Program} {w : World} {xs ys : Array Value} {X Y : Nat → Bool} (hx : ∀ i, i < 8 → xs[i]? = some (.bool (X i))) (hy : ∀ i, i < 8 → ys[i]? = some (.bool (Y i))) (d : Nat) :
    ∀ (fs : List Field) (o : Nat), boolsB P fs o = true → (Op.eqFields (d + 1) xs ys fs).run P w = .ok ((List.range' o fs.length).all fun i => X i == Y i) w ∧ o + fs.length = 8
  | [], o, h => by
    have := Nat.eq_of_beq_eq_true h
    subst this
    exact ⟨rfl, rfl⟩
  | f :: r, o, h => by
    unfold boolsB at h
    simp only [Bool.and_eq_true] at h
    obtain ⟨⟨⟨h1, h2⟩, h3⟩, h4⟩ := h
    have ho : f.offset = o := Nat.eq_of_beq_eq_true h1
    have hn : f.name ≠ "_" := by simpa using h2
    have hu : P.underlying f.type = some .bool := by
      split at h3
      · assumption
      · cases h3
    obtain ⟨ih, hl⟩ := eqf (w := w) hx hy d r (o + 1) h4
    have hlen : o + (f :: r).length = 8 := by simp; omega
    have ho8 : o < 8 := by omega
    have hag : isAggB P f.type = false := by unfold isAggB; rw [hu]
    have px : (part f.type xs f.offset).run P w = .ok (.bool (X o)) w := by
      unfold part
      simp only [Sem.run_bind, run_isAgg hu, hag, Result.andThen_ok, Bool.false_eq_true, if_false, ho, hx o ho8, Sem.run_pure]
    have py : (part f.type ys f.offset).run P w = .ok (.bool (Y o)) w := by
      unfold part
      simp only [Sem.run_bind, run_isAgg hu, hag, Result.andThen_ok, Bool.false_eq_true, if_false, ho, hy o ho8, Sem.run_pure]
    refine ⟨?_, hlen⟩
    unfold Op.eqFields
    simp only [hn, ne_eq, not_false_eq_true, if_true, Sem.run_bind, px, py, Result.andThen_ok, run_equalIn_bool' w d f.type (X o) (Y o) hu]
    cases hxy : (X o == Y o) with
    | false => simp [List.range'_succ, hxy]
    | true => simp [List.range'_succ, hxy, ih]

theorem run_Bind {α β : Type} {P : Program} (m : Sem α) (f : α → Sem β) (w : World) : Sem.run P (Sem.bind m f) w = (m.run P w).andThen fun a w' => (f a).run P w' := by
  have : Sem.bind m f = (m >>= f) := rfl
  rw [this, Sem.run_bind]

def Md.at (m : Md) (i : Nat) : Bool := match i with | 0 => m.r | 1 => m.w | 2 => m.a | 3 => m.c | 4 => m.t | 5 => m.x | 6 => m.b | _ => m.k
theorem Md.cs_at (m : Md) : ∀ i, i < 8 → m.cs[i]? = some (.bool (m.at i)) := by
  intro i hi
  match i, hi with
  | 0, _ => rfl
  | 1, _ => rfl
  | 2, _ => rfl
  | 3, _ => rfl
  | 4, _ => rfl
  | 5, _ => rfl
  | 6, _ => rfl
  | 7, _ => rfl

theorem Md.all_iff (m n : Md) : ((List.range' 0 8).all fun i => m.at i == n.at i) = decide (m = n) := by
  obtain ⟨a0, a1, a2, a3, a4, a5, a6, a7⟩ := m
  obtain ⟨b0, b1, b2, b3, b4, b5, b6, b7⟩ := n
  rw [Bool.eq_iff_iff]
  simp [List.range'_succ, Md.at]

theorem eqMd {w : World} {x y : Operand} (m n : Md) : Sem.run Try.prog (Sem.bind (eqGuard .eql 48 x y (.agg m.cs) (.agg n.cs)) (fun _ => binOp .eql 48 (.agg m.cs) (.agg n.cs))) w = .ok (.bool (decide (m = n))) w := by
  have h1 : Try.prog.eqGuardType Try.prog.depth 48 = false := by kernel_rfl
  have h2 : Try.prog.underlying 48 = some (.struct (Try.prog.fieldsOf 48)) := by kernel_rfl
  have h3 : Try.prog.stoodInHeld 48 = false := by kernel_rfl
  have h4 : boolsB Try.prog (Try.prog.fieldsOf 48).toList 0 = true := by kernel_rfl
  have he := eqf (P := Try.prog) (w := w) m.cs_at n.cs_at 9998 _ 0 h4
  have hlen : (Try.prog.fieldsOf 48).toList.length = 8 := by have := he.2; omega
  rw [run_Bind, run_eqGuard_agg w .eql 48 x y m.cs n.cs h1, Result.andThen_ok, run_eql_struct, run_equalIn_struct w 9999 48 m.cs n.cs h2 h3, he.1, hlen, Md.all_iff]
  rfl

theorem neMd {w : World} {x y : Operand} (m n : Md) : Sem.run Try.prog (Sem.bind (eqGuard .neq 48 x y (.agg m.cs) (.agg n.cs)) (fun _ => binOp .neq 48 (.agg m.cs) (.agg n.cs))) w = .ok (.bool (!decide (m = n))) w := by
  have h1 : Try.prog.eqGuardType Try.prog.depth 48 = false := by kernel_rfl
  have h2 : Try.prog.underlying 48 = some (.struct (Try.prog.fieldsOf 48)) := by kernel_rfl
  have h3 : Try.prog.stoodInHeld 48 = false := by kernel_rfl
  have h4 : boolsB Try.prog (Try.prog.fieldsOf 48).toList 0 = true := by kernel_rfl
  have he := eqf (P := Try.prog) (w := w) m.cs_at n.cs_at 9998 _ 0 h4
  have hlen : (Try.prog.fieldsOf 48).toList.length = 8 := by have := he.2; omega
  rw [run_Bind, run_eqGuard_agg w .neq 48 x y m.cs n.cs h1, Result.andThen_ok, run_neq_struct, run_equalIn_struct w 9999 48 m.cs n.cs h2 h3, he.1, hlen, Md.all_iff]
  rfl

end Go.Proofs.Ythddogeenimjcaa
