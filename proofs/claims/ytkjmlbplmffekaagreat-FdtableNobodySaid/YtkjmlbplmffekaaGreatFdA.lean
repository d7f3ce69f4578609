/-
  The example of the table's law; whether numbers are the same. Conditions: as each says.
-/
import Derived.Test.YtkjmlbplmffekaaGreatFdB
import Derived.Test.YtkjmlbplmffekaaGreatLFe
set_option linter.unusedVariables false
namespace Go.Proofs.YtkjmlbplmffekaaGreat
open Go.Lw

theorem tnum_to {w : World} {n : Int} {Q : Value → World → Prop} (h : Q (.int .i64 n) w) : CallR Tryz.prog 42 [.int .i64 n] w Q := C42 h

theorem In_len {w : World} {a : Option Addr} {l c : Nat} {xs : List Int} (h : RdS 1 w a l c (In xs)) : xs.length = l := by have := h.1; rw [In_length] at this; omega
theorem In_cell {w : World} {a : Option Addr} {l c : Nat} {xs : List Int} (h : RdS 1 w a l c (In xs)) {i : Nat} (hi : i < xs.length) : ∃ q, a = some q ∧ w.cell? (q.add i) = some (.int .i64 xs[i]) := by
  cases a with
  | none =>
    have := (RdS.isNone h rfl).1
    have := In_len h
    omega
  | some q => exact ⟨q, rfl, h.2.2.2 q rfl i _ (In_get xs i hi)⟩

theorem sameInts_ok {w : World} {a : Option Addr} {l c : Nat} {xs : List Int} (h : RdS 1 w a l c (In xs)) {a2 : Option Addr} {l2 c2 : Nat} {ys : List Int} (h2 : RdS 1 w a2 l2 c2 (In ys)) (hl : l ≤ 140737488355328) :
    CallR Tryz.prog 51 [.slice a l c, .slice a2 l2 c2] w fun v w' => v = .bool (decide (xs = ys)) ∧ Kept No w w' := by
  refine C51 ?_
  unfold L51
  have hlen := In_len h
  have hlen2 := In_len h2
  refine condN (fun hne => ⟨?_, Kept.refl _ _⟩) (fun heq => ?_)
  · have : xs ≠ ys := by rintro rfl; omega
    simp [this]
  · have hll : l = l2 := by omega
    refine ⟨fun vs w' => Kept No w w' ∧ ∃ n : Nat, vs = [.int .i64 (n : Int)] ∧ n ≤ l ∧ xs.take n = ys.take n, fun vs _ => l - ix vs, ⟨Kept.refl _ _, 0, rfl, Nat.zero_le _, by simp⟩, fun _ n4 w1 hI => ?_⟩
    obtain ⟨hk, n, hv, hn, htk⟩ := hI
    simp only [List.cons.injEq, Value.int.injEq, true_and, and_true] at hv
    subst hv
    refine condP (fun hlt => ?_) (fun hge => ?_)
    · have hx : n < xs.length := by omega
      have hy : n < ys.length := by omega
      obtain ⟨q, ha, hg⟩ := In_cell (h.keep hk (fun _ _ _ e => e)) hx
      obtain ⟨q2, ha2, hg2⟩ := In_cell (h2.keep hk (fun _ _ _ e => e)) hy
      refine ⟨⟨by omega, hlt⟩, nnE2 ha ⟨_, by simpa using hg, ⟨by omega, by omega⟩, nnE2 ha2 ⟨_, by simpa using hg2, fun nd => ?_⟩⟩⟩
      have hkd : Kept No w (w1.drewN nd) := hk.no (Kept.drewN _ _ _)
      refine condN (fun hne => ⟨?_, hkd⟩) (fun he => ⟨⟨by omega, by omega⟩, ⟨hkd, n + 1, by simp, by omega, ?_⟩, ?_⟩)
      · have : xs ≠ ys := by rintro rfl; exact hne rfl
        simp [this]
      · rw [List.take_add_one, List.take_add_one, htk, List.getElem?_eq_getElem hx, List.getElem?_eq_getElem hy, he]
      · simp only [ix]; omega
    · have : n = l := by omega
      subst this
      rw [List.take_of_length_le (by omega), List.take_of_length_le (by omega)] at htk
      exact ⟨by simp [htk], hk⟩

def nA : ByteArray := ByteArray.mk #[97]
def nB : ByteArray := ByteArray.mk #[98]
def fs7 : List (ByteArray × List Int) := [(nA, []), (nB, [])]
def a7 : AK := AK.new fs7 [] []
def a7a := tOpen slots0 a7 nA 1
def a7b := tDup a7a.2.2.1 a7a.2.2.2 0
def a7c := tClose a7b.2.2.1 a7b.2.2.2 0
def a7d := tOpen a7c.2.1 a7c.2.2 nB 1
def a7e := tDupTo a7d.2.2.1 a7d.2.2.2 1 5
def a7f := tMark a7e.2.1 1 true
def a7g := tFork a7f.2 a7e.2.2

theorem KernO.keepT {w w' : World} {gk t : Nat} {s : AK} {L : KL} (h : KernO w gk s L) (hn : L.own t = none) (k : Kept (· = t) w w') : KernO w' gk s L := h.keep k fun x e => by rw [e]; exact hn

set_option maxHeartbeats 1000000 in
theorem alive7_ok {w : World} : CallR Tryz.prog 39 [] w fun v w' => v = .bool true ∧ Kept No w w' := by
  refine C39 ?_
  unfold L39
  intro w1
  have hb1 : Blk w1 w.heap.size #[.string nA, .slice none 0 0, .string nB, .slice none 0 0] := Blk.alloc _ _ _
  have hk1 : Kept No w w1 := Kept.alloc _ _ _
  clear_value w1
  have hfs : RdN RB w1 (some ⟨w.heap.size, 0, none⟩) 2 2 fs7 [(nA, (none, 0, 0)), (nB, (none, 0, 0))] :=
    ⟨(SlO.of_blk (sz := 2) (n := 2) hb1 (by simp)).rd, rfl, fun i h1 h2 => by
      match i, h1, h2 with
      | 0, _, _ => exact ⟨rfl, RdB.nil _⟩
      | 1, _, _ => exact ⟨rfl, RdB.nil _⟩⟩
  have hnil : RdN RL w1 none 0 0 ([] : List (ByteArray × List (List Int))) [] := ⟨RdS.nil 2 w1, rfl, fun i h1 h2 => by simp at h1⟩
  refine CallR.mono (kernNew_ok hfs hnil (ps := []) (RdS.nil 2 w1) (by omega) (by omega)) ?_
  rintro v w2 ⟨hk2, ⟨hne, _⟩ | ⟨_, gk, L2, rfl, h2, hL⟩⟩
  · exact absurd (by kernel_rfl : checkK fs7 [] [] = 0) hne
  have h2 : KernO w2 gk a7 L2 := h2
  have k2 := hk1.no hk2
  refine ⟨_, _, rfl, CallR.mono (tnew_okT gk) ?_⟩
  rintro v w3 ⟨rfl, hT3, hk3⟩
  have h3 := h2.no hk3
  have hn3 : L2.own w2.heap.size = none := h2.new_none (Nat.le_refl _)
  have hz1 := hk1.size
  have hz2 := k2.size
  refine ⟨_, rfl, tnum_to ⟨_, rfl, condFa2 (condFa2 ?_)⟩⟩
  have hx : a7.next = 1 := by kernel_rfl
  refine CallR.mono (topen_ok hT3 h3 hn3 nA 1 (by omega)) ?_
  rintro v w5 ⟨rfl, L5, hT5, h5, st5⟩
  have hT5 : TabO w5 _ gk a7a.2.2.1 := hT5
  have h5 : KernO w5 gk a7a.2.2.2 L5 := h5
  have hn5 := st5.own hn3 hT3.lt
  rw [show (tOpen slots0 a7 nA 1).1 = 0 by kernel_rfl, show (tOpen slots0 a7 nA 1).2.1 = 0 by kernel_rfl]
  refine ⟨_, _, rfl, CallR.mono (tdup_ok hT5 h5 hn5 0) ?_⟩
  rintro v w6 ⟨rfl, L6, hT6, h6, st6⟩
  have hT6 : TabO w6 _ gk a7b.2.2.1 := hT6
  have h6 : KernO w6 gk a7b.2.2.2 L6 := h6
  have hn6 := st6.own hn5 hT5.lt
  rw [show (tDup a7a.2.2.1 a7a.2.2.2 0).1 = 1 by kernel_rfl, show (tDup a7a.2.2.1 a7a.2.2.2 0).2.1 = 0 by kernel_rfl]
  refine ⟨_, _, rfl, CallR.mono (tclose_ok hT6 h6 hn6 0) ?_⟩
  rintro v w7 ⟨rfl, L7, hT7, h7, st7⟩
  have hT7 : TabO w7 _ gk a7c.2.1 := hT7
  have h7 : KernO w7 gk a7c.2.2 L7 := h7
  have hn7 := st7.own hn6 hT6.lt
  rw [show (tClose a7b.2.2.1 a7b.2.2.2 0).1 = 0 by kernel_rfl]
  have hx : a7c.2.2.next = 2 := by kernel_rfl
  refine ⟨_, rfl, CallR.mono (topen_ok hT7 h7 hn7 nB 1 (by omega)) ?_⟩
  rintro v w8 ⟨rfl, L8, hT8, h8, st8⟩
  have hT8 : TabO w8 _ gk a7d.2.2.1 := hT8
  have h8 : KernO w8 gk a7d.2.2.2 L8 := h8
  have hn8 := st8.own hn7 hT7.lt
  rw [show (tOpen a7c.2.1 a7c.2.2 nB 1).1 = 0 by kernel_rfl, show (tOpen a7c.2.1 a7c.2.2 nB 1).2.1 = 0 by kernel_rfl]
  refine ⟨_, _, rfl, CallR.mono (tdupto_ok hT8 h8 hn8 1 5) ?_⟩
  rintro v w9 ⟨rfl, L9, hT9, h9, st9⟩
  have hT9 : TabO w9 _ gk a7e.2.1 := hT9
  have h9 : KernO w9 gk a7e.2.2 L9 := h9
  have hn9 := st9.own hn8 hT8.lt
  rw [show (tDupTo a7d.2.2.1 a7d.2.2.2 1 5).1 = 0 by kernel_rfl]
  refine ⟨_, rfl, CallR.mono (tmark_ok hT9 1 true) ?_⟩
  rintro v w10 ⟨rfl, hT10, hk10⟩
  have hT10 : TabO w10 _ gk a7f.2 := hT10
  have h10 := h9.keepT hn9 hk10
  rw [show (tMark a7e.2.1 1 true).1 = 0 by kernel_rfl]
  refine ⟨_, rfl, CallR.mono (tfork_ok hT10 h10 hn9) ?_⟩
  rintro v w11 ⟨c, L11, rfl, hc, hT11, h11, hn11, st11⟩
  have hT11 : TabO w11 c gk a7g.1 := hT11
  have st : TStep w2.heap.size w3 w11 L2 L11 := ((((((st5.trans st6).trans st7).trans st8).trans st9).trans (.of_t hk10)).trans (.of_k st11))
  have k11 : Kept No w w11 := (k2.no hk3).trans st.kept fun x hx e => by
    rcases e with e | e
    · have := hL x e; omega
    · omega
  refine ⟨_, rfl, tnum_to ⟨_, rfl, tnum_to ⟨_, rfl, ⟨by omega, by omega⟩, tnum_to ⟨_, rfl, ⟨by omega, by omega⟩, tnum_to ⟨_, rfl, ⟨by omega, by omega⟩, tnum_to ⟨_, rfl, ⟨by omega, by omega⟩, tnum_to ⟨_, rfl, ⟨by omega, by omega⟩, ?_⟩⟩⟩⟩⟩⟩⟩
  refine condTr2 (condTr2 (condTr2 (condTr2 (condTr2 (CallR.mono (tlist_ok hT11) ?_)))))
  rintro v w18 ⟨a, l, cc, rfl, hs, hf, hk18⟩
  refine ⟨_, _, _, rfl, ?_⟩
  intro w19
  have hb19 : Blk w19 w18.heap.size #[.int .i64 0, .int .i64 5] := Blk.alloc _ _ _
  have hk19 : Kept No w18 w19 := Kept.alloc _ _ _
  clear_value w19
  have hlit : RdS 1 w19 (some ⟨w18.heap.size, 0, none⟩) 2 2 (In [0, 5]) := (SlO.of_blk (sz := 1) (n := 2) hb19 (by simp)).rd
  have hll := In_len hs.rd
  have hus := (usedL_lt a7g.1 64 0).1
  refine CallR.mono (sameInts_ok (hs.rd.keep hk19 fun _ _ _ e => e) hlit (by unfold castI at hll; rw [List.length_map] at hll; have : (usedIx a7g.1).length ≤ 64 := hus; omega)) ?_
  rintro v w20 ⟨rfl, hk20⟩
  refine ⟨_, rfl, ?_, ((k11.no hk18).no hk19).no hk20⟩
  rw [show castI (usedIx a7g.1) = [0, 5] by kernel_rfl]
  rfl

end Go.Proofs.YtkjmlbplmffekaaGreat
