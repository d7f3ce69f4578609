/-
  A kernel's value: which description and which thing is there behind a change. Conditions: as each says.
  A kernel's beginning as a value, and what a check that passes says of it. Conditions: as each says.
  Calls that are made again and again, as values: over a kernel's value. Conditions: as each says.
  What a raw read leaves, as values: how long its answer is, what it counts. Conditions: as each says.
  Files through descriptions, as values: an opening of what is there, reads and writes by other descriptions, a seek. Conditions: as each says.
  What a kernel says would wait, against what its calls answer, as values. Conditions: as each says.
-/
import Derived.Test.YtpoaacnnhgebfaaGreatKeG
import Derived.Test.YtpoaacnnhgebfaaGreatKeK
set_option linter.unusedVariables false
namespace Go.Proofs.YtpoaacnnhgebfaaGreat
open Go.Lw
namespace AK

theorem desc_setD (s : AK) (d' at_ hd d : Int) : (s.setD d' at_ hd).desc d = (s.desc d).map fun x => if x.num = d' then { x with at_ := at_, hd := hd } else x := by
  unfold desc setD
  dsimp only
  rw [List.find?_map]
  congr 1
  congr 1
  funext x
  show decide ((if x.num = d' then ({ x with at_ := at_, hd := hd } : AD) else x).num = d) = _
  by_cases e : x.num = d'
  · rw [if_pos e]
  · rw [if_neg e]

theorem desc_setD_same {s : AK} {d at_ hd : Int} {x : AD} (h : s.desc d = some x) : (s.setD d at_ hd).desc d = some { x with at_ := at_, hd := hd } := by
  rw [desc_setD, h]
  show some (if x.num = d then _ else x) = _
  rw [if_pos (desc_some h).2]

theorem desc_setD_ne {s : AK} {d' at_ hd d : Int} (hd' : d ≠ d') : (s.setD d' at_ hd).desc d = s.desc d := by
  rw [desc_setD]
  cases h : s.desc d with
  | none => rfl
  | some x =>
    show some (if x.num = d' then _ else x) = _
    rw [if_neg (fun e => hd' (by rw [← e]; exact (desc_some h).2.symm))]

theorem desc_newD_old {s : AK} {i : Nat} {fl d : Int} (hd : d ≠ s.next) : (s.newD i fl).desc d = s.desc d := by
  unfold desc newD
  dsimp only
  rw [List.find?_append]
  cases h : s.descs.find? (fun x => decide (x.num = d)) with
  | some x => rfl
  | none =>
    rw [Option.none_or, List.find?_cons_of_neg (by simpa using fun e => hd e.symm)]
    rfl

theorem desc_newD_new {s : AK} (h : s.Ok) {i : Nat} {fl : Int} : (s.newD i fl).desc s.next = some ⟨s.next, i, fl, 0, 1⟩ := by
  unfold desc newD
  dsimp only
  rw [List.find?_append]
  have : s.descs.find? (fun x => decide (x.num = s.next)) = none := by
    rw [List.find?_eq_none]
    intro x hx
    have := (h.di x hx).2.2.2.2.2.2
    simp only [decide_eq_true_eq]
    omega
  rw [this, Option.none_or, List.find?_cons_of_pos (by simp)]

theorem desc_delD_same (s : AK) (d : Int) : (s.delD d).desc d = none := by
  unfold desc delD
  dsimp only
  rw [List.find?_eq_none]
  intro x hx
  have := (List.mem_filter.1 hx).2
  simpa using this

theorem desc_delD_ne {s : AK} {d d' : Int} (hd : d ≠ d') : (s.delD d').desc d = s.desc d := by
  unfold desc delD
  dsimp only
  rw [List.find?_filter]
  congr 1
  funext x
  by_cases e : x.num = d
  · simp [e, hd]
  · simp [e]

theorem objs_setO_same (s : AK) (i : Nat) (o : AObj) : (s.setO i o).objs i = o := by
  show (if i = i then o else _) = _
  rw [if_pos rfl]
theorem objs_setO_ne (s : AK) {i j : Nat} (o : AObj) (h : j ≠ i) : (s.setO i o).objs j = s.objs j := by
  show (if j = i then o else _) = _
  rw [if_neg h]
theorem objs_newO_new (s : AK) (o : AObj) : (s.newO o).objs s.nob = o := by
  show (if s.nob = s.nob then o else _) = _
  rw [if_pos rfl]

theorem find_of {s : AK} {d way : Int} {x : AD} (h : s.desc d = some x) (hb : bitI x.fl way = way) : s.find d way = 0 := by
  unfold find
  rw [h]
  exact if_neg fun e => e hb
theorem find_bad {s : AK} {d way : Int} {x : AD} (h : s.desc d = some x) (hb : bitI x.fl way ≠ way) : s.find d way = 65 := by
  unfold find
  rw [h]
  exact if_pos hb
theorem find_none {s : AK} {d : Int} (way : Int) (h : s.desc d = none) : s.find d way = 64 := by
  unfold find
  rw [h]

theorem bit0 (n : Int) : bitI n 0 = 0 := by
  unfold bitI
  have : BitVec.ofInt (IntKind.bits .i64) n &&& BitVec.ofInt (IntKind.bits .i64) 0 = 0#(IntKind.bits .i64) := by
    rw [show BitVec.ofInt (IntKind.bits .i64) 0 = 0#(IntKind.bits .i64) from rfl]
    exact BitVec.and_zero
  rw [this]
  rfl

/-- A file that is read. -/
theorem read_file {s : AK} {d n : Int} {x : AD} {bs : List Int} (h : s.desc d = some x) (ho : s.objs x.ob = .file bs) (hb : bitI x.fl 1 = 1) (h1 : 1 ≤ n) (h2 : n ≤ 1048576) :
    s.read d n = if (metF s.ps n).2 ≠ 0 then ([], (metF s.ps n).2, s.met0) else
      (piece bs x.at_ (metF s.ps n).1, 0, s.met0.setD d (x.at_ + ((piece bs x.at_ (metF s.ps n).1).length : Int)) x.hd) := by
  unfold read
  rw [if_neg (fun e => e (find_of h hb)), if_neg (by omega), if_neg (by omega), h]
  dsimp only
  have hw : s.waits x = false := by unfold waits; rw [ho]
  have ho' : s.met0.objs x.ob = .file bs := ho
  rw [hw, if_neg (by simp)]
  unfold rdO
  rw [ho', (desc_some h).2]

end AK
end Go.Proofs.YtpoaacnnhgebfaaGreat

namespace Go.Proofs.YtpoaacnnhgebfaaGreat
open Go.Lw
namespace AK

def empty (ps : List (Int × Int)) : AK := ⟨[], [], fun _ => .file [], 0, [], 1, ps, 0, 0⟩
def withF : List (ByteArray × List Int) → AK → AK
  | [], s => s
  | f :: r, s => withF r (s.addF f.1 (.file f.2))
def withT : List (ByteArray × List (List Int)) → AK → AK
  | [], s => s
  | f :: r, s => withT r (s.addT f.1 (.term f.2 []))
def new (fs : List (ByteArray × List Int)) (ts : List (ByteArray × List (List Int))) (ps : List (Int × Int)) : AK := withT ts (withF fs (empty ps))

theorem freshK_zero {seen : List ByteArray} {s : ByteArray} : freshK seen s = 0 ↔ namedS s = true ∧ s ∉ seen := by
  unfold freshK
  cases hn : namedS s with
  | false => simp
  | true =>
    rw [if_neg (by simp)]
    by_cases hm : s ∈ seen
    · rw [if_pos hm]; simp [hm]
    · rw [if_neg hm]; simp [hm]

theorem ckFs_zero : ∀ {fs : List (ByteArray × List Int)} {seen : List ByteArray}, (ckFs fs seen).1 = 0 → seen.Nodup →
    (ckFs fs seen).2 = seen ++ fs.map (·.1) ∧ (seen ++ fs.map (·.1)).Nodup ∧ ∀ f ∈ fs, namedS f.1 = true ∧ f.2.length ≤ 1048576
  | [], seen, _, hn => ⟨by simp [ckFs], by simpa using hn, by simp⟩
  | f :: r, seen, h, hn => by
    rw [ckFs_cons] at h ⊢
    by_cases h1 : freshK seen f.1 ≠ 0
    · rw [if_pos h1] at h; exact absurd h h1
    · rw [if_neg h1] at h ⊢
      by_cases h2 : 1048576 < f.2.length
      · rw [if_pos h2] at h; cases h
      · rw [if_neg h2] at h ⊢
        obtain ⟨hf1, hf2⟩ := freshK_zero.1 (Decidable.not_not.1 h1)
        obtain ⟨e1, e2, e3⟩ := ckFs_zero h (nodup_snoc hn hf2)
        refine ⟨by rw [e1]; simp, by simpa using e2, fun g hg => ?_⟩
        rcases List.mem_cons.1 hg with rfl | hg
        · exact ⟨hf1, by omega⟩
        · exact e3 g hg

theorem ckTs_zero : ∀ {ts : List (ByteArray × List (List Int))} {seen : List ByteArray}, (ckTs ts seen).1 = 0 → seen.Nodup →
    (seen ++ ts.map (·.1)).Nodup ∧ ∀ f ∈ ts, namedS f.1 = true ∧ newT f.2 = 0
  | [], seen, _, hn => ⟨by simpa using hn, by simp⟩
  | f :: r, seen, h, hn => by
    rw [ckTs_cons] at h
    by_cases h1 : freshK seen f.1 ≠ 0
    · rw [if_pos h1] at h; exact absurd h h1
    · rw [if_neg h1] at h
      by_cases h2 : newT f.2 ≠ 0
      · rw [if_pos h2] at h; exact absurd h h2
      · rw [if_neg h2] at h
        obtain ⟨hf1, hf2⟩ := freshK_zero.1 (Decidable.not_not.1 h1)
        obtain ⟨e2, e3⟩ := ckTs_zero h (nodup_snoc hn hf2)
        refine ⟨by simpa using e2, fun g hg => ?_⟩
        rcases List.mem_cons.1 hg with rfl | hg
        · exact ⟨hf1, Decidable.not_not.1 h2⟩
        · exact e3 g hg

/-- What a check that passes says. -/
structure CkOk (fs : List (ByteArray × List Int)) (ts : List (ByteArray × List (List Int))) (ps : List (Int × Int)) : Prop where
  len : fs.length + ts.length ≤ 256
  nd : (fs.map (·.1) ++ ts.map (·.1)).Nodup
  fs : ∀ f ∈ fs, namedS f.1 = true ∧ f.2.length ≤ 1048576
  ts : ∀ f ∈ ts, namedS f.1 = true ∧ newT f.2 = 0
  pl : ps.length ≤ 4096
  pm : ∀ p ∈ ps, mayP p
  ck : ckF ps = 0

theorem ckF_zero {ps : List (Int × Int)} (h : ckF ps = 0) : ps.length ≤ 4096 ∧ ∀ p ∈ ps, mayP p := by
  unfold ckF at h
  by_cases h1 : 4096 < ps.length
  · rw [if_pos h1] at h; cases h
  · rw [if_neg h1] at h
    by_cases h2 : badF ps = none
    · refine ⟨by omega, fun p hp => ?_⟩
      unfold badF at h2
      rw [List.findIdx?_eq_none_iff] at h2
      have := h2 p hp
      simpa using this
    · rw [if_neg h2] at h; cases h

theorem check_zero {fs : List (ByteArray × List Int)} {ts : List (ByteArray × List (List Int))} {ps : List (Int × Int)} (h : checkK fs ts ps = 0) : CkOk fs ts ps := by
  unfold checkK at h
  by_cases h1 : 256 < fs.length + ts.length
  · rw [if_pos h1] at h; cases h
  · rw [if_neg h1] at h
    by_cases h2 : (ckFs fs []).1 ≠ 0
    · rw [if_pos h2] at h; exact absurd h h2
    · rw [if_neg h2] at h
      have h2 := Decidable.not_not.1 h2
      by_cases h3 : (ckTs ts (ckFs fs []).2).1 ≠ 0
      · rw [if_pos h3] at h; exact absurd h h3
      · rw [if_neg h3] at h
        have h3 := Decidable.not_not.1 h3
        obtain ⟨a1, a2, a3⟩ := ckFs_zero h2 (by simp)
        simp only [List.nil_append] at a1 a2
        rw [a1] at h3
        obtain ⟨b1, b2⟩ := ckTs_zero h3 a2
        obtain ⟨c1, c2⟩ := ckF_zero h
        exact ⟨by omega, b1, a3, b2, c1, c2, h⟩

theorem ok_empty {ps : List (Int × Int)} (h : ps.length ≤ 4096) (hm : ∀ p ∈ ps, mayP p) : (empty ps).Ok where
  fi := fun f hf => by cases hf
  ti := fun f hf => by cases hf
  di := fun f hf => by cases hf
  fn := by simp [empty]
  tn := by simp [empty]
  ft := fun f hf => by cases hf
  fo := by simp [empty]
  to := by simp [empty]
  dn := by simp [empty]
  nx := by simp [empty]
  dl := by simp [empty]
  fl := by simp [empty]
  ps := h
  pm := hm
  c0 := by simp [empty]
  c1 := by simp [empty]

theorem withF_snoc : ∀ (fs : List (ByteArray × List Int)) (f : ByteArray × List Int) (s : AK), withF (fs ++ [f]) s = (withF fs s).addF f.1 (.file f.2)
  | [], f, s => rfl
  | g :: r, f, s => withF_snoc r f _
theorem withT_snoc : ∀ (fs : List (ByteArray × List (List Int))) (f : ByteArray × List (List Int)) (s : AK), withT (fs ++ [f]) s = (withT fs s).addT f.1 (.term f.2 [])
  | [], f, s => rfl
  | g :: r, f, s => withT_snoc r f _

theorem withF_names : ∀ (fs : List (ByteArray × List Int)) (s : AK), (withF fs s).files.map (·.1) = s.files.map (·.1) ++ fs.map (·.1) ∧ (withF fs s).terms = s.terms ∧ (withF fs s).descs = s.descs ∧ (withF fs s).next = s.next ∧ (withF fs s).ps = s.ps ∧ (withF fs s).c0 = s.c0 ∧ (withF fs s).c1 = s.c1
  | [], s => ⟨by simp [withF], rfl, rfl, rfl, rfl, rfl, rfl⟩
  | f :: r, s => by
    obtain ⟨h1, h2⟩ := withF_names r (s.addF f.1 (.file f.2))
    refine ⟨?_, h2⟩
    show (withF r _).files.map (·.1) = _
    rw [h1]
    show (s.files ++ [(f.1, s.nob)]).map (·.1) ++ _ = _
    simp
theorem withT_names : ∀ (fs : List (ByteArray × List (List Int))) (s : AK), (withT fs s).terms.map (·.1) = s.terms.map (·.1) ++ fs.map (·.1) ∧ (withT fs s).files = s.files ∧ (withT fs s).descs = s.descs ∧ (withT fs s).next = s.next ∧ (withT fs s).ps = s.ps ∧ (withT fs s).c0 = s.c0 ∧ (withT fs s).c1 = s.c1
  | [], s => ⟨by simp [withT], rfl, rfl, rfl, rfl, rfl, rfl⟩
  | f :: r, s => by
    obtain ⟨h1, h2⟩ := withT_names r (s.addT f.1 (.term f.2 []))
    refine ⟨?_, h2⟩
    show (withT r _).terms.map (·.1) = _
    rw [h1]
    show (s.terms ++ [(f.1, s.nob)]).map (·.1) ++ _ = _
    simp

theorem new_is (fs : List (ByteArray × List Int)) (ts : List (ByteArray × List (List Int))) (ps : List (Int × Int)) :
    (new fs ts ps).files.map (·.1) = fs.map (·.1) ∧ (new fs ts ps).terms.map (·.1) = ts.map (·.1) ∧ (new fs ts ps).descs = [] ∧ (new fs ts ps).next = 1 ∧ (new fs ts ps).ps = ps ∧ (new fs ts ps).c0 = 0 ∧ (new fs ts ps).c1 = 0 := by
  obtain ⟨a1, a2, a3, a4, a5, a6, a7⟩ := withF_names fs (empty ps)
  obtain ⟨b1, b2, b3, b4, b5, b6, b7⟩ := withT_names ts (withF fs (empty ps))
  unfold new
  exact ⟨by rw [b2, a1]; rfl, by rw [b1, a2]; rfl, by rw [b3, a3]; rfl, by rw [b4, a4]; rfl, by rw [b5, a5]; rfl, by rw [b6, a6]; rfl, by rw [b7, a7]; rfl⟩

end AK
end Go.Proofs.YtpoaacnnhgebfaaGreat

namespace Go.Proofs.YtpoaacnnhgebfaaGreat
open Go.Lw
namespace AK

def someN : Nat → AK → Int → Int → List Int × Int × AK
  | 0, s, d, n => ([], 81, s)
  | k + 1, s, d, n => if (s.read d n).2.1 = 22 ∨ (s.read d n).2.1 = 23 then someN k (s.read d n).2.2 d n else s.read d n

def rsome (s : AK) (d n : Int) : List Int × Int × AK := if n < 1 ∨ n > 1048576 then ([], 4, s) else someN 8192 s d n

def allN : Nat → AK → Int → Int → List Int → List Int × Int × AK
  | 0, s, d, n, acc => (acc, 0, s)
  | k + 1, s, d, n, acc =>
    if (s.rsome d (n - (acc.length : Int))).2.1 = 0 ∧ (s.rsome d (n - (acc.length : Int))).1.length ≠ 0 ∧ ((acc.length + (s.rsome d (n - (acc.length : Int))).1.length : Nat) : Int) < n then
      allN k (s.rsome d (n - (acc.length : Int))).2.2 d n (acc ++ (s.rsome d (n - (acc.length : Int))).1)
    else (acc ++ (s.rsome d (n - (acc.length : Int))).1, (s.rsome d (n - (acc.length : Int))).2.1, (s.rsome d (n - (acc.length : Int))).2.2)

theorem allN_succ (k : Nat) (s : AK) (d n : Int) (acc : List Int) : allN (k + 1) s d n acc =
    if (s.rsome d (n - (acc.length : Int))).2.1 = 0 ∧ (s.rsome d (n - (acc.length : Int))).1.length ≠ 0 ∧ ((acc.length + (s.rsome d (n - (acc.length : Int))).1.length : Nat) : Int) < n then
      allN k (s.rsome d (n - (acc.length : Int))).2.2 d n (acc ++ (s.rsome d (n - (acc.length : Int))).1)
    else (acc ++ (s.rsome d (n - (acc.length : Int))).1, (s.rsome d (n - (acc.length : Int))).2.1, (s.rsome d (n - (acc.length : Int))).2.2) := rfl

def rall (s : AK) (d n : Int) : List Int × Int × AK := allN (n.toNat + 1) s d n []

/-- A file's description: its place. -/
structure FD (s : AK) (d : Int) (i : Nat) (bs : List Int) (fl : Int) (at_ : Int) : Prop where
  ex : ∃ hd, s.desc d = some ⟨d, i, fl, at_, hd⟩
  ob : s.objs i = .file bs
  a0 : 0 ≤ at_

theorem read_fd {s : AK} {d n : Int} {i : Nat} {bs : List Int} {fl at_ : Int} (h : FD s d i bs fl at_) (hb : bitI fl 1 = 1) (h1 : 1 ≤ n) (h2 : n ≤ 1048576) :
    ((metF s.ps n).2 ≠ 0 → s.read d n = ([], (metF s.ps n).2, s.met0)) ∧
    ((metF s.ps n).2 = 0 → (s.read d n).1 = piece bs at_ (metF s.ps n).1 ∧ (s.read d n).2.1 = 0 ∧ FD (s.read d n).2.2 d i bs fl (at_ + ((piece bs at_ (metF s.ps n).1).length : Int)) ∧ (s.read d n).2.2.ps = s.ps.drop 1 ∧ (s.read d n).2.2.c0 = s.c0 + 1 ∧ (s.read d n).2.2.c1 = s.c1 ∧ (s.read d n).2.2.next = s.next) := by
  obtain ⟨hd, hx⟩ := h.ex
  have := read_file hx h.ob hb h1 h2
  constructor
  · intro e; rw [this, if_pos e]
  · intro e
    rw [this, if_neg (fun e' => e' e)]
    have ha := h.a0
    exact ⟨rfl, rfl, ⟨⟨hd, desc_setD_same (s := s.met0) hx⟩, h.ob, by omega⟩, rfl, rfl, rfl, rfl⟩

theorem someN_fd : ∀ (k : Nat) {s : AK} {d n : Int} {i : Nat} {bs : List Int} {fl at_ : Int}, FD s d i bs fl at_ → bitI fl 1 = 1 → 1 ≤ n → n ≤ 1048576 → (∀ p ∈ s.ps, mayP p) → s.ps.length < k →
    ∃ m, 1 ≤ m ∧ m ≤ n ∧ (someN k s d n).1 = piece bs at_ m ∧ (someN k s d n).2.1 = 0 ∧ FD (someN k s d n).2.2 d i bs fl (at_ + ((piece bs at_ m).length : Int)) ∧ (∀ p ∈ (someN k s d n).2.2.ps, mayP p) ∧
      (someN k s d n).2.2.ps.length ≤ s.ps.length ∧ (someN k s d n).2.2.c0 + ((someN k s d n).2.2.ps.length : Int) ≤ s.c0 + (s.ps.length : Int) + 1 ∧ (someN k s d n).2.2.c1 = s.c1 ∧ (someN k s d n).2.2.next = s.next
  | 0, s, d, n, i, bs, fl, at_, h, hb, h1, h2, hp, hk => by omega
  | k + 1, s, d, n, i, bs, fl, at_, h, hb, h1, h2, hp, hk => by
    obtain ⟨r1, r2⟩ := read_fd h hb h1 h2
    have hdp : ∀ p ∈ s.ps.drop 1, mayP p := fun p hq => hp p (List.mem_of_mem_drop hq)
    unfold someN
    rcases metF_ok hp h1 with ⟨e, g1, g2⟩ | ⟨_, e, hne⟩
    · obtain ⟨q1, q2, q3, q4, q5, q6, q7⟩ := r2 e
      rw [if_neg (by rw [q2]; omega)]
      refine ⟨_, g1, g2, q1, q2, q3, by rw [q4]; exact hdp, by rw [q4, List.length_drop]; omega, ?_, q6, q7⟩
      rw [q4, q5, List.length_drop]
      omega
    · have hz : (metF s.ps n).2 ≠ 0 := by omega
      rw [r1 hz, if_pos e]
      dsimp only
      have hl : 1 ≤ s.ps.length := by
        rcases List.eq_nil_or_concat s.ps with h | ⟨l, a, h⟩
        · exact absurd h hne
        · rw [h]; simp
      obtain ⟨hd, hx⟩ := h.ex
      have h' : FD s.met0 d i bs fl at_ := ⟨⟨hd, hx⟩, h.ob, h.a0⟩
      have hpl : s.met0.ps.length = s.ps.length - 1 := by show (s.ps.drop 1).length = _; rw [List.length_drop]
      obtain ⟨m, g1, g2, g3, g4, g5, g6, g7, g8, g9, g10⟩ := someN_fd k h' hb h1 h2 hdp (by omega)
      refine ⟨m, g1, g2, g3, g4, g5, g6, by omega, ?_, g9, g10⟩
      have : s.met0.c0 = s.c0 + 1 := rfl
      rw [this, hpl] at g8
      omega

theorem rsome_fd {s : AK} {d n : Int} {i : Nat} {bs : List Int} {fl at_ : Int} (h : FD s d i bs fl at_) (hb : bitI fl 1 = 1) (h1 : 1 ≤ n) (h2 : n ≤ 1048576) (hp : ∀ p ∈ s.ps, mayP p) (hl : s.ps.length ≤ 4096) :
    ∃ m, 1 ≤ m ∧ m ≤ n ∧ (s.rsome d n).1 = piece bs at_ m ∧ (s.rsome d n).2.1 = 0 ∧ FD (s.rsome d n).2.2 d i bs fl (at_ + ((piece bs at_ m).length : Int)) ∧ (∀ p ∈ (s.rsome d n).2.2.ps, mayP p) ∧
      (s.rsome d n).2.2.ps.length ≤ s.ps.length ∧ (s.rsome d n).2.2.c0 + ((s.rsome d n).2.2.ps.length : Int) ≤ s.c0 + (s.ps.length : Int) + 1 ∧ (s.rsome d n).2.2.c1 = s.c1 ∧ (s.rsome d n).2.2.next = s.next := by
  unfold rsome
  rw [if_neg (by omega)]
  exact someN_fd 8192 h hb h1 h2 hp (by omega)

end AK
end Go.Proofs.YtpoaacnnhgebfaaGreat

namespace Go.Proofs.YtpoaacnnhgebfaaGreat
open Go.Lw
namespace AK

theorem readT_len {n : Int} {LL : List (List Int)} : (readT n LL).2.1.length ≤ n.toNat := by
  unfold readT
  split
  · simp
  · cases LL with
    | nil => simp
    | cons x r => show (x.take n.toNat).length ≤ _; rw [List.length_take]; omega
theorem readP_len {n : Int} {bs : List Int} {e0 e1 : Nat} : (readP n bs e0 e1).1.length ≤ n.toNat := by
  unfold readP
  split
  · simp
  · split
    · simp
    · split
      · simp
      · show (bs.take n.toNat).length ≤ _; rw [List.length_take]; omega

theorem rdO_len {s : AK} {x : AD} {m : Int} : (s.rdO x m).1.length ≤ m.toNat := by
  unfold rdO
  cases s.objs x.ob with
  | file bs => show (piece bs x.at_ m).length ≤ _; unfold piece; rw [List.length_take]; omega
  | term LL scr => exact readT_len
  | pipe bs e0 e1 => exact readP_len

theorem rdO_cs {s : AK} {x : AD} {m : Int} : (s.rdO x m).2.c0 = s.c0 ∧ (s.rdO x m).2.c1 = s.c1 ∧ (s.rdO x m).2.next = s.next ∧ (s.rdO x m).2.ps = s.ps ∧ (s.rdO x m).2.files = s.files ∧ (s.rdO x m).2.terms = s.terms := by
  unfold rdO
  cases s.objs x.ob with
  | file bs => exact ⟨rfl, rfl, rfl, rfl, rfl, rfl⟩
  | term LL scr => exact ⟨rfl, rfl, rfl, rfl, rfl, rfl⟩
  | pipe bs e0 e1 => exact ⟨rfl, rfl, rfl, rfl, rfl, rfl⟩

/-- Each way a read goes. -/
theorem read_cases (s : AK) (d n : Int) : (∃ e, e ≠ 0 ∧ s.read d n = ([], e, s)) ∨ (s.read d n = ([], 0, s) ∧ n = 0) ∨
    (∃ x, s.desc d = some x ∧ bitI x.fl 1 = 1 ∧ s.waits x = false ∧ 1 ≤ n ∧ n ≤ 1048576 ∧ ((metF s.ps n).2 ≠ 0 ∧ s.read d n = ([], (metF s.ps n).2, s.met0) ∨ (metF s.ps n).2 = 0 ∧ s.read d n = ((s.met0.rdO x (metF s.ps n).1).1, 0, (s.met0.rdO x (metF s.ps n).1).2))) := by
  unfold read
  by_cases h1 : s.find d 1 ≠ 0
  · rw [if_pos h1]; exact .inl ⟨_, h1, rfl⟩
  rw [if_neg h1]
  by_cases h2 : n < 0 ∨ n > 1048576
  · rw [if_pos h2]; exact .inl ⟨4, by decide, rfl⟩
  rw [if_neg h2]
  by_cases h3 : n = 0
  · rw [if_pos h3]; exact .inr (.inl ⟨rfl, h3⟩)
  rw [if_neg h3]
  obtain ⟨x, hx, hb⟩ := find_zero (Decidable.not_not.1 h1)
  rw [hx]
  dsimp only
  by_cases h4 : s.waits x = true
  · rw [if_pos h4]; exact .inl ⟨52, by decide, rfl⟩
  rw [if_neg h4]
  refine .inr (.inr ⟨x, rfl, hb, by simpa using h4, by omega, by omega, ?_⟩)
  by_cases h5 : (metF s.ps n).2 ≠ 0
  · rw [if_pos h5]; exact .inl ⟨h5, rfl⟩
  · rw [if_neg h5]; exact .inr ⟨Decidable.not_not.1 h5, rfl⟩

theorem read_err {s : AK} {d n : Int} (h : (s.read d n).2.1 ≠ 0) : (s.read d n).1 = [] := by
  rcases read_cases s d n with ⟨e, he, hr⟩ | ⟨hr, _⟩ | ⟨x, _, _, _, _, _, ⟨_, hr⟩ | ⟨_, hr⟩⟩
  · rw [hr]
  · rw [hr]
  · rw [hr]
  · rw [hr] at h; exact absurd rfl h

theorem metF_le {ps : List (Int × Int)} {n : Int} (h : 0 ≤ n) : (metF ps n).1 ≤ n := by
  unfold metF
  cases ps with
  | nil => exact Int.le_refl _
  | cons f r =>
    dsimp only
    split
    · dsimp only; omega
    · split
      · exact h
      · split
        · exact h
        · exact Int.le_refl _

theorem read_len {s : AK} {d n : Int} (h : 0 ≤ n) : ((s.read d n).1.length : Int) ≤ n := by
  rcases read_cases s d n with ⟨e, he, hr⟩ | ⟨hr, _⟩ | ⟨x, _, _, _, h1, h2, ⟨_, hr⟩ | ⟨_, hr⟩⟩
  · rw [hr]; simpa using h
  · rw [hr]; simpa using h
  · rw [hr]; simpa using h
  · rw [hr]
    have := @rdO_len s.met0 x (metF s.ps n).1
    have := @metF_le s.ps n h
    dsimp only
    omega

theorem read_cs (s : AK) (d n : Int) : s.c0 ≤ (s.read d n).2.2.c0 ∧ (s.read d n).2.2.c0 ≤ s.c0 + 1 ∧ (s.read d n).2.2.c1 = s.c1 ∧ (s.read d n).2.2.next = s.next ∧ (s.read d n).2.2.files = s.files ∧ (s.read d n).2.2.terms = s.terms := by
  rcases read_cases s d n with ⟨e, he, hr⟩ | ⟨hr, _⟩ | ⟨x, _, _, _, h1, h2, ⟨_, hr⟩ | ⟨_, hr⟩⟩
  · rw [hr]; exact ⟨Int.le_refl _, by dsimp only; omega, rfl, rfl, rfl, rfl⟩
  · rw [hr]; exact ⟨Int.le_refl _, by dsimp only; omega, rfl, rfl, rfl, rfl⟩
  · rw [hr]; exact ⟨by show s.c0 ≤ s.c0 + 1; omega, by show s.c0 + 1 ≤ s.c0 + 1; omega, rfl, rfl, rfl, rfl⟩
  · rw [hr]
    obtain ⟨q1, q2, q3, q4, q5, q6⟩ := @rdO_cs s.met0 x (metF s.ps n).1
    have e0 : s.met0.c0 = s.c0 + 1 := rfl
    exact ⟨by dsimp only; omega, by dsimp only; omega, q2, q3, q5, q6⟩

theorem someN_cs : ∀ (k : Nat) (s : AK) (d n : Int), s.c0 ≤ (someN k s d n).2.2.c0 ∧ (someN k s d n).2.2.c0 ≤ s.c0 + k ∧ (someN k s d n).2.2.c1 = s.c1 ∧ (someN k s d n).2.2.next = s.next ∧ (someN k s d n).2.2.files = s.files ∧ (someN k s d n).2.2.terms = s.terms
  | 0, s, d, n => ⟨Int.le_refl _, by show s.c0 ≤ s.c0 + 0; omega, rfl, rfl, rfl, rfl⟩
  | k + 1, s, d, n => by
    obtain ⟨q0, q1, q2, q3, q4, q5⟩ := read_cs s d n
    unfold someN
    split
    · obtain ⟨p0, p1, p2, p3, p4, p5⟩ := someN_cs k (s.read d n).2.2 d n
      exact ⟨by omega, by omega, by rw [p2, q2], by rw [p3, q3], by rw [p4, q4], by rw [p5, q5]⟩
    · exact ⟨q0, by omega, q2, q3, q4, q5⟩

theorem someN_len : ∀ (k : Nat) (s : AK) (d n : Int), 0 ≤ n → ((someN k s d n).1.length : Int) ≤ n
  | 0, s, d, n, h => by simpa [someN] using h
  | k + 1, s, d, n, h => by
    unfold someN
    split
    · exact someN_len k _ d n h
    · exact read_len h

theorem someN_err : ∀ (k : Nat) (s : AK) (d n : Int), (someN k s d n).2.1 ≠ 0 → (someN k s d n).1 = []
  | 0, s, d, n, h => rfl
  | k + 1, s, d, n, h => by
    unfold someN at h ⊢
    split
    · rename_i hp
      rw [if_pos hp] at h
      exact someN_err k _ d n h
    · rename_i hp
      rw [if_neg hp] at h
      exact read_err h

theorem rsome_cs (s : AK) (d n : Int) : s.c0 ≤ (s.rsome d n).2.2.c0 ∧ (s.rsome d n).2.2.c0 ≤ s.c0 + 8192 ∧ (s.rsome d n).2.2.c1 = s.c1 ∧ (s.rsome d n).2.2.next = s.next ∧ (s.rsome d n).2.2.files = s.files ∧ (s.rsome d n).2.2.terms = s.terms := by
  unfold rsome
  split
  · exact ⟨Int.le_refl _, by dsimp only; omega, rfl, rfl, rfl, rfl⟩
  · exact someN_cs 8192 s d n

theorem rsome_err {s : AK} {d n : Int} (h : (s.rsome d n).2.1 ≠ 0) : (s.rsome d n).1 = [] := by
  unfold rsome at h ⊢
  split
  · rfl
  · rename_i hp
    rw [if_neg hp] at h
    exact someN_err 8192 s d n h

theorem rsome_len {s : AK} {d n : Int} (h : (s.rsome d n).2.1 = 0) : 1 ≤ n ∧ n ≤ 1048576 ∧ ((s.rsome d n).1.length : Int) ≤ n := by
  unfold rsome at h ⊢
  by_cases hp : n < 1 ∨ n > 1048576
  · rw [if_pos hp] at h; cases h
  · rw [if_neg hp]
    exact ⟨by omega, by omega, someN_len 8192 s d n (by omega)⟩

/-- A kernel of one file: it is opened. -/
theorem open_one (nm : ByteArray) (hn : namedS nm = true) (bs : List Int) (ps : List (Int × Int)) (fl : Int) (hf : flagged fl = true) (h32 : bitI fl 32 = 0) (h16 : bitI fl 16 = 0) :
    (new [(nm, bs)] [] ps).open_ nm fl = (1, 0, (new [(nm, bs)] [] ps).newD 0 fl) := by
  have hfo : (new [(nm, bs)] [] ps).fileOf nm = some (nm, 0) := by
    show List.find? _ [(nm, 0)] = _
    rw [List.find?_cons_of_pos (by simp)]
  have hto : (new [(nm, bs)] [] ps).termOf nm = none := rfl
  have hE : (new [(nm, bs)] [] ps).openE nm fl = 0 := by
    unfold openE
    rw [if_neg (by rw [hn]; simp), if_neg (by rw [hf]; simp), if_neg (by show ¬ 256 ≤ 0; omega), hfo, if_pos (.inl rfl), if_neg (by rw [h32]; simp)]
  unfold open_
  rw [if_neg (by rw [hE]; simp)]
  have hS : (new [(nm, bs)] [] ps).openS nm fl = (new [(nm, bs)] [] ps).newD 0 fl := by
    unfold openS
    rw [hto, hfo]
    dsimp only
    rw [if_neg (by rw [h16]; simp)]
  rw [hS]
  rfl

theorem fd_one (nm : ByteArray) (bs : List Int) (ps : List (Int × Int)) (fl : Int) : FD ((new [(nm, bs)] [] ps).newD 0 fl) 1 0 bs fl 0 :=
  ⟨⟨1, rfl⟩, rfl, Int.le_refl _⟩

end AK
end Go.Proofs.YtpoaacnnhgebfaaGreat

namespace Go.Proofs.YtpoaacnnhgebfaaGreat
open Go.Lw

theorem ext_getD' {xs ys : List Int} (hl : xs.length = ys.length) (h : ∀ k, k < xs.length → xs.getD k 0 = ys.getD k 0) : xs = ys := by
  apply List.ext_getElem hl
  intro i h1 h2
  have := h i h1
  rw [List.getD_eq_getElem?_getD, List.getD_eq_getElem?_getD, List.getElem?_eq_getElem h1, List.getElem?_eq_getElem h2] at this
  simpa using this

/-- What was laid is read back. -/
theorem lay_piece (bs : List Int) (o : Nat) (ds : List Int) : ((lay bs o ds).drop o).take ds.length = ds := by
  refine ext_getD' (by rw [List.length_take, List.length_drop, lay_len]; omega) fun k hk => ?_
  have hk : k < ds.length := by rw [List.length_take] at hk; omega
  rw [List.getD_eq_getElem?_getD, List.getElem?_take, if_pos hk, List.getElem?_drop, ← List.getD_eq_getElem?_getD, lay_getD, if_pos (by omega), show o + k - o = k by omega]

theorem lay_nil0 (ds : List Int) : lay [] 0 ds = ds := by
  have := lay_piece [] 0 ds
  rw [List.drop_zero, List.take_of_length_le (by rw [lay_len]; simp)] at this
  exact this

namespace AK

theorem open_there {s : AK} {nm : ByteArray} {i : Nat} {fl : Int} (hn : namedS nm = true) (hf : flagged fl = true) (hl : s.descs.length < 256) (hfo : s.fileOf nm = some (nm, i)) (hto : s.termOf nm = none) (h32 : bitI fl 32 = 0) (h16 : bitI fl 16 = 0) :
    s.open_ nm fl = (s.next, 0, s.newD i fl) := by
  have hE : s.openE nm fl = 0 := by
    unfold openE
    rw [if_neg (by rw [hn]; simp), if_neg (by rw [hf]; simp), if_neg (by omega), hfo, if_pos (.inl rfl), if_neg (by rw [h32]; simp)]
  unfold open_
  rw [if_neg (by rw [hE]; simp)]
  have hS : s.openS nm fl = s.newD i fl := by
    unfold openS
    rw [hto, hfo]
    dsimp only
    rw [if_neg (by rw [h16]; simp)]
  rw [hS]

theorem FD.read_other {s : AK} {d n : Int} {i : Nat} {bs : List Int} {fl at_ : Int} (h : FD s d i bs fl at_) (hb : bitI fl 1 = 1) (h1 : 1 ≤ n) (h2 : n ≤ 1048576) {d' : Int} {i' : Nat} {bs' : List Int} {fl' at' : Int} (h' : FD s d' i' bs' fl' at') (hd : d' ≠ d) : FD (s.read d n).2.2 d' i' bs' fl' at' := by
  obtain ⟨hd1, hx⟩ := h.ex
  obtain ⟨hd2, hy⟩ := h'.ex
  rw [read_file hx h.ob hb h1 h2]
  by_cases e : (metF s.ps n).2 ≠ 0
  · rw [if_pos e]; exact ⟨⟨hd2, hy⟩, h'.ob, h'.a0⟩
  · rw [if_neg e]
    exact ⟨⟨hd2, (desc_setD_ne (s := s.met0) hd).trans hy⟩, h'.ob, h'.a0⟩

/-- A write to a file, at its place. -/
theorem write_fd {s : AK} {d : Int} {i : Nat} {bs : List Int} {fl : Int} {at_ : Nat} (h : FD s d i bs fl (at_ : Int)) (hb : bitI fl 2 = 2) (h4 : bitI fl 4 = 0) {ds : List Int} (h1 : ds ≠ []) (h2 : ds.length ≤ 1048576) (ha : at_ < 1048576) (hps : ∀ p ∈ s.ps, mayP p) :
    ((metF s.ps ds.length).2 ≠ 0 → s.write d ds = (0, (metF s.ps ds.length).2, s.met1)) ∧
    ((metF s.ps ds.length).2 = 0 → ∃ m : Nat, (m : Int) = min (metF s.ps ds.length).1 (1048576 - (at_ : Int)) ∧ 1 ≤ m ∧ m ≤ ds.length ∧ ∃ hd, s.desc d = some ⟨d, i, fl, (at_ : Int), hd⟩ ∧
      s.write d ds = ((m : Int), 0, (s.met1.setO i (.file (lay bs at_ (ds.take m)))).setD d ((at_ : Int) + (m : Int)) hd)) := by
  obtain ⟨hd, hx⟩ := h.ex
  have hl : 1 ≤ ds.length := by
    cases ds with
    | nil => exact absurd rfl h1
    | cons a r => simp
  have hpl : placeF fl (at_ : Int) bs = (at_ : Int) := by unfold placeF; rw [if_neg (by rw [h4]; simp)]
  have hro : s.roomO ⟨d, i, fl, (at_ : Int), hd⟩ ds.length = (min (ds.length : Int) (1048576 - (at_ : Int)), 0) := by
    unfold roomO
    rw [show s.objs i = .file bs from h.ob]
    show roomD (placeF fl (at_ : Int) bs) ds.length = _
    rw [hpl]
    unfold roomD
    rw [if_pos (by omega)]
    congr 1
    unfold mn
    omega
  have hw : s.write d ds = if (metF s.ps ds.length).2 ≠ 0 then (0, (metF s.ps ds.length).2, s.met1) else
      ((s.met1.wrO ⟨d, i, fl, (at_ : Int), hd⟩ ds (min (metF s.ps ds.length).1 (min (ds.length : Int) (1048576 - (at_ : Int))))).1, 0, (s.met1.wrO ⟨d, i, fl, (at_ : Int), hd⟩ ds (min (metF s.ps ds.length).1 (min (ds.length : Int) (1048576 - (at_ : Int))))).2) := by
    unfold write
    rw [if_neg (fun e => e (find_of hx hb)), if_neg (by omega), if_neg (by omega), hx]
    dsimp only
    rw [hro, if_neg (by simp)]
  constructor
  · intro e; rw [hw, if_pos e]
  · intro e
    rw [if_neg (fun e' => e' e)] at hw
    have hmet : 1 ≤ (metF s.ps ds.length).1 ∧ (metF s.ps ds.length).1 ≤ ds.length := by
      rcases metF_ok hps (n := (ds.length : Int)) (by omega) with ⟨_, g1, g2⟩ | ⟨_, g, _⟩
      · exact ⟨g1, g2⟩
      · omega
    obtain ⟨m, hm⟩ : ∃ m : Nat, (m : Int) = min (metF s.ps ds.length).1 (1048576 - (at_ : Int)) := ⟨(min (metF s.ps ds.length).1 (1048576 - (at_ : Int))).toNat, by omega⟩
    refine ⟨m, hm, by omega, by omega, hd, hx, ?_⟩
    rw [hw]
    have hmo : min (metF s.ps ds.length).1 (min (ds.length : Int) (1048576 - (at_ : Int))) = (m : Int) := by omega
    rw [hmo]
    unfold wrO
    rw [show s.met1.objs i = .file bs from h.ob]
    dsimp only
    have hmin : min ds.length (Int.toNat (m : Int)) = m := by omega
    rw [hpl, hmin]
    have hwf : (writeF bs (at_ : Int) (ds.take m)).2 = lay bs at_ (ds.take m) := by
      unfold writeF
      have hlt : (ds.take m).length = m := by rw [List.length_take]; omega
      rw [if_neg (by unfold okN; rw [decide_eq_true (by omega)]; simp), if_neg (by rw [hlt]; omega), if_neg (by rw [hlt]; omega), Int.toNat_natCast]
    rw [hwf]

theorem FD.of_write {s : AK} {d : Int} {i : Nat} {bs bs2 : List Int} {fl : Int} {at_ m : Nat} {hd : Int} (hx : s.desc d = some ⟨d, i, fl, (at_ : Int), hd⟩) : FD ((s.met1.setO i (.file bs2)).setD d ((at_ : Int) + (m : Int)) hd) d i bs2 fl ((at_ + m : Nat) : Int) :=
  ⟨⟨hd, by rw [desc_setD_same (s := s.met1.setO i (.file bs2)) hx, Int.natCast_add]⟩, objs_setO_same _ _ _, by omega⟩

theorem FD.write_other {s : AK} {d : Int} {i : Nat} {bs bs2 : List Int} {at2 hd : Int} {d' fl' at' : Int} (h' : FD s d' i bs fl' at') (hd' : d' ≠ d) : FD ((s.met1.setO i (.file bs2)).setD d at2 hd) d' i bs2 fl' at' := by
  obtain ⟨hd2, hy⟩ := h'.ex
  exact ⟨⟨hd2, (desc_setD_ne (s := s.met1.setO i (.file bs2)) hd').trans hy⟩, objs_setO_same _ _ _, h'.a0⟩
theorem FD.write_apart {s : AK} {d : Int} {i j : Nat} {bs bs2 : List Int} {at2 hd : Int} {d' fl' at' : Int} (h' : FD s d' j bs fl' at') (hd' : d' ≠ d) (hij : j ≠ i) : FD ((s.met1.setO i (.file bs2)).setD d at2 hd) d' j bs fl' at' := by
  obtain ⟨hd2, hy⟩ := h'.ex
  exact ⟨⟨hd2, (desc_setD_ne (s := s.met1.setO i (.file bs2)) hd').trans hy⟩, (objs_setO_ne _ _ hij).trans h'.ob, h'.a0⟩

theorem write_zero {s : AK} {d : Int} {ds : List Int} (h : ds.length = 0 ∨ 1048576 < ds.length) : (s.write d ds).1 = 0 := by
  unfold write
  by_cases h1 : s.find d 2 ≠ 0
  · rw [if_pos h1]
  rw [if_neg h1]
  by_cases h2 : 1048576 < ds.length
  · rw [if_pos h2]
  rw [if_neg h2]
  by_cases h3 : ds.length = 0
  · rw [if_pos h3]
  · omega

/-- A seek from the beginning. -/
theorem seek_fd {s : AK} {d : Int} {i : Nat} {bs : List Int} {fl at_ : Int} (h : FD s d i bs fl at_) {off : Int} (h0 : 0 ≤ off) (h1 : off ≤ 1048576) : ∃ hd, s.seek d off 0 = (off, 0, s.setD d off hd) ∧ FD (s.setD d off hd) d i bs fl off := by
  obtain ⟨hd, hx⟩ := h.ex
  refine ⟨hd, ?_, ⟨hd, desc_setD_same hx⟩, h.ob, h0⟩
  unfold seek
  rw [if_neg (fun e => e (find_of hx (bit0 _))), hx]
  dsimp only
  rw [show s.objs i = .file bs from h.ob]
  dsimp only
  rw [if_neg (by omega), if_pos rfl, if_neg (by omega), Int.zero_add]

theorem one_file (nm : ByteArray) (bs : List Int) (ps : List (Int × Int)) : (new [(nm, bs)] [] ps).fileOf nm = some (nm, 0) ∧ (new [(nm, bs)] [] ps).termOf nm = none :=
  ⟨by show List.find? _ [(nm, 0)] = _; rw [List.find?_cons_of_pos (by simp)], rfl⟩

theorem ck_one {nm : ByteArray} (hn : namedS nm = true) {bs : List Int} (h : bs.length ≤ 1048576) (ps : List (Int × Int)) : checkK [(nm, bs)] [] ps = ckF ps := by
  have h1 : freshK [] nm = 0 := freshK_zero.2 ⟨hn, by simp⟩
  have h2 : ckFs [(nm, bs)] [] = (0, [nm]) := by
    rw [ckFs_cons, if_neg (fun e => e h1), if_neg (by dsimp only; omega)]
    rfl
  unfold checkK
  rw [if_neg (by simp), h2, if_neg (by simp), if_neg (by simp [ckTs])]

end AK

theorem KStep.apart {w w' : World} {L L' : KL} (st : KStep w w' L L') {a : Option Addr} (ha : ∀ z, inA a z → L.own z = none ∧ z < w.heap.size) : ∀ z, inA a z → L'.own z = none := by
  intro z hz
  obtain ⟨h1, h2⟩ := ha z hz
  cases ho : L'.own z with
  | none => rfl
  | some t =>
    exfalso
    rcases st.grew z (by rw [ho]; simp) with e | e
    · exact e h1
    · omega

/-- The caller's own memory, new behind the beginning. -/
theorem KStep.priv {w w1 w2 : World} {L L1 : KL} (h : KStep w w1 L L1) {S : Nat → Prop} (k : Kept S w1 w2) (hS : ∀ x, S x → w.heap.size ≤ x) : KStep w w2 L L1 :=
  ⟨h.kept.trans k fun x hx e => by have := hS x e; omega, h.grew⟩

/-- What was there before the kernel was is not the kernel's. -/
theorem KStep.not_old {W w0 w : World} {L0 L : KL} (st : KStep w0 w L0 L) (hL : ∀ z, L0.own z ≠ none → W.heap.size ≤ z) (hz : W.heap.size ≤ w0.heap.size) : ∀ z, z < W.heap.size → L.own z = none := by
  intro z h
  cases ho : L.own z with
  | none => rfl
  | some t =>
    exfalso
    rcases st.grew z (by rw [ho]; simp) with e | e
    · have := hL z e; omega
    · omega

end Go.Proofs.YtpoaacnnhgebfaaGreat

namespace Go.Proofs.YtpoaacnnhgebfaaGreat
open Go.Lw
namespace AK

theorem kindN_pos (k : TK) : 1 ≤ kindN k := by cases k <;> decide

theorem kind_zero {s : AK} {d : Int} (h : s.kind d = 0) : s.desc d = none := by
  unfold kind at h
  cases hd : s.desc d with
  | none => rfl
  | some x =>
    rw [if_neg (fun e => e (find_of hd (bit0 _))), hd] at h
    have := kindN_pos (s.objs x.ob).kd
    dsimp only at h
    omega
theorem kind_some {s : AK} {d : Int} {x : AD} (hd : s.desc d = some x) : s.kind d = kindN (s.objs x.ob).kd := by
  unfold kind
  rw [if_neg (fun e => e (find_of hd (bit0 _))), hd]

theorem can_none {s : AK} {d n : Int} (h : s.desc d = none) : s.canRead d = false ∧ s.canWrite d n = false := by
  unfold canRead canWrite
  rw [find_none 1 h, find_none 2 h]
  exact ⟨if_pos (by decide), if_pos (.inl (by decide))⟩

theorem metF_err (ps : List (Int × Int)) (n : Int) : (metF ps n).2 = 0 ∨ (metF ps n).2 = 22 ∨ (metF ps n).2 = 23 := by
  unfold metF
  cases ps with
  | nil => exact .inl rfl
  | cons f r =>
    dsimp only
    split
    · exact .inl rfl
    · split
      · exact .inr (.inl rfl)
      · split
        · exact .inr (.inr rfl)
        · exact .inl rfl

/-- A read of some bytes: refused for its way, or it waits just where it was said. -/
theorem says_read {s : AK} {d n : Int} {x : AD} (hx : s.desc d = some x) (h1 : 1 ≤ n) (h2 : n ≤ 1048576) :
    (bitI x.fl 1 ≠ 1 ∧ s.read d n = ([], 65, s) ∧ s.canRead d = false) ∨
    (bitI x.fl 1 = 1 ∧ (s.read d n).2.1 ≠ 65 ∧ s.canRead d = decide ((s.read d n).2.1 ≠ 52)) := by
  by_cases hb : bitI x.fl 1 = 1
  · right
    have hf := find_of hx hb
    have hc : s.canRead d = !s.waits x := by unfold canRead; rw [if_neg (fun e => e hf), hx]
    have hr : s.read d n = if s.waits x = true then ([], 52, s) else if (metF s.ps n).2 ≠ 0 then ([], (metF s.ps n).2, s.met0) else ((s.met0.rdO x (metF s.ps n).1).1, 0, (s.met0.rdO x (metF s.ps n).1).2) := by
      unfold read
      rw [if_neg (fun e => e hf), if_neg (by omega), if_neg (by omega), hx]
    rw [hr, hc]
    cases hw : s.waits x with
    | true => exact ⟨hb, by rw [if_pos rfl]; show (52 : Int) ≠ 65; decide, by rw [if_pos rfl]; rfl⟩
    | false =>
      rw [if_neg (by simp)]
      rcases metF_err s.ps n with e | e | e
      · rw [if_neg (fun e' => e' e)]; exact ⟨hb, by show (0 : Int) ≠ 65; decide, rfl⟩
      · rw [if_pos (by rw [e]; decide), e]; exact ⟨hb, by show (22 : Int) ≠ 65; decide, rfl⟩
      · rw [if_pos (by rw [e]; decide), e]; exact ⟨hb, by show (23 : Int) ≠ 65; decide, rfl⟩
  · left
    have hf := find_bad hx hb
    refine ⟨hb, ?_, ?_⟩
    · unfold read; rw [hf, if_pos (by decide)]
    · unfold canRead; rw [hf, if_pos (by decide)]

theorem roomO_err {s : AK} {x : AD} {n : Int} : (s.roomO x n).2 = 0 ∨ (s.roomO x n).2 = 31 ∨ (s.roomO x n).2 = 53 ∨ ((s.roomO x n).2 = 52 ∧ (s.objs x.ob).kd = .con) := by
  unfold roomO
  cases s.objs x.ob with
  | file bs =>
    dsimp only
    unfold roomD
    split
    · exact .inl rfl
    · exact .inr (.inl rfl)
  | term LL scr =>
    dsimp only
    unfold roomD
    split
    · exact .inl rfl
    · exact .inr (.inl rfl)
  | pipe bs e0 e1 =>
    dsimp only
    unfold roomC
    split
    · exact .inr (.inr (.inl rfl))
    · split
      · exact .inr (.inr (.inr ⟨rfl, rfl⟩))
      · exact .inl rfl

/-- A write of some bytes: refused for its way, or it waits just where there is no room. -/
theorem says_write {s : AK} {d : Int} {x : AD} (hx : s.desc d = some x) {ds : List Int} (h1 : 1 ≤ ds.length) (h2 : ds.length ≤ 1048576) :
    (bitI x.fl 2 ≠ 2 ∧ (s.write d ds).2.1 = 65 ∧ s.canWrite d ds.length = false) ∨
    (bitI x.fl 2 = 2 ∧ (s.write d ds).2.1 ≠ 65 ∧ s.canWrite d ds.length = decide ((s.write d ds).2.1 ≠ 52) ∧ ((s.objs x.ob).kd ≠ .con → s.canWrite d ds.length = true)) := by
  by_cases hb : bitI x.fl 2 = 2
  · right
    have hf := find_of hx hb
    have hnr : ¬ (s.find d 2 ≠ 0 ∨ (ds.length : Int) < 1 ∨ (ds.length : Int) > 1048576) := by rw [hf]; omega
    have hc : s.canWrite d ds.length = decide ((s.roomO x ds.length).2 ≠ 52) := by unfold canWrite; rw [if_neg hnr, hx]
    have hr : (s.write d ds).2.1 = if (s.roomO x ds.length).2 ≠ 0 then (s.roomO x ds.length).2 else (metF s.ps ds.length).2 := by
      unfold write
      rw [if_neg (fun e => e hf), if_neg (by omega), if_neg (by omega), hx]
      dsimp only
      by_cases e1 : (s.roomO x ds.length).2 ≠ 0
      · rw [if_pos e1, if_pos e1]
      · rw [if_neg e1, if_neg e1]
        by_cases e2 : (metF s.ps ds.length).2 ≠ 0
        · rw [if_pos e2]
        · rw [if_neg e2]; exact (Decidable.not_not.1 e2).symm
    rw [hr, hc]
    rcases @roomO_err s x (ds.length : Int) with e | e | e | ⟨e, hk⟩
    · rw [e, if_neg (by simp)]
      rcases metF_err s.ps ds.length with e2 | e2 | e2 <;> rw [e2] <;> exact ⟨hb, by decide, rfl, fun _ => rfl⟩
    · rw [e, if_pos (by decide)]; exact ⟨hb, by decide, rfl, fun _ => rfl⟩
    · rw [e, if_pos (by decide)]; exact ⟨hb, by decide, rfl, fun _ => rfl⟩
    · rw [e, if_pos (by decide)]; exact ⟨hb, by decide, rfl, fun h => absurd hk h⟩
  · left
    have hf := find_bad hx hb
    refine ⟨hb, ?_, ?_⟩
    · unfold write; rw [hf, if_pos (by decide)]
    · unfold canWrite; rw [hf, if_pos (.inl (by decide))]

theorem setO_kd {s : AK} {i : Nat} {o : AObj} (h : o.kd = (s.objs i).kd) (j : Nat) : ((s.setO i o).objs j).kd = (s.objs j).kd := by
  by_cases e : j = i
  · subst e; rw [objs_setO_same]; exact h
  · rw [objs_setO_ne s o e]

/-- What a read leaves of its description. -/
theorem read_desc {s : AK} {d n : Int} {x : AD} (hx : s.desc d = some x) : ∃ x', (s.read d n).2.2.desc d = some x' ∧ x'.fl = x.fl ∧ x'.ob = x.ob ∧ ((s.read d n).2.2.objs x.ob).kd = (s.objs x.ob).kd := by
  rcases read_cases s d n with ⟨e, _, hr⟩ | ⟨hr, _⟩ | ⟨y, hy, _, _, _, _, ⟨_, hr⟩ | ⟨_, hr⟩⟩
  · rw [hr]; exact ⟨x, hx, rfl, rfl, rfl⟩
  · rw [hr]; exact ⟨x, hx, rfl, rfl, rfl⟩
  · rw [hr]; exact ⟨x, hx, rfl, rfl, rfl⟩
  · rw [hx] at hy
    cases hy
    rw [hr]
    dsimp only
    unfold rdO
    cases ho : s.met0.objs x.ob with
    | file bs =>
      dsimp only
      rw [(desc_some hx).2]
      exact ⟨_, desc_setD_same (s := s.met0) hx, rfl, rfl, rfl⟩
    | term LL scr => exact ⟨x, hx, rfl, rfl, setO_kd (s := s.met0) (by rw [ho]; rfl) _⟩
    | pipe bs e0 e1 => exact ⟨x, hx, rfl, rfl, setO_kd (s := s.met0) (by rw [ho]; rfl) _⟩

theorem wrO_cs {s : AK} {x : AD} {ds : List Int} {m : Int} : (s.wrO x ds m).2.c0 = s.c0 ∧ (s.wrO x ds m).2.c1 = s.c1 ∧ (s.wrO x ds m).2.next = s.next ∧ (s.wrO x ds m).2.ps = s.ps ∧ (s.wrO x ds m).2.files = s.files ∧ (s.wrO x ds m).2.terms = s.terms := by
  unfold wrO
  cases s.objs x.ob with
  | file bs => exact ⟨rfl, rfl, rfl, rfl, rfl, rfl⟩
  | term LL scr => exact ⟨rfl, rfl, rfl, rfl, rfl, rfl⟩
  | pipe bs e0 e1 => exact ⟨rfl, rfl, rfl, rfl, rfl, rfl⟩

theorem write_cs (s : AK) (d : Int) (ds : List Int) : (s.write d ds).2.2.c0 = s.c0 ∧ s.c1 ≤ (s.write d ds).2.2.c1 ∧ (s.write d ds).2.2.c1 ≤ s.c1 + 1 ∧ (s.write d ds).2.2.next = s.next ∧ (s.write d ds).2.2.files = s.files ∧ (s.write d ds).2.2.terms = s.terms := by
  have same : s.c0 = s.c0 ∧ s.c1 ≤ s.c1 ∧ s.c1 ≤ s.c1 + 1 ∧ s.next = s.next ∧ s.files = s.files ∧ s.terms = s.terms := ⟨rfl, by omega, by omega, rfl, rfl, rfl⟩
  have met : s.met1.c0 = s.c0 ∧ s.c1 ≤ s.met1.c1 ∧ s.met1.c1 ≤ s.c1 + 1 ∧ s.met1.next = s.next ∧ s.met1.files = s.files ∧ s.met1.terms = s.terms := ⟨rfl, by show s.c1 ≤ s.c1 + 1; omega, by show s.c1 + 1 ≤ s.c1 + 1; omega, rfl, rfl, rfl⟩
  unfold write
  split
  · exact same
  · split
    · exact same
    · split
      · exact same
      · split
        · exact same
        · rename_i x _
          split
          · exact same
          · split
            · exact met
            · obtain ⟨q1, q2, q3, q4, q5, q6⟩ := @wrO_cs s.met1 x ds (min (metF s.ps ds.length).1 (s.roomO x ds.length).1)
              dsimp only
              rw [q1, q2, q3, q5, q6]
              exact met

theorem keep_cs (s : AK) (d : Int) : (s.keep d).2.c0 = s.c0 ∧ (s.keep d).2.c1 = s.c1 ∧ (s.keep d).2.next = s.next := by
  unfold keep
  split
  · exact ⟨rfl, rfl, rfl⟩
  · split
    · exact ⟨rfl, rfl, rfl⟩
    · split <;> exact ⟨rfl, rfl, rfl⟩

theorem leave_cs (s : AK) (x : AD) : (s.leave x).c0 = s.c0 ∧ (s.leave x).c1 = s.c1 ∧ (s.leave x).next = s.next := by
  unfold leave
  split <;> exact ⟨rfl, rfl, rfl⟩

theorem drop_cs (s : AK) (d : Int) : (s.drop d).2.c0 = s.c0 ∧ (s.drop d).2.c1 = s.c1 ∧ (s.drop d).2.next = s.next := by
  unfold drop
  split
  · exact ⟨rfl, rfl, rfl⟩
  · split
    · exact ⟨rfl, rfl, rfl⟩
    · split
      · exact leave_cs (s.delD d) _
      · exact ⟨rfl, rfl, rfl⟩

theorem open_cs (s : AK) (nm : ByteArray) (fl : Int) : (s.open_ nm fl).2.2.c0 = s.c0 ∧ (s.open_ nm fl).2.2.c1 = s.c1 ∧ s.next ≤ (s.open_ nm fl).2.2.next ∧ (s.open_ nm fl).2.2.next ≤ s.next + 1 := by
  unfold open_
  split
  · exact ⟨rfl, rfl, Int.le_refl _, by dsimp only; omega⟩
  · have : (s.openS nm fl).c0 = s.c0 ∧ (s.openS nm fl).c1 = s.c1 ∧ (s.openS nm fl).next = s.next + 1 := by
      unfold openS
      split
      · exact ⟨rfl, rfl, rfl⟩
      · split
        · split <;> exact ⟨rfl, rfl, rfl⟩
        · exact ⟨rfl, rfl, rfl⟩
    exact ⟨this.1, this.2.1, by dsimp only; omega, by dsimp only; omega⟩

theorem pipe_cs (s : AK) : s.pipe.2.2.2.c0 = s.c0 ∧ s.pipe.2.2.2.c1 = s.c1 ∧ s.next ≤ s.pipe.2.2.2.next ∧ s.pipe.2.2.2.next ≤ s.next + 2 := by
  unfold pipe
  split
  · exact ⟨rfl, rfl, Int.le_refl _, by dsimp only; omega⟩
  · exact ⟨rfl, rfl, by show s.next ≤ s.next + 1 + 1; omega, by show s.next + 1 + 1 ≤ s.next + 2; omega⟩

end AK
end Go.Proofs.YtpoaacnnhgebfaaGreat
