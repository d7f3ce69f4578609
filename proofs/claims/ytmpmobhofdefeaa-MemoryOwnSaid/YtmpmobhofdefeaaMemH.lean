/-
  Memories that no call made. Conditions: as each says.
-/
import Derived.Test.YtmpmobhofdefeaaMemF
set_option linter.unusedVariables false
namespace Go.Proofs.Ytmpmobhofdefeaa
open Go.Lw

def NoSt (w : World) (p : Option Addr) : Prop := p = none ∨ ∃ b, p = some ⟨b, 0, none⟩ ∧ Blk w b #[.bool false, .slice none 0 0, .int .i64 0, .int .i64 0]
def NoCu (w : World) (p : Option Addr) : Prop := p = none ∨ ∃ b, p = some ⟨b, 0, none⟩ ∧ Blk w b #[.bool false, .slice none 0 0, .slice none 0 0, .slice none 0 0]
theorem NoSt.keep {w w' : World} {p : Option Addr} (h : NoSt w p) (k : Kept No w w') : NoSt w' p := h.imp id fun ⟨b, hp, hb⟩ => ⟨b, hp, hb.keep k (fun e => e)⟩
theorem NoCu.keep {w w' : World} {p : Option Addr} (h : NoCu w p) (k : Kept No w w') : NoCu w' p := h.imp id fun ⟨b, hp, hb⟩ => ⟨b, hp, hb.keep k (fun e => e)⟩

theorem xmread_to {w : World} {b : Nat} (hb : Blk w b #[.bool false, .slice none 0 0, .int .i64 0, .int .i64 0]) {n : Int} {Q : Value → World → Prop} (hq : Q (.tuple #[.slice none 0 0, .int .i64 2]) w) : CallR Try.prog 89 [pt b, .int .i64 n] w Q := by
  refine C89 ?_
  unfold L89
  exact nnI ⟨false, hb.at0 rfl, condT rfl hq⟩
theorem xmwrite_to {w : World} {b : Nat} (hb : Blk w b #[.bool false, .slice none 0 0, .int .i64 0, .int .i64 0]) {a : Option Addr} {l c : Nat} {Q : Value → World → Prop} (hq : Q (.tuple #[.int .i64 0, .int .i64 2]) w) : CallR Try.prog 81 [pt b, .slice a l c] w Q := by
  refine C81 ?_
  unfold L81
  exact nnI ⟨false, hb.at0 rfl, condT rfl hq⟩
theorem xmseek_to {w : World} {b : Nat} (hb : Blk w b #[.bool false, .slice none 0 0, .int .i64 0, .int .i64 0]) {n m : Int} {Q : Value → World → Prop} (hq : Q (.tuple #[.int .i64 0, .int .i64 2]) w) : CallR Try.prog 90 [pt b, .int .i64 n, .int .i64 m] w Q := by
  refine C90 ?_
  unfold L90
  exact nnI ⟨false, hb.at0 rfl, condT rfl hq⟩
theorem xfRead_to {w : World} {p : Option Addr} (h : NoSt w p) {n : Int} {Q : Value → World → Prop} (hq : Q (.tuple #[.slice none 0 0, .int .i64 2]) w) : CallR Try.prog 62 [.pointer p, .int .i64 n] w Q := by
  refine C62 ?_
  unfold L62
  rcases h with rfl | ⟨b, rfl, hb⟩
  · exact condT rfl hq
  · exact condF rfl (nnI (xmread_to hb ⟨_, _, _, _, rfl, hq⟩))
theorem xgRead_to {w : World} {p : Option Addr} (h : NoSt w p) {n : Int} {Q : Value → World → Prop} (hq : Q (.tuple #[.slice none 0 0, .int .i64 2]) w) : CallR Try.prog 63 [.pointer p, .int .i64 n] w Q := by
  refine C63 ?_
  unfold L63
  rcases h with rfl | ⟨b, rfl, hb⟩
  · exact condT rfl hq
  · exact condF rfl (nnI (xmread_to hb ⟨_, _, _, _, rfl, hq⟩))
theorem xrdRead_to {w : World} {p : Option Addr} (h : NoSt w p) {n : Int} {Q : Value → World → Prop} (hq : Q (.tuple #[.slice none 0 0, .int .i64 2]) w) : CallR Try.prog 69 [.pointer p, .int .i64 n] w Q := by
  refine C69 ?_
  unfold L69
  rcases h with rfl | ⟨b, rfl, hb⟩
  · exact condT rfl hq
  · exact condF rfl (nnI (xmread_to hb ⟨_, _, _, _, rfl, hq⟩))
theorem xfWrite_to {w : World} {p : Option Addr} (h : NoSt w p) {a : Option Addr} {l c : Nat} {Q : Value → World → Prop} (hq : Q (.tuple #[.int .i64 0, .int .i64 2]) w) : CallR Try.prog 43 [.pointer p, .slice a l c] w Q := by
  refine C43 ?_
  unfold L43
  rcases h with rfl | ⟨b, rfl, hb⟩
  · exact condT rfl hq
  · exact condF rfl (nnI (xmwrite_to hb ⟨_, _, rfl, hq⟩))
theorem xgWrite_to {w : World} {p : Option Addr} (h : NoSt w p) {a : Option Addr} {l c : Nat} {Q : Value → World → Prop} (hq : Q (.tuple #[.int .i64 0, .int .i64 2]) w) : CallR Try.prog 64 [.pointer p, .slice a l c] w Q := by
  refine C64 ?_
  unfold L64
  rcases h with rfl | ⟨b, rfl, hb⟩
  · exact condT rfl hq
  · exact condF rfl (nnI (xmwrite_to hb ⟨_, _, rfl, hq⟩))
theorem xrdWrite_to {w : World} {p : Option Addr} (h : NoSt w p) {a : Option Addr} {l c : Nat} {Q : Value → World → Prop} (hq : Q (.tuple #[.int .i64 0, .int .i64 2]) w) : CallR Try.prog 70 [.pointer p, .slice a l c] w Q := by
  refine C70 ?_
  unfold L70
  rcases h with rfl | ⟨b, rfl, hb⟩
  · exact condT rfl hq
  · exact condF rfl (nnI ⟨false, hb.at0 rfl, condT rfl hq⟩)
theorem xfSeek_to {w : World} {p : Option Addr} (h : NoSt w p) {n m : Int} {Q : Value → World → Prop} (hq : Q (.tuple #[.int .i64 0, .int .i64 2]) w) : CallR Try.prog 65 [.pointer p, .int .i64 n, .int .i64 m] w Q := by
  refine C65 ?_
  unfold L65
  rcases h with rfl | ⟨b, rfl, hb⟩
  · exact condT rfl hq
  · exact condF rfl (nnI (xmseek_to hb ⟨_, _, rfl, hq⟩))
theorem xgSeek_to {w : World} {p : Option Addr} (h : NoSt w p) {n m : Int} {Q : Value → World → Prop} (hq : Q (.tuple #[.int .i64 0, .int .i64 2]) w) : CallR Try.prog 66 [.pointer p, .int .i64 n, .int .i64 m] w Q := by
  refine C66 ?_
  unfold L66
  rcases h with rfl | ⟨b, rfl, hb⟩
  · exact condT rfl hq
  · exact condF rfl (nnI (xmseek_to hb ⟨_, _, rfl, hq⟩))
theorem xrdSeek_to {w : World} {p : Option Addr} (h : NoSt w p) {n m : Int} {Q : Value → World → Prop} (hq : Q (.tuple #[.int .i64 0, .int .i64 2]) w) : CallR Try.prog 91 [.pointer p, .int .i64 n, .int .i64 m] w Q := by
  refine C91 ?_
  unfold L91
  rcases h with rfl | ⟨b, rfl, hb⟩
  · exact condT rfl hq
  · exact condF rfl (nnI (xmseek_to hb ⟨_, _, rfl, hq⟩))
theorem xfBytes_ok {w : World} {p : Option Addr} (h : NoSt w p) : CallR Try.prog 44 [.pointer p] w fun v w' => ∃ a c, v = .slice a 0 c ∧ Kept No w w' := by
  refine C44 ?_
  unfold L44
  rcases h with rfl | ⟨b, rfl, hb⟩
  · exact condT rfl ⟨_, _, rfl, Kept.refl _ _⟩
  · exact condF rfl (nnI ⟨_, _, _, hb.at (i := 1) rfl, (clone_ok (RdB.nil w) (by omega)).mono fun v w' ⟨a', c', hv, _, hk, _⟩ => ⟨_, _, _, hv, _, _, rfl, hk⟩⟩)
theorem xgBytes_ok {w : World} {p : Option Addr} (h : NoSt w p) : CallR Try.prog 67 [.pointer p] w fun v w' => ∃ a c, v = .slice a 0 c ∧ Kept No w w' := by
  refine C67 ?_
  unfold L67
  rcases h with rfl | ⟨b, rfl, hb⟩
  · exact condT rfl ⟨_, _, rfl, Kept.refl _ _⟩
  · exact condF rfl (nnI ⟨_, _, _, hb.at (i := 1) rfl, (clone_ok (RdB.nil w) (by omega)).mono fun v w' ⟨a', c', hv, _, hk, _⟩ => ⟨_, _, _, hv, _, _, rfl, hk⟩⟩)
theorem xcRead_ok {w : World} {p : Option Addr} (h : NoCu w p) {n : Int} : CallR Try.prog 41 [.pointer p, .int .i64 n] w fun v w' => v = .tuple #[.slice none 0 0, .int .i64 2] ∧ Kept No w w' := by
  refine C41 ?_
  unfold L41
  intro w1
  have hk1 : Kept No w w1 := Kept.alloc _ w _
  have hb1 : Blk w1 w.heap.size #[.pointer p] := Blk.alloc w _ _
  clear_value w1
  rcases h.keep hk1 with rfl | ⟨b, rfl, hb⟩
  · exact ⟨_, hb1.cell 0, condT rfl ⟨rfl, hk1⟩⟩
  · exact ⟨_, hb1.cell 0, condF rfl ⟨_, hb1.cell 0, nnI ⟨false, hb.at0 rfl, condT rfl ⟨rfl, hk1⟩⟩⟩⟩
theorem xcWrite_to {w : World} {p : Option Addr} (h : NoCu w p) {a : Option Addr} {l c : Nat} {Q : Value → World → Prop} (hq : Q (.tuple #[.int .i64 0, .int .i64 2]) w) : CallR Try.prog 77 [.pointer p, .slice a l c] w Q := by
  refine C77 ?_
  unfold L77
  rcases h with rfl | ⟨b, rfl, hb⟩
  · exact condT rfl hq
  · exact condF rfl (nnI ⟨false, hb.at0 rfl, condT rfl hq⟩)
theorem xcSeek_to {w : World} {p : Option Addr} (h : NoCu w p) {n m : Int} {Q : Value → World → Prop} (hq : Q (.tuple #[.int .i64 0, .int .i64 2]) w) : CallR Try.prog 92 [.pointer p, .int .i64 n, .int .i64 m] w Q := by
  refine C92 ?_
  unfold L92
  rcases h with rfl | ⟨b, rfl, hb⟩
  · exact condT rfl hq
  · exact condF rfl (nnI ⟨false, hb.at0 rfl, condT rfl hq⟩)
theorem xcTaken_ok {w : World} {p : Option Addr} (h : NoCu w p) : CallR Try.prog 93 [.pointer p] w fun v w' => ∃ a c, v = .slice a 0 c ∧ Kept No w w' := by
  refine C93 ?_
  unfold L93
  rcases h with rfl | ⟨b, rfl, hb⟩
  · exact condT rfl ⟨_, _, rfl, Kept.refl _ _⟩
  · exact condF rfl (nnI ⟨_, _, _, hb.at (i := 3) rfl, (clone_ok (RdB.nil w) (by omega)).mono fun v w' ⟨a', c', hv, _, hk, _⟩ => ⟨_, _, _, hv, _, _, rfl, hk⟩⟩)

theorem nnothing_ok {w : World} {p1 p2 p3 p4 : Option Addr} (h1 : NoSt w p1) (h2 : NoSt w p2) (h3 : NoSt w p3) (h4 : NoCu w p4) :
    CallR Try.prog 68 [.pointer p1, .pointer p2, .pointer p3, .pointer p4] w fun v w' => v = .bool true ∧ Kept No w w' := by
  refine C68 ?_
  unfold L68
  refine xfRead_to h1 ⟨_, _, _, _, rfl, xfWrite_to h1 ⟨_, _, rfl, xfSeek_to h1 ⟨_, _, rfl, xgRead_to h2 ⟨_, _, _, _, rfl, xgWrite_to h2 ⟨_, _, rfl, xgSeek_to h2 ⟨_, _, rfl, xrdRead_to h3 ⟨_, _, _, _, rfl, xrdWrite_to h3 ⟨_, _, rfl, xrdSeek_to h3 ⟨_, _, rfl, ?_⟩⟩⟩⟩⟩⟩⟩⟩⟩
  refine (xcRead_ok h4).mono fun v w1 ⟨hv1, hk1⟩ => ⟨_, _, _, _, hv1, ?_⟩
  have h41 := h4.keep hk1
  refine xcWrite_to h41 ⟨_, _, rfl, xcSeek_to h41 ⟨_, _, rfl, ?_⟩⟩
  refine nnum_to ⟨_, rfl, condT rfl (nnum_to ⟨_, rfl, condT rfl (nnum_to ⟨_, rfl, condT rfl (nnum_to ⟨_, rfl, condT rfl (nnum_to ⟨_, rfl, condT rfl (nnum_to ⟨_, rfl, condT rfl (nnum_to ⟨_, rfl, condT rfl (nnum_to ⟨_, rfl, condT rfl (nnum_to ⟨_, rfl, condT rfl (nnum_to ⟨_, rfl, condT rfl (nnum_to ⟨_, rfl, condT rfl (nnum_to ⟨_, rfl, condT rfl ?_⟩)⟩)⟩)⟩)⟩)⟩)⟩)⟩)⟩)⟩)⟩)⟩
  refine (xfBytes_ok (h1.keep hk1)).mono fun v w2 ⟨_, _, hv2, hk2⟩ => ⟨_, _, _, hv2, ?_⟩
  refine (xgBytes_ok ((h2.keep hk1).keep hk2)).mono fun v w3 ⟨_, _, hv3, hk3⟩ => ⟨_, _, _, hv3, by unfold inI; omega, ?_⟩
  exact (xcTaken_ok ((h41.keep hk2).keep hk3)).mono fun v w4 ⟨_, _, hv4, hk4⟩ => ⟨_, _, _, hv4, by unfold inI; omega, rfl, ((hk1.no hk2).no hk3).no hk4⟩

end Go.Proofs.Ytmpmobhofdefeaa
