/-
  A raw read and a raw write. Conditions: as each says.
  Seek, Keep, Drop, CanWrite, Held. Conditions: as each says.
-/
import Derived.Test.YtkjmlbplmffekaaGreatKeI
set_option linter.unusedVariables false
namespace Go.Proofs.YtkjmlbplmffekaaGreat
open Go.Lw

theorem add60 (g : Nat) : ((⟨g, 0, none⟩ : Addr).add 6).add (Int.toNat 0) = (⟨g, 0, none⟩ : Addr).add 6 := by rw [Lw.add_add]; rfl
theorem add61 (g : Nat) : ((⟨g, 0, none⟩ : Addr).add 6).add (Int.toNat 1) = (⟨g, 0, none⟩ : Addr).add 7 := by rw [Lw.add_add]; rfl

theorem rdO_ok {w : World} {gk : Nat} {s : AK} {L : KL} (h : KernO w gk s L) {d : Int} {x : AD} (hx : s.desc d = some x) {m : Int} (hm0 : 0 ≤ m) (hm1 : m ≤ 1048576) :
    CallR Tryz.prog (readF (s.objs x.ob).kd) [ag (L.loc x.ob), pd (L.dloc d), .int .i64 m] w fun v w' => ∃ a l c L', v = .slice a l c ∧ OB w' a l c (s.rdO x m).1 ∧ Fresh w a ∧ KernO w' gk (s.rdO x m).2 L' ∧ KStep w w' L L' ∧ (∀ z, inA a z → L'.own z = none) := by
  have ap : ∀ {a : Option Addr} {L' : KL}, Fresh w a → (∀ z, L'.own z ≠ none → L.own z ≠ none) → ∀ z, inA a z → L'.own z = none := by
    intro a L' hf hn z hz
    cases ho : L'.own z with
    | none => rfl
    | some t => exact absurd (h.new_none (hf z hz)) (hn z (by rw [ho]; simp))
  have hO := h.ofO hx
  have hD := h.ofD hx
  have hr := h.ok.di x (AK.desc_some hx).1
  have hn := (AK.desc_some hx).2
  unfold AK.rdO
  cases ho : s.objs x.ob with
  | file bs =>
    rw [ho] at hO hD
    have hO : FileO _ w (L.loc x.ob) bs := hO
    obtain ⟨k, hk⟩ : ∃ k : Nat, x.at_ = (k : Int) := ⟨x.at_.toNat, by omega⟩
    rw [hk] at hD
    refine CallR.mono (dread_ok hO hD (by omega) hm0 hm1) ?_
    rintro v w' ⟨a, c, rfl, ob, hf, hD', hk'⟩
    have hl := hO.len
    have hpl : k + (piece bs (k : Int) m).length ≤ 1048576 := by unfold piece; rw [List.length_take, List.length_drop]; omega
    have hkd : (s.objs x.ob).kd = .disk := by rw [ho]; rfl
    obtain ⟨L', h', st, _, _, hnw⟩ := h.descStep hx hk' (at' := x.at_ + ((piece bs x.at_ m).length : Int)) (hd' := x.hd) (by rw [hkd, hk]; have := hD'; rw [Int.natCast_add] at this; exact this) ⟨by omega, by rw [hk]; omega, hr.2.2.2.1, hr.2.2.2.2.1⟩
    dsimp only
    rw [hn, hk]
    rw [hk] at h'
    exact ⟨a, _, c, L', rfl, ob, hf, h', st, ap hf hnw⟩
  | term LL scr =>
    rw [ho] at hO
    have hO : TermO _ _ w (L.loc x.ob) LL scr := hO
    refine CallR.mono (sread_ok hO m) ?_
    rintro v w' ⟨a, c, rfl, ob, hf, hk', hO'⟩
    obtain ⟨L', h', st, _, _, hnw⟩ := h.obStep hx hk' (fun z hz => by subst hz; exact (h.ofO hx).mem) (o := .term (readT m LL).2.2 scr) (by rw [ho]; rfl) (F := fun z => L.own z = some (.obj x.ob)) (fun z hz => .inl hz) hO'
    exact ⟨a, _, c, L', rfl, ob, hf, h', st, ap hf fun z hz => by
      rcases hnw z hz with e | e
      · rw [e]; simp
      · exact e⟩
  | pipe bs e0 e1 =>
    rw [ho] at hO
    have hO : PipeO w (L.loc x.ob) bs e0 e1 ∧ _ := hO
    refine CallR.mono (cread_ok' hO.1 m) ?_
    rintro v w' ⟨a, l, c, rfl, ob, hf, hO', hk'⟩
    obtain ⟨L', h', st, _, _, hnw⟩ := h.obStep hx hk' (fun z hz => by subst hz; exact (h.ofO hx).mem) (o := .pipe (readP m bs e0 e1).2.2 e0 e1) (by rw [ho]; rfl) (F := fun z => L.own z = some (.obj x.ob)) (fun z hz => .inl hz) ⟨hO', hO.2⟩
    exact ⟨a, l, c, L', rfl, ob, hf, h', st, ap hf fun z hz => by
      rcases hnw z hz with e | e
      · rw [e]; simp
      · exact e⟩

theorem PlO.le {w : World} {g : Nat} {a : Option Addr} {l c : Nat} {ps : List (Int × Int)} (h : PlO w g a l c ps) : ps.length = l := by
  have := h.rd.1
  rw [Fv_len] at this
  omega

theorem kernRead_ok {w : World} {gk : Nat} {s : AK} {L : KL} (h : KernO w gk s L) (d n : Int) (hc : s.c0 ≤ 1152921504606846976) :
    CallR Tryz.prog 20 [pd gk, .int .i64 d, .int .i64 n] w fun v w' => ∃ a l c L', v = .tuple #[.slice a l c, .int .i64 (s.read d n).2.1] ∧ OB w' a l c (s.read d n).1 ∧ Fresh w a ∧ KernO w' gk (s.read d n).2.2 L' ∧ KStep w w' L L' ∧ (∀ z, inA a z → L'.own z = none) := by
  refine C20 ?_
  unfold L20
  have bad : ∀ (e : Int) (w' : World), s.read d n = ([], e, s) → Kept No w w' → ∃ a l c L', (.tuple #[.slice none 0 0, .int .i64 e] : Value) = .tuple #[.slice a l c, .int .i64 (s.read d n).2.1] ∧ OB w' a l c (s.read d n).1 ∧ Fresh w a ∧ KernO w' gk (s.read d n).2.2 L' ∧ KStep w w' L L' ∧ (∀ z, inA a z → L'.own z = none) := by
    intro e w' hr hk
    rw [hr]
    exact ⟨none, 0, 0, L, rfl, OB.nil _, Fresh.none _, h.no hk, .of_no hk, fun z hz => absurd hz (inA_none z)⟩
  refine CallR.mono (find_ok h d 1) ?_
  rintro v w1 ⟨rfl, ⟨hne, rfl⟩ | ⟨he, x, hx, rfl⟩⟩
  · exact ⟨_, _, rfl, condN (fun _ => bad _ _ (by unfold AK.read; rw [if_pos hne]) (Kept.refl _ _)) (fun e => absurd e hne)⟩
  have hr : s.read d n = if n < 0 ∨ n > 1048576 then ([], 4, s) else if n = 0 then ([], 0, s) else
      if s.waits x = true then ([], 52, s) else if (metF s.ps n).2 ≠ 0 then ([], (metF s.ps n).2, s.met0) else ((s.met0.rdO x (metF s.ps n).1).1, 0, (s.met0.rdO x (metF s.ps n).1).2) := by
    unfold AK.read; rw [if_neg (fun e => e he), hx]
  refine ⟨_, _, rfl, condN (fun e => absurd rfl e) (fun _ => condP (fun h1 => bad _ _ (by rw [hr, if_pos (.inl h1)]) (Kept.refl _ _)) (fun h1 => condP (fun h2 => bad _ _ (by rw [hr, if_pos (.inr h2)]) (Kept.refl _ _)) (fun h2 => ?_)))⟩
  rw [if_neg (by omega)] at hr
  refine condI (fun h3 => bad _ _ (by rw [hr, if_pos (by simpa using h3)]) (Kept.refl _ _)) (fun h3 => ?_)
  have h3 : n ≠ 0 := by simpa using h3
  rw [if_neg h3] at hr
  refine CallR.mono (waitsD_ok h hx) ?_
  rintro v w2 ⟨rfl, hk2⟩
  refine ⟨_, rfl, condI (fun hw => bad _ _ (by rw [hr, if_pos hw]) hk2) (fun hw => ?_)⟩
  rw [if_neg (by rw [hw]; simp)] at hr
  intro w3
  have hk3 : Kept No w1 w3 := hk2.no (Kept.drew _ _)
  clear_value w3
  have hK3 := h.no hk3
  have hc0 := h.ok.c0
  refine nnI ⟨⟨by decide, by decide⟩, _, by rw [add60]; exact hK3.blk.at (i := 6) rfl, ⟨by omega, by omega⟩, nnI ⟨⟨by decide, by decide⟩, ?_⟩⟩
  rw [add60]
  refine stC_at hK3.blk (i := 6) (by simp [AK.cells]) fun w4 hb4 hk4 hs4 => ?_
  have hb4 : Blk w4 gk (AK.cells { s with c0 := s.c0 + 1, c1 := s.c1 } L) := hb4
  obtain ⟨ap, lp, cp, hp, hpo⟩ := hK3.pl
  have hps := h.ok.ps
  have hle := hp.le
  have hp4 := hp.keep hk4 (fun e => by have := h.oP; rw [e, h.oK] at this; cases this) (fun b _ hb e => by have := hpo b hb; rw [e, h.oK] at this; cases this)
  refine nnI ⟨_, hb4.at (i := 5) rfl, CallR.mono (fnext_ok hp4 (by omega) (by omega) (by omega)) ?_⟩
  rintro v w5 ⟨rfl, ⟨a', c', hin, hp'⟩, hk5⟩
  obtain ⟨hK5, st5⟩ := hK3.metStep hb4 hk4 ⟨a', _, c', hp', fun b hb => hpo b (hin b hb)⟩ hk5 h.ok.met0
  have st : KStep w1 w5 L L := (KStep.of_no hk3).trans st5
  refine ⟨_, _, rfl, condN (fun hne => ?_) (fun he2 => ?_)⟩
  · rw [if_pos hne] at hr
    rw [hr]
    exact ⟨none, 0, 0, L, rfl, OB.nil _, Fresh.none _, hK5, st, fun z hz => absurd hz (inA_none z)⟩
  · rw [if_neg (fun e => e he2)] at hr
    have hK5 : KernO w5 gk s.met0 L := hK5
    have hx5 : s.met0.desc d = some x := hx
    have hm : 0 ≤ (metF s.ps n).1 ∧ (metF s.ps n).1 ≤ 1048576 := by
      rcases AK.metF_ok h.ok.pm (n := n) (by omega) with ⟨_, h1, h2⟩ | ⟨_, h1, _⟩
      · omega
      · omega
    refine nnI ⟨_, Blk.at0 (hK5.ofD hx5) rfl, _, _, _, tv_read (s.met0.objs x.ob).kd (L.loc x.ob) #[pd (L.dloc d), .int .i64 (metF s.ps n).1] _, CallR.mono (rdO_ok hK5 hx5 hm.1 hm.2) ?_⟩
    rintro v w7 ⟨a, l, c, L', rfl, ob, hf, hK7, st7, hap⟩
    rw [hr]
    have hz := st.size
    exact ⟨a, l, c, rfl, a, l, c, L', rfl, ob, fun b hb => by have := hf b hb; omega, hK7, st.trans st7, hap⟩

theorem roomO_ok {w : World} {gk : Nat} {s : AK} {L : KL} (h : KernO w gk s L) {d : Int} {x : AD} (hx : s.desc d = some x) (n : Int) :
    CallR Tryz.prog (roomF (s.objs x.ob).kd) [ag (L.loc x.ob), pd (L.dloc d), .int .i64 n] w fun v w' => v = .tuple #[.int .i64 (s.roomO x n).1, .int .i64 (s.roomO x n).2] ∧ Kept No w w' := by
  have hO := h.ofO hx
  have hD := h.ofD hx
  have hr := h.ok.di x (AK.desc_some hx).1
  unfold AK.roomO
  cases ho : s.objs x.ob with
  | file bs =>
    rw [ho] at hO hD
    have hO : FileO _ w (L.loc x.ob) bs := hO
    exact droom_ok hO hD hr.2.1 hr.2.2.1
  | term LL scr =>
    rw [ho] at hO
    have hO : TermO _ _ w (L.loc x.ob) LL scr := hO
    exact sroom_ok hO n
  | pipe bs e0 e1 =>
    rw [ho] at hO
    have hO : PipeO w (L.loc x.ob) bs e0 e1 ∧ _ := hO
    exact croom_ok hO.1 n

theorem roomD_le {p n : Int} (h : (roomD p n).2 = 0) (hn : 1 ≤ n) : 1 ≤ (roomD p n).1 ∧ (roomD p n).1 ≤ n ∧ (roomD p n).1 ≤ 1048576 - p := by
  unfold roomD at h ⊢
  by_cases e : 1048576 - p > 0
  · rw [if_pos e]
    show 1 ≤ mn n (1048576 - p) ∧ mn n (1048576 - p) ≤ n ∧ mn n (1048576 - p) ≤ 1048576 - p
    unfold mn
    split <;> omega
  · rw [if_neg e] at h; cases h

theorem wrO_ok {w : World} {gk : Nat} {s : AK} {L : KL} (h : KernO w gk s L) {d : Int} {x : AD} (hx : s.desc d = some x) {a : Option Addr} {l c : Nat} {ds : List Int} (hd : RdB w a l c ds) (hl : l ≤ 1048576) (hap : ds ≠ [] → ∀ k, inA a k → L.own k = none)
    (h0 : ds ≠ []) {n most : Int} (hn : 1 ≤ n) (hm0 : 1 ≤ most) (hr0 : (s.roomO x n).2 = 0) (hm : most ≤ (s.roomO x n).1) :
    CallR Tryz.prog (wrF (s.objs x.ob).kd) [ag (L.loc x.ob), pd (L.dloc d), .slice a l c, .int .i64 most] w fun v w' => v = .int .i64 (s.wrO x ds most).1 ∧ ∃ L', KernO w' gk (s.wrO x ds most).2 L' ∧ KStep w w' L L' := by
  have hO := h.ofO hx
  have hD := h.ofD hx
  have hr := h.ok.di x (AK.desc_some hx).1
  have hnm := (AK.desc_some hx).2
  have hln := hd.len
  unfold AK.roomO at hr0 hm
  unfold AK.wrO
  cases ho : s.objs x.ob with
  | file bs =>
    rw [ho] at hO hD hr0 hm
    dsimp only at hr0 hm
    have hO : FileO _ w (L.loc x.ob) bs := hO
    have hrm := roomD_le hr0 hn
    have hkd : (s.objs x.ob).kd = .disk := by rw [ho]; rfl
    have hpl : 0 ≤ placeF x.fl x.at_ bs := by unfold placeF; split <;> omega
    refine CallR.mono (dwrite_ok hO hD hr.2.1 hr.2.2.1 hd (by omega) (fun k hk => ⟨fun e => ?_, fun e => ?_⟩) (fun e => ?_) (by omega)) ?_
    · have := hap h0 k hk; rw [e] at this; cases this
    · have := hap h0 k hk; rw [e, h.ownD hx] at this; cases this
    · rw [h.ownD hx] at e; cases e
    rintro v w' ⟨rfl, ⟨F', hO', hg⟩, hD', hk'⟩
    rw [hln]
    obtain ⟨L', h', st, _, _, hnw⟩ := h.objStep hx hk' (fun z hz => by
      rcases hz with hz | rfl
      · exact .inl hz
      · exact .inr (h.ownD hx)) (o := .file (writeF bs (placeF x.fl x.at_ bs) (ds.take (min l most.toNat))).2) (by rw [ho]; rfl) (F := F') (fun z hz => hg z hz) hO' (at' := placeF x.fl x.at_ bs + ((min l most.toNat : Nat) : Int)) (hd' := x.hd) (by rw [hkd]; exact hD') ⟨by omega, by omega, hr.2.2.2.1, hr.2.2.2.2.1⟩
    dsimp only
    rw [hnm]
    exact ⟨rfl, L', h', st⟩
  | term LL scr =>
    rw [ho] at hO
    have hO : TermO _ _ w (L.loc x.ob) LL scr := hO
    refine CallR.mono (swrite_ok hO hd (by omega) (by omega)) ?_
    rintro v w' ⟨rfl, F', hO', hg, hk'⟩
    obtain ⟨L', h', st, _, _, hnw⟩ := h.obStep hx hk' (fun z hz => hz) (o := .term LL (writeT (ds.take (min l most.toNat)) scr).2) (by rw [ho]; rfl) (F := F') hg hO'
    rw [hln]
    exact ⟨rfl, L', h', st⟩
  | pipe bs e0 e1 =>
    rw [ho] at hO
    have hO : PipeO w (L.loc x.ob) bs e0 e1 ∧ _ := hO
    refine CallR.mono (cwrite_ok' hO.1 hd (fun _ e => ?_) most) ?_
    · have := hap h0 _ e; rw [(h.ofO hx).mem] at this; cases this
    rintro v w' ⟨rfl, hO', hk'⟩
    obtain ⟨L', h', st, _, _, hnw⟩ := h.obStep hx hk' (fun z hz => by subst hz; exact (h.ofO hx).mem) (o := .pipe (writeP ds most bs e0 e1).2.2 e0 e1) (by rw [ho]; rfl) (F := fun z => L.own z = some (.obj x.ob)) (fun z hz => .inl hz) ⟨hO', hO.2⟩
    exact ⟨rfl, L', h', st⟩

theorem room_le {s : AK} {x : AD} {n : Int} (h : (s.roomO x n).2 = 0) (hn : 1 ≤ n) : 1 ≤ (s.roomO x n).1 := by
  unfold AK.roomO at h ⊢
  cases ho : s.objs x.ob with
  | file bs => rw [ho] at h; exact (roomD_le h hn).1
  | term LL scr => rw [ho] at h; exact (roomD_le h hn).1
  | pipe bs e0 e1 =>
    rw [ho] at h
    dsimp only at h ⊢
    unfold roomC at h ⊢
    by_cases h1 : e0 = 0
    · rw [if_pos h1] at h; cases h
    · rw [if_neg h1] at h ⊢
      by_cases h2 : canWP n bs e0 e1 = false
      · rw [if_pos h2] at h; cases h
      · rw [if_neg h2]; exact hn

set_option maxHeartbeats 1000000 in
theorem kernWrite_ok {w : World} {gk : Nat} {s : AK} {L : KL} (h : KernO w gk s L) (d : Int) {a : Option Addr} {l c : Nat} {ds : List Int} (hd : RdB w a l c ds) (hap : ds ≠ [] → ∀ k, inA a k → L.own k = none) (hc : s.c1 ≤ 1152921504606846976) :
    CallR Tryz.prog 22 [pd gk, .int .i64 d, .slice a l c] w fun v w' => v = .tuple #[.int .i64 (s.write d ds).1, .int .i64 (s.write d ds).2.1] ∧ ∃ L', KernO w' gk (s.write d ds).2.2 L' ∧ KStep w w' L L' := by
  refine C22 ?_
  unfold L22
  have hln := hd.len
  have bad : ∀ (e : Int) (w' : World), s.write d ds = (0, e, s) → Kept No w w' → (.tuple #[.int .i64 0, .int .i64 e] : Value) = .tuple #[.int .i64 (s.write d ds).1, .int .i64 (s.write d ds).2.1] ∧ ∃ L', KernO w' gk (s.write d ds).2.2 L' ∧ KStep w w' L L' := by
    intro e w' hr hk
    rw [hr]
    exact ⟨rfl, L, h.no hk, .of_no hk⟩
  refine CallR.mono (find_ok h d 2) ?_
  rintro v w1 ⟨rfl, ⟨hne, rfl⟩ | ⟨he, x, hx, rfl⟩⟩
  · exact ⟨_, _, rfl, condN (fun _ => bad _ _ (by unfold AK.write; rw [if_pos hne]) (Kept.refl _ _)) (fun e => absurd e hne)⟩
  have hr : s.write d ds = if 1048576 < ds.length then (0, 5, s) else if ds.length = 0 then (0, 0, s) else
      if (s.roomO x ds.length).2 ≠ 0 then (0, (s.roomO x ds.length).2, s) else if (metF s.ps ds.length).2 ≠ 0 then (0, (metF s.ps ds.length).2, s.met1) else
      ((s.met1.wrO x ds (min (metF s.ps ds.length).1 (s.roomO x ds.length).1)).1, 0, (s.met1.wrO x ds (min (metF s.ps ds.length).1 (s.roomO x ds.length).1)).2) := by
    unfold AK.write; rw [if_neg (fun e => e he), hx]
  rw [hln] at hr
  refine ⟨_, _, rfl, condN (fun e => absurd rfl e) (fun _ => condP (fun h1 => bad _ _ (by rw [hr, if_pos (by omega)]) (Kept.refl _ _)) (fun h1 => ?_))⟩
  rw [if_neg (by omega)] at hr
  refine condI (fun h3 => bad _ _ (by rw [hr, if_pos (by simpa using h3)]) (Kept.refl _ _)) (fun h3 => ?_)
  have h3 : l ≠ 0 := by simpa using h3
  rw [if_neg h3] at hr
  have hne : ds ≠ [] := fun e => by rw [e] at hln; simp at hln; omega
  refine nnI ⟨_, Blk.at0 (h.ofD hx) rfl, _, _, _, tv_room (s.objs x.ob).kd (L.loc x.ob) #[pd (L.dloc d), .int .i64 ((l : Nat) : Int)] _, CallR.mono (roomO_ok h hx (l : Int)) ?_⟩
  rintro v w3 ⟨rfl, hk3⟩
  refine ⟨_, _, rfl, condN (fun hn => bad _ _ (by rw [hr, if_pos hn]) hk3) (fun hr0 => ?_)⟩
  rw [if_neg (fun e => e hr0)] at hr
  intro w4
  have hk4 : Kept No w1 w4 := hk3.no (Kept.drew _ _)
  clear_value w4
  have hK4 := h.no hk4
  have hc1 := h.ok.c1
  refine nnI ⟨⟨by decide, by decide⟩, _, by rw [add61]; exact hK4.blk.at (i := 7) rfl, ⟨by omega, by omega⟩, nnI ⟨⟨by decide, by decide⟩, ?_⟩⟩
  rw [add61]
  refine stC_at hK4.blk (i := 7) (by simp [AK.cells]) fun w5 hb5 hk5 hs5 => ?_
  have hb5 : Blk w5 gk (AK.cells { s with c0 := s.c0, c1 := s.c1 + 1 } L) := hb5
  obtain ⟨ap, lp, cp, hp, hpo⟩ := hK4.pl
  have hps := h.ok.ps
  have hle := hp.le
  have hp5 := hp.keep hk5 (fun e => by have := h.oP; rw [e, h.oK] at this; cases this) (fun b _ hb e => by have := hpo b hb; rw [e, h.oK] at this; cases this)
  refine nnI ⟨_, hb5.at (i := 5) rfl, CallR.mono (fnext_ok hp5 (by omega) (by omega) (by omega)) ?_⟩
  rintro v w6 ⟨rfl, ⟨a', c', hin, hp'⟩, hk6⟩
  obtain ⟨hK6, st6⟩ := hK4.metStep hb5 hk5 ⟨a', _, c', hp', fun b hb => hpo b (hin b hb)⟩ hk6 h.ok.met1
  have st : KStep w1 w6 L L := (KStep.of_no hk4).trans st6
  refine ⟨_, _, rfl, condN (fun hne => ?_) (fun he2 => ?_)⟩
  · rw [if_pos hne] at hr
    rw [hr]
    exact ⟨rfl, L, hK6, st⟩
  · rw [if_neg (fun e => e he2)] at hr
    have hK6 : KernO w6 gk s.met1 L := hK6
    have hx6 : s.met1.desc d = some x := hx
    have hm : 1 ≤ (metF s.ps (l : Int)).1 := by
      rcases AK.metF_ok h.ok.pm (n := (l : Int)) (by omega) with ⟨_, h1, h2⟩ | ⟨_, h1, _⟩
      · exact h1
      · omega
    have hrl := room_le hr0 (by omega)
    have hd6 : RdB w6 a l c ds := hd.keep st.kept fun b _ hb e => e (hap hne b hb)
    have hmn : mn (metF s.ps (l : Int)).1 (s.roomO x (l : Int)).1 = min (metF s.ps (l : Int)).1 (s.roomO x (l : Int)).1 := by unfold mn; omega
    rw [hmn]
    refine nnI ⟨_, Blk.at0 (hK6.ofD hx6) rfl, _, _, _, tv_write (s.met1.objs x.ob).kd (L.loc x.ob) #[pd (L.dloc d), .slice a l c, .int .i64 _] _, CallR.mono (wrO_ok hK6 hx6 hd6 (by omega) hap hne (n := (l : Int)) (by omega) (by omega) hr0 (by show _ ≤ (s.roomO x (l : Int)).1; omega)) ?_⟩
    rintro v w8 ⟨rfl, L', hK8, st8⟩
    rw [hr]
    exact ⟨_, rfl, rfl, L', hK8, st.trans st8⟩

end Go.Proofs.YtkjmlbplmffekaaGreat

namespace Go.Proofs.YtkjmlbplmffekaaGreat
open Go.Lw

theorem canwrite_ok {w : World} {gk : Nat} {s : AK} {L : KL} (h : KernO w gk s L) (d n : Int) : CallR Tryz.prog 121 [pd gk, .int .i64 d, .int .i64 n] w fun v w' => v = .bool (s.canWrite d n) ∧ Kept No w w' := by
  refine C121 ?_
  unfold L121
  refine CallR.mono (find_ok h d 2) ?_
  unfold AK.canWrite
  rintro v w1 ⟨rfl, ⟨hne, rfl⟩ | ⟨he, x, hx, rfl⟩⟩
  · refine ⟨_, _, rfl, condN (fun _ => ⟨?_, Kept.refl _ _⟩) (fun e => absurd e hne)⟩
    rw [if_pos (.inl hne)]
  · refine ⟨_, _, rfl, condN (fun e => absurd rfl e) (fun _ => condP (fun h1 => ⟨by rw [if_pos (.inr (.inl h1))], Kept.refl _ _⟩) (fun h1 => condP (fun h2 => ⟨by rw [if_pos (.inr (.inr h2))], Kept.refl _ _⟩) (fun h2 => ?_)))⟩
    refine nnI ⟨_, Blk.at0 (h.ofD hx) rfl, _, _, _, tv_room (s.objs x.ob).kd (L.loc x.ob) #[pd (L.dloc d), .int .i64 n] _, CallR.mono (roomO_ok h hx n) ?_⟩
    rintro v w3 ⟨rfl, hk3⟩
    refine ⟨_, _, rfl, ?_, hk3⟩
    have hnr : ¬ (s.find d 2 ≠ 0 ∨ n < 1 ∨ n > 1048576) := by omega
    rw [if_neg hnr, hx]
    dsimp only
    congr 1
    by_cases e : (s.roomO x n).2 = 52
    · rw [e]; simp
    · rw [show ((s.roomO x n).2 != 52) = true by simpa using e]; simp [e]

theorem kernHeld_ok {w : World} {gk : Nat} {s : AK} {L : KL} (h : KernO w gk s L) (d : Int) : CallR Tryz.prog 123 [pd gk, .int .i64 d] w fun v w' => ∃ a l c, v = .slice a l c ∧ OB w' a l c (s.held d) ∧ Fresh w a ∧ Kept No w w' := by
  refine C123 ?_
  unfold L123
  refine CallR.mono (find_ok h d 0) ?_
  unfold AK.held
  rintro v w1 ⟨rfl, ⟨hne, rfl⟩ | ⟨he, x, hx, rfl⟩⟩
  · refine ⟨_, _, rfl, condN (fun _ => ⟨none, 0, 0, rfl, ?_, Fresh.none _, Kept.refl _ _⟩) (fun e => absurd e hne)⟩
    rw [if_pos hne]; exact OB.nil _
  · rw [if_neg (fun e => e he), hx]
    dsimp -zeta only
    refine ⟨_, _, rfl, condN (fun e => absurd rfl e) (fun _ => nnI ⟨_, Blk.at0 (h.ofD hx) rfl, ?_⟩)⟩
    have ht := tv_con (s.objs x.ob).kd (L.loc x.ob) w1
    have hO := h.ofO hx
    cases ho : s.objs x.ob with
    | file bs =>
      rw [ho] at ht
      refine ⟨_, _, _, ht, ?_⟩
      intro w3
      have hb3 : Blk w3 w1.heap.size #[.pointer none] := Blk.alloc _ _ _
      have hk3 : Kept No w1 w3 := Kept.alloc _ _ _
      clear_value w3
      exact stC_blk hb3 (by simp) fun w4 hb4 hk4 _ => condTr2 ⟨none, 0, 0, rfl, OB.nil _, Fresh.none _, hk3.fresh hk4 (fun x e => by omega)⟩
    | term LL scr =>
      rw [ho] at ht
      refine ⟨_, _, _, ht, ?_⟩
      intro w3
      have hb3 : Blk w3 w1.heap.size #[.pointer none] := Blk.alloc _ _ _
      have hk3 : Kept No w1 w3 := Kept.alloc _ _ _
      clear_value w3
      exact stC_blk hb3 (by simp) fun w4 hb4 hk4 _ => condTr2 ⟨none, 0, 0, rfl, OB.nil _, Fresh.none _, hk3.fresh hk4 (fun x e => by omega)⟩
    | pipe bs e0 e1 =>
      rw [ho] at ht hO
      refine ⟨_, _, _, ht, ?_⟩
      intro w3
      have hb3 : Blk w3 w1.heap.size #[.pointer none] := Blk.alloc _ _ _
      have hk3 : Kept No w1 w3 := Kept.alloc _ _ _
      clear_value w3
      refine stC_blk hb3 (by simp) fun w4 hb4 hk4 _ => condFa2 ?_
      have hb4 : Blk w4 w1.heap.size #[.pointer (some ⟨L.loc x.ob, 0, none⟩)] := by simpa using hb4
      have k4 : Kept No w1 w4 := hk3.fresh hk4 (fun x e => by omega)
      refine ⟨_, (hb4.cell 0).trans rfl, CallR.mono (kheld_ok (hO.1.keep k4 (fun e => e))) ?_⟩
      rintro v w5 ⟨a, c, rfl, ob, hf, hk5⟩
      have hz := k4.size
      exact ⟨_, _, _, rfl, a, _, c, rfl, ob, fun b hb => by have := hf b hb; omega, k4.no hk5⟩

theorem kernKeep_ok {w : World} {gk : Nat} {s : AK} {L : KL} (h : KernO w gk s L) (d : Int) : CallR Tryz.prog 111 [pd gk, .int .i64 d] w fun v w' => v = .int .i64 (s.keep d).1 ∧ ∃ L', KernO w' gk (s.keep d).2 L' ∧ KStep w w' L L' := by
  refine C111 ?_
  unfold L111
  refine CallR.mono (find_ok h d 0) ?_
  unfold AK.keep
  rintro v w1 ⟨rfl, ⟨hne, rfl⟩ | ⟨he, x, hx, rfl⟩⟩
  · refine ⟨_, _, rfl, condN (fun _ => ?_) (fun e => absurd e hne)⟩
    rw [if_pos hne]; exact ⟨rfl, L, h, KStep.refl _ _⟩
  · rw [if_neg (fun e => e he), hx]
    dsimp -zeta only
    have hD := h.ofD hx
    have hr := h.ok.di x (AK.desc_some hx).1
    refine ⟨_, _, rfl, condN (fun e => absurd rfl e) (fun _ => nnI ⟨_, Blk.at hD (i := 3) rfl, condP (fun h1 => ?_) (fun h1 => nnI ⟨_, Blk.at hD (i := 3) rfl, ⟨by omega, by omega⟩, nnI (stC_at hD (i := 3) (by simp) fun w2 hb2 hk2 hs2 => ?_)⟩)⟩)⟩
    · rw [if_pos h1]; exact ⟨rfl, L, h, KStep.refl _ _⟩
    · rw [if_neg h1]
      obtain ⟨L', h', st, _, _, hnw⟩ := h.descStep hx hk2 (at' := x.at_) (hd' := x.hd + 1) hb2 ⟨hr.2.1, hr.2.2.1, by omega, by omega⟩
      exact ⟨rfl, L', h', st⟩

theorem kernSeek_ok {w : World} {gk : Nat} {s : AK} {L : KL} (h : KernO w gk s L) (d off wh : Int) : CallR Tryz.prog 23 [pd gk, .int .i64 d, .int .i64 off, .int .i64 wh] w fun v w' => v = .tuple #[.int .i64 (s.seek d off wh).1, .int .i64 (s.seek d off wh).2.1] ∧ ∃ L', KernO w' gk (s.seek d off wh).2.2 L' ∧ KStep w w' L L' := by
  refine C23 ?_
  unfold L23
  refine CallR.mono (find_ok h d 0) ?_
  unfold AK.seek
  rintro v w1 ⟨rfl, ⟨hne, rfl⟩ | ⟨he, x, hx, rfl⟩⟩
  · refine ⟨_, _, rfl, condN (fun _ => ?_) (fun e => absurd e hne)⟩
    rw [if_pos hne]; exact ⟨rfl, L, h, KStep.refl _ _⟩
  · rw [if_neg (fun e => e he), hx]
    dsimp -zeta only
    refine ⟨_, _, rfl, condN (fun e => absurd rfl e) (fun _ => nnI ⟨_, Blk.at0 (h.ofD hx) rfl, ?_⟩)⟩
    have ht := tv_disk (s.objs x.ob).kd (L.loc x.ob) w1
    have hO := h.ofO hx
    have hD := h.ofD hx
    have hr := h.ok.di x (AK.desc_some hx).1
    cases ho : s.objs x.ob with
    | term LL scr =>
      rw [ho] at ht
      refine ⟨_, _, _, ht, ?_⟩
      intro w3
      have hb3 : Blk w3 w1.heap.size #[.pointer none] := Blk.alloc _ _ _
      have hk3 : Kept No w1 w3 := Kept.alloc _ _ _
      clear_value w3
      refine stC_blk hb3 (by simp) fun w4 hb4 hk4 _ => condTr2 ?_
      have k4 : Kept No w1 w4 := hk3.fresh hk4 (fun x e => by omega)
      exact ⟨rfl, L, h.no k4, .of_no k4⟩
    | pipe bs e0 e1 =>
      rw [ho] at ht
      refine ⟨_, _, _, ht, ?_⟩
      intro w3
      have hb3 : Blk w3 w1.heap.size #[.pointer none] := Blk.alloc _ _ _
      have hk3 : Kept No w1 w3 := Kept.alloc _ _ _
      clear_value w3
      refine stC_blk hb3 (by simp) fun w4 hb4 hk4 _ => condTr2 ?_
      have k4 : Kept No w1 w4 := hk3.fresh hk4 (fun x e => by omega)
      exact ⟨rfl, L, h.no k4, .of_no k4⟩
    | file bs =>
      rw [ho] at ht hO
      refine ⟨_, _, _, ht, ?_⟩
      intro w3
      have hb3 : Blk w3 w1.heap.size #[.pointer none] := Blk.alloc _ _ _
      have hk3 : Kept No w1 w3 := Kept.alloc _ _ _
      clear_value w3
      refine stC_blk hb3 (by simp) fun w4 hb4 hk4 _ => condFa2 ?_
      have hb4 : Blk w4 w1.heap.size #[.pointer (some ⟨L.loc x.ob, 0, none⟩)] := by simpa using hb4
      have k4 : Kept No w1 w4 := hk3.fresh hk4 (fun x e => by omega)
      have bad : ∀ e : Int, (.tuple #[.int .i64 0, .int .i64 e] : Value) = .tuple #[.int .i64 0, .int .i64 e] ∧ ∃ L', KernO w4 gk s L' ∧ KStep w1 w4 L L' := fun e => ⟨rfl, L, h.no k4, .of_no k4⟩
      dsimp only
      refine condP (fun h1 => ?_) (fun h1 => condP (fun h2 => ?_) (fun h2 => ?_))
      · rw [if_pos (.inl h1)]; exact bad 1
      · rw [if_pos (.inr h2)]; exact bad 1
      have hnw : ¬ (wh < 0 ∨ wh > 2) := by omega
      rw [if_neg hnw]
      have hO : FileO _ w1 (L.loc x.ob) bs := hO
      have hlen := hO.len
      refine ⟨fun wS => Kept No w4 wS, Kept.drew _ _, ?_⟩
      have hk5 : Kept No w4 w4.drew := Kept.drew _ _
      generalize w4.drew = w5 at hk5 ⊢
      have hD4 := Blk.keep hD k4 (fun e => e)
      refine nnI ⟨_, fun wS hS => (Blk.keep hD4 hS (fun e => e)).at (i := 2) rfl, _, fun wS hS => ((hb4.keep hS (fun e => e)).cell 0).trans rfl, CallR.mono (size_ok ((hO.keep k4 (fun _ _ e => e)).keep hk5 (fun _ _ e => e))) ?_⟩
      rintro v w6 ⟨rfl, rfl⟩
      have k6 : Kept No w1 w6 := k4.no hk5
      refine ⟨_, rfl, hk5, ⟨by omega, by omega⟩, ?_⟩
      obtain ⟨base, hbase, hget, hb0, hb1⟩ : ∃ base : Int, base = (if wh = 0 then 0 else if wh = 1 then x.at_ else (bs.length : Int)) ∧ (#[.int .i64 0, .int .i64 x.at_, .int .i64 (bs.length : Int)] : Array Value)[Int.toNat wh]? = some (.int .i64 base) ∧ 0 ≤ base ∧ base ≤ 1048576 := by
        by_cases e0 : wh = 0
        · subst e0; exact ⟨0, rfl, rfl, by omega, by omega⟩
        · by_cases e1 : wh = 1
          · subst e1; exact ⟨x.at_, rfl, rfl, by omega, by omega⟩
          · obtain rfl : wh = 2 := by omega
            exact ⟨_, rfl, rfl, by omega, by omega⟩
      rw [← hbase]
      have hK6 := h.no k6
      refine ⟨base, hget, ⟨by omega, by omega⟩, condP (fun h3 => ?_) (fun h3 => ⟨⟨by omega, by omega⟩, condP (fun h4 => ?_) (fun h4 => ⟨⟨by omega, by omega⟩, ?_⟩)⟩)⟩
      · rw [if_pos (.inl (by omega))]; exact ⟨rfl, L, hK6, .of_no k6⟩
      · rw [if_pos (.inr (by omega))]; exact ⟨rfl, L, hK6, .of_no k6⟩
      · have : ¬ (off < -base ∨ off > 1048576 - base) := by omega
        rw [if_neg this]
        have hD6 := hK6.ofD hx
        refine nnI (stC_at hD6 (i := 2) (by simp) fun w7 hb7 hk7 hs7 => nnI ⟨_, hb7.at (i := 2) rfl, ?_⟩)
        obtain ⟨L', h', st, _, _, hnw⟩ := hK6.descStep hx hk7 (at' := base + off) (hd' := x.hd) (by rw [ho] at hb7 ⊢; exact hb7) ⟨by omega, by omega, hr.2.2.2.1, hr.2.2.2.2.1⟩
        exact ⟨rfl, L', h', st.fresh k6⟩

theorem dropF_ok {w : World} {k : TK} (hk : k ≠ .con) (b bd : Nat) : CallR Tryz.prog (dropF k) [ag b, pd bd] w fun v w' => v = .tuple #[] ∧ Kept No w w' := by
  cases k
  · exact C285 ⟨rfl, Kept.alloc _ _ _⟩
  · exact C280 ⟨rfl, Kept.alloc _ _ _⟩
  · exact absurd rfl hk

theorem filter_split {l1 l2 : List AD} {x : AD} {d : Int} (hn : ((l1 ++ x :: l2).map (·.num)).Nodup) (hx : x.num = d) : (l1 ++ x :: l2).filter (fun y => decide (y.num ≠ d)) = l1 ++ l2 := by
  rw [List.map_append, List.map_cons, List.nodup_append] at hn
  obtain ⟨_, h2, h3⟩ := hn
  rw [List.nodup_cons] at h2
  rw [List.filter_append, List.filter_cons_of_neg (by simp [hx]), List.filter_eq_self.2, List.filter_eq_self.2]
  · intro y hy
    simp only [ne_eq, decide_not, Bool.not_eq_eq_eq_not, Bool.not_true, decide_eq_false_iff_not]
    intro e
    exact h2.1 (List.mem_map.2 ⟨y, hy, by rw [e, hx]⟩)
  · intro y hy
    simp only [ne_eq, decide_not, Bool.not_eq_eq_eq_not, Bool.not_true, decide_eq_false_iff_not]
    intro e
    exact h3 y.num (List.mem_map.2 ⟨y, hy, rfl⟩) x.num (by simp) (by rw [e, hx])

theorem kernDrop_ok {w : World} {gk : Nat} {s : AK} {L : KL} (h : KernO w gk s L) (d : Int) : CallR Tryz.prog 38 [pd gk, .int .i64 d] w fun v w' => v = .int .i64 (s.drop d).1 ∧ ∃ L', KernO w' gk (s.drop d).2 L' ∧ KStep w w' L L' := by
  refine C38 ?_
  unfold L38
  refine CallR.mono (find_ok h d 0) ?_
  unfold AK.drop
  rintro v w1 ⟨rfl, ⟨hne, rfl⟩ | ⟨he, x, hx, rfl⟩⟩
  · refine ⟨_, _, rfl, condN (fun _ => ?_) (fun e => absurd e hne)⟩
    rw [if_pos hne]; exact ⟨rfl, L, h, KStep.refl _ _⟩
  · rw [if_neg (fun e => e he), hx]
    dsimp -zeta only
    have hD := h.ofD hx
    have hr := h.ok.di x (AK.desc_some hx).1
    have hod := h.ownD hx
    refine ⟨_, _, rfl, condN (fun e => absurd rfl e) (fun _ => nnI ⟨_, Blk.at hD (i := 3) rfl, ⟨by omega, by omega⟩, nnI (stC_at hD (i := 3) (by simp) fun w2 hb2 hk2 hs2 => nnI ⟨_, hb2.at (i := 3) rfl, ?_⟩)⟩)⟩
    refine condI (fun h1 => ?_) (fun h1 => ?_)
    · have h1 : x.hd - 1 = 0 := by simpa using h1
      rw [if_pos (by omega)]
      have hT : Tryz.prog.underlying 69 = some (.map 3 172) := by kernel_rfl
      have hI : Tryz.prog.underlying 3 = some (.int .i64) := by kernel_rfl
      have hne : gk ≠ L.dloc d := fun e => by have := h.oK; rw [e, hod] at this; cases this
      have hb2' := h.blk.keep hk2 hne
      have hrd : L.rd ≠ L.dloc d := fun e => by have := h.oD; rw [e, hod] at this; cases this
      obtain ⟨hxm, hxn⟩ := AK.desc_some hx
      obtain ⟨l1, l2, hl⟩ := List.append_of_mem hxm
      have hmD : s.mD L = l1.map (fun d => (Value.int .i64 d.num, pd (L.dloc d.num))) ++ (.int .i64 d, pd (L.dloc d)) :: l2.map (fun d => (Value.int .i64 d.num, pd (L.dloc d.num))) := by
        unfold AK.mD
        rw [hl, List.map_append, List.map_cons, hxn]
      obtain ⟨w3, hrun, hm3, hk3, hs3⟩ := delete_in hT hI (h.md.keep hk2 hrd) (k := .int .i64 d) rfl hmD 0
      refine nnI ⟨_, hb2'.at (i := 3) rfl, w3, hrun, ?_⟩
      have kA : Kept (fun z => z = L.rd ∨ z = L.dloc d) w1 w3 := (hk2.mono fun _ _ e => .inr e).trans hk3 fun _ _ e => .inl e
      have hdel : (s.delD d).mD L = l1.map (fun d => (Value.int .i64 d.num, pd (L.dloc d.num))) ++ l2.map (fun d => (Value.int .i64 d.num, pd (L.dloc d.num))) := by
        unfold AK.mD AK.delD
        dsimp only
        rw [hl, filter_split (by rw [← hl]; exact h.ok.dn) hxn, List.map_append]
      obtain ⟨h3, st3⟩ := h.delStep hx kA (by rw [hdel]; exact hm3)
      have hb3 := Blk.keep hb2 hk3 (fun e => hrd e.symm)
      refine nnI ⟨_, hb3.at0 rfl, _, _, _, tv_drop (s.objs x.ob).kd (L.loc x.ob) #[pd (L.dloc d)] _, ?_⟩
      have hi : x.ob < (s.delD d).nob := hr.1
      have hO := h3.ob x.ob hi
      unfold AK.leave
      have hob : (s.delD d).objs = s.objs := rfl
      rw [hob] at hO ⊢
      cases ho : s.objs x.ob with
      | file bs =>
        refine CallR.mono (dropF_ok (by simp [AObj.kd]) _ _) ?_
        rintro v w5 ⟨rfl, hk5⟩
        exact ⟨rfl, rfl, L, h3.no hk5, st3.no hk5⟩
      | term LL scr =>
        refine CallR.mono (dropF_ok (by simp [AObj.kd]) _ _) ?_
        rintro v w5 ⟨rfl, hk5⟩
        exact ⟨rfl, rfl, L, h3.no hk5, st3.no hk5⟩
      | pipe bs e0 e1 =>
        rw [ho] at hO hb3
        refine CallR.mono (cdrop_ok (k := .con) (o := L.loc x.ob) (fl := x.fl) (at_ := x.at_) (hd := x.hd - 1) hO.1 hb3) ?_
        rintro v w5 ⟨rfl, hO', hk5⟩
        obtain ⟨L', h', st, _, _, hnw⟩ := h3.obOnly (i := x.ob) hk5 (fun z hz => by subst hz; exact (h3.ob x.ob hi).mem) (o := .pipe bs (leaveP (bitI x.fl 2 != 0) e0 e1).2.1 (leaveP (bitI x.fl 2 != 0) e0 e1).2.2) (by rw [hob, ho]; rfl) (F := fun z => L.own z = some (.obj x.ob)) (fun z hz => .inl hz) ⟨hO', hO.2⟩
        exact ⟨rfl, rfl, L', h', st3.trans st⟩
    · have h1 : ¬ x.hd - 1 = 0 := by simpa using h1
      rw [if_neg (by omega)]
      obtain ⟨L', h', st, _, _, hnw⟩ := h.descStep hx hk2 (at' := x.at_) (hd' := x.hd - 1) hb2 ⟨hr.2.1, hr.2.2.1, by omega, by omega⟩
      exact ⟨rfl, L', h', st⟩

end Go.Proofs.YtkjmlbplmffekaaGreat
