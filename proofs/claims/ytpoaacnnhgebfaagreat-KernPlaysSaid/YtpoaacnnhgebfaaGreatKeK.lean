/-
  A raw read and a raw write. Conditions: as each says.
  Seek, Keep, Drop, CanWrite, Held. Conditions: as each says.
  Open and Pipe. Conditions: as each says.
-/
import Derived.Test.YtpoaacnnhgebfaaGreatKeG
set_option linter.unusedVariables false
namespace Go.Proofs.YtpoaacnnhgebfaaGreat
open Go.Lw

theorem add60 (g : Nat) : ((⟨g, 0, none⟩ : Addr).add 6).add (Int.toNat 0) = (⟨g, 0, none⟩ : Addr).add 6 := by rw [Lw.add_add]; rfl
theorem add61 (g : Nat) : ((⟨g, 0, none⟩ : Addr).add 6).add (Int.toNat 1) = (⟨g, 0, none⟩ : Addr).add 7 := by rw [Lw.add_add]; rfl

theorem rdO_ok {w : World} {gk : Nat} {s : AK} {L : KL} (h : KernO w gk s L) {d : Int} {x : AD} (hx : s.desc d = some x) {m : Int} (hm0 : 0 ≤ m) (hm1 : m ≤ 1048576) :
    CallR Tryz.prog (readF (s.objs x.ob).kd) [ag (L.loc x.ob), pd (L.dloc d), .int .i64 m] w fun v w' => ∃ a l c L', v = .slice a l c ∧ OB w' a l c (s.rdO x m).1 ∧ Fresh w a ∧ KernO w' gk (s.rdO x m).2 L' ∧ KStep w w' L L' ∧ (∀ z, inA a z → L'.own z = none) := by
  have ap : ∀ {a : Option Addr} {L' : KL}, Fresh w a → (∀ z, L'.own z ≠ none → L.own z ≠ none) → ∀ z, inA a z → L'.own z = none := by
    intro a L' hf hn z hz
    cases ho : L'.own z with
    | none => rfl
    | some t => exact absurd (h.new_none (hf z hz)) (hn z (by rw [ho]; simp))
  have hO := h.ofO hx
  have hD := h.ofD hx
  have hr := h.ok.di x (AK.desc_some hx).1
  have hn := (AK.desc_some hx).2
  unfold AK.rdO
  cases ho : s.objs x.ob with
  | file bs =>
    rw [ho] at hO hD
    have hO : FileO _ w (L.loc x.ob) bs := hO
    obtain ⟨k, hk⟩ : ∃ k : Nat, x.at_ = (k : Int) := ⟨x.at_.toNat, by omega⟩
    rw [hk] at hD
    refine CallR.mono (dread_ok hO hD (by omega) hm0 hm1) ?_
    rintro v w' ⟨a, c, rfl, ob, hf, hD', hk'⟩
    have hl := hO.len
    have hpl : k + (piece bs (k : Int) m).length ≤ 1048576 := by unfold piece; rw [List.length_take, List.length_drop]; omega
    have hkd : (s.objs x.ob).kd = .disk := by rw [ho]; rfl
    obtain ⟨L', h', st, _, _, hnw⟩ := h.descStep hx hk' (at' := x.at_ + ((piece bs x.at_ m).length : Int)) (hd' := x.hd) (by rw [hkd, hk]; have := hD'; rw [Int.natCast_add] at this; exact this) ⟨by omega, by rw [hk]; omega, hr.2.2.2.1, hr.2.2.2.2.1⟩
    dsimp only
    rw [hn, hk]
    rw [hk] at h'
    exact ⟨a, _, c, L', rfl, ob, hf, h', st, ap hf hnw⟩
  | term LL scr =>
    rw [ho] at hO
    have hO : TermO _ _ w (L.loc x.ob) LL scr := hO
    refine CallR.mono (sread_ok hO m) ?_
    rintro v w' ⟨a, c, rfl, ob, hf, hk', hO'⟩
    obtain ⟨L', h', st, _, _, hnw⟩ := h.obStep hx hk' (fun z hz => by subst hz; exact (h.ofO hx).mem) (o := .term (readT m LL).2.2 scr) (by rw [ho]; rfl) (F := fun z => L.own z = some (.obj x.ob)) (fun z hz => .inl hz) hO'
    exact ⟨a, _, c, L', rfl, ob, hf, h', st, ap hf fun z hz => by
      rcases hnw z hz with e | e
      · rw [e]; simp
      · exact e⟩
  | pipe bs e0 e1 =>
    rw [ho] at hO
    have hO : PipeO w (L.loc x.ob) bs e0 e1 ∧ _ := hO
    refine CallR.mono (cread_ok' hO.1 m) ?_
    rintro v w' ⟨a, l, c, rfl, ob, hf, hO', hk'⟩
    obtain ⟨L', h', st, _, _, hnw⟩ := h.obStep hx hk' (fun z hz => by subst hz; exact (h.ofO hx).mem) (o := .pipe (readP m bs e0 e1).2.2 e0 e1) (by rw [ho]; rfl) (F := fun z => L.own z = some (.obj x.ob)) (fun z hz => .inl hz) ⟨hO', hO.2⟩
    exact ⟨a, l, c, L', rfl, ob, hf, h', st, ap hf fun z hz => by
      rcases hnw z hz with e | e
      · rw [e]; simp
      · exact e⟩

theorem PlO.le {w : World} {g : Nat} {a : Option Addr} {l c : Nat} {ps : List (Int × Int)} (h : PlO w g a l c ps) : ps.length = l := by
  have := h.rd.1
  rw [Fv_len] at this
  omega

theorem kernRead_ok {w : World} {gk : Nat} {s : AK} {L : KL} (h : KernO w gk s L) (d n : Int) (hc : s.c0 ≤ 4611686018427387904) :
    CallR Tryz.prog 64 [pd gk, .int .i64 d, .int .i64 n] w fun v w' => ∃ a l c L', v = .tuple #[.slice a l c, .int .i64 (s.read d n).2.1] ∧ OB w' a l c (s.read d n).1 ∧ Fresh w a ∧ KernO w' gk (s.read d n).2.2 L' ∧ KStep w w' L L' ∧ (∀ z, inA a z → L'.own z = none) := by
  refine C64 ?_
  unfold L64
  have bad : ∀ (e : Int) (w' : World), s.read d n = ([], e, s) → Kept No w w' → ∃ a l c L', (.tuple #[.slice none 0 0, .int .i64 e] : Value) = .tuple #[.slice a l c, .int .i64 (s.read d n).2.1] ∧ OB w' a l c (s.read d n).1 ∧ Fresh w a ∧ KernO w' gk (s.read d n).2.2 L' ∧ KStep w w' L L' ∧ (∀ z, inA a z → L'.own z = none) := by
    intro e w' hr hk
    rw [hr]
    exact ⟨none, 0, 0, L, rfl, OB.nil _, Fresh.none _, h.no hk, .of_no hk, fun z hz => absurd hz (inA_none z)⟩
  refine CallR.mono (find_ok h d 1) ?_
  rintro v w1 ⟨rfl, ⟨hne, rfl⟩ | ⟨he, x, hx, rfl⟩⟩
  · exact ⟨_, _, rfl, condN (fun _ => bad _ _ (by unfold AK.read; rw [if_pos hne]) (Kept.refl _ _)) (fun e => absurd e hne)⟩
  have hr : s.read d n = if n < 0 ∨ n > 1048576 then ([], 4, s) else if n = 0 then ([], 0, s) else
      if s.waits x = true then ([], 52, s) else if (metF s.ps n).2 ≠ 0 then ([], (metF s.ps n).2, s.met0) else ((s.met0.rdO x (metF s.ps n).1).1, 0, (s.met0.rdO x (metF s.ps n).1).2) := by
    unfold AK.read; rw [if_neg (fun e => e he), hx]
  refine ⟨_, _, rfl, condN (fun e => absurd rfl e) (fun _ => condP (fun h1 => bad _ _ (by rw [hr, if_pos (.inl h1)]) (Kept.refl _ _)) (fun h1 => condP (fun h2 => bad _ _ (by rw [hr, if_pos (.inr h2)]) (Kept.refl _ _)) (fun h2 => ?_)))⟩
  rw [if_neg (by omega)] at hr
  refine condI (fun h3 => bad _ _ (by rw [hr, if_pos (by simpa using h3)]) (Kept.refl _ _)) (fun h3 => ?_)
  have h3 : n ≠ 0 := by simpa using h3
  rw [if_neg h3] at hr
  refine CallR.mono (waitsD_ok h hx) ?_
  rintro v w2 ⟨rfl, hk2⟩
  refine ⟨_, rfl, condI (fun hw => bad _ _ (by rw [hr, if_pos hw]) hk2) (fun hw => ?_)⟩
  rw [if_neg (by rw [hw]; simp)] at hr
  intro w3
  have hk3 : Kept No w1 w3 := hk2.no (Kept.drew _ _)
  clear_value w3
  have hK3 := h.no hk3
  have hc0 := h.ok.c0
  refine nnI ⟨⟨by decide, by decide⟩, _, by rw [add60]; exact hK3.blk.at (i := 6) rfl, ⟨by omega, by omega⟩, nnI ⟨⟨by decide, by decide⟩, ?_⟩⟩
  rw [add60]
  refine stC_at hK3.blk (i := 6) (by simp [AK.cells]) fun w4 hb4 hk4 hs4 => ?_
  have hb4 : Blk w4 gk (AK.cells { s with c0 := s.c0 + 1, c1 := s.c1 } L) := hb4
  obtain ⟨ap, lp, cp, hp, hpo⟩ := hK3.pl
  have hps := h.ok.ps
  have hle := hp.le
  have hp4 := hp.keep hk4 (fun e => by have := h.oP; rw [e, h.oK] at this; cases this) (fun b _ hb e => by have := hpo b hb; rw [e, h.oK] at this; cases this)
  refine nnI ⟨_, hb4.at (i := 5) rfl, CallR.mono (fnext_ok hp4 (by omega) (by omega) (by omega)) ?_⟩
  rintro v w5 ⟨rfl, ⟨a', c', hin, hp'⟩, hk5⟩
  obtain ⟨hK5, st5⟩ := hK3.metStep hb4 hk4 ⟨a', _, c', hp', fun b hb => hpo b (hin b hb)⟩ hk5 h.ok.met0
  have st : KStep w1 w5 L L := (KStep.of_no hk3).trans st5
  refine ⟨_, _, rfl, condN (fun hne => ?_) (fun he2 => ?_)⟩
  · rw [if_pos hne] at hr
    rw [hr]
    exact ⟨none, 0, 0, L, rfl, OB.nil _, Fresh.none _, hK5, st, fun z hz => absurd hz (inA_none z)⟩
  · rw [if_neg (fun e => e he2)] at hr
    have hK5 : KernO w5 gk s.met0 L := hK5
    have hx5 : s.met0.desc d = some x := hx
    have hm : 0 ≤ (metF s.ps n).1 ∧ (metF s.ps n).1 ≤ 1048576 := by
      rcases AK.metF_ok h.ok.pm (n := n) (by omega) with ⟨_, h1, h2⟩ | ⟨_, h1, _⟩
      · omega
      · omega
    refine nnI ⟨_, Blk.at0 (hK5.ofD hx5) rfl, _, _, _, tv_read (s.met0.objs x.ob).kd (L.loc x.ob) #[pd (L.dloc d), .int .i64 (metF s.ps n).1] _, CallR.mono (rdO_ok hK5 hx5 hm.1 hm.2) ?_⟩
    rintro v w7 ⟨a, l, c, L', rfl, ob, hf, hK7, st7, hap⟩
    rw [hr]
    have hz := st.size
    exact ⟨a, l, c, rfl, a, l, c, L', rfl, ob, fun b hb => by have := hf b hb; omega, hK7, st.trans st7, hap⟩

theorem roomO_ok {w : World} {gk : Nat} {s : AK} {L : KL} (h : KernO w gk s L) {d : Int} {x : AD} (hx : s.desc d = some x) (n : Int) :
    CallR Tryz.prog (roomF (s.objs x.ob).kd) [ag (L.loc x.ob), pd (L.dloc d), .int .i64 n] w fun v w' => v = .tuple #[.int .i64 (s.roomO x n).1, .int .i64 (s.roomO x n).2] ∧ Kept No w w' := by
  have hO := h.ofO hx
  have hD := h.ofD hx
  have hr := h.ok.di x (AK.desc_some hx).1
  unfold AK.roomO
  cases ho : s.objs x.ob with
  | file bs =>
    rw [ho] at hO hD
    have hO : FileO _ w (L.loc x.ob) bs := hO
    exact droom_ok hO hD hr.2.1 hr.2.2.1
  | term LL scr =>
    rw [ho] at hO
    have hO : TermO _ _ w (L.loc x.ob) LL scr := hO
    exact sroom_ok hO n
  | pipe bs e0 e1 =>
    rw [ho] at hO
    have hO : PipeO w (L.loc x.ob) bs e0 e1 ∧ _ := hO
    exact croom_ok hO.1 n

theorem roomD_le {p n : Int} (h : (roomD p n).2 = 0) (hn : 1 ≤ n) : 1 ≤ (roomD p n).1 ∧ (roomD p n).1 ≤ n ∧ (roomD p n).1 ≤ 1048576 - p := by
  unfold roomD at h ⊢
  by_cases e : 1048576 - p > 0
  · rw [if_pos e]
    show 1 ≤ mn n (1048576 - p) ∧ mn n (1048576 - p) ≤ n ∧ mn n (1048576 - p) ≤ 1048576 - p
    unfold mn
    split <;> omega
  · rw [if_neg e] at h; cases h

theorem wrO_ok {w : World} {gk : Nat} {s : AK} {L : KL} (h : KernO w gk s L) {d : Int} {x : AD} (hx : s.desc d = some x) {a : Option Addr} {l c : Nat} {ds : List Int} (hd : RdB w a l c ds) (hl : l ≤ 1048576) (hap : ds ≠ [] → ∀ k, inA a k → L.own k = none)
    (h0 : ds ≠ []) {n most : Int} (hn : 1 ≤ n) (hm0 : 1 ≤ most) (hr0 : (s.roomO x n).2 = 0) (hm : most ≤ (s.roomO x n).1) :
    CallR Tryz.prog (wrF (s.objs x.ob).kd) [ag (L.loc x.ob), pd (L.dloc d), .slice a l c, .int .i64 most] w fun v w' => v = .int .i64 (s.wrO x ds most).1 ∧ ∃ L', KernO w' gk (s.wrO x ds most).2 L' ∧ KStep w w' L L' := by
  have hO := h.ofO hx
  have hD := h.ofD hx
  have hr := h.ok.di x (AK.desc_some hx).1
  have hnm := (AK.desc_some hx).2
  have hln := hd.len
  unfold AK.roomO at hr0 hm
  unfold AK.wrO
  cases ho : s.objs x.ob with
  | file bs =>
    rw [ho] at hO hD hr0 hm
    dsimp only at hr0 hm
    have hO : FileO _ w (L.loc x.ob) bs := hO
    have hrm := roomD_le hr0 hn
    have hkd : (s.objs x.ob).kd = .disk := by rw [ho]; rfl
    have hpl : 0 ≤ placeF x.fl x.at_ bs := by unfold placeF; split <;> omega
    refine CallR.mono (dwrite_ok hO hD hr.2.1 hr.2.2.1 hd (by omega) (fun k hk => ⟨fun e => ?_, fun e => ?_⟩) (fun e => ?_) (by omega)) ?_
    · have := hap h0 k hk; rw [e] at this; cases this
    · have := hap h0 k hk; rw [e, h.ownD hx] at this; cases this
    · rw [h.ownD hx] at e; cases e
    rintro v w' ⟨rfl, ⟨F', hO', hg⟩, hD', hk'⟩
    rw [hln]
    obtain ⟨L', h', st, _, _, hnw⟩ := h.objStep hx hk' (fun z hz => by
      rcases hz with hz | rfl
      · exact .inl hz
      · exact .inr (h.ownD hx)) (o := .file (writeF bs (placeF x.fl x.at_ bs) (ds.take (min l most.toNat))).2) (by rw [ho]; rfl) (F := F') (fun z hz => hg z hz) hO' (at' := placeF x.fl x.at_ bs + ((min l most.toNat : Nat) : Int)) (hd' := x.hd) (by rw [hkd]; exact hD') ⟨by omega, by omega, hr.2.2.2.1, hr.2.2.2.2.1⟩
    dsimp only
    rw [hnm]
    exact ⟨rfl, L', h', st⟩
  | term LL scr =>
    rw [ho] at hO
    have hO : TermO _ _ w (L.loc x.ob) LL scr := hO
    refine CallR.mono (swrite_ok hO hd (by omega) (by omega)) ?_
    rintro v w' ⟨rfl, F', hO', hg, hk'⟩
    obtain ⟨L', h', st, _, _, hnw⟩ := h.obStep hx hk' (fun z hz => hz) (o := .term LL (writeT (ds.take (min l most.toNat)) scr).2) (by rw [ho]; rfl) (F := F') hg hO'
    rw [hln]
    exact ⟨rfl, L', h', st⟩
  | pipe bs e0 e1 =>
    rw [ho] at hO
    have hO : PipeO w (L.loc x.ob) bs e0 e1 ∧ _ := hO
    refine CallR.mono (cwrite_ok' hO.1 hd (fun _ e => ?_) most) ?_
    · have := hap h0 _ e; rw [(h.ofO hx).mem] at this; cases this
    rintro v w' ⟨rfl, hO', hk'⟩
    obtain ⟨L', h', st, _, _, hnw⟩ := h.obStep hx hk' (fun z hz => by subst hz; exact (h.ofO hx).mem) (o := .pipe (writeP ds most bs e0 e1).2.2 e0 e1) (by rw [ho]; rfl) (F := fun z => L.own z = some (.obj x.ob)) (fun z hz => .inl hz) ⟨hO', hO.2⟩
    exact ⟨rfl, L', h', st⟩

theorem room_le {s : AK} {x : AD} {n : Int} (h : (s.roomO x n).2 = 0) (hn : 1 ≤ n) : 1 ≤ (s.roomO x n).1 := by
  unfold AK.roomO at h ⊢
  cases ho : s.objs x.ob with
  | file bs => rw [ho] at h; exact (roomD_le h hn).1
  | term LL scr => rw [ho] at h; exact (roomD_le h hn).1
  | pipe bs e0 e1 =>
    rw [ho] at h
    dsimp only at h ⊢
    unfold roomC at h ⊢
    by_cases h1 : e0 = 0
    · rw [if_pos h1] at h; cases h
    · rw [if_neg h1] at h ⊢
      by_cases h2 : canWP n bs e0 e1 = false
      · rw [if_pos h2] at h; cases h
      · rw [if_neg h2]; exact hn

set_option maxHeartbeats 1000000 in
theorem kernWrite_ok {w : World} {gk : Nat} {s : AK} {L : KL} (h : KernO w gk s L) (d : Int) {a : Option Addr} {l c : Nat} {ds : List Int} (hd : RdB w a l c ds) (hap : ds ≠ [] → ∀ k, inA a k → L.own k = none) (hc : s.c1 ≤ 4611686018427387904) :
    CallR Tryz.prog 66 [pd gk, .int .i64 d, .slice a l c] w fun v w' => v = .tuple #[.int .i64 (s.write d ds).1, .int .i64 (s.write d ds).2.1] ∧ ∃ L', KernO w' gk (s.write d ds).2.2 L' ∧ KStep w w' L L' := by
  refine C66 ?_
  unfold L66
  have hln := hd.len
  have bad : ∀ (e : Int) (w' : World), s.write d ds = (0, e, s) → Kept No w w' → (.tuple #[.int .i64 0, .int .i64 e] : Value) = .tuple #[.int .i64 (s.write d ds).1, .int .i64 (s.write d ds).2.1] ∧ ∃ L', KernO w' gk (s.write d ds).2.2 L' ∧ KStep w w' L L' := by
    intro e w' hr hk
    rw [hr]
    exact ⟨rfl, L, h.no hk, .of_no hk⟩
  refine CallR.mono (find_ok h d 2) ?_
  rintro v w1 ⟨rfl, ⟨hne, rfl⟩ | ⟨he, x, hx, rfl⟩⟩
  · exact ⟨_, _, rfl, condN (fun _ => bad _ _ (by unfold AK.write; rw [if_pos hne]) (Kept.refl _ _)) (fun e => absurd e hne)⟩
  have hr : s.write d ds = if 1048576 < ds.length then (0, 5, s) else if ds.length = 0 then (0, 0, s) else
      if (s.roomO x ds.length).2 ≠ 0 then (0, (s.roomO x ds.length).2, s) else if (metF s.ps ds.length).2 ≠ 0 then (0, (metF s.ps ds.length).2, s.met1) else
      ((s.met1.wrO x ds (min (metF s.ps ds.length).1 (s.roomO x ds.length).1)).1, 0, (s.met1.wrO x ds (min (metF s.ps ds.length).1 (s.roomO x ds.length).1)).2) := by
    unfold AK.write; rw [if_neg (fun e => e he), hx]
  rw [hln] at hr
  refine ⟨_, _, rfl, condN (fun e => absurd rfl e) (fun _ => condP (fun h1 => bad _ _ (by rw [hr, if_pos (by omega)]) (Kept.refl _ _)) (fun h1 => ?_))⟩
  rw [if_neg (by omega)] at hr
  refine condI (fun h3 => bad _ _ (by rw [hr, if_pos (by simpa using h3)]) (Kept.refl _ _)) (fun h3 => ?_)
  have h3 : l ≠ 0 := by simpa using h3
  rw [if_neg h3] at hr
  have hne : ds ≠ [] := fun e => by rw [e] at hln; simp at hln; omega
  refine nnI ⟨_, Blk.at0 (h.ofD hx) rfl, _, _, _, tv_room (s.objs x.ob).kd (L.loc x.ob) #[pd (L.dloc d), .int .i64 ((l : Nat) : Int)] _, CallR.mono (roomO_ok h hx (l : Int)) ?_⟩
  rintro v w3 ⟨rfl, hk3⟩
  refine ⟨_, _, rfl, condN (fun hn => bad _ _ (by rw [hr, if_pos hn]) hk3) (fun hr0 => ?_)⟩
  rw [if_neg (fun e => e hr0)] at hr
  intro w4
  have hk4 : Kept No w1 w4 := hk3.no (Kept.drew _ _)
  clear_value w4
  have hK4 := h.no hk4
  have hc1 := h.ok.c1
  refine nnI ⟨⟨by decide, by decide⟩, _, by rw [add61]; exact hK4.blk.at (i := 7) rfl, ⟨by omega, by omega⟩, nnI ⟨⟨by decide, by decide⟩, ?_⟩⟩
  rw [add61]
  refine stC_at hK4.blk (i := 7) (by simp [AK.cells]) fun w5 hb5 hk5 hs5 => ?_
  have hb5 : Blk w5 gk (AK.cells { s with c0 := s.c0, c1 := s.c1 + 1 } L) := hb5
  obtain ⟨ap, lp, cp, hp, hpo⟩ := hK4.pl
  have hps := h.ok.ps
  have hle := hp.le
  have hp5 := hp.keep hk5 (fun e => by have := h.oP; rw [e, h.oK] at this; cases this) (fun b _ hb e => by have := hpo b hb; rw [e, h.oK] at this; cases this)
  refine nnI ⟨_, hb5.at (i := 5) rfl, CallR.mono (fnext_ok hp5 (by omega) (by omega) (by omega)) ?_⟩
  rintro v w6 ⟨rfl, ⟨a', c', hin, hp'⟩, hk6⟩
  obtain ⟨hK6, st6⟩ := hK4.metStep hb5 hk5 ⟨a', _, c', hp', fun b hb => hpo b (hin b hb)⟩ hk6 h.ok.met1
  have st : KStep w1 w6 L L := (KStep.of_no hk4).trans st6
  refine ⟨_, _, rfl, condN (fun hne => ?_) (fun he2 => ?_)⟩
  · rw [if_pos hne] at hr
    rw [hr]
    exact ⟨rfl, L, hK6, st⟩
  · rw [if_neg (fun e => e he2)] at hr
    have hK6 : KernO w6 gk s.met1 L := hK6
    have hx6 : s.met1.desc d = some x := hx
    have hm : 1 ≤ (metF s.ps (l : Int)).1 := by
      rcases AK.metF_ok h.ok.pm (n := (l : Int)) (by omega) with ⟨_, h1, h2⟩ | ⟨_, h1, _⟩
      · exact h1
      · omega
    have hrl := room_le hr0 (by omega)
    have hd6 : RdB w6 a l c ds := hd.keep st.kept fun b _ hb e => e (hap hne b hb)
    have hmn : mn (metF s.ps (l : Int)).1 (s.roomO x (l : Int)).1 = min (metF s.ps (l : Int)).1 (s.roomO x (l : Int)).1 := by unfold mn; omega
    rw [hmn]
    refine nnI ⟨_, Blk.at0 (hK6.ofD hx6) rfl, _, _, _, tv_write (s.met1.objs x.ob).kd (L.loc x.ob) #[pd (L.dloc d), .slice a l c, .int .i64 _] _, CallR.mono (wrO_ok hK6 hx6 hd6 (by omega) hap hne (n := (l : Int)) (by omega) (by omega) hr0 (by show _ ≤ (s.roomO x (l : Int)).1; omega)) ?_⟩
    rintro v w8 ⟨rfl, L', hK8, st8⟩
    rw [hr]
    exact ⟨_, rfl, rfl, L', hK8, st.trans st8⟩

end Go.Proofs.YtpoaacnnhgebfaaGreat

namespace Go.Proofs.YtpoaacnnhgebfaaGreat
open Go.Lw

theorem canwrite_ok {w : World} {gk : Nat} {s : AK} {L : KL} (h : KernO w gk s L) (d n : Int) : CallR Tryz.prog 86 [pd gk, .int .i64 d, .int .i64 n] w fun v w' => v = .bool (s.canWrite d n) ∧ Kept No w w' := by
  refine C86 ?_
  unfold L86
  refine CallR.mono (find_ok h d 2) ?_
  unfold AK.canWrite
  rintro v w1 ⟨rfl, ⟨hne, rfl⟩ | ⟨he, x, hx, rfl⟩⟩
  · refine ⟨_, _, rfl, condN (fun _ => ⟨?_, Kept.refl _ _⟩) (fun e => absurd e hne)⟩
    rw [if_pos (.inl hne)]
  · refine ⟨_, _, rfl, condN (fun e => absurd rfl e) (fun _ => condP (fun h1 => ⟨by rw [if_pos (.inr (.inl h1))], Kept.refl _ _⟩) (fun h1 => condP (fun h2 => ⟨by rw [if_pos (.inr (.inr h2))], Kept.refl _ _⟩) (fun h2 => ?_)))⟩
    refine nnI ⟨_, Blk.at0 (h.ofD hx) rfl, _, _, _, tv_room (s.objs x.ob).kd (L.loc x.ob) #[pd (L.dloc d), .int .i64 n] _, CallR.mono (roomO_ok h hx n) ?_⟩
    rintro v w3 ⟨rfl, hk3⟩
    refine ⟨_, _, rfl, ?_, hk3⟩
    have hnr : ¬ (s.find d 2 ≠ 0 ∨ n < 1 ∨ n > 1048576) := by omega
    rw [if_neg hnr, hx]
    dsimp only
    congr 1
    by_cases e : (s.roomO x n).2 = 52
    · rw [e]; simp
    · rw [show ((s.roomO x n).2 != 52) = true by simpa using e]; simp [e]

theorem kernHeld_ok {w : World} {gk : Nat} {s : AK} {L : KL} (h : KernO w gk s L) (d : Int) : CallR Tryz.prog 88 [pd gk, .int .i64 d] w fun v w' => ∃ a l c, v = .slice a l c ∧ OB w' a l c (s.held d) ∧ Fresh w a ∧ Kept No w w' := by
  refine C88 ?_
  unfold L88
  refine CallR.mono (find_ok h d 0) ?_
  unfold AK.held
  rintro v w1 ⟨rfl, ⟨hne, rfl⟩ | ⟨he, x, hx, rfl⟩⟩
  · refine ⟨_, _, rfl, condN (fun _ => ⟨none, 0, 0, rfl, ?_, Fresh.none _, Kept.refl _ _⟩) (fun e => absurd e hne)⟩
    rw [if_pos hne]; exact OB.nil _
  · rw [if_neg (fun e => e he), hx]
    dsimp -zeta only
    refine ⟨_, _, rfl, condN (fun e => absurd rfl e) (fun _ => nnI ⟨_, Blk.at0 (h.ofD hx) rfl, ?_⟩)⟩
    have ht := tv_con (s.objs x.ob).kd (L.loc x.ob) w1
    have hO := h.ofO hx
    cases ho : s.objs x.ob with
    | file bs =>
      rw [ho] at ht
      refine ⟨_, _, _, ht, ?_⟩
      intro w3
      have hb3 : Blk w3 w1.heap.size #[.pointer none] := Blk.alloc _ _ _
      have hk3 : Kept No w1 w3 := Kept.alloc _ _ _
      clear_value w3
      exact stC_blk hb3 (by simp) fun w4 hb4 hk4 _ => condTr2 ⟨none, 0, 0, rfl, OB.nil _, Fresh.none _, hk3.fresh hk4 (fun x e => by omega)⟩
    | term LL scr =>
      rw [ho] at ht
      refine ⟨_, _, _, ht, ?_⟩
      intro w3
      have hb3 : Blk w3 w1.heap.size #[.pointer none] := Blk.alloc _ _ _
      have hk3 : Kept No w1 w3 := Kept.alloc _ _ _
      clear_value w3
      exact stC_blk hb3 (by simp) fun w4 hb4 hk4 _ => condTr2 ⟨none, 0, 0, rfl, OB.nil _, Fresh.none _, hk3.fresh hk4 (fun x e => by omega)⟩
    | pipe bs e0 e1 =>
      rw [ho] at ht hO
      refine ⟨_, _, _, ht, ?_⟩
      intro w3
      have hb3 : Blk w3 w1.heap.size #[.pointer none] := Blk.alloc _ _ _
      have hk3 : Kept No w1 w3 := Kept.alloc _ _ _
      clear_value w3
      refine stC_blk hb3 (by simp) fun w4 hb4 hk4 _ => condFa2 ?_
      have hb4 : Blk w4 w1.heap.size #[.pointer (some ⟨L.loc x.ob, 0, none⟩)] := by simpa using hb4
      have k4 : Kept No w1 w4 := hk3.fresh hk4 (fun x e => by omega)
      refine ⟨_, (hb4.cell 0).trans rfl, CallR.mono (kheld_ok (hO.1.keep k4 (fun e => e))) ?_⟩
      rintro v w5 ⟨a, c, rfl, ob, hf, hk5⟩
      have hz := k4.size
      exact ⟨_, _, _, rfl, a, _, c, rfl, ob, fun b hb => by have := hf b hb; omega, k4.no hk5⟩

theorem kernKeep_ok {w : World} {gk : Nat} {s : AK} {L : KL} (h : KernO w gk s L) (d : Int) : CallR Tryz.prog 70 [pd gk, .int .i64 d] w fun v w' => v = .int .i64 (s.keep d).1 ∧ ∃ L', KernO w' gk (s.keep d).2 L' ∧ KStep w w' L L' := by
  refine C70 ?_
  unfold L70
  refine CallR.mono (find_ok h d 0) ?_
  unfold AK.keep
  rintro v w1 ⟨rfl, ⟨hne, rfl⟩ | ⟨he, x, hx, rfl⟩⟩
  · refine ⟨_, _, rfl, condN (fun _ => ?_) (fun e => absurd e hne)⟩
    rw [if_pos hne]; exact ⟨rfl, L, h, KStep.refl _ _⟩
  · rw [if_neg (fun e => e he), hx]
    dsimp -zeta only
    have hD := h.ofD hx
    have hr := h.ok.di x (AK.desc_some hx).1
    refine ⟨_, _, rfl, condN (fun e => absurd rfl e) (fun _ => nnI ⟨_, Blk.at hD (i := 3) rfl, condP (fun h1 => ?_) (fun h1 => nnI ⟨_, Blk.at hD (i := 3) rfl, ⟨by omega, by omega⟩, nnI (stC_at hD (i := 3) (by simp) fun w2 hb2 hk2 hs2 => ?_)⟩)⟩)⟩
    · rw [if_pos h1]; exact ⟨rfl, L, h, KStep.refl _ _⟩
    · rw [if_neg h1]
      obtain ⟨L', h', st, _, _, hnw⟩ := h.descStep hx hk2 (at' := x.at_) (hd' := x.hd + 1) hb2 ⟨hr.2.1, hr.2.2.1, by omega, by omega⟩
      exact ⟨rfl, L', h', st⟩

theorem kernSeek_ok {w : World} {gk : Nat} {s : AK} {L : KL} (h : KernO w gk s L) (d off wh : Int) : CallR Tryz.prog 68 [pd gk, .int .i64 d, .int .i64 off, .int .i64 wh] w fun v w' => v = .tuple #[.int .i64 (s.seek d off wh).1, .int .i64 (s.seek d off wh).2.1] ∧ ∃ L', KernO w' gk (s.seek d off wh).2.2 L' ∧ KStep w w' L L' := by
  refine C68 ?_
  unfold L68
  refine CallR.mono (find_ok h d 0) ?_
  unfold AK.seek
  rintro v w1 ⟨rfl, ⟨hne, rfl⟩ | ⟨he, x, hx, rfl⟩⟩
  · refine ⟨_, _, rfl, condN (fun _ => ?_) (fun e => absurd e hne)⟩
    rw [if_pos hne]; exact ⟨rfl, L, h, KStep.refl _ _⟩
  · rw [if_neg (fun e => e he), hx]
    dsimp -zeta only
    refine ⟨_, _, rfl, condN (fun e => absurd rfl e) (fun _ => nnI ⟨_, Blk.at0 (h.ofD hx) rfl, ?_⟩)⟩
    have ht := tv_disk (s.objs x.ob).kd (L.loc x.ob) w1
    have hO := h.ofO hx
    have hD := h.ofD hx
    have hr := h.ok.di x (AK.desc_some hx).1
    cases ho : s.objs x.ob with
    | term LL scr =>
      rw [ho] at ht
      refine ⟨_, _, _, ht, ?_⟩
      intro w3
      have hb3 : Blk w3 w1.heap.size #[.pointer none] := Blk.alloc _ _ _
      have hk3 : Kept No w1 w3 := Kept.alloc _ _ _
      clear_value w3
      refine stC_blk hb3 (by simp) fun w4 hb4 hk4 _ => condTr2 ?_
      have k4 : Kept No w1 w4 := hk3.fresh hk4 (fun x e => by omega)
      exact ⟨rfl, L, h.no k4, .of_no k4⟩
    | pipe bs e0 e1 =>
      rw [ho] at ht
      refine ⟨_, _, _, ht, ?_⟩
      intro w3
      have hb3 : Blk w3 w1.heap.size #[.pointer none] := Blk.alloc _ _ _
      have hk3 : Kept No w1 w3 := Kept.alloc _ _ _
      clear_value w3
      refine stC_blk hb3 (by simp) fun w4 hb4 hk4 _ => condTr2 ?_
      have k4 : Kept No w1 w4 := hk3.fresh hk4 (fun x e => by omega)
      exact ⟨rfl, L, h.no k4, .of_no k4⟩
    | file bs =>
      rw [ho] at ht hO
      refine ⟨_, _, _, ht, ?_⟩
      intro w3
      have hb3 : Blk w3 w1.heap.size #[.pointer none] := Blk.alloc _ _ _
      have hk3 : Kept No w1 w3 := Kept.alloc _ _ _
      clear_value w3
      refine stC_blk hb3 (by simp) fun w4 hb4 hk4 _ => condFa2 ?_
      have hb4 : Blk w4 w1.heap.size #[.pointer (some ⟨L.loc x.ob, 0, none⟩)] := by simpa using hb4
      have k4 : Kept No w1 w4 := hk3.fresh hk4 (fun x e => by omega)
      have bad : ∀ e : Int, (.tuple #[.int .i64 0, .int .i64 e] : Value) = .tuple #[.int .i64 0, .int .i64 e] ∧ ∃ L', KernO w4 gk s L' ∧ KStep w1 w4 L L' := fun e => ⟨rfl, L, h.no k4, .of_no k4⟩
      dsimp only
      refine condP (fun h1 => ?_) (fun h1 => condP (fun h2 => ?_) (fun h2 => ?_))
      · rw [if_pos (.inl h1)]; exact bad 1
      · rw [if_pos (.inr h2)]; exact bad 1
      have hnw : ¬ (wh < 0 ∨ wh > 2) := by omega
      rw [if_neg hnw]
      have hO : FileO _ w1 (L.loc x.ob) bs := hO
      have hlen := hO.len
      refine ⟨fun wS => Kept No w4 wS, Kept.drew _ _, ?_⟩
      have hk5 : Kept No w4 w4.drew := Kept.drew _ _
      generalize w4.drew = w5 at hk5 ⊢
      have hD4 := Blk.keep hD k4 (fun e => e)
      refine nnI ⟨_, fun wS hS => (Blk.keep hD4 hS (fun e => e)).at (i := 2) rfl, _, fun wS hS => ((hb4.keep hS (fun e => e)).cell 0).trans rfl, CallR.mono (size_ok ((hO.keep k4 (fun _ _ e => e)).keep hk5 (fun _ _ e => e))) ?_⟩
      rintro v w6 ⟨rfl, rfl⟩
      have k6 : Kept No w1 w6 := k4.no hk5
      refine ⟨_, rfl, hk5, ⟨by omega, by omega⟩, ?_⟩
      obtain ⟨base, hbase, hget, hb0, hb1⟩ : ∃ base : Int, base = (if wh = 0 then 0 else if wh = 1 then x.at_ else (bs.length : Int)) ∧ (#[.int .i64 0, .int .i64 x.at_, .int .i64 (bs.length : Int)] : Array Value)[Int.toNat wh]? = some (.int .i64 base) ∧ 0 ≤ base ∧ base ≤ 1048576 := by
        by_cases e0 : wh = 0
        · subst e0; exact ⟨0, rfl, rfl, by omega, by omega⟩
        · by_cases e1 : wh = 1
          · subst e1; exact ⟨x.at_, rfl, rfl, by omega, by omega⟩
          · obtain rfl : wh = 2 := by omega
            exact ⟨_, rfl, rfl, by omega, by omega⟩
      rw [← hbase]
      have hK6 := h.no k6
      refine ⟨base, hget, ⟨by omega, by omega⟩, condP (fun h3 => ?_) (fun h3 => ⟨⟨by omega, by omega⟩, condP (fun h4 => ?_) (fun h4 => ⟨⟨by omega, by omega⟩, ?_⟩)⟩)⟩
      · rw [if_pos (.inl (by omega))]; exact ⟨rfl, L, hK6, .of_no k6⟩
      · rw [if_pos (.inr (by omega))]; exact ⟨rfl, L, hK6, .of_no k6⟩
      · have : ¬ (off < -base ∨ off > 1048576 - base) := by omega
        rw [if_neg this]
        have hD6 := hK6.ofD hx
        refine nnI (stC_at hD6 (i := 2) (by simp) fun w7 hb7 hk7 hs7 => nnI ⟨_, hb7.at (i := 2) rfl, ?_⟩)
        obtain ⟨L', h', st, _, _, hnw⟩ := hK6.descStep hx hk7 (at' := base + off) (hd' := x.hd) (by rw [ho] at hb7 ⊢; exact hb7) ⟨by omega, by omega, hr.2.2.2.1, hr.2.2.2.2.1⟩
        exact ⟨rfl, L', h', st.fresh k6⟩

theorem dropF_ok {w : World} {k : TK} (hk : k ≠ .con) (b bd : Nat) : CallR Tryz.prog (dropF k) [ag b, pd bd] w fun v w' => v = .tuple #[] ∧ Kept No w w' := by
  cases k
  · exact C273 ⟨rfl, Kept.alloc _ _ _⟩
  · exact C268 ⟨rfl, Kept.alloc _ _ _⟩
  · exact absurd rfl hk

theorem filter_split {l1 l2 : List AD} {x : AD} {d : Int} (hn : ((l1 ++ x :: l2).map (·.num)).Nodup) (hx : x.num = d) : (l1 ++ x :: l2).filter (fun y => decide (y.num ≠ d)) = l1 ++ l2 := by
  rw [List.map_append, List.map_cons, List.nodup_append] at hn
  obtain ⟨_, h2, h3⟩ := hn
  rw [List.nodup_cons] at h2
  rw [List.filter_append, List.filter_cons_of_neg (by simp [hx]), List.filter_eq_self.2, List.filter_eq_self.2]
  · intro y hy
    simp only [ne_eq, decide_not, Bool.not_eq_eq_eq_not, Bool.not_true, decide_eq_false_iff_not]
    intro e
    exact h2.1 (List.mem_map.2 ⟨y, hy, by rw [e, hx]⟩)
  · intro y hy
    simp only [ne_eq, decide_not, Bool.not_eq_eq_eq_not, Bool.not_true, decide_eq_false_iff_not]
    intro e
    exact h3 y.num (List.mem_map.2 ⟨y, hy, rfl⟩) x.num (by simp) (by rw [e, hx])

theorem kernDrop_ok {w : World} {gk : Nat} {s : AK} {L : KL} (h : KernO w gk s L) (d : Int) : CallR Tryz.prog 72 [pd gk, .int .i64 d] w fun v w' => v = .int .i64 (s.drop d).1 ∧ ∃ L', KernO w' gk (s.drop d).2 L' ∧ KStep w w' L L' := by
  refine C72 ?_
  unfold L72
  refine CallR.mono (find_ok h d 0) ?_
  unfold AK.drop
  rintro v w1 ⟨rfl, ⟨hne, rfl⟩ | ⟨he, x, hx, rfl⟩⟩
  · refine ⟨_, _, rfl, condN (fun _ => ?_) (fun e => absurd e hne)⟩
    rw [if_pos hne]; exact ⟨rfl, L, h, KStep.refl _ _⟩
  · rw [if_neg (fun e => e he), hx]
    dsimp -zeta only
    have hD := h.ofD hx
    have hr := h.ok.di x (AK.desc_some hx).1
    have hod := h.ownD hx
    refine ⟨_, _, rfl, condN (fun e => absurd rfl e) (fun _ => nnI ⟨_, Blk.at hD (i := 3) rfl, ⟨by omega, by omega⟩, nnI (stC_at hD (i := 3) (by simp) fun w2 hb2 hk2 hs2 => nnI ⟨_, hb2.at (i := 3) rfl, ?_⟩)⟩)⟩
    refine condI (fun h1 => ?_) (fun h1 => ?_)
    · have h1 : x.hd - 1 = 0 := by simpa using h1
      rw [if_pos (by omega)]
      have hT : Tryz.prog.underlying 114 = some (.map 3 256) := by kernel_rfl
      have hI : Tryz.prog.underlying 3 = some (.int .i64) := by kernel_rfl
      have hne : gk ≠ L.dloc d := fun e => by have := h.oK; rw [e, hod] at this; cases this
      have hb2' := h.blk.keep hk2 hne
      have hrd : L.rd ≠ L.dloc d := fun e => by have := h.oD; rw [e, hod] at this; cases this
      obtain ⟨hxm, hxn⟩ := AK.desc_some hx
      obtain ⟨l1, l2, hl⟩ := List.append_of_mem hxm
      have hmD : s.mD L = l1.map (fun d => (Value.int .i64 d.num, pd (L.dloc d.num))) ++ (.int .i64 d, pd (L.dloc d)) :: l2.map (fun d => (Value.int .i64 d.num, pd (L.dloc d.num))) := by
        unfold AK.mD
        rw [hl, List.map_append, List.map_cons, hxn]
      obtain ⟨w3, hrun, hm3, hk3, hs3⟩ := delete_in hT hI (h.md.keep hk2 hrd) (k := .int .i64 d) rfl hmD 0
      refine nnI ⟨_, hb2'.at (i := 3) rfl, w3, hrun, ?_⟩
      have kA : Kept (fun z => z = L.rd ∨ z = L.dloc d) w1 w3 := (hk2.mono fun _ _ e => .inr e).trans hk3 fun _ _ e => .inl e
      have hdel : (s.delD d).mD L = l1.map (fun d => (Value.int .i64 d.num, pd (L.dloc d.num))) ++ l2.map (fun d => (Value.int .i64 d.num, pd (L.dloc d.num))) := by
        unfold AK.mD AK.delD
        dsimp only
        rw [hl, filter_split (by rw [← hl]; exact h.ok.dn) hxn, List.map_append]
      obtain ⟨h3, st3⟩ := h.delStep hx kA (by rw [hdel]; exact hm3)
      have hb3 := Blk.keep hb2 hk3 (fun e => hrd e.symm)
      refine nnI ⟨_, hb3.at0 rfl, _, _, _, tv_drop (s.objs x.ob).kd (L.loc x.ob) #[pd (L.dloc d)] _, ?_⟩
      have hi : x.ob < (s.delD d).nob := hr.1
      have hO := h3.ob x.ob hi
      unfold AK.leave
      have hob : (s.delD d).objs = s.objs := rfl
      rw [hob] at hO ⊢
      cases ho : s.objs x.ob with
      | file bs =>
        refine CallR.mono (dropF_ok (by simp [AObj.kd]) _ _) ?_
        rintro v w5 ⟨rfl, hk5⟩
        exact ⟨rfl, rfl, L, h3.no hk5, st3.no hk5⟩
      | term LL scr =>
        refine CallR.mono (dropF_ok (by simp [AObj.kd]) _ _) ?_
        rintro v w5 ⟨rfl, hk5⟩
        exact ⟨rfl, rfl, L, h3.no hk5, st3.no hk5⟩
      | pipe bs e0 e1 =>
        rw [ho] at hO hb3
        refine CallR.mono (cdrop_ok (k := .con) (o := L.loc x.ob) (fl := x.fl) (at_ := x.at_) (hd := x.hd - 1) hO.1 hb3) ?_
        rintro v w5 ⟨rfl, hO', hk5⟩
        obtain ⟨L', h', st, _, _, hnw⟩ := h3.obOnly (i := x.ob) hk5 (fun z hz => by subst hz; exact (h3.ob x.ob hi).mem) (o := .pipe bs (leaveP (bitI x.fl 2 != 0) e0 e1).2.1 (leaveP (bitI x.fl 2 != 0) e0 e1).2.2) (by rw [hob, ho]; rfl) (F := fun z => L.own z = some (.obj x.ob)) (fun z hz => .inl hz) ⟨hO', hO.2⟩
        exact ⟨rfl, rfl, L', h', st3.trans st⟩
    · have h1 : ¬ x.hd - 1 = 0 := by simpa using h1
      rw [if_neg (by omega)]
      obtain ⟨L', h', st, _, _, hnw⟩ := h.descStep hx hk2 (at' := x.at_) (hd' := x.hd - 1) hb2 ⟨hr.2.1, hr.2.2.1, by omega, by omega⟩
      exact ⟨rfl, L', h', st⟩

end Go.Proofs.YtpoaacnnhgebfaaGreat

namespace Go.Proofs.YtpoaacnnhgebfaaGreat
open Go.Lw

theorem flagged_ok {w : World} (f : Int) {Q : Value → World → Prop} (hq : Q (.bool (AK.flagged f)) w) : CallR Tryz.prog 123 [.int .i64 f] w Q := by
  refine C123 ?_
  unfold L123
  have fl : AK.flagged f = (decide (f ≥ 0 ∧ f ≤ 63) && (bitI f 3 != 0) && ((bitI f 2 != 0) || (bitI f 20 == 0)) && ((bitI f 8 != 0) || (bitI f 32 == 0))) := rfl
  have b3 : IntKind.wrap .i64 ↑(BitVec.ofInt (IntKind.bits .i64) f &&& BitVec.ofInt (IntKind.bits .i64) 3).toNat = bitI f 3 := rfl
  have b2 : IntKind.wrap .i64 ↑(BitVec.ofInt (IntKind.bits .i64) f &&& BitVec.ofInt (IntKind.bits .i64) 2).toNat = bitI f 2 := rfl
  have b20 : IntKind.wrap .i64 ↑(BitVec.ofInt (IntKind.bits .i64) f &&& BitVec.ofInt (IntKind.bits .i64) 20).toNat = bitI f 20 := rfl
  have b8 : IntKind.wrap .i64 ↑(BitVec.ofInt (IntKind.bits .i64) f &&& BitVec.ofInt (IntKind.bits .i64) 8).toNat = bitI f 8 := rfl
  have b32 : IntKind.wrap .i64 ↑(BitVec.ofInt (IntKind.bits .i64) f &&& BitVec.ofInt (IntKind.bits .i64) 32).toNat = bitI f 32 := rfl
  rw [b3, b2, b20, b8, b32]
  rw [fl] at hq
  refine condP (fun h0 => condP (fun h1 => ?_) (fun h1 => ?_)) (fun h0 => ?_)
  · rw [decide_eq_true (⟨h0, h1⟩ : f ≥ 0 ∧ f ≤ 63)] at hq
    cases h3 : (bitI f 3 != 0)
    · rw [h3] at hq; exact hq
    · rw [h3] at hq
      cases h2 : (bitI f 2 != 0)
      · rw [h2] at hq
        cases h20 : (bitI f 20 == 0)
        · rw [h20] at hq; exact hq
        · rw [h20] at hq
          cases h8 : (bitI f 8 != 0)
          · rw [h8] at hq; simpa using hq
          · rw [h8] at hq; simpa using hq
      · rw [h2] at hq
        cases h8 : (bitI f 8 != 0)
        · rw [h8] at hq; simpa using hq
        · rw [h8] at hq; simpa using hq
  · rw [decide_eq_false (fun h => h1 h.2)] at hq; exact hq
  · rw [decide_eq_false (fun h => h0 h.1)] at hq; exact hq

theorem AK.fileOf_some {s : AK} {nm : ByteArray} {f : ByteArray × Nat} (h : s.fileOf nm = some f) : f ∈ s.files ∧ f.1 = nm := by
  unfold AK.fileOf at h
  exact ⟨List.mem_of_find?_eq_some h, by simpa using List.find?_some h⟩
theorem AK.fileOf_none {s : AK} {nm : ByteArray} (h : s.fileOf nm = none) : ∀ f ∈ s.files, f.1 ≠ nm := by
  unfold AK.fileOf at h
  rw [List.find?_eq_none] at h
  intro x hx
  simpa using h x hx
theorem AK.termOf_some {s : AK} {nm : ByteArray} {f : ByteArray × Nat} (h : s.termOf nm = some f) : f ∈ s.terms ∧ f.1 = nm := by
  unfold AK.termOf at h
  exact ⟨List.mem_of_find?_eq_some h, by simpa using List.find?_some h⟩
theorem AK.termOf_none {s : AK} {nm : ByteArray} (h : s.termOf nm = none) : ∀ f ∈ s.terms, f.1 ≠ nm := by
  unfold AK.termOf at h
  rw [List.find?_eq_none] at h
  intro x hx
  simpa using h x hx

def fP (s : AK) (L : KL) (nm : ByteArray) : Option Addr := match s.fileOf nm with
  | none => none
  | some f => some ⟨L.loc f.2, 0, none⟩
def tP (s : AK) (L : KL) (nm : ByteArray) : Option Addr := match s.termOf nm with
  | none => none
  | some f => some ⟨L.loc f.2, 0, none⟩

theorem look_file {w : World} {gk : Nat} {s : AK} {L : KL} (h : KernO w gk s L) (nm : ByteArray) :
    (Instr.lookup 112 (.map (some L.rf)) (.string nm) true).run Tryz.prog w = .ok (.tuple #[.pointer (fP s L nm), .bool (s.fileOf nm).isSome]) w := by
  have hT : Tryz.prog.underlying 112 = some (.map 9 123) := by kernel_rfl
  have hI : Tryz.prog.underlying 9 = some .string := by kernel_rfl
  unfold fP
  cases hf : s.fileOf nm with
  | none =>
    refine lookup_out hT hI h.mf (k := .string nm) trivial (fun x hx e => ?_) (z := .pointer none) (by kernel_rfl) true
    obtain ⟨y, hy, rfl⟩ := List.mem_map.1 hx
    simp only [Value.string.injEq] at e
    exact AK.fileOf_none hf y hy e
  | some f =>
    obtain ⟨hm, hn⟩ := AK.fileOf_some hf
    exact lookup_in hT hI h.mf (k := .string nm) trivial (v := pd (L.loc f.2)) (List.mem_map.2 ⟨f, hm, by rw [hn]⟩) true

theorem look_term {w : World} {gk : Nat} {s : AK} {L : KL} (h : KernO w gk s L) (nm : ByteArray) :
    (Instr.lookup 113 (.map (some L.rt)) (.string nm) true).run Tryz.prog w = .ok (.tuple #[.pointer (tP s L nm), .bool (s.termOf nm).isSome]) w := by
  have hT : Tryz.prog.underlying 113 = some (.map 9 128) := by kernel_rfl
  have hI : Tryz.prog.underlying 9 = some .string := by kernel_rfl
  unfold tP
  cases hf : s.termOf nm with
  | none =>
    refine lookup_out hT hI h.mt (k := .string nm) trivial (fun x hx e => ?_) (z := .pointer none) (by kernel_rfl) true
    obtain ⟨y, hy, rfl⟩ := List.mem_map.1 hx
    simp only [Value.string.injEq] at e
    exact AK.termOf_none hf y hy e
  | some f =>
    obtain ⟨hm, hn⟩ := AK.termOf_some hf
    exact lookup_in hT hI h.mt (k := .string nm) trivial (v := pd (L.loc f.2)) (List.mem_map.2 ⟨f, hm, by rw [hn]⟩) true

/-- A new file, laid and named. -/
theorem addF_ok {w w1 : World} {gk : Nat} {s : AK} {L : KL} (h : KernO w gk s L) (k : Kept No w w1) {b : Nat} {F : Nat → Prop} {bs : List Int} (hO : FileO F w1 b bs) (hF : ∀ z, F z → w.heap.size ≤ z)
    {nm : ByteArray} (h1 : ∀ f ∈ s.files, f.1 ≠ nm) (h2 : ∀ f ∈ s.terms, f.1 ≠ nm) (hl : s.files.length + s.terms.length < 256) :
    ∃ w2 L', (Instr.mapUpdate 112 (.map (some L.rf)) (.string nm) (pd b)).run Tryz.prog w1 = .ok () w2 ∧ KernO w2 gk (s.addF nm (.file bs)) L' ∧ KStep w w2 L L' ∧ L'.loc s.nob = b ∧ Kept (· = L.rf) w1 w2 := by
  have hT : Tryz.prog.underlying 112 = some (.map 9 123) := by kernel_rfl
  have hI : Tryz.prog.underlying 9 = some .string := by kernel_rfl
  obtain ⟨hn, st⟩ := h.newStep k (R := No) (o := .file bs) hO hF (fun z e => e.elim)
  obtain ⟨w2, hrun, hm, hk2, hs2⟩ := update_new hT hI (hn.mf) (k := .string nm) trivial (fun x hx e => by
    obtain ⟨y, hy, rfl⟩ := List.mem_map.1 hx
    simp only [Value.string.injEq] at e
    exact h1 y hy e) (pd b)
  have hok := h.ok.addF (o := .file bs) rfl h1 h2 hl
  have hb : (L.addO s.nob b F No).loc s.nob = b := if_pos rfl
  obtain ⟨h3, st3⟩ := hn.mfStep (fs := s.files ++ [(nm, s.nob)]) hk2 (by
    show MapO w2 _ .string ((s.files ++ [(nm, s.nob)]).map fun f => (Value.string f.1, pd ((L.addO s.nob b F No).loc f.2)))
    rw [List.map_append]
    show MapO w2 _ .string (_ ++ [(Value.string nm, pd ((L.addO s.nob b F No).loc s.nob))])
    rw [hb]
    exact hm) hok
  exact ⟨w2, _, hrun, h3, st.trans st3, hb, hk2⟩

set_option maxHeartbeats 1000000 in
theorem kernOpen_ok {w : World} {gk : Nat} {s : AK} {L : KL} (h : KernO w gk s L) (nm : ByteArray) (fl : Int) (hn2 : s.next ≤ 4611686018427387904) :
    CallR Tryz.prog 30 [pd gk, .string nm, .int .i64 fl] w fun v w' => v = .tuple #[.int .i64 (s.open_ nm fl).1, .int .i64 (s.open_ nm fl).2.1] ∧ ∃ L', KernO w' gk (s.open_ nm fl).2.2 L' ∧ KStep w w' L L' := by
  refine C30 ?_
  unfold L30
  have bad : ∀ (e : Int) (w' : World), s.openE nm fl = e → e ≠ 0 → Kept No w w' → (.tuple #[.int .i64 0, .int .i64 e] : Value) = .tuple #[.int .i64 (s.open_ nm fl).1, .int .i64 (s.open_ nm fl).2.1] ∧ ∃ L', KernO w' gk (s.open_ nm fl).2.2 L' ∧ KStep w w' L L' := by
    intro e w' he hne hk
    unfold AK.open_
    rw [he, if_pos hne]
    exact ⟨rfl, L, h.no hk, .of_no hk⟩
  have hE : s.openE nm fl = if namedS nm = false then 61 else if AK.flagged fl = false then 65 else if 256 ≤ s.descs.length then 3 else
    if (s.fileOf nm).isSome ∨ (s.termOf nm).isSome then (if bitI fl 32 ≠ 0 then 63 else 0)
    else if bitI fl 8 = 0 then 62 else if 256 ≤ s.files.length + s.terms.length then 3 else 0 := rfl
  refine enone_to h ⟨false, rfl, condF rfl (CallR.mono (named_ok nm) ?_)⟩
  rintro v w2 ⟨rfl, hk2⟩
  refine ⟨_, rfl, condI (fun e => bad 61 _ (by rw [hE, if_pos (by simpa using e)]) (by decide) hk2) (fun e => ?_)⟩
  rw [if_neg (by simpa using e)] at hE
  refine flagged_ok fl ⟨_, rfl, condI (fun e => bad 65 _ (by rw [hE, if_pos (by simpa using e)]) (by decide) hk2) (fun e => ?_)⟩
  rw [if_neg (by simpa using e)] at hE
  have h2 := h.no hk2
  have hTd : Tryz.prog.underlying 114 = some (.map 3 256) := by kernel_rfl
  have hTf : Tryz.prog.underlying 112 = some (.map 9 123) := by kernel_rfl
  have hTt : Tryz.prog.underlying 113 = some (.map 9 128) := by kernel_rfl
  have hlen : (s.mD L).length = s.descs.length := by unfold AK.mD; rw [List.length_map]
  refine nnI ⟨_, h2.blk.at (i := 3) rfl, _, _, len_map hTd h2.md _, condP (fun hd => bad 3 _ (by rw [hE, if_pos (by omega)]) (by decide) hk2) (fun hd => ?_)⟩
  rw [if_neg (by omega)] at hE
  refine nnI ⟨_, h2.blk.at (i := 1) rfl, _, _, _, look_file h2 nm, nnI ⟨_, h2.blk.at (i := 2) rfl, _, _, _, look_term h2 nm, ?_⟩⟩
  have b32 : IntKind.wrap .i64 ↑(BitVec.ofInt (IntKind.bits .i64) fl &&& BitVec.ofInt (IntKind.bits .i64) 32).toNat = bitI fl 32 := rfl
  have b8 : IntKind.wrap .i64 ↑(BitVec.ofInt (IntKind.bits .i64) fl &&& BitVec.ofInt (IntKind.bits .i64) 8).toNat = bitI fl 8 := rfl
  have b16 : IntKind.wrap .i64 ↑(BitVec.ofInt (IntKind.bits .i64) fl &&& BitVec.ofInt (IntKind.bits .i64) 16).toNat = bitI fl 16 := rfl
  rw [b32, b8, b16]
  refine ⟨fun vs w' => ∃ s1 L1 p, vs = [.pointer p] ∧ s.openE nm fl = 0 ∧ KernO w' gk s1 L1 ∧ KStep w w' L L1 ∧ s1.next = s.next ∧ s1.descs = s.descs ∧
    ((∃ t, s.termOf nm = some t ∧ s1 = s ∧ L1 = L) ∨ (s.termOf nm = none ∧ ∃ i bs, p = some ⟨L1.loc i, 0, none⟩ ∧ i < s1.nob ∧ s1.objs i = .file bs ∧ s.openS nm fl = (if bitI fl 16 ≠ 0 then s1.setO i (.file []) else s1).newD i fl)), ?_, ?_⟩
  · have old : ∀ w', (s.fileOf nm).isSome = true ∨ (s.termOf nm).isSome = true → Kept No w w' → bitI fl 32 = 0 → ∃ s1 L1 p, [Value.pointer (fP s L nm)] = [.pointer p] ∧ s.openE nm fl = 0 ∧ KernO w' gk s1 L1 ∧ KStep w w' L L1 ∧ s1.next = s.next ∧ s1.descs = s.descs ∧
      ((∃ t, s.termOf nm = some t ∧ s1 = s ∧ L1 = L) ∨ (s.termOf nm = none ∧ ∃ i bs, p = some ⟨L1.loc i, 0, none⟩ ∧ i < s1.nob ∧ s1.objs i = .file bs ∧ s.openS nm fl = (if bitI fl 16 ≠ 0 then s1.setO i (.file []) else s1).newD i fl)) := by
      intro w' ho hk hz
      refine ⟨s, L, _, rfl, by rw [hE, if_pos ho, if_neg (fun e => e hz)], h.no hk, .of_no hk, rfl, rfl, ?_⟩
      cases ht : s.termOf nm with
      | some t => exact .inl ⟨t, rfl, rfl, rfl⟩
      | none =>
        right
        rw [ht] at ho
        cases hf : s.fileOf nm with
        | none => rw [hf] at ho; simp at ho
        | some f =>
          obtain ⟨hm, hn⟩ := AK.fileOf_some hf
          have hfi := h.ok.fi f hm
          obtain ⟨bs, hbs⟩ : ∃ bs, s.objs f.2 = .file bs := by
            cases ho : s.objs f.2 with
            | file bs => exact ⟨bs, rfl⟩
            | term _ _ => rw [ho] at hfi; cases hfi.2
            | pipe _ _ _ => rw [ho] at hfi; cases hfi.2
          refine ⟨rfl, f.2, bs, by unfold fP; rw [hf], hfi.1, hbs, ?_⟩
          unfold AK.openS
          rw [ht, hf]
    refine condI (fun hf => condI (fun hx => bad 63 _ (by rw [hE, if_pos (.inl hf), if_pos (by simpa using hx)]) (by decide) hk2) (fun hx => old w2 (.inl hf) hk2 (by simpa using hx))) (fun hf => ?_)
    refine condI (fun ht => condI (fun hx => bad 63 _ (by rw [hE, if_pos (.inr ht), if_pos (by simpa using hx)]) (by decide) hk2) (fun hx => old w2 (.inr ht) hk2 (by simpa using hx))) (fun ht => ?_)
    rw [if_neg (by rw [hf, ht]; simp)] at hE
    refine condI (fun h8 => bad 62 _ (by rw [hE, if_pos (by simpa using h8)]) (by decide) hk2) (fun h8 => ?_)
    rw [if_neg (by simpa using h8)] at hE
    refine ⟨fun wS => Kept No w2 wS, Kept.drew _ _, ?_⟩
    intro w7
    have hk7 : Kept No w2 w7 := Kept.drew _ _
    clear_value w7
    have h7 := h2.no hk7
    refine nnI ⟨_, fun wS hS => (h2.no hS).blk.at (i := 1) rfl, nnI ⟨_, fun wS hS => (h2.no hS).blk.at (i := 2) rfl, _, _, len_map hTf h7.mf _, hk7, _, _, len_map hTt h7.mt _, ?_⟩⟩
    have e1 : (s.mF L).length = s.files.length := by unfold AK.mF; rw [List.length_map]
    have e2 : (s.mT L).length = s.terms.length := by unfold AK.mT; rw [List.length_map]
    have hfl := h.ok.fl
    rw [e1, e2]
    have k7 := hk2.no hk7
    refine ⟨⟨by omega, by omega⟩, condP (fun hc => bad 3 _ (by rw [hE, if_pos (by omega)]) (by decide) k7) (fun hc => ?_)⟩
    rw [if_neg (by omega)] at hE
    refine CallR.mono (finew_ok (RdB.nil w7) (by omega)) ?_
    rintro v w10 (⟨hbig, _⟩ | ⟨_, b, F, rfl, hO, hk10, hF⟩)
    · simp at hbig
    have hf' : s.fileOf nm = none := by cases hx : s.fileOf nm with | none => rfl | some _ => rw [hx] at hf; cases hf
    have ht' : s.termOf nm = none := by cases hx : s.termOf nm with | none => rfl | some _ => rw [hx] at ht; cases ht
    obtain ⟨w11, L1, hrun, h11, st, hloc, _⟩ := addF_ok h7 hk10 hO hF (AK.fileOf_none hf') (AK.termOf_none ht') (by omega)
    have h10 := h7.no hk10
    refine ⟨_, _, rfl, nnI ⟨_, h10.blk.at (i := 1) rfl, w11, hrun, s.addF nm (.file []), L1, _, rfl, hE, h11, st.fresh k7, rfl, rfl, .inr ⟨ht', s.nob, [], by rw [hloc], Nat.lt_succ_self _, AK.objs_newO_new' s _, ?_⟩⟩⟩
    have e : (s.addF nm (.file [])).setO s.nob (.file []) = s.addF nm (.file []) := by
      have := AK.setO_same (s.addF nm (.file [])) s.nob
      have e' : (s.addF nm (.file [])).objs s.nob = .file [] := AK.objs_newO_new' s _
      rw [e'] at this
      exact this
    unfold AK.openS
    rw [ht', hf', e]
    simp only [ite_self]
    rfl
  · rintro _ p w12 ⟨s1, L1, p', hvs, hE0, h12, st12, hnx, hds, hcase⟩
    simp only [List.cons.injEq, Value.pointer.injEq, and_true] at hvs
    subst hvs
    have good : s.open_ nm fl = (s.next, 0, s.openS nm fl) := by unfold AK.open_; rw [hE0, if_neg (fun e => e rfl)]
    rw [good]
    have hdl : s1.descs.length < 256 := by rw [hds]; omega
    rcases hcase with ⟨t, ht, rfl, rfl⟩ | ⟨ht, i, bs, rfl, hi, hoi, hS⟩
    · obtain ⟨hm, hn⟩ := AK.termOf_some ht
      have hti := h.ok.ti t hm
      have hd := describe_ok h12 hti.1 fl (by omega) hdl
      rw [hti.2] at hd
      have htp : tP s1 L1 nm = some ⟨L1.loc t.2, 0, none⟩ := by unfold tP; rw [ht]
      refine condT (by rw [ht]; rfl) ?_
      rw [htp]
      refine CallR.mono hd ?_
      rintro v w13 ⟨rfl, L', h', st', _⟩
      refine ⟨_, rfl, rfl, L', ?_, st12.trans st'⟩
      show KernO w13 gk (s1.openS nm fl) L'
      unfold AK.openS
      rw [ht]
      exact h'
    · refine condF (by rw [ht]; rfl) ?_
      dsimp only
      rw [hS]
      refine condI (fun h16 => ?_) (fun h16 => ?_)
      · rw [if_pos (by simpa using h16)]
        have hO := h12.ob i hi
        rw [hoi] at hO
        have hO : FileO _ w12 (L1.loc i) bs := hO
        refine CallR.mono (trunc_ok hO 0) ?_
        rintro v w14 ⟨rfl, F', hO', hg, hk14⟩
        have htr : (truncF bs 0).2 = [] := by unfold truncF; rfl
        rw [htr] at hO'
        obtain ⟨L2, h14, st14, hloc, _, _⟩ := h12.obOnly hk14 (fun z hz => hz) (o := .file []) (by rw [hoi]; rfl) (F := F') (fun z hz => hg z hz) hO'
        refine ⟨_, rfl, ?_⟩
        have hd := describe_ok h14 (i := i) hi fl (by show s1.next ≤ _; omega) hdl
        rw [AK.objs_setO_same', hloc] at hd
        refine CallR.mono hd ?_
        rintro v w15 ⟨rfl, L', h', st', _⟩
        exact ⟨_, rfl, by rw [← hnx]; rfl, L', h', (st12.trans st14).trans st'⟩
      · rw [if_neg (by simpa using h16)]
        have hd := describe_ok h12 (i := i) hi fl (by omega) hdl
        rw [hoi] at hd
        refine CallR.mono hd ?_
        rintro v w15 ⟨rfl, L', h', st', _⟩
        exact ⟨_, rfl, by rw [← hnx], L', h', st12.trans st'⟩

theorem kernPipe_ok {w : World} {gk : Nat} {s : AK} {L : KL} (h : KernO w gk s L) (hn2 : s.next ≤ 4611686018427387903) :
    CallR Tryz.prog 28 [pd gk] w fun v w' => v = .tuple #[.int .i64 s.pipe.1, .int .i64 s.pipe.2.1, .int .i64 s.pipe.2.2.1] ∧ ∃ L', KernO w' gk s.pipe.2.2.2 L' ∧ KStep w w' L L' := by
  refine C28 ?_
  unfold L28
  have hTd : Tryz.prog.underlying 114 = some (.map 3 256) := by kernel_rfl
  have hlen : (s.mD L).length = s.descs.length := by unfold AK.mD; rw [List.length_map]
  unfold AK.pipe
  refine enone_to h ⟨false, rfl, condF rfl (nnI ⟨_, h.blk.at (i := 3) rfl, _, _, len_map hTd h.md _, condP (fun hd => ?_) (fun hd => ?_)⟩)⟩
  · rw [if_pos (by omega)]; exact ⟨rfl, L, h, KStep.refl _ _⟩
  rw [if_neg (by omega)]
  refine CallR.mono (knew_ok w) ?_
  rintro v w3 ⟨rfl, hp3, hk3⟩
  refine ⟨_, rfl, CallR.mono (kjoin_ok hp3 false) ?_⟩
  rintro v w4 ⟨rfl, hp4, hk4⟩
  refine ⟨_, rfl, CallR.mono (kjoin_ok hp4 true) ?_⟩
  rintro v w5 ⟨rfl, hp5, hk5⟩
  have k5 : Kept No w w5 := (hk3.fresh hk4 (fun x e => by omega)).fresh hk5 (fun x e => by omega)
  have hp5 : PipeO w5 w.heap.size [] 1 1 := hp5
  obtain ⟨h5, st5⟩ := h.newStep k5 (b := w.heap.size) (F := (· = w.heap.size)) (R := No) (o := .pipe [] 1 1) ⟨hp5, fun z => Iff.rfl⟩ (fun z e => Nat.le_of_eq (Eq.symm e)) (fun z e => e.elim)
  have hd5 := describe_ok h5 (i := s.nob) (Nat.lt_succ_self _) 1 (by show s.next ≤ _; omega) (by show s.descs.length < 256; omega)
  have e1 : (s.newO (.pipe [] 1 1)).objs s.nob = .pipe [] 1 1 := if_pos rfl
  have e2 : (L.addO s.nob w.heap.size (· = w.heap.size) No).loc s.nob = w.heap.size := if_pos rfl
  rw [e1, e2] at hd5
  refine ⟨_, rfl, CallR.mono hd5 ?_⟩
  rintro v w6 ⟨rfl, L6, h6, st6, hloc6⟩
  have hn := h.ok.nx
  have hd6 := describe_ok h6 (i := s.nob) (Nat.lt_succ_self _) 2 (by show s.next + 1 ≤ _; omega) (by show (s.descs ++ [_]).length < 256; rw [List.length_append]; simp; omega)
  have e1 : ((s.newO (.pipe [] 1 1)).newD s.nob 1).objs s.nob = .pipe [] 1 1 := e1
  rw [e1, hloc6, e2] at hd6
  refine ⟨_, rfl, CallR.mono hd6 ?_⟩
  rintro v w7 ⟨rfl, L7, h7, st7, _⟩
  exact ⟨_, rfl, rfl, L7, h7, (st5.trans st6).trans st7⟩

end Go.Proofs.YtpoaacnnhgebfaaGreat
