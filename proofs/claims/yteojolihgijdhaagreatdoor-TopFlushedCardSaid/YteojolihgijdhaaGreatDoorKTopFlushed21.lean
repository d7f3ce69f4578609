/- That TopFlushed's law holds as its row and its card say. Conditions: none. -/
import Derived.Test.YteojolihgijdhaaGreatDoorKTopFlushed18
import Derived.Test.YteojolihgijdhaaGreatDoorKTopFlushed19
import Derived.Test.YteojolihgijdhaaGreatDoorKTopFlushed20
set_option linter.unusedVariables false
set_option maxRecDepth 100000
namespace Go.Proofs.YteojolihgijdhaaGreatDoor.topFlushed
open Go Go.Lw Go.RowKit Go.ChangeShapes Go.WideShapes Go.ChangeAt
theorem lifted (os:Os) (started:os.Started) (H:Type) (enc:TypeId × Value→H) :
 ReturnsInHanded {} Tryz.checked os 3 .any (fun w args=>(Rows.topFlushedSpec.pre enc Tryz.prog Tryz.f3 [] false w args∧laidMetH Tryz.prog Rows.topFlushedRow.laid w)∧sizedMet enc Tryz.prog Tryz.f3 (OpenSpec.ofChange Rows.topFlushedSpec) false w args)
  (Rows.topFlushedSpec.post enc Tryz.prog Tryz.f3 false true false false):=by
 refine returnsInHanded_of_change_and (C:=Tryz.checked) (X:=fun w _=>laidMetH Tryz.prog Rows.topFlushedRow.laid w) (fun _ _ _ hh h=>h.of_heap hh) (by kernel_rfl) started (by kernel_rfl) Tryz.func3
  (ChangeSpec.witness_shaped (enc:=enc) (C:=Tryz.checked) (os:=os) (X:=fun w _=>laidMetH Tryz.prog Rows.topFlushedRow.laid w) false (World.laidAll Tryz.prog os Rows.topFlushedRow.laid) #[.slice none 0 0,.int .i64 0,.int .i64 0,.slice none 0 0] 8 (World.laidAll_os _ _ _)
   (World.shaped_of_ZipB (by kernel_rfl) (by kernel_rfl)) (by kernel_rfl) (by kernel_rfl) (by kernel_rfl)
   (by rw [MakeChecks.laidMetH_plain _ _ _ (by kernel_rfl)]; exact laidMet_laidAll _ (by kernel_rfl) (by kernel_rfl))) ?_
 intro W base args ds gs before hval hW _ hsz _ _
 exact law_contract (P:=Tryz.prog) (fn:=Tryz.f3) (s:=Rows.topFlushedSpec) (ts:=[22,3,3,23]) rfl (by kernel_rfl) (by kernel_rfl) (by kernel_rfl) (tb:=4) rfl Tryz.underlying4 rfl
  (fun ds h=>by match ds,h with | [x0,x1,x2,x3],_=>rfl) (fun W args h=>walk_topFlushed (O3 h)) W base args ds gs before hval hW hsz
theorem an {a b:Bool} (h:a=true) (k:b=true):(a && b)=true:=by rw [h,k]; rfl
theorem bq {α:Type} [BEq α] [LawfulBEq α] {a b:α} (h:b=a):(a == b)=true:=by rw [h]; exact beq_self_eq_true _
theorem c1:Rows.topFlushedRow.wf (OpenSpec.ofChange Rows.topFlushedSpec)=true:=by kernel_rfl
theorem c4:(Tryz.f3.params.all (Tryz.prog.readableRec ·))=true:=by kernel_rfl
theorem c5:namedTie Tryz.prog Rows.topFlushedRow.named Rows.topFlushedSpec.vars=true:=by kernel_rfl
theorem c6:(Rows.topFlushedRow.stops == [])=true:=by kernel_rfl
theorem c7:(Tryz.prog.stops == [])=true:=by kernel_rfl
theorem c8:(Rows.topFlushedRow.knobs == [])=true:=by kernel_rfl
theorem c9:(Tryz.prog.stopKnobs == [])=true:=by kernel_rfl
theorem c14:(Rows.topFlushedRow.maps == (Tryz.f3.params.toList ++ Rows.topFlushedSpec.plain.varTypes Tryz.prog).any (Tryz.prog.mapsRec ·))=true:=by kernel_rfl
theorem c15:(Rows.topFlushedRow.ifaces == (Tryz.f3.params.toList ++ Rows.topFlushedSpec.plain.varTypes Tryz.prog).any (Tryz.prog.ifacesRec ·))=true:=by kernel_rfl
theorem c16:(Rows.topFlushedRow.mapsOut == Tryz.prog.mapsAmong Tryz.f3.resultTypes.toList)=true:=by kernel_rfl
theorem c17:(Rows.topFlushedRow.loops == (Tryz.f3.params.toList ++ Rows.topFlushedSpec.plain.varTypes Tryz.prog).any (Tryz.prog.loopsFrom ·))=true:=by kernel_rfl
theorem c18:(Rows.topFlushedRow.wideKeys == (Tryz.f3.params.toList ++ Rows.topFlushedSpec.plain.varTypes Tryz.prog ++ Tryz.f3.resultTypes.toList).any (Tryz.prog.wideKeysFrom ·))=true:=by kernel_rfl
theorem c19:(Rows.topFlushedSpec.vars.all (Tryz.prog.varReadable ·))=true:=by kernel_rfl
theorem c20:(Tryz.f3.resultTypes.all (fun t=>Tryz.prog.readableRec t && decide (t< Tryz.prog.types.size)))=true:=by kernel_rfl
theorem c21:(Rows.topFlushedRow.ifacesOut == Tryz.f3.resultTypes.toList.any (Tryz.prog.ifacesRec ·))=true:=by kernel_rfl
theorem c22:(Rows.topFlushedRow.loopsOut == Tryz.f3.resultTypes.toList.any (Tryz.prog.loopsFrom ·))=true:=by kernel_rfl
theorem c23:(Rows.topFlushedRow.plainKeys == Tryz.prog.plainKeys)=true:=bq jKeys
theorem c24:Rows.topFlushedRow.shortTexts.isNone=true:=rfl
theorem c27:(Rows.topFlushedRow.lifted == Tryz.prog.liftsFinal)=true:=bq jLift
theorem c28:(Tryz.prog.make == some Rows.topFlushedRow.make)=true:=by rw [jMake]; kernel_rfl
theorem c29:(Rows.topFlushedRow.kinds == (if Rows.topFlushedRow.domain.isEmpty then [] else Tryz.f3.params.toList.map fun t=>match Tryz.prog.underlying t with | some (.int k)=>some k | _=>none))=true:=by kernel_rfl
theorem c30:(Rows.topFlushedRow.pinned == Rows.topFlushedRow.pinnedBy)=true:=by kernel_rfl
theorem c31:(Rows.topFlushedRow.veiled == (Tryz.f3.params.toList ++ Rows.topFlushedSpec.plain.varTypes Tryz.prog ++ Tryz.f3.resultTypes.toList).any (Tryz.prog.veiledRec ·))=true:=by kernel_rfl
theorem c32:Rows.topFlushedRow.veiledFits Tryz.prog Tryz.f3.params.toList (Tryz.f3.params.toList ++ Rows.topFlushedSpec.plain.varTypes Tryz.prog ++ Tryz.f3.resultTypes.toList)=true:=by kernel_rfl
theorem closed:joinedFacts Tryz.prog 3 Tryz.f3 Rows.topFlushedSpec Rows.topFlushedRow=true:=by
 unfold joinedFacts
 exact an (an (an (an (an (an (an (an (an (an (an (an (an (an (an (an (an (an (an (an (an (an (an (an (an (an (an (an (an (an (an c1 jLaid) jMaps) c4) c5) c6) c7) c8) c9) (bq iPlace)) (bq iUnf)) (bq iRec)) (bq iVars)) c14) c15) c16) c17) c18) c19) c20) c21) c22) c23) c24) jHeard) jEnter) c27) c28) c29) c30) c31) c32
theorem proved:Rows.TopFlushedSaid:=
 OpenClaim.holds_of_wide 3 Tryz.f3 rfl rfl rfl rfl rfl rfl rfl ⟨rfl,rfl,rfl,rfl,rfl⟩ rfl rfl rfl rfl rfl (by kernel_rfl) Tryz.func3 closed
  (of_decide_eq_true (by kernel_rfl)) (by unfold Func.isWrapper; first | (rw [if_pos (by decide +kernel)]; kernel_rfl) | (rw [if_neg (by decide +kernel)]; exact ⟨rfl,rfl⟩))
  (fun os started H enc _=>lifted os started H enc)
theorem cardProved : Rows.TopFlushedCardSaid :=
 Claim7.holds_tied_plain_at .later [] [.data, .sentinel, .pinned, .pinned] true (true, "d0aba9c462a4682590f8f3f05616c9be13192190475e33e82a93bb287e6dcf2b") true proved (fun _ h => by cases h) wfText (fun _ h => by cases h) topFlushed_row_tie rfl ⟨rfl, rfl⟩ mainIs rfl
  (fun f fn hf hfn => by
   obtain rfl : f = 3 := Option.some.inj (fnamed.symm.trans hf) |>.symm
   obtain rfl : fn = Tryz.f3 := (Option.some.inj (Tryz.func3.symm.trans hfn)).symm
   exact ⟨looksT, fun j t ht => by
    rw [Tryz.params3] at ht
    have hm : t ∈ [22, 3, 3, 23] := by simpa using Array.mem_of_getElem? ht
    have hall : ([22, 3, 3, 23].all fun u => !Tryz.prog.wantsStandIn u) = true := by kernel_rfl
    exact (show Tryz.prog.wantsStandIn t = false by simpa using List.all_eq_true.1 hall t hm)⟩)
  goesN
end Go.Proofs.YteojolihgijdhaaGreatDoor.topFlushed
