import Derived.Test.YtlfkhemmgkdjjaaGreatDoorTie
import Derived.Test.YtlfkhemmgkdjjaaGreatDoorCards
import Derived.ProofKit
import Derived.OpenShut
import Derived.LaidMore
import Derived.Lay
import Derived.SevenTiedAt
import Derived.Stop.Joined
set_option maxRecDepth 100000
namespace Go.Proofs.YtlfkhemmgkdjjaaGreatDoor
open Go
theorem law3_fact_and {a b : Bool} (h : a = true) (k : b = true) : (a && b) = true := by rw [h, k]; rfl
theorem law3_fact_0 : (Rows.sumCountsRow.wf (OpenSpec.ofChange Rows.sumCountsSpec)) = true := by kernel_rfl
theorem law3_fact_1 : (laidOutB Tryz.pinned.checked.prog) = true := by kernel_rfl
theorem law3_fact_2 : (mapsRowed Tryz.pinned.checked.prog) = true := by kernel_rfl
theorem law3_fact_3 : (Tryz.f3.params.all (Tryz.pinned.checked.prog.readableRec ·)) = true := by kernel_rfl
theorem law3_fact_4 : (namedTie Tryz.pinned.checked.prog Rows.sumCountsRow.named Rows.sumCountsSpec.vars) = true := by kernel_rfl
theorem law3_fact_5 : ((Rows.sumCountsRow.stops == [])) = true := by kernel_rfl
theorem law3_fact_6 : ((Tryz.pinned.checked.prog.stops == [])) = true := by kernel_rfl
theorem law3_fact_7 : ((Rows.sumCountsRow.knobs == [])) = true := by kernel_rfl
theorem law3_fact_8 : ((Tryz.pinned.checked.prog.stopKnobs == [])) = true := by kernel_rfl
theorem law3_fact_9 : ((Rows.sumCountsRow.inPlace == Tryz.pinned.checked.prog.inPlace 3)) = true := by kernel_rfl
theorem law3_fact_10 : ((Rows.sumCountsRow.unfollowed == Tryz.pinned.checked.prog.unfollowed 3)) = true := by kernel_rfl
theorem law3_fact_11 : ((Rows.sumCountsRow.recurses == Tryz.pinned.checked.prog.recurses 3)) = true := by kernel_rfl
theorem law3_fact_12 : ((Rows.sumCountsRow.named == Tryz.pinned.checked.prog.varsNamed 3)) = true := by kernel_rfl
theorem law3_fact_13 : ((Rows.sumCountsRow.maps == (Tryz.f3.params.toList ++ Rows.sumCountsSpec.plain.varTypes Tryz.pinned.checked.prog).any (Tryz.pinned.checked.prog.mapsRec ·))) = true := by kernel_rfl
theorem law3_fact_14 : ((Rows.sumCountsRow.ifaces == (Tryz.f3.params.toList ++ Rows.sumCountsSpec.plain.varTypes Tryz.pinned.checked.prog).any (Tryz.pinned.checked.prog.ifacesRec ·))) = true := by kernel_rfl
theorem law3_fact_15 : ((Rows.sumCountsRow.mapsOut == Tryz.pinned.checked.prog.mapsAmong Tryz.f3.resultTypes.toList)) = true := by kernel_rfl
theorem law3_fact_16 : ((Rows.sumCountsRow.loops == (Tryz.f3.params.toList ++ Rows.sumCountsSpec.plain.varTypes Tryz.pinned.checked.prog).any (Tryz.pinned.checked.prog.loopsFrom ·))) = true := by kernel_rfl
theorem law3_fact_17 : ((Rows.sumCountsRow.wideKeys == (Tryz.f3.params.toList ++ Rows.sumCountsSpec.plain.varTypes Tryz.pinned.checked.prog ++ Tryz.f3.resultTypes.toList).any (Tryz.pinned.checked.prog.wideKeysFrom ·))) = true := by kernel_rfl
theorem law3_fact_18 : (Rows.sumCountsSpec.vars.all (Tryz.pinned.checked.prog.varReadable ·)) = true := by kernel_rfl
theorem law3_fact_19 : (Tryz.f3.resultTypes.all (fun t => Tryz.pinned.checked.prog.readableRec t && decide (t < Tryz.pinned.checked.prog.types.size))) = true := by kernel_rfl
theorem law3_fact_20 : ((Rows.sumCountsRow.ifacesOut == Tryz.f3.resultTypes.toList.any (Tryz.pinned.checked.prog.ifacesRec ·))) = true := by kernel_rfl
theorem law3_fact_21 : ((Rows.sumCountsRow.loopsOut == Tryz.f3.resultTypes.toList.any (Tryz.pinned.checked.prog.loopsFrom ·))) = true := by kernel_rfl
theorem law3_fact_22 : ((Rows.sumCountsRow.plainKeys == Tryz.pinned.checked.prog.plainKeys)) = true := by kernel_rfl
theorem law3_fact_23 : (Rows.sumCountsRow.shortTexts.isNone) = true := by kernel_rfl
theorem law3_fact_24 : (Tryz.pinned.checked.prog.stopsHeard) = true := by kernel_rfl
theorem law3_fact_25 : (Tryz.pinned.checked.prog.mayEnter) = true := by kernel_rfl
theorem law3_fact_26 : ((Rows.sumCountsRow.lifted == Tryz.pinned.checked.prog.liftsFinal)) = true := by kernel_rfl
theorem law3_fact_27 : ((Tryz.pinned.checked.prog.make == some Rows.sumCountsRow.make)) = true := by kernel_rfl
theorem law3_fact_28 : ((Rows.sumCountsRow.kinds == (if Rows.sumCountsRow.domain.isEmpty then [] else Tryz.f3.params.toList.map fun t => match Tryz.pinned.checked.prog.underlying t with | some (.int k) => some k | _ => none))) = true := by kernel_rfl
theorem law3_fact_29 : ((Rows.sumCountsRow.pinned == Rows.sumCountsRow.pinnedBy)) = true := by kernel_rfl
theorem law3_fact_30 : ((Rows.sumCountsRow.veiled == (Tryz.f3.params.toList ++ Rows.sumCountsSpec.plain.varTypes Tryz.pinned.checked.prog ++ Tryz.f3.resultTypes.toList).any (Tryz.pinned.checked.prog.veiledRec ·))) = true := by kernel_rfl
theorem law3_fact_31 : (Rows.sumCountsRow.veiledFits Tryz.pinned.checked.prog Tryz.f3.params.toList (Tryz.f3.params.toList ++ Rows.sumCountsSpec.plain.varTypes Tryz.pinned.checked.prog ++ Tryz.f3.resultTypes.toList)) = true := by kernel_rfl
theorem law3_fact_all : joinedFacts Tryz.pinned.checked.prog 3 Tryz.f3 Rows.sumCountsSpec Rows.sumCountsRow = true := (law3_fact_and (law3_fact_and (law3_fact_and (law3_fact_and (law3_fact_and (law3_fact_and (law3_fact_and (law3_fact_and (law3_fact_and (law3_fact_and (law3_fact_and (law3_fact_and (law3_fact_and (law3_fact_and (law3_fact_and (law3_fact_and (law3_fact_and (law3_fact_and (law3_fact_and (law3_fact_and (law3_fact_and (law3_fact_and (law3_fact_and (law3_fact_and (law3_fact_and (law3_fact_and (law3_fact_and (law3_fact_and (law3_fact_and (law3_fact_and (law3_fact_and law3_fact_0 law3_fact_1) law3_fact_2) law3_fact_3) law3_fact_4) law3_fact_5) law3_fact_6) law3_fact_7) law3_fact_8) law3_fact_9) law3_fact_10) law3_fact_11) law3_fact_12) law3_fact_13) law3_fact_14) law3_fact_15) law3_fact_16) law3_fact_17) law3_fact_18) law3_fact_19) law3_fact_20) law3_fact_21) law3_fact_22) law3_fact_23) law3_fact_24) law3_fact_25) law3_fact_26) law3_fact_27) law3_fact_28) law3_fact_29) law3_fact_30) law3_fact_31)
theorem law3_named : Tryz.pinned.checked.prog.funcNamed Rows.sumCountsRow.func = some 3 := by kernel_rfl
theorem law3_inst : Tryz.f3.isInstance Tryz.pinned.checked.prog Rows.sumCountsRow.origin Rows.sumCountsRow.targs := of_decide_eq_true (by kernel_rfl)
theorem law3_wrap : Tryz.f3.isWrapper Tryz.pinned.checked.prog Rows.sumCountsRow.wrapper Rows.sumCountsRow.mainSum := by unfold Func.isWrapper; first | (rw [if_pos (by decide +kernel)]; kernel_rfl) | (rw [if_neg (by decide +kernel)]; exact ⟨rfl, rfl⟩)
end Go.Proofs.YtlfkhemmgkdjjaaGreatDoor
