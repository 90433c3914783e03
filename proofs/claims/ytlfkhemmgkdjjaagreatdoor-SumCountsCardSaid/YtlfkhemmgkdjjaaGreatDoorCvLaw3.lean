/- THE LAW SumCounts: of any rows and any place, the law's function returns true, and its arguments read afterwards as they read before. (No condition but the row's own: the listed variables hold what the program's text lays.) -/
import Derived.Test.YtlfkhemmgkdjjaaGreatDoorTie
import Derived.Test.YtlfkhemmgkdjjaaGreatDoorCards
import Derived.Test.YtlfkhemmgkdjjaaGreatDoorCvFn8
import Derived.Test.YtlfkhemmgkdjjaaGreatDoorCvFacts3
import Derived.ProofKit
import Derived.OpenShut
import Derived.LaidMore
import Derived.Lay
import Derived.SevenTiedAt
import Derived.Stop.Joined
set_option maxRecDepth 100000
namespace Go.Proofs.YtlfkhemmgkdjjaaGreatDoor
open Go Go.Cv Go.ChangeShapes Go.WideShapes Go.ChangeAt Go.RowKit

theorem law3_own : ownKnob Tryz.prog.godebug = none := by kernel_rfl

def law3_pars : List Par := [⟨false, [.slc shR]⟩, ⟨false, [.int .u8]⟩]

theorem law3_true (args : List D) (h : HasPs law3_pars args) : ∃ k H', pcall E0 k 3 args [] = some (.ret (.bool true), H') := by
  simp only [law3_pars, HasPs] at h
  obtain ⟨a, _, rfl, ha, b, _, rfl, hb, rfl⟩ := h
  simp only [HasP, Bool.false_eq_true, if_false, HasL] at ha hb
  obtain ⟨a', _, e, ha, rfl⟩ := ha
  simp only [List.cons.injEq] at e
  obtain ⟨rfl, _⟩ := e
  obtain ⟨b', _, e, hb, rfl⟩ := hb
  simp only [List.cons.injEq] at e
  obtain ⟨rfl, _⟩ := e
  rw [Has.eq_def] at ha hb
  simp only at ha hb
  obtain ⟨xs, rfl, hx, hxs⟩ := ha
  obtain ⟨n, rfl, h0, h1⟩ := hb
  obtain ⟨l, rfl, hl⟩ := list_of (enc := encR) (ok := GRow.ok) xs fun x hx => hasR (hxs x hx)
  obtain ⟨d, H', hp, rfl⟩ := f3 l hl (by simpa using hx) n ⟨h0, h1⟩
  exact ⟨1001, H', hp⟩

theorem law3_lifted (os : Os) (started : os.Started) (H : Type) (enc : TypeId × Value → H) :
    ReturnsInHanded {} Tryz.checked os 3 .any (fun w args => (Rows.sumCountsSpec.pre enc Tryz.prog Tryz.f3 Rows.sumCountsRow.domain false w args ∧ laidMetH Tryz.prog Rows.sumCountsRow.laid w) ∧ sizedMet enc Tryz.prog Tryz.f3 (OpenSpec.ofChange Rows.sumCountsSpec) false w args)
      (Rows.sumCountsSpec.post enc Tryz.prog Tryz.f3 false true false false) := by
  refine returnsInHanded_of_change_and (C := Tryz.checked) (X := fun w _ => laidMetH Tryz.prog Rows.sumCountsRow.laid w) (fun _ _ _ hh h => h.of_heap hh) law3_own started (by kernel_rfl) Tryz.func3
    (ChangeSpec.witness_shaped (enc := enc) (C := Tryz.checked) (os := os) (X := fun w _ => laidMetH Tryz.prog Rows.sumCountsRow.laid w) false (World.laidAll Tryz.prog os Rows.sumCountsRow.laid) #[.slice none 0 0, .int .u8 0] 8 (World.laidAll_os _ _ _)
      (World.shaped_of_ZipB (by kernel_rfl) (by kernel_rfl)) (by kernel_rfl) (by kernel_rfl) (by kernel_rfl)
      (by rw [MakeChecks.laidMetH_plain _ _ _ (by kernel_rfl)]; exact laidMet_laidAll _ (by kernel_rfl) (by kernel_rfl))) ?_
  intro W base args ds gs before hval0 hW hc _ hL _
  have hval : ∀ (j : Nat) t v, Tryz.f3.params[j]? = some t → args[j]? = some v → Value.okWide Tryz.prog W .any base t v := hval0
  refine law_calls (P := Tryz.prog) (E := E0) env_ok orc_ok (fn := Tryz.f3) (f := 3) (s := Rows.sumCountsSpec) Tryz.func3 (by kernel_rfl) (by kernel_rfl) ?_ rfl (bt := 4) (by kernel_rfl) Tryz.underlying4 (pars := law3_pars) (by kernel_rfl) ?_ law3_true ?_ hval hW
  · have h : (Tryz.f3.params.toList.all fun t => Tryz.prog.readableRec t && decide (t < Tryz.prog.types.size)) = true := by kernel_rfl
    intro t ht
    simpa using List.all_eq_true.1 h t ht
  · intro ds hd
    match ds, hd with
    | [d1, d2], _ => rfl
  · intro g cells h
    cases h

theorem law3_holds : Rows.SumCountsSaid :=
  OpenClaim.holds_of_wide 3 Tryz.f3 rfl rfl rfl rfl rfl rfl rfl ⟨rfl, rfl, rfl, rfl, rfl⟩ rfl rfl rfl rfl rfl law3_named Tryz.func3 law3_fact_all law3_inst law3_wrap
    (fun os started H enc _ => law3_lifted os started H enc)

theorem law3_text : Rows.sumCountsRow.wfByText (OpenSpec.ofChange Rows.sumCountsSpec) = true := by kernel_rfl
theorem law3_main : Tryz.pinned.checked.prog.mainIs = some (true, ("68187d0ffb2e40132223b5ad063a3f6349d4a769c124b5f6ce35dc093becc20e" : String).toList) := by kernel_rfl
theorem law3_looks : true = Tryz.pinned.checked.prog.looks [] := by kernel_rfl
theorem law3_stand : ([22, 5].all fun u => !Tryz.prog.wantsStandIn u) = true := by kernel_rfl
theorem law3_goes : false = Rows.sumCountsRow.goesBy Tryz.pinned.checked.prog := by kernel_rfl

theorem sumCounts_card : Rows.SumCountsCardSaid :=
  Claim7.holds_tied_plain_at .later [] [.data, .data, .data, .data, .pinned] true (true, "68187d0ffb2e40132223b5ad063a3f6349d4a769c124b5f6ce35dc093becc20e") true law3_holds (fun _ h => by cases h) law3_text (fun _ h => by cases h) sumCounts_row_tie rfl ⟨rfl, rfl⟩ law3_main rfl
    (fun f fn hf hfn => by
      obtain rfl : f = 3 := Option.some.inj (law3_named.symm.trans hf) |>.symm
      obtain rfl : fn = Tryz.f3 := (Option.some.inj (Tryz.func3.symm.trans hfn)).symm
      exact ⟨law3_looks, fun j t ht => by
        rw [Tryz.params3] at ht
        have hm : t ∈ [22, 5] := by simpa using Array.mem_of_getElem? ht
        exact (show Tryz.prog.wantsStandIn t = false by simpa using List.all_eq_true.1 law3_stand t hm)⟩)
    law3_goes
#print axioms sumCounts_card
end Go.Proofs.YtlfkhemmgkdjjaaGreatDoor
