/-
  'cordonlaw18.FlowNil' answers true at every input: no condition.
-/
import Derived.Test.YtbjcefejalifeaaGreatDoorU
import Derived.Test.YtbjcefejalifeaaGreatDoorV
import Derived.Test.YtbjcefejalifeaaGreatDoorRows
import Derived.Test.YtbjcefejalifeaaGreatDoorTie
import Derived.Test.YtbjcefejalifeaaGreatDoorCards
import Derived.ProofKit
import Derived.OpenShut
import Derived.LaidMore
import Derived.Lay
import Derived.SevenTiedAt
import Derived.Stop.Joined
set_option linter.unusedVariables false
set_option linter.unusedSimpArgs false
namespace Go.Proofs.YtbjcefejalifeaaGreatDoor
open Go.ChangeShapes Go.WideShapes Go.ChangeAt Go.RowKit
set_option maxRecDepth 100000

theorem own : ownKnob Tryz.prog.godebug = none := by kernel_rfl

theorem keptBut_of_same {w w' : World} (may : MemPlace → Prop) (h1 : w'.os = w.os) (h2 : w'.output = w.output) (h3 : ∀ b, b < w.heap.size → w'.heap[b]? = w.heap[b]?) : w.keptBut w' may := by
  have := World.keptBut_refl w may
  refine ⟨h1, h2, fun i hi => ?_⟩
  rw [h3 i hi]
  exact this.2.2 i hi

theorem lifted (os : Os) (started : os.Started) (H : Type) (enc : TypeId × Value → H) :
    ReturnsInHanded {} Tryz.checked os 3 .any (fun w args => (Rows.flowNilSpec.pre enc Tryz.prog Tryz.f3 Rows.flowNilRow.domain false w args ∧ laidMetH Tryz.prog Rows.flowNilRow.laid w) ∧ sizedMet enc Tryz.prog Tryz.f3 (OpenSpec.ofChange Rows.flowNilSpec) false w args)
      (Rows.flowNilSpec.post enc Tryz.prog Tryz.f3 false true false false) := by
  refine returnsInHanded_of_change_and (C := Tryz.checked) (X := fun w _ => laidMetH Tryz.prog Rows.flowNilRow.laid w) (fun _ _ _ hh h => h.of_heap hh) own started (by kernel_rfl) Tryz.func3
    (ChangeSpec.witness_shaped (enc := enc) (C := Tryz.checked) (os := os) (X := fun w _ => laidMetH Tryz.prog Rows.flowNilRow.laid w) false (World.laidAll Tryz.prog os Rows.flowNilRow.laid) #[.int .i64 0] 8 (World.laidAll_os _ _ _)
      (World.shaped_of_ZipB (by kernel_rfl) (by kernel_rfl)) (by kernel_rfl) (by kernel_rfl) (by kernel_rfl)
      (by rw [MakeChecks.laidMetH_plain _ _ _ (by kernel_rfl)]; exact laidMet_laidAll _ (by kernel_rfl) (by kernel_rfl))) ?_
  intro W base args ds gs before hval0 hW _ _ _ _
  have hval : ∀ (j : Nat) t v, Tryz.f3.params[j]? = some t → args[j]? = some v → Value.okWide Tryz.prog W .any base t v := hval0
  have hW' := hW
  obtain ⟨p, q, hA0, hV, rfl, _, _⟩ := hW
  have hA : DataW.TrodAll enc Tryz.prog W 0 (fun _ => true) true Tryz.f3.params.toList args.toList ds p := hA0
  rw [Tryz.params3] at hA hval
  obtain ⟨v0, d0, rfl, rfl, h0⟩ := trodAll_one hA
  obtain ⟨rfl, rfl⟩ := trodVars_none hV
  obtain ⟨n, rfl, rfl, rfl, wn⟩ := open_int Tryz.underlying3 (hval 0 3 v0 rfl rfl) h0
  simp only [List.append_nil] at hW'
  refine (Tryz.f3_calls n W).mono fun e W' ⟨he, h1, h2, _, h3⟩ => ?_
  subst he
  have e1 : Rows.flowNilSpec.fn H ([.lit (.int .i64 n)] ++ []) = { results := [.lit (.bool true)], args := [.lit (.int .i64 n)] } := by rfl
  refine ⟨_, rfl, _, _, _, [], [], [], hW', ?_, ?_, ?_, keptBut_of_same _ h1 h2 h3, fun h => by cases h⟩
  · rw [e1]; exact trodAll_mk1 (shut_bool Tryz.underlying4 true)
  · rw [e1]; exact trodAll_mk1 (shut_int Tryz.underlying3 wn)
  · rw [e1]; rfl

theorem flowNil_named : Tryz.prog.funcNamed "cordon/cordonlaw18.FlowNil" = some 3 := by kernel_rfl

theorem flowNil_holds : Rows.FlowNilSaid :=
  OpenClaim.holds_of_wide 3 Tryz.f3 rfl rfl rfl rfl rfl rfl rfl ⟨rfl, rfl, rfl, rfl, rfl⟩ rfl rfl rfl rfl rfl flowNil_named Tryz.func3 factfacts
    (of_decide_eq_true (by as_aux_lemma => kernel_rfl)) (by unfold Func.isWrapper; first | (rw [if_pos (by decide +kernel)]; kernel_rfl) | (rw [if_neg (by decide +kernel)]; exact ⟨rfl, rfl⟩))
    (fun os started H enc _ => lifted os started H enc)

theorem card_wf : Rows.flowNilRow.wfByText (OpenSpec.ofChange Rows.flowNilSpec) = true := by kernel_rfl
theorem card_main : Tryz.pinned.checked.prog.mainIs = some (true, "7edcb0b905cbd7deb1d83a51f9baecd46437b0eb619ccc84ee950d0ad6863b39".toList) := by kernel_rfl
theorem card_looks : false = Tryz.pinned.checked.prog.looks [] := by kernel_rfl
theorem card_goes : false = Rows.flowNilRow.goesBy Tryz.pinned.checked.prog := by kernel_rfl
theorem card_params : ([3].all fun u => !Tryz.prog.wantsStandIn u) = true := by kernel_rfl

theorem flowNil_card : Rows.FlowNilCardSaid :=
  Claim7.holds_tied_plain_at .later [] [.data, .data, .data, .data, .pinned] true (true, "7edcb0b905cbd7deb1d83a51f9baecd46437b0eb619ccc84ee950d0ad6863b39") false flowNil_holds (fun _ h => by cases h) card_wf (fun _ h => by cases h) flowNil_row_tie rfl ⟨rfl, rfl⟩ card_main rfl
    (fun f fn hf hfn => by
      obtain rfl : f = 3 := Option.some.inj (flowNil_named.symm.trans hf) |>.symm
      obtain rfl : fn = Tryz.f3 := (Option.some.inj (Tryz.func3.symm.trans hfn)).symm
      exact ⟨card_looks, fun j t ht => by
        rw [Tryz.params3] at ht
        have hm : t ∈ [3] := by simpa using Array.mem_of_getElem? ht
        exact (show Tryz.prog.wantsStandIn t = false by simpa using List.all_eq_true.1 card_params t hm)⟩)
    card_goes
#print axioms flowNil_card
end Go.Proofs.YtbjcefejalifeaaGreatDoor
