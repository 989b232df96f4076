/-
  'cordonlaw16.InterpNil' answers true at every input: no condition.
-/
import Derived.Test.YtbjcefejalifeacGreatDoorU
import Derived.Test.YtbjcefejalifeacGreatDoorV
import Derived.Test.YtbjcefejalifeacGreatDoorRows
import Derived.Test.YtbjcefejalifeacGreatDoorTie
import Derived.Test.YtbjcefejalifeacGreatDoorCards
import Derived.ProofKit
import Derived.OpenShut
import Derived.LaidMore
import Derived.Lay
import Derived.SevenTiedAt
import Derived.Stop.Joined
set_option linter.unusedVariables false
set_option linter.unusedSimpArgs false
namespace Go.Proofs.YtbjcefejalifeacGreatDoor
open Go.ChangeShapes Go.WideShapes Go.ChangeAt Go.RowKit
set_option maxRecDepth 100000

theorem own : ownKnob Tryz.prog.godebug = none := by kernel_rfl

theorem laidOut : laidOutB Tryz.prog = true := by kernel_rfl

theorem slice_one {w : World} {base : Nat} {v : Value} (h : Value.okWide Tryz.prog w .any base 22 v) : v.oneCell' = true := by
  unfold Value.okWide at h
  rw [Tryz.underlying22] at h
  exact Tryz.cell_one h

theorem keptBut_of_below {w w' : World} (may : MemPlace → Prop) (h : Below w.heap.size w w') : w.keptBut w' may := by
  have := World.keptBut_refl w may
  refine ⟨h.os, h.output, fun i hi => ?_⟩
  rw [h.block i hi]
  exact this.2.2 i hi

theorem lifted (os : Os) (started : os.Started) (H : Type) (enc : TypeId × Value → H) :
    ReturnsInHanded {} Tryz.checked os 3 .any (fun w args => (Rows.interpNilSpec.pre enc Tryz.prog Tryz.f3 Rows.interpNilRow.domain false w args ∧ laidMetH Tryz.prog Rows.interpNilRow.laid w) ∧ sizedMet enc Tryz.prog Tryz.f3 (OpenSpec.ofChange Rows.interpNilSpec) false w args)
      (Rows.interpNilSpec.post enc Tryz.prog Tryz.f3 false true false false) := by
  refine returnsInHanded_of_change_and (C := Tryz.checked) (X := fun w _ => laidMetH Tryz.prog Rows.interpNilRow.laid w) (fun _ _ _ hh h => h.of_heap hh) own started (by kernel_rfl) Tryz.func3
    (ChangeSpec.witness_shaped (enc := enc) (C := Tryz.checked) (os := os) (X := fun w _ => laidMetH Tryz.prog Rows.interpNilRow.laid w) false (World.laidAll Tryz.prog os Rows.interpNilRow.laid) #[.slice none 0 0, .int .i64 0] 8 (World.laidAll_os _ _ _)
      (World.shaped_of_ZipB (by kernel_rfl) (by kernel_rfl)) (by kernel_rfl) (by kernel_rfl) (by kernel_rfl)
      (by rw [MakeChecks.laidMetH_plain _ _ _ (by kernel_rfl)]; exact laidMet_laidAll _ (by kernel_rfl) (by kernel_rfl))) ?_
  intro W base args ds gs before hval0 hW _ _ _ _
  have hval : ∀ (j : Nat) t v, Tryz.f3.params[j]? = some t → args[j]? = some v → Value.okWide Tryz.prog W .any base t v := hval0
  have hW' := hW
  obtain ⟨p, q, hA0, hV, rfl, _, _⟩ := hW
  have hA : DataW.TrodAll enc Tryz.prog W 0 (fun _ => true) true Tryz.f3.params.toList args.toList ds p := hA0
  rw [Tryz.params3] at hA hval
  obtain ⟨v0, v1, d0, d1, p0, p1, rfl, rfl, rfl, h0, h1⟩ := trodAll_two hA
  obtain ⟨rfl, rfl⟩ := trodVars_none hV
  obtain ⟨f, rfl, rfl, rfl, wf⟩ := open_int Tryz.underlying3 (hval 1 3 v1 rfl rfl) h1
  have hs := slice_one (hval 0 22 v0 rfl rfl)
  have hlt : ∀ x ∈ p0, x.block < W.heap.size := fun x hx => by simpa using hW'.lt x (List.mem_append.2 (Or.inl (List.mem_append.2 (Or.inl hx))))
  refine (Tryz.f3_calls v0 f hs W).mono fun e W' ⟨he, hb⟩ => ?_
  subst he
  have e1 : Rows.interpNilSpec.fn H ([d0, .lit (.int .i64 f)] ++ []) = { results := [.lit (.bool true)], args := [d0, .lit (.int .i64 f)] } := by rfl
  refine ⟨_, rfl, _, _, _, [], p0 ++ [], [], hW', ?_, ?_, ?_, keptBut_of_below _ hb, fun h => by cases h⟩
  · rw [e1]; exact trodAll_mk1 (shut_bool Tryz.underlying4 true)
  · rw [e1]; exact trodAll_mk2 (Below.trod laidOut (by kernel_rfl) (of_decide_eq_true (by kernel_rfl)) h0 hb hlt) (shut_int Tryz.underlying3 wf)
  · rw [e1]; rfl

theorem interpNil_named : Tryz.prog.funcNamed "cordon/cordonlaw16.InterpNil" = some 3 := by kernel_rfl

theorem interpNil_holds : Rows.InterpNilSaid :=
  OpenClaim.holds_of_wide 3 Tryz.f3 rfl rfl rfl rfl rfl rfl rfl ⟨rfl, rfl, rfl, rfl, rfl⟩ rfl rfl rfl rfl rfl interpNil_named Tryz.func3 factfacts
    (of_decide_eq_true (by as_aux_lemma => kernel_rfl)) (by unfold Func.isWrapper; first | (rw [if_pos (by decide +kernel)]; kernel_rfl) | (rw [if_neg (by decide +kernel)]; exact ⟨rfl, rfl⟩))
    (fun os started H enc _ => lifted os started H enc)

theorem card_wf : Rows.interpNilRow.wfByText (OpenSpec.ofChange Rows.interpNilSpec) = true := by kernel_rfl
theorem card_main : Tryz.pinned.checked.prog.mainIs = some (true, "17bc08a262897e0c4f955b7610de31e79e6e9f744a03ed65690515cc235e6b57".toList) := by kernel_rfl
theorem card_looks : false = Tryz.pinned.checked.prog.looks [] := by kernel_rfl
theorem none_goes : Tryz.prog.funcs.any Func.goes = false := by kernel_rfl

theorem goes_not {P : Program} (h : P.funcs.any Func.goes = false) (f : FuncId) : P.goes f = false := by
  have h1 : ∀ g : Nat, (P.funcs[g]?).any Func.goes = false := by
    intro g
    cases hg : P.funcs[g]? with
    | none => rfl
    | some fn =>
      have hm : fn ∈ P.funcs := Array.mem_of_getElem? hg
      rw [Array.any_eq_false'] at h
      have := h fn hm
      simpa using this
  unfold Program.goes
  rw [h]
  simp [h1]

theorem card_goes : false = Rows.interpNilRow.goesBy Tryz.pinned.checked.prog := by
  have h : Tryz.pinned.checked.prog.goes 3 = false := goes_not none_goes 3
  have hn : Tryz.pinned.checked.prog.funcNamed Rows.interpNilRow.func = some 3 := interpNil_named
  unfold OpenClaim.goesBy Program.goesAt Program.goesFrom
  rw [hn]
  simp [h, Rows.interpNilRow]

theorem card_params : ([22, 3].all fun u => !Tryz.prog.wantsStandIn u) = true := by kernel_rfl

theorem interpNil_card : Rows.InterpNilCardSaid :=
  Claim7.holds_tied_plain_at .later [] [.data, .data, .data, .data, .pinned] true (true, "17bc08a262897e0c4f955b7610de31e79e6e9f744a03ed65690515cc235e6b57") false interpNil_holds (fun _ h => by cases h) card_wf (fun _ h => by cases h) interpNil_row_tie rfl ⟨rfl, rfl⟩ card_main rfl
    (fun f fn hf hfn => by
      obtain rfl : f = 3 := Option.some.inj (interpNil_named.symm.trans hf) |>.symm
      obtain rfl : fn = Tryz.f3 := (Option.some.inj (Tryz.func3.symm.trans hfn)).symm
      exact ⟨card_looks, fun j t ht => by
        rw [Tryz.params3] at ht
        have hm : t ∈ [22, 3] := by simpa using Array.mem_of_getElem? ht
        exact (show Tryz.prog.wantsStandIn t = false by simpa using List.all_eq_true.1 card_params t hm)⟩)
    card_goes
#print axioms interpNil_card
end Go.Proofs.YtbjcefejalifeacGreatDoor
