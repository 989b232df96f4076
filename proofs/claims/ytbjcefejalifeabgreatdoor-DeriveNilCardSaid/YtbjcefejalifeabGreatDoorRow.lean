/-
  'cordonlaw19.DeriveNil' answers true at every input: no condition.
-/
import Derived.Test.YtbjcefejalifeabGreatDoorU
import Derived.Test.YtbjcefejalifeabGreatDoorV
import Derived.Test.YtbjcefejalifeabGreatDoorRows
import Derived.Test.YtbjcefejalifeabGreatDoorTie
import Derived.Test.YtbjcefejalifeabGreatDoorCards
import Derived.ProofKit
import Derived.OpenShut
import Derived.LaidMore
import Derived.Lay
import Derived.SevenTiedAt
import Derived.Stop.Joined
set_option linter.unusedVariables false
set_option linter.unusedSimpArgs false
namespace Go.Proofs.YtbjcefejalifeabGreatDoor
open Go.ChangeShapes Go.WideShapes Go.ChangeAt Go.RowKit
set_option maxRecDepth 100000

theorem own : ownKnob Tryz.prog.godebug = none := by kernel_rfl

theorem laidOut : laidOutB Tryz.prog = true := by kernel_rfl

theorem five {cs : Array Value} (h : cs.size = 5) : ∃ a b c d e, cs = #[a, b, c, d, e] := by
  obtain ⟨l⟩ := cs
  match l, h with
  | [a, b, c, d, e], _ => exact ⟨a, b, c, d, e, rfl⟩

theorem cells27 : Tryz.prog.cellsOf 27 = 5 := by kernel_rfl

theorem open_proof {w : World} {base : Nat} {v : Value} (h : Value.okWide Tryz.prog w .any base 27 v) : ∃ a b c d e : Value, v = .agg #[a, b, c, d, e] ∧ a.oneCell' = true ∧ b.oneCell' = true ∧ c.oneCell' = true ∧ d.oneCell' = true ∧ e.oneCell' = true := by
  unfold Value.okWide at h
  rw [Tryz.underlying27] at h
  obtain ⟨cs, rfl, hs, ts, _, _, hr⟩ := h
  obtain ⟨a, b, c, d, e, rfl⟩ := five (hs.trans cells27)
  have one : ∀ (i : Nat) (v : Value), (#[a, b, c, d, e] : Array Value)[i]? = some v → v.oneCell' = true := fun i v hi => by
    obtain ⟨u, _, hu⟩ := hr i v hi
    exact Tryz.cell_one hu
  exact ⟨a, b, c, d, e, rfl, one 0 a rfl, one 1 b rfl, one 2 c rfl, one 3 d rfl, one 4 e rfl⟩

theorem keptBut_of_below {w w' : World} (may : MemPlace → Prop) (h : Below w.heap.size w w') : w.keptBut w' may := by
  have := World.keptBut_refl w may
  refine ⟨h.os, h.output, fun i hi => ?_⟩
  rw [h.block i hi]
  exact this.2.2 i hi

theorem lifted (os : Os) (started : os.Started) (H : Type) (enc : TypeId × Value → H) :
    ReturnsInHanded {} Tryz.checked os 3 .any (fun w args => (Rows.deriveNilSpec.pre enc Tryz.prog Tryz.f3 Rows.deriveNilRow.domain false w args ∧ laidMetH Tryz.prog Rows.deriveNilRow.laid w) ∧ sizedMet enc Tryz.prog Tryz.f3 (OpenSpec.ofChange Rows.deriveNilSpec) false w args)
      (Rows.deriveNilSpec.post enc Tryz.prog Tryz.f3 false true false false) := by
  refine returnsInHanded_of_change_and (C := Tryz.checked) (X := fun w _ => laidMetH Tryz.prog Rows.deriveNilRow.laid w) (fun _ _ _ hh h => h.of_heap hh) own started (by kernel_rfl) Tryz.func3
    (ChangeSpec.witness_shaped (enc := enc) (C := Tryz.checked) (os := os) (X := fun w _ => laidMetH Tryz.prog Rows.deriveNilRow.laid w) false (World.laidAll Tryz.prog os Rows.deriveNilRow.laid) #[.agg #[.slice none 0 0, .slice none 0 0, .slice none 0 0, .slice none 0 0, .slice none 0 0]] 8 (World.laidAll_os _ _ _)
      (World.shaped_of_ZipB (by kernel_rfl) (by kernel_rfl)) (by kernel_rfl) (by kernel_rfl) (by kernel_rfl)
      (by rw [MakeChecks.laidMetH_plain _ _ _ (by kernel_rfl)]; exact laidMet_laidAll _ (by kernel_rfl) (by kernel_rfl))) ?_
  intro W base args ds gs before hval0 hW _ _ _ _
  have hval : ∀ (j : Nat) t v, Tryz.f3.params[j]? = some t → args[j]? = some v → Value.okWide Tryz.prog W .any base t v := hval0
  have hW' := hW
  obtain ⟨p, q, hA0, hV, rfl, _, _⟩ := hW
  have hA : DataW.TrodAll enc Tryz.prog W 0 (fun _ => true) true Tryz.f3.params.toList args.toList ds p := hA0
  rw [Tryz.params3] at hA hval
  obtain ⟨v0, d0, rfl, rfl, h0⟩ := trodAll_one hA
  obtain ⟨rfl, rfl⟩ := trodVars_none hV
  obtain ⟨a, b, c, d, e, rfl, ha, hb, hc, hd, he⟩ := open_proof (hval 0 27 v0 rfl rfl)
  have hlt : ∀ x ∈ p, x.block < W.heap.size := fun x hx => by simpa using hW'.lt x (List.mem_append.2 (Or.inl hx))
  refine (Tryz.f3_calls a b c d e ha hb hc hd he W).mono fun e W' ⟨he, h1⟩ => ?_
  subst he
  have e1 : Rows.deriveNilSpec.fn H ([d0] ++ []) = { results := [.lit (.bool true)], args := [d0] } := by rfl
  refine ⟨_, rfl, _, _, _, [], p, [], hW', ?_, ?_, ?_, keptBut_of_below _ h1, fun h => by cases h⟩
  · rw [e1]; exact trodAll_mk1 (shut_bool Tryz.underlying4 true)
  · rw [e1]; exact trodAll_mk1 (Below.trod laidOut (by kernel_rfl) (of_decide_eq_true (by kernel_rfl)) h0 h1 hlt)
  · rw [e1]; rfl

theorem deriveNil_named : Tryz.prog.funcNamed "cordon/cordonlaw19.DeriveNil" = some 3 := by kernel_rfl

theorem deriveNil_holds : Rows.DeriveNilSaid :=
  OpenClaim.holds_of_wide 3 Tryz.f3 rfl rfl rfl rfl rfl rfl rfl ⟨rfl, rfl, rfl, rfl, rfl⟩ rfl rfl rfl rfl rfl deriveNil_named Tryz.func3 factfacts
    (of_decide_eq_true (by as_aux_lemma => kernel_rfl)) (by unfold Func.isWrapper; first | (rw [if_pos (by decide +kernel)]; kernel_rfl) | (rw [if_neg (by decide +kernel)]; exact ⟨rfl, rfl⟩))
    (fun os started H enc _ => lifted os started H enc)

theorem card_wf : Rows.deriveNilRow.wfByText (OpenSpec.ofChange Rows.deriveNilSpec) = true := by kernel_rfl
theorem card_main : Tryz.pinned.checked.prog.mainIs = some (true, "fcab6999526e6d8b566ece67a8b06662478414d93a9e41b819d251d728c638f9".toList) := by kernel_rfl
theorem card_looks : false = Tryz.pinned.checked.prog.looks [] := by kernel_rfl
theorem card_goes : false = Rows.deriveNilRow.goesBy Tryz.pinned.checked.prog := by kernel_rfl
theorem card_params : ([27].all fun u => !Tryz.prog.wantsStandIn u) = true := by kernel_rfl

theorem deriveNil_card : Rows.DeriveNilCardSaid :=
  Claim7.holds_tied_plain_at .later [] [.data, .data, .data, .data, .pinned] true (true, "fcab6999526e6d8b566ece67a8b06662478414d93a9e41b819d251d728c638f9") false deriveNil_holds (fun _ h => by cases h) card_wf (fun _ h => by cases h) deriveNil_row_tie rfl ⟨rfl, rfl⟩ card_main rfl
    (fun f fn hf hfn => by
      obtain rfl : f = 3 := Option.some.inj (deriveNil_named.symm.trans hf) |>.symm
      obtain rfl : fn = Tryz.f3 := (Option.some.inj (Tryz.func3.symm.trans hfn)).symm
      exact ⟨card_looks, fun j t ht => by
        rw [Tryz.params3] at ht
        have hm : t ∈ [27] := by simpa using Array.mem_of_getElem? ht
        exact (show Tryz.prog.wantsStandIn t = false by simpa using List.all_eq_true.1 card_params t hm)⟩)
    card_goes
#print axioms deriveNil_card
end Go.Proofs.YtbjcefejalifeabGreatDoor
