/-
  A part of the proof: see the last text.
-/
import Derived.Test.YtbjcefejalifeacGreatDoorS7
import Derived.Below
set_option linter.unusedVariables false
set_option linter.unusedSimpArgs false
namespace Go.Proofs.Tryz
open Go.Abs
set_option maxRecDepth 1000000

theorem f3_trip (s : Value) (f : Int) : Trip prog [0, 1, 4, 5, 7, 8, 9, 10, 11, 12, 13] 69 (.seq (CordIHd CordIB0) (.seq (CordIHd CordIB1) (.seq (CordIHd CordIB2) (.seq (CordIHd CordIB3) (.seq (CordIHd CordIB4) .ret))))) (CordIE0 s f) (CordIM0 s f) 0 (.ret (CordIE5 s f) (CordIM5 s f) 507) := ((trip_step hTT hTA hC3 hmix (CordIst0 s f) normal_ne).seq ((trip_step hTT hTA hC3 hmix (CordIst1 s f) normal_ne).seq ((trip_step hTT hTA hC3 hmix (CordIst2 s f) normal_ne).seq ((trip_step hTT hTA hC3 hmix (CordIst3 s f) normal_ne).seq ((trip_step hTT hTA hC3 hmix (CordIst4 s f) normal_ne).seq (trip_ret (CordIE5 s f) (CordIM5 s f) 507))))))

theorem f3_good (s : Value) (f : Int) (hs : s.oneCell' = true) (w : World) :
    Good prog (fun _ => none) .leaf w 0 (.bool true) (CordIM5 s f) 507 ((callFunc 3 #[s, .int .i64 f]).run prog w) :=
  good_of_trip (esc := [0, 1, 4, 5, 7, 8, 9, 10, 11, 12, 13]) (args := [.opq s, .int 0 f]) (vals := [s, .int .i64 f]) hTT func3 (by decide) (by kernel_rfl) (show 2 ≤ 69 by decide) (f3_trip s f) (by kernel_rfl)
    (.cons _ _ _ _ (.opq s hs) (.cons _ _ _ _ (.int .i64 f) .nil)) ⟨(fun i o h => by cases h), (fun i j p q h => by cases h)⟩ (fun _ _ => rfl)

/-- a call out of nothing of ours: what it answers, and the world behind it -/
theorem f3_calls (s : Value) (f : Int) (hs : s.oneCell' = true) (w : World) :
    Calls prog 3 #[s, .int .i64 f] w fun e w' => e = .returned (.bool true) ∧ RowKit.Below w.heap.size w w' := by
  have h := f3_good s f hs w
  have hrun : (callFunc 3 #[s, .int .i64 f]).run prog w = .ok (.enter 3 #[s, .int .i64 f]) w := by
    simp [callFunc, func3, Result.andThen]; rfl
  rw [hrun] at h
  refine Calls.mono h fun e w' he => ?_
  obtain ⟨v, rfl, π, h1, h2, h3⟩ := he
  rw [h1.bool_inv]
  exact ⟨rfl, h3.os, h3.tape, h3.output, h3.size, fun b hb => h3.keep b hb fun i p hi hp => by cases hp⟩

/-- what is held in one cell is no aggregate -/
theorem cell_one {P : Program} {w : World} {r : Reach} {base : Nat} {t : TypeId} {v : Value} (h : Cell.okWide P w r base t v) : v.oneCell' = true := by
  cases v <;> first | rfl | skip
  all_goals
    exfalso
    unfold Cell.okWide at h
    split at h <;> first | (rename_i h1; cases h1) | skip
    all_goals
      unfold Cell.ok at h
      split at h <;> first | exact h | (rename_i h1; cases h1)
end Go.Proofs.Tryz
