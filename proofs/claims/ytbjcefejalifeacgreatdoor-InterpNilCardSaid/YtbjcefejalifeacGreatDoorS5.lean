/-
  A part of the proof: see the last text.
-/
import Derived.Test.YtbjcefejalifeacGreatDoorS4
import Derived.Test.YtbjcefejalifeacGreatDoorH
import Derived.Test.YtbjcefejalifeacGreatDoorF
set_option linter.unusedVariables false
set_option linter.unusedSimpArgs false
namespace Go.Proofs.Tryz
open Go.Abs
set_option maxRecDepth 1000000

theorem hTT : TTok prog TT := (ttok_of tyAll).1
theorem hTA : TTagg prog TT := (ttok_of tyAll).2
theorem hFT : FTok prog FT := ftok_of (fnAll (ext_noEscape func244 (by decide) (by rfl) (by kernel_rfl) (by kernel_rfl)) (ext_indexByte func357 (by decide) (by rfl) (by kernel_rfl) (by kernel_rfl)))
theorem hmix : prog.follows .mixedOrders = true := by kernel_rfl
theorem hC (N : Nat) : CSound prog (callN prog TT FT N) := callN_ok hTT hTA hFT hmix N

theorem trip_ret {esc : List Nat} {nt : Nat} (E : List AV) (m : Mem) (n : Nat) : Trip prog esc nt .ret E m n (.ret E m n) :=
  trip_of hTT hTA (hC 0) hmix (N := 0) rfl ret_ne

theorem alive_trip : Trip prog [0, 1, 3, 4, 7, 9, 10, 11, 12] 69 (.seq (CordCHd CordCB0) (.seq (CordCHd CordCB1) (.seq (CordCHd CordCB2) (.seq (CordCHd CordCB3) (.seq (CordCHd CordCB4) (.seq (CordCHd CordCB5) .ret)))))) CordCE0 CordCM0 0 (.ret CordCE6 CordCM6 1455) := ((trip_step hTT hTA (hC _) hmix CordCst0 normal_ne).seq ((trip_step hTT hTA (hC _) hmix CordCst1 normal_ne).seq ((trip_step hTT hTA (hC _) hmix CordCst2 normal_ne).seq ((trip_step hTT hTA (hC _) hmix CordCst3 normal_ne).seq ((trip_step hTT hTA (hC _) hmix CordCst4 normal_ne).seq ((trip_step hTT hTA (hC _) hmix CordCst5 normal_ne).seq (trip_ret CordCE6 CordCM6 1455)))))))

/-- the example of the chapter is alive -/
theorem alive_good (w : World) : Good prog (fun _ => none) .leaf w 0 (.bool true) CordCM6 1455 ((callFunc 8 #[]).run prog w) :=
  good_of_trip (esc := [0, 1, 3, 4, 7, 9, 10, 11, 12]) (args := []) (vals := []) hTT func8 (by decide) (by kernel_rfl) (Nat.zero_le _) alive_trip (by kernel_rfl) .nil ⟨(fun i o h => by cases h), (fun i j p q h => by cases h)⟩ (fun _ _ => rfl)

noncomputable def C3 : CallR := withCall 8 (.bool true) (callN prog TT FT 1000)
theorem hC3 : CSound prog C3 := withCall_ok' (hC 1000) alive_good (ground_bool true)
end Go.Proofs.Tryz
