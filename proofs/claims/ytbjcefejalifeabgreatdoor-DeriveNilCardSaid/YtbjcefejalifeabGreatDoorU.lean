/-
  A part of the proof: see the last text.
-/
import Derived.Test.YtbjcefejalifeabGreatDoorS8
import Derived.Test.YtbjcefejalifeabGreatDoorH
import Derived.Test.YtbjcefejalifeabGreatDoorF
import Derived.Below
set_option linter.unusedVariables false
set_option linter.unusedSimpArgs false
namespace Go.Proofs.Tryz
open Go.Abs
set_option maxRecDepth 1000000

theorem hTT : TTok prog TT := (ttok_of tyAll).1
theorem hTA : TTagg prog TT := (ttok_of tyAll).2
theorem hFT : FTok prog FT := ftok_of (fnAll (ext_noEscape func280 (by decide) (by rfl) (by kernel_rfl) (by kernel_rfl)) (ext_indexByte func341 (by decide) (by rfl) (by kernel_rfl) (by kernel_rfl)))
theorem hmix : prog.follows .mixedOrders = true := by kernel_rfl
theorem hC (N : Nat) : CSound prog (callN prog TT FT N) := callN_ok hTT hTA hFT hmix N

theorem trip_ret {esc : List Nat} {nt : Nat} (E : List AV) (m : Mem) (n : Nat) : Trip prog esc nt .ret E m n (.ret E m n) :=
  trip_of hTT hTA (hC 0) hmix (N := 0) rfl ret_ne

theorem alive_trip : Trip prog [0, 1, 3, 4, 7, 10, 12, 13, 15, 16, 17, 19, 20] 97 (.seq (CordBHd CordBB0) (.seq (CordBHd CordBB1) (.seq (CordBHd CordBB2) (.seq (CordBHd CordBB3) (.seq (CordBHd CordBB4) (.seq (CordBHd CordBB5) (.seq (CordBHd CordBB6) (.seq (CordBHd CordBB7) (.seq (CordBHd CordBB8) (.seq (CordBHd CordBB9) .ret)))))))))) CordBE0 CordBM0 0 (.ret CordBE10 CordBM10 4697) := ((trip_step hTT hTA (hC _) hmix CordBst0 normal_ne).seq ((trip_step hTT hTA (hC _) hmix CordBst1 normal_ne).seq ((trip_step hTT hTA (hC _) hmix CordBst2 normal_ne).seq ((trip_step hTT hTA (hC _) hmix CordBst3 normal_ne).seq ((trip_step hTT hTA (hC _) hmix CordBst4 normal_ne).seq ((trip_step hTT hTA (hC _) hmix CordBst5 normal_ne).seq ((trip_step hTT hTA (hC _) hmix CordBst6 normal_ne).seq ((trip_step hTT hTA (hC _) hmix CordBst7 normal_ne).seq ((trip_step hTT hTA (hC _) hmix CordBst8 normal_ne).seq ((trip_step hTT hTA (hC _) hmix CordBst9 normal_ne).seq (trip_ret CordBE10 CordBM10 4697)))))))))))

/-- the example of the chapter is alive -/
theorem alive_good (w : World) : Good prog (fun _ => none) .leaf w 0 (.bool true) CordBM10 4697 ((callFunc 6 #[]).run prog w) :=
  good_of_trip (esc := [0, 1, 3, 4, 7, 10, 12, 13, 15, 16, 17, 19, 20]) (args := []) (vals := []) hTT func6 (by decide) (by kernel_rfl) (Nat.zero_le _) alive_trip (by kernel_rfl) .nil ⟨(fun i o h => by cases h), (fun i j p q h => by cases h)⟩ (fun _ _ => rfl)

end Go.Proofs.Tryz
namespace Go.Proofs.Tryz
open Go.Abs
set_option maxRecDepth 1000000

noncomputable def C3 : CallR := withCall 6 (.bool true) (callN prog TT FT 1000)
theorem hC3 : CSound prog C3 := withCall_ok' (hC 1000) alive_good (ground_bool true)

noncomputable def FB0 : Code := match f3.body with | some c => c | none => .skip
noncomputable def FB1 : Code := CordBTl FB0
noncomputable def FB2 : Code := CordBTl FB1
noncomputable def esc3 : List Nat := [0, 1, 2, 3, 4]
noncomputable def arg (a b c d e : Value) : AV := .agg [.opq a, .opq b, .opq c, .opq d, .opq e]
noncomputable def FM1 (a b c d e : Value) : Mem := .node (some (.cells 27 [.opq a, .opq b, .opq c, .opq d, .opq e] false 0 0)) .leaf .leaf

theorem f3st0 (a b c d e : Value) : gcQ [0] (runC prog TT esc3 27 (CordBHd FB0) C3 1000 [arg a b c d e, .tup [], .tup [], .tup [], .tup []] .leaf 0) = .normal [arg a b c d e, .ptr 0 0, .bool false, .tup [], .tup []] (FM1 a b c d e) 1 := by kernel_rfl


noncomputable def FM2 (a b c d e : Value) : Mem := .node (some (.cells 27 [.opq a, .opq b, .opq c, .opq d, .opq e] false 0 0)) (.node none (.node (some (.cells 27 [.nilslice, .nilslice, .nilslice, .nilslice, .nilslice] false 0 0)) .leaf .leaf) .leaf) .leaf

theorem f3st1 (a b c d e : Value) : gcQ [0, 3] (runC prog TT esc3 27 (CordBHd FB1) C3 1000 [arg a b c d e, .ptr 0 0, .bool false, .tup [], .tup []] (FM1 a b c d e) 1) =
    .normal [arg a b c d e, .ptr 0 0, .bool false, .ptr 3 0, .bool false] (FM2 a b c d e) 4 := by kernel_rfl

theorem f3st2 (a b c d e : Value) : gcQ [] (runC prog TT esc3 27 (CordBHd FB2) C3 1000 [arg a b c d e, .ptr 0 0, .bool false, .ptr 3 0, .bool false] (FM2 a b c d e) 4) =
    .normal [arg a b c d e, .ptr 0 0, .bool true, .ptr 3 0, .bool false] .leaf 6 := by kernel_rfl

theorem f3_trip (a b c d e : Value) : Trip prog esc3 27 (.seq (CordBHd FB0) (.seq (CordBHd FB1) (.seq (CordBHd FB2) .ret))) [arg a b c d e, .tup [], .tup [], .tup [], .tup []] .leaf 0 (.ret [arg a b c d e, .ptr 0 0, .bool true, .ptr 3 0, .bool false] .leaf 6) :=
  (trip_step hTT hTA hC3 hmix (f3st0 a b c d e) normal_ne).seq ((trip_step hTT hTA hC3 hmix (f3st1 a b c d e) normal_ne).seq ((trip_step hTT hTA hC3 hmix (f3st2 a b c d e) normal_ne).seq (trip_ret _ _ _)))

theorem f3_good (a b c d e : Value) (ha : a.oneCell' = true) (hb : b.oneCell' = true) (hc : c.oneCell' = true) (hd : d.oneCell' = true) (he : e.oneCell' = true) (w : World) :
    Good prog (fun _ => none) .leaf w 0 (.bool true) .leaf 6 ((callFunc 3 #[.agg #[a, b, c, d, e]]).run prog w) :=
  good_of_trip (esc := esc3) (args := [arg a b c d e]) (vals := [.agg #[a, b, c, d, e]]) hTT func3 (by decide) (by kernel_rfl) (show 1 ≤ 27 by decide) (f3_trip a b c d e) (by kernel_rfl)
    (.cons _ _ _ _ (.agg _ _ (.cons _ _ _ _ (.opq a ha) (.cons _ _ _ _ (.opq b hb) (.cons _ _ _ _ (.opq c hc) (.cons _ _ _ _ (.opq d hd) (.cons _ _ _ _ (.opq e he) .nil)))))) .nil) ⟨(fun i o h => by cases h), (fun i j p q h => by cases h)⟩ (fun _ _ => rfl)

/-- a call out of nothing of ours: what it answers, and the world behind it -/
theorem f3_calls (a b c d e : Value) (ha : a.oneCell' = true) (hb : b.oneCell' = true) (hc : c.oneCell' = true) (hd : d.oneCell' = true) (he : e.oneCell' = true) (w : World) :
    Calls prog 3 #[.agg #[a, b, c, d, e]] w fun e w' => e = .returned (.bool true) ∧ RowKit.Below w.heap.size w w' := by
  have h := f3_good a b c d e ha hb hc hd he w
  have hrun : (callFunc 3 #[.agg #[a, b, c, d, e]]).run prog w = .ok (.enter 3 #[.agg #[a, b, c, d, e]]) w := by
    simp [callFunc, func3, Result.andThen]; rfl
  rw [hrun] at h
  refine Calls.mono h fun e w' he => ?_
  obtain ⟨v, rfl, π, h1, h2, h3⟩ := he
  rw [h1.bool_inv]
  exact ⟨rfl, h3.os, h3.tape, h3.output, h3.size, fun b hb => h3.keep b hb fun i p hi hp => by cases hp⟩

/-- what is held in one cell is no aggregate -/
theorem cell_one {P : Program} {w : World} {r : Reach} {base : Nat} {t : TypeId} {v : Value} (h : Cell.okWide P w r base t v) : v.oneCell' = true := by
  cases v <;> first | rfl | skip
  all_goals
    exfalso
    unfold Cell.okWide at h
    split at h <;> first | (rename_i h1; cases h1) | skip
    all_goals
      unfold Cell.ok at h
      split at h <;> first | exact h | (rename_i h1; cases h1)
end Go.Proofs.Tryz
