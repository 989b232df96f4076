/-
  A part of the proof: see the last text.
-/
import Derived.Test.YtbjcefejalifeaaGreatDoorS8
import Derived.Test.YtbjcefejalifeaaGreatDoorH
set_option linter.unusedVariables false
set_option linter.unusedSimpArgs false
namespace Go.Proofs.Tryz
open Go.Abs
set_option maxRecDepth 1000000

theorem hTT : TTok prog TT := (ttok_of tyAll).1
theorem hTA : TTagg prog TT := (ttok_of tyAll).2
theorem hFT : FTok prog FT := ftok_of (fnAll (ext_noEscape func242 (by decide) (by rfl) (by kernel_rfl) (by kernel_rfl)) (ext_indexByte func306 (by decide) (by rfl) (by kernel_rfl) (by kernel_rfl)))
theorem hmix : prog.follows .mixedOrders = true := by kernel_rfl
theorem hC (N : Nat) : CSound prog (callN prog TT FT N) := callN_ok hTT hTA hFT hmix N

theorem trip_ret {esc : List Nat} {nt : Nat} (E : List AV) (m : Mem) (n : Nat) : Trip prog esc nt .ret E m n (.ret E m n) :=
  trip_of hTT hTA (hC 0) hmix (N := 0) rfl ret_ne

theorem alive_trip : Trip prog [0, 1, 3, 4, 7, 10, 12, 13, 15, 16, 17] 86 (.seq (CordAHd CordAB0) (.seq (CordAHd CordAB1) (.seq (CordAHd CordAB2) (.seq (CordAHd CordAB3) (.seq (CordAHd CordAB4) (.seq (CordAHd CordAB5) (.seq (CordAHd CordAB6) (.seq (CordAHd CordAB7) .ret)))))))) CordAE0 CordAM0 0 (.ret CordAE8 CordAM8 5913) := (trip_step hTT hTA (hC _) hmix CordAst0 normal_ne).seq ((trip_step hTT hTA (hC _) hmix CordAst1 normal_ne).seq ((trip_step hTT hTA (hC _) hmix CordAst2 normal_ne).seq ((trip_step hTT hTA (hC _) hmix CordAst3 normal_ne).seq
  ((trip_step hTT hTA (hC _) hmix CordAst4 normal_ne).seq ((trip_step hTT hTA (hC _) hmix CordAst5 normal_ne).seq ((trip_step hTT hTA (hC _) hmix CordAst6 normal_ne).seq ((trip_step hTT hTA (hC _) hmix CordAst7 normal_ne).seq (trip_ret CordAE8 CordAM8 5913))))))))

/-- the example of the chapter is alive -/
theorem alive_good (w : World) : Good prog (fun _ => none) .leaf w 0 (.bool true) CordAM8 5913 ((callFunc 6 #[]).run prog w) :=
  good_of_trip (esc := [0, 1, 3, 4, 7, 10, 12, 13, 15, 16, 17]) (args := []) (vals := []) hTT func6 (by decide) (by kernel_rfl) (Nat.zero_le _) alive_trip (by kernel_rfl) .nil ⟨(fun i o h => by cases h), (fun i j p q h => by cases h)⟩ (fun _ _ => rfl)

end Go.Proofs.Tryz
namespace Go.Proofs.Tryz
open Go.Abs
set_option maxRecDepth 1000000

noncomputable def C3 : CallR := withCall 6 (.bool true) (callN prog TT FT 1000)
theorem hC3 : CSound prog C3 := withCall_ok' (hC 1000) alive_good (ground_bool true)

noncomputable def FB0 : Code := match f3.body with | some c => c | none => .skip
noncomputable def FB1 : Code := CordATl FB0
noncomputable def FB2 : Code := CordATl FB1
noncomputable def ops1 : List Oper := match CordAHd FB1 with | .region _ ops _ => ops.toList | _ => []
noncomputable def esc3 : List Nat := [0, 2, 3]

theorem f3st0 (n : Int) : gcQ [] (runC prog TT esc3 43 (CordAHd FB0) C3 1000 [.int 0 n, .tup [], .tup []] .leaf 0) = .normal [.int 0 n, .bool false, .tup []] .leaf 0 := by kernel_rfl

noncomputable def x1 : Cx := (⟨esc3, dstMask ops1, [], 0⟩ : Cx).alias (some 4) (.slot 0)
noncomputable def x2 : Cx := x1.push (some 5)
noncomputable def rest1 : RegF := onOpt (compSeq prog TT 2 x2 (ops1.drop 2)) (fun _ _ _ _ _ => .bad) fun f => f

theorem comp1 : runC prog TT esc3 43 (CordAHd FB1) = fun C N E m n => onlyN (rOp (oInt .rem (.t 0) (.c (.int 0 (.ofNat 20)))) rest1 C E [] m n) := by kernel_rfl

noncomputable def FM2 : Mem := .node none .leaf (.node none (.node (some (.cells 27 [.nilslice, .nilslice, .nilslice, .nilslice, .nilslice, .int 0 (.ofNat 0)] false 0 0)) .leaf .leaf) .leaf)

theorem f3pos (n : Int) : ∀ k : Nat, k < 20 → gcQ [4] (onlyN (rest1 C3 [.int 0 n, .bool false, .tup []] [.int 0 (.ofNat k)] .leaf 0)) = .normal [.int 0 n, .bool false, .ptr 4 0] FM2 5
  | 0, _ => by kernel_rfl
  | 1, _ => by kernel_rfl
  | 2, _ => by kernel_rfl
  | 3, _ => by kernel_rfl
  | 4, _ => by kernel_rfl
  | 5, _ => by kernel_rfl
  | 6, _ => by kernel_rfl
  | 7, _ => by kernel_rfl
  | 8, _ => by kernel_rfl
  | 9, _ => by kernel_rfl
  | 10, _ => by kernel_rfl
  | 11, _ => by kernel_rfl
  | 12, _ => by kernel_rfl
  | 13, _ => by kernel_rfl
  | 14, _ => by kernel_rfl
  | 15, _ => by kernel_rfl
  | 16, _ => by kernel_rfl
  | 17, _ => by kernel_rfl
  | 18, _ => by kernel_rfl
  | 19, _ => by kernel_rfl
  | k + 20, h => absurd h (by omega)

theorem f3neg (n : Int) : ∀ k : Nat, k < 19 → gcQ [4] (onlyN (rest1 C3 [.int 0 n, .bool false, .tup []] [.int 0 (.negSucc k)] .leaf 0)) = .normal [.int 0 n, .bool false, .ptr 4 0] FM2 5
  | 0, _ => by kernel_rfl
  | 1, _ => by kernel_rfl
  | 2, _ => by kernel_rfl
  | 3, _ => by kernel_rfl
  | 4, _ => by kernel_rfl
  | 5, _ => by kernel_rfl
  | 6, _ => by kernel_rfl
  | 7, _ => by kernel_rfl
  | 8, _ => by kernel_rfl
  | 9, _ => by kernel_rfl
  | 10, _ => by kernel_rfl
  | 11, _ => by kernel_rfl
  | 12, _ => by kernel_rfl
  | 13, _ => by kernel_rfl
  | 14, _ => by kernel_rfl
  | 15, _ => by kernel_rfl
  | 16, _ => by kernel_rfl
  | 17, _ => by kernel_rfl
  | 18, _ => by kernel_rfl
  | k + 19, h => absurd h (by omega)

theorem f3rest (n t : Int) (h1 : -20 < t) (h2 : t < 20) : gcQ [4] (onlyN (rest1 C3 [.int 0 n, .bool false, .tup []] [.int 0 t] .leaf 0)) = .normal [.int 0 n, .bool false, .ptr 4 0] FM2 5 := by
  rcases t with k | k
  · exact f3pos n k (by have : (Int.ofNat k : Int) = (k : Int) := rfl
                        omega)
  · exact f3neg n k (by omega)

theorem f3st1 (n : Int) : gcQ [4] (runC prog TT esc3 43 (CordAHd FB1) C3 1000 [.int 0 n, .bool false, .tup []] .leaf 0) = .normal [.int 0 n, .bool false, .ptr 4 0] FM2 5 := by
  have h1 : -20 < n.tmod 20 := Int.lt_tmod_of_pos n (by decide)
  have h2 : n.tmod 20 < 20 := Int.tmod_lt_of_pos n (by decide)
  rw [← f3rest n _ h1 h2, comp1]; rfl

theorem f3st2 (n : Int) : gcQ [] (runC prog TT esc3 43 (CordAHd FB2) C3 1000 [.int 0 n, .bool false, .ptr 4 0] FM2 5) = .normal [.int 0 n, .bool true, .ptr 4 0] .leaf 10 := by kernel_rfl

theorem f3_trip (n : Int) : Trip prog esc3 43 (.seq (CordAHd FB0) (.seq (CordAHd FB1) (.seq (CordAHd FB2) .ret))) [.int 0 n, .tup [], .tup []] .leaf 0 (.ret [.int 0 n, .bool true, .ptr 4 0] .leaf 10) :=
  (trip_step hTT hTA hC3 hmix (f3st0 n) normal_ne).seq ((trip_step hTT hTA hC3 hmix (f3st1 n) normal_ne).seq ((trip_step hTT hTA hC3 hmix (f3st2 n) normal_ne).seq (trip_ret _ _ _)))

theorem f3_good (n : Int) (w : World) : Good prog (fun _ => none) .leaf w 0 (.bool true) .leaf 10 ((callFunc 3 #[.int .i64 n]).run prog w) :=
  good_of_trip (esc := esc3) (args := [.int 0 n]) (vals := [.int .i64 n]) hTT func3 (by decide) (by kernel_rfl) (show 1 ≤ 43 by decide) (f3_trip n) (by kernel_rfl) (.cons _ _ _ _ (.int .i64 n) .nil) ⟨(fun i o h => by cases h), (fun i j p q h => by cases h)⟩ (fun _ _ => rfl)

/-- a call out of nothing of ours: what it answers, and the world behind it -/
theorem f3_calls (n : Int) (w : World) : Calls prog 3 #[.int .i64 n] w fun e w' => e = .returned (.bool true) ∧ w'.os = w.os ∧ w'.output = w.output ∧ w.heap.size ≤ w'.heap.size ∧ ∀ b, b < w.heap.size → w'.heap[b]? = w.heap[b]? := by
  have h := f3_good n w
  have hrun : (callFunc 3 #[.int .i64 n]).run prog w = .ok (.enter 3 #[.int .i64 n]) w := by
    simp [callFunc, func3, Result.andThen]; rfl
  rw [hrun] at h
  refine Calls.mono h fun e w' he => ?_
  obtain ⟨v, rfl, π, h1, h2, h3⟩ := he
  rw [h1.bool_inv]
  exact ⟨rfl, h3.os, h3.output, h3.size, fun b hb => h3.keep b hb fun i p hi hp => by cases hp⟩

end Go.Proofs.Tryz
