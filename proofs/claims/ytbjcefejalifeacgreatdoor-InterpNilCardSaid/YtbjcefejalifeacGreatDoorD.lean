/-
  A part of the proof: see the last text.
-/
import Derived.Test.YtbjcefejalifeacGreatDoorC
set_option linter.unusedVariables false
set_option linter.unusedSimpArgs false
namespace Go.Abs
set_option linter.unusedVariables false
set_option linter.unusedSimpArgs false

section
variable {P : Program} {TT : Trie TI} {π : PMap} {m : Mem} {w : World} {n : Nat} {E K : List AV} {C : CallR} {v : AV} {m' : Mem} {n' : Nat} {cx : Cx} {ρ : Operand → Value}

/-- what an operand is compiled to stands for it -/
abbrev OpdOk (π : PMap) (cx : Cx) (E K : List AV) (ρ : Operand → Value) (S : List Operand) : Prop := ∀ y, y ∈ S → ∀ q, compOpd cx y = some q → VRel π (ev E K q) (ρ y)

theorem opds_rel : ∀ (l : List Operand) (qs : List Opd) (_ : OpdOk π cx E K ρ l), compOpds cx l = some qs → All2 (fun x q => VRel π (ev E K q) (ρ x)) l qs
  | [], qs, _, h => by cases h; exact .nil
  | y :: l, qs, hρ, h => by
    obtain ⟨a, ha, h⟩ := optB_eq_some h
    obtain ⟨r, hr, h⟩ := optB_eq_some h
    cases h
    exact .cons (hρ _ List.mem_cons_self _ ha) (opds_rel l r (fun z hz => hρ z (List.mem_cons_of_mem _ hz)) hr)

theorem opt_rel {o : Option Operand} {q : Option Opd} (hρ : OpdOk π cx E K ρ o.toList) (h : compOpt cx o = some q) : OptRel π E K q (o.map ρ) := by
  cases o with
  | none => cases h; trivial
  | some y =>
    obtain ⟨a, ha, h⟩ := optB_eq_some h
    cases h
    exact hρ _ (by simp) _ ha

theorem partsS_rel {pl : List (Nat × Nat)} : ∀ (l : List (Nat × Operand)) (qs : List (Nat × Nat × Opd)) (_ : OpdOk π cx E K ρ (l.map (·.2))), partsS cx pl l = some qs →
    All2 (fun (p : Nat × Operand) (q : Nat × Nat × Opd) => pl[p.1]? = some (q.1, q.2.1) ∧ VRel π (ev E K q.2.2) (ρ p.2)) l qs
  | [], qs, _, h => by cases h; exact .nil
  | y :: l, qs, hρ, h => by
    obtain ⟨p, hp, h⟩ := optB_eq_some h
    obtain ⟨a, ha, h⟩ := optB_eq_some h
    obtain ⟨r, hr, h⟩ := optB_eq_some h
    rw [frc_eq, frc_eq] at h
    cases h
    exact .cons ⟨hp, hρ _ List.mem_cons_self _ ha⟩ (partsS_rel l r (fun z hz => hρ z (List.mem_cons_of_mem _ hz)) hr)

theorem partsA_rel {sz : Nat} : ∀ (l : List (Nat × Operand)) (qs : List (Nat × Nat × Opd)) (_ : OpdOk π cx E K ρ (l.map (·.2))), partsA cx sz l = some qs →
    All2 (fun (p : Nat × Operand) (q : Nat × Nat × Opd) => (some (p.1 * sz, sz) : Option (Nat × Nat)) = some (q.1, q.2.1) ∧ VRel π (ev E K q.2.2) (ρ p.2)) l qs
  | [], qs, _, h => by cases h; exact .nil
  | y :: l, qs, hρ, h => by
    obtain ⟨a, ha, h⟩ := optB_eq_some h
    obtain ⟨r, hr, h⟩ := optB_eq_some h
    rw [frc_eq, frc_eq] at h
    cases h
    exact .cons ⟨rfl, hρ _ List.mem_cons_self _ ha⟩ (partsA_rel l r (fun z hz => hρ z (List.mem_cons_of_mem _ hz)) hr)

theorem fieldOf_eq {t f : Nat} {g : Nat × TI} (h : fieldOf TT t f = some g) : ∃ i fs fd, TT.get t = some i ∧ i.und = .struct fs ∧ fs[f]? = some fd ∧ TT.get fd.type = some g.2 ∧ fd.offset = g.1 := by
  obtain ⟨i, hi, h⟩ := optB_eq_some h
  split at h
  · rename_i fs hu
    obtain ⟨fd, hfd, h⟩ := optB_eq_some h
    obtain ⟨j, hj, h⟩ := optB_eq_some h
    cases h
    exact ⟨i, fs, fd, hi, hu, by simpa using hfd, hj, rfl⟩
  · cases h

theorem cndO {α : Type} {b : Bool} {x : Option α} {r : α} (h : cnd b x none = some r) : b = true ∧ x = some r := by
  cases b
  · cases h
  · exact ⟨rfl, h⟩

theorem beqF {a b : Nat} (h : Nat.beq a b = false) : a ≠ b := fun e => by subst e; simp at h

theorem bin_good (hT : TTok P TT) {op : BinOp} {t : Nat} {X Y : Operand} {x y : Opd} {f : OpF} (hM : MRel π m.get w) (hx : VRel π (ev E K x) (ρ X)) (hy : VRel π (ev E K y) (ρ Y))
    (hc : compBin TT op t x y = some f) (h : f C E K m n = .ok v m' n') :
    Good P π m w n v m' n' ((do pure (.value (← (do eqGuard op t X Y (ρ X) (ρ Y); binOp op t (ρ X) (ρ Y) : Sem Value))) : Sem Next).run P w) := by
  obtain ⟨i, hi, hc⟩ := optB_eq_some hc
  have hk : ∀ k, kOf (kid k) = k := kOf_kid
  split at hc
  · -- integers
    split at hc <;> cases hc
    · exact good_ari hM hx hy (fun k a d => by simp only [binOp, ne_eq, not_true_eq_false, if_false, Op.intArith, Sem.run_pure, addI_eq, hk]) h
    · exact good_ari hM hx hy (fun k a d => by simp only [binOp, ne_eq, not_true_eq_false, if_false, Op.intArith, Sem.run_pure, subI_eq, hk]) h
    · exact good_cmp hM hx hy ⟨by decide, by decide⟩ (fun k a d => by simp only [binOp, ne_eq, not_true_eq_false, if_false, Op.intCmp, Sem.run_pure, eqI_eq]) h
    · exact good_cmp hM hx hy ⟨by decide, by decide⟩ (fun k a d => by simp only [binOp, ne_eq, not_true_eq_false, if_false, Op.intCmp, Sem.run_pure, neI, eqI_eq, notB_eq, bne]) h
    · exact good_cmp hM hx hy ⟨by decide, by decide⟩ (fun k a d => by simp only [binOp, ne_eq, not_true_eq_false, if_false, Op.intCmp, Sem.run_pure, ltI_eq]) h
    · exact good_cmp hM hx hy ⟨by decide, by decide⟩ (fun k a d => by simp only [binOp, ne_eq, not_true_eq_false, if_false, Op.intCmp, Sem.run_pure, leI_eq]) h
    · exact good_cmp hM hx hy ⟨by decide, by decide⟩ (fun k a d => by simp only [binOp, ne_eq, not_true_eq_false, if_false, Op.intCmp, Sem.run_pure, gtI, ltI_eq]) h
    · exact good_cmp hM hx hy ⟨by decide, by decide⟩ (fun k a d => by simp only [binOp, ne_eq, not_true_eq_false, if_false, Op.intCmp, Sem.run_pure, geI, leI_eq]) h
    · exact good_shl hM hx hy h
    · exact good_shr hM hx hy h
    · exact good_int hM hx hy h
  · cases hc
    exact good_strB hM hx hy h
  · have key : ∀ neg, compBin.compEq TT x y i.und neg = some f → ∀ op, (op = if neg then BinOp.neq else BinOp.eql) →
        Good P π m w n v m' n' ((do pure (.value (← (do eqGuard op t X Y (ρ X) (ρ Y); binOp op t (ρ X) (ρ Y) : Sem Value))) : Sem Next).run P w) := by
      intro neg hc op hop
      unfold compBin.compEq at hc
      split at hc
      · rename_i hu; cases hc
        exact good_eq hT hM hi (by rw [hu]; trivial) hop hx hy h
      · rename_i e hu
        obtain ⟨j, hj, hc⟩ := optB_eq_some hc
        cases hz : Nat.beq j.size 0 with
        | true => rw [hz] at hc; cases hc
        | false =>
          rw [hz] at hc; cases hc
          exact good_eq hT hM hi (by rw [hu]; exact ⟨j, hj, beqF hz⟩) hop hx hy h
      · rename_i hu; cases hc
        exact good_eq hT hM hi (by rw [hu]; trivial) hop hx hy h
      · rename_i hu; cases hc
        exact good_eq hT hM hi (by rw [hu]; trivial) hop hx hy h
      · rename_i hu; cases hc
        exact good_eq hT hM hi (by rw [hu]; trivial) hop hx hy h
      · rename_i hu; cases hc
        exact good_eq hT hM hi (by rw [hu]; trivial) hop hx hy h
      · cases hc
    split at hc
    · exact key false hc _ rfl
    · exact key true hc _ rfl
    · cases hc

theorem conv_good (hT : TTok P TT) {s d : Nat} {X : Operand} {x : Opd} {f : OpF} (hM : MRel π m.get w) (hn : ∀ x, n ≤ x → x < n' → π x = none) (hx : VRel π (ev E K x) (ρ X))
    (hc : compConv P TT s d x = some f) (h : f C E K m n = .ok v m' n') :
    Good P π m w n v m' n' ((do pure (.value (← convert s d (ρ X))) : Sem Next).run P w) := by
  obtain ⟨i, hi, hc⟩ := optB_eq_some hc
  obtain ⟨j, hj, hc⟩ := optB_eq_some hc
  split at hc
  · rename_i h1 h2
    rw [frc_eq] at hc; cases hc
    exact good_convInt hT hM hi hj h1 h2 hx h
  · rename_i h1 h2
    cases hc
    exact good_convStr hT hM hi hj h1 h2 hx h
  · rename_i h1 h2
    obtain ⟨k, hk, hc⟩ := optB_eq_some hc
    split at hc
    · rename_i h3; cases hc
      exact good_convBytesStr hT hM hi h1 hj h2 hk h3 hx h
    · cases hc
  · rename_i h1 h2
    obtain ⟨k, hk, hc⟩ := optB_eq_some hc
    split at hc
    · rename_i h3; cases hc
      exact good_convStrBytes hT hM hn hi h1 hj h2 hk h3 hx h
    · cases hc
  · rename_i h1 h2
    obtain ⟨k, hk, hc⟩ := optB_eq_some hc
    cases hz : Nat.beq k.size 0 with
    | true => rw [hz] at hc; cases hc
    | false =>
      rw [hz] at hc; cases hc
      exact good_convPU hT hM hi h1 hj h2 hk (beqF hz) hx h
  · rename_i h1 h2
    obtain ⟨k, hk, hc⟩ := optB_eq_some hc
    cases hz : Nat.beq k.size 0 with
    | true => rw [hz] at hc; cases hc
    | false =>
      rw [hz] at hc; cases hc
      exact good_convUP hT hM hi h1 hj h2 hk (beqF hz) hx h
  · cases hc

end
end Go.Abs
namespace Go.Abs
set_option linter.unusedVariables false
set_option linter.unusedSimpArgs false

section
variable {P : Program} {TT : Trie TI} {π : PMap} {m : Mem} {w : World} {n : Nat} {E K : List AV} {C : CallR} {v : AV} {m' : Mem} {n' : Nat} {cx : Cx} {ρ : Operand → Value}

theorem call_good (hT : TTok P TT) (hC : CSound P C) {c : Call} (hρ : OpdOk π cx E K ρ c.operands.toList) (hfn : ∀ f, ρ (.func f) = .func (.func f) #[] #[]) {f : OpF} {ty : TypeId} (hM : MRel π m.get w) (hn : ∀ x, n ≤ x → π x = none)
    (hc : compCall TT cx c = some f) (h : f C E K m n = .ok v m' n') :
    Good P π m w n v m' n' ((do let d ← resolve ρ c ty; invoke d.target d.args : Sem Next).run P w) := by
  have hargs : ∀ y, y ∈ c.args.toList → y ∈ c.operands.toList := fun y hy => by simp only [Call.operands, Array.toList_append, List.mem_append]; exact .inr hy
  simp only [compCall] at hc
  split at hc
  · rename_i g hg
    split at hc
    · obtain ⟨l, hl, hc⟩ := optB_eq_some hc
      cases hc
      exact good_callF hC hM hn hg (hfn _) (opds_rel _ _ (fun y hy => hρ y (hargs y hy)) hl) h
    · obtain ⟨q, hq, hc⟩ := optB_eq_some hc
      obtain ⟨l, hl, hc⟩ := optB_eq_some hc
      cases hc
      exact good_callV hC hM hn hg (hρ _ (by simp [Call.operands, hg]) _ hq) (opds_rel _ _ (fun y hy => hρ y (hargs y hy)) hl) h
  · rename_i b hb
    have red : ∀ (as : List Operand) (ts : List TypeId), c.args.toList = as → c.argTypes.toList = ts →
        Good P π m w n v m' n' ((builtin b ts.toArray ty (c.args.map fun | .const _ => true | _ => false) (as.map ρ).toArray).run P w) →
        Good P π m w n v m' n' ((do let d ← resolve ρ c ty; invoke d.target d.args : Sem Next).run P w) := by
      intro as ts h1 h2 h3
      simp only [resolve, hb, Sem.run_bind, Sem.run_pure, Result.andThen_ok, invoke]
      have e1 : c.args.map ρ = (as.map ρ).toArray := by apply Array.toList_inj.1; simp [h1]
      have e2 : c.argTypes = ts.toArray := by apply Array.toList_inj.1; simp [h2]
      rw [e1, e2]
      exact h3
    split at hc
    · rename_i x t ha ht
      obtain ⟨i, hi, hc⟩ := optB_eq_some hc
      refine red _ _ ha ht ?_
      split at hc
      · rename_i hu
        obtain ⟨q, hq, hc⟩ := optB_eq_some hc; cases hc
        exact good_lenS hT hM hi hu (hρ _ (hargs _ (by rw [ha]; simp)) _ hq) h
      · rename_i hu
        obtain ⟨q, hq, hc⟩ := optB_eq_some hc; cases hc
        exact good_lenV hT hM hi hu (hρ _ (hargs _ (by rw [ha]; simp)) _ hq) h
      · rename_i hu
        obtain ⟨q, hq, hc⟩ := optB_eq_some hc; cases hc
        exact good_lenM hT hM hi hu (hρ _ (hargs _ (by rw [ha]; simp)) _ hq) h
      · rename_i hu
        cases hc
        exact good_lenC hT hM hi hu h
      · rename_i hu
        obtain ⟨j, hj, hc⟩ := optB_eq_some hc
        split at hc
        · rename_i huj
          cases hc
          exact good_lenCP hT hM hi hu hj huj h
        · cases hc
      · cases hc
    · rename_i x l ha
      obtain ⟨q, hq, hc⟩ := optB_eq_some hc
      obtain ⟨r, hr, hc⟩ := optB_eq_some hc; cases hc
      refine red _ _ ha rfl ?_
      exact good_max hM (hρ _ (hargs _ (by rw [ha]; simp)) _ hq) (opds_rel _ _ (fun y hy => hρ y (hargs y (by rw [ha]; exact List.mem_cons_of_mem _ hy))) hr) h
    · rename_i x l ha
      obtain ⟨q, hq, hc⟩ := optB_eq_some hc
      obtain ⟨r, hr, hc⟩ := optB_eq_some hc; cases hc
      refine red _ _ ha rfl ?_
      exact good_min hM (hρ _ (hargs _ (by rw [ha]; simp)) _ hq) (opds_rel _ _ (fun y hy => hρ y (hargs y (by rw [ha]; exact List.mem_cons_of_mem _ hy))) hr) h
    · rename_i x y t u ha ht
      obtain ⟨i, hi, hc⟩ := optB_eq_some hc
      obtain ⟨j, hj, hc⟩ := optB_eq_some hc
      refine red _ _ ha ht ?_
      split at hc
      · cases hc
      · rename_i e huj hu
        obtain ⟨k, hk, hc⟩ := optB_eq_some hc
        obtain ⟨hz, hc⟩ := cndO hc
        obtain ⟨q, hq, hc⟩ := optB_eq_some hc
        obtain ⟨r, hr, hc⟩ := optB_eq_some hc
        rw [frc_eq, frc_eq] at hc; cases hc
        refine good_append hT hM (fun x hx _ => hn x hx) hi (by assumption) hj ?_ hk (beq_nat hz) (hρ _ (hargs _ (by rw [ha]; simp)) _ hq) (hρ _ (hargs _ (by rw [ha]; simp)) _ hr) h
        cases hd : j.und <;> first | rfl | skip
        exfalso
        simp_all
      · cases hc
    · rename_i x y t ts ha ht
      obtain ⟨i, hi, hc⟩ := optB_eq_some hc
      refine red _ _ ha ht ?_
      split at hc
      · rename_i e hu
        obtain ⟨k, hk, hc⟩ := optB_eq_some hc
        obtain ⟨q, hq, hc⟩ := optB_eq_some hc
        obtain ⟨r, hr, hc⟩ := optB_eq_some hc
        rw [frc_eq] at hc; cases hc
        exact good_copy hT ts hM hi hu hk (hρ _ (hargs _ (by rw [ha]; simp)) _ hq) (hρ _ (hargs _ (by rw [ha]; simp)) _ hr) h
      · cases hc
    · rename_i x ha
      obtain ⟨q, hq, hc⟩ := optB_eq_some hc; cases hc
      refine red _ _ ha rfl ?_
      exact good_sdata hM (hρ _ (hargs _ (by rw [ha]; simp)) _ hq) h
    · rename_i x y t ts ha ht
      obtain ⟨i, hi, hc⟩ := optB_eq_some hc
      refine red _ _ ha ht ?_
      split at hc
      · rename_i e hu
        obtain ⟨j, hj, hc⟩ := optB_eq_some hc
        split at hc
        · rename_i huj
          obtain ⟨hz, hc⟩ := cndO hc
          obtain ⟨q, hq, hc⟩ := optB_eq_some hc
          obtain ⟨r, hr, hc⟩ := optB_eq_some hc; cases hc
          exact good_ustring hT (it := 0) hM hi hu hj huj (beq_nat hz) (hρ _ (hargs _ (by rw [ha]; simp)) _ hq) (hρ _ (hargs _ (by rw [ha]; simp)) _ hr) ts h
        · cases hc
      · cases hc
    · cases hc
  · cases hc

theorem plainD_eq (d : TypeDesc) : compOp.plainD d = plainKey d := by
  cases d <;> simp [compOp.plainD, plainKey, frc_eq]

end
end Go.Abs
namespace Go.Abs
set_option linter.unusedVariables false
set_option linter.unusedSimpArgs false

section
variable {P : Program} {TT : Trie TI} {π : PMap} {m : Mem} {w : World} {n : Nat} {E K : List AV} {C : CallR} {v : AV} {m' : Mem} {n' : Nat} {cx : Cx} {ρ : Operand → Value}

/-- an operation keeps to what it is compiled to -/
theorem compOp_good (hT : TTok P TT) (hA : TTagg P TT) (hC : CSound P C) {o : Oper} (hρ : OpdOk π cx E K ρ o.op.operands.toList) (hfn : ∀ f, ρ (.func f) = .func (.func f) #[] #[]) {f : OpF} (hM : MRel π m.get w) (hn0 : ∀ x, n ≤ x → π x = none)
    (hc : compOp P TT cx o.op = some f) (h : f C E K m n = .ok v m' n') : Good P π m w n v m' n' ((execOp ρ o).run P w) := by
  obtain ⟨dst, op, ty, pos, after, guard⟩ := o
  have hn : ∀ x, n ≤ x → x < n' → π x = none := fun x hx _ => hn0 x hx
  simp only at hc
  have all2 : ∀ {l : List Operand} {qs : List Opd}, All2 (fun x q => VRel π (ev E K q) (ρ x)) l qs → VRels π (evs E K qs) (l.map ρ) := fun h => evs_rel _ _ h
  cases op <;> simp only [compOp] at hc <;> first | (cases hc; done) | skip
  case move x => obtain ⟨q, hq, hc⟩ := optB_eq_some hc; cases hc; exact good_mv hM (hρ _ (by simp [Op.operands]) _ hq) h
  case assign x => obtain ⟨q, hq, hc⟩ := optB_eq_some hc; cases hc; exact good_mv hM (hρ _ (by simp [Op.operands]) _ hq) h
  case pick c a b =>
    obtain ⟨q, hq, hc⟩ := optB_eq_some hc
    obtain ⟨r, hr, hc⟩ := optB_eq_some hc
    obtain ⟨s, hs, hc⟩ := optB_eq_some hc; cases hc
    exact good_pick hM (hρ _ (by simp [Op.operands]) _ hq) (hρ _ (by simp [Op.operands]) _ hr) (hρ _ (by simp [Op.operands]) _ hs) h
  case alloc t => obtain ⟨i, hi, hc⟩ := optB_eq_some hc; cases hc; exact good_alloc hT hM hi hn h
  case box t x =>
    obtain ⟨i, hi, hc⟩ := optB_eq_some hc
    obtain ⟨q, hq, hc⟩ := optB_eq_some hc
    rw [frc_eq] at hc; cases hc
    exact good_box hM (hρ _ (by simp [Op.operands]) _ hq) hn h
  case build t ps =>
    obtain ⟨i, hi, hc⟩ := optB_eq_some hc
    split at hc
    · rename_i fs hu
      obtain ⟨pl, hpl, hc⟩ := optB_eq_some hc
      obtain ⟨l, hl, hc⟩ := optB_eq_some hc; cases hc
      exact good_build_struct hT hM hi hu hpl (partsS_rel _ _ (fun y hy => hρ y (by simpa [Op.operands] using hy)) hl) h
    · rename_i k e hu
      obtain ⟨j, hj, hc⟩ := optB_eq_some hc
      obtain ⟨l, hl, hc⟩ := optB_eq_some hc; cases hc
      exact good_build_array hT hM hi hu hj (partsA_rel _ _ (fun y hy => hρ y (by simpa [Op.operands] using hy)) hl) h
    · cases hc
  case buildSlice t len ps =>
    obtain ⟨i, hi, hc⟩ := optB_eq_some hc
    split at hc
    · rename_i e hu
      obtain ⟨j, hj, hc⟩ := optB_eq_some hc
      obtain ⟨hz, hc⟩ := cndO hc
      obtain ⟨hle, hc⟩ := cndO hc
      obtain ⟨l, hl, hc⟩ := optB_eq_some hc
      rw [frc_eq] at hc; cases hc
      exact good_bslice hT hM hi hu hj (ble_nat hle) hn (partsA_rel _ _ (fun y hy => hρ y (by simpa [Op.operands] using hy)) hl) (beq_nat hz) h
    · cases hc
  case load t x =>
    obtain ⟨i, hi, hc⟩ := optB_eq_some hc
    obtain ⟨q, hq, hc⟩ := optB_eq_some hc
    cases ha : isAggD i.und with
    | true =>
      rw [ha] at hc
      simp only [cnd_true, frc_eq] at hc; cases hc
      exact good_loadN hT hM hi ha (hρ _ (by simp [Op.operands]) _ hq) h
    | false =>
      rw [ha] at hc; cases hc
      exact good_load1 hT hM hi ha (hρ _ (by simp [Op.operands]) _ hq) h
  case store t a x =>
    obtain ⟨i, hi, hc⟩ := optB_eq_some hc
    obtain ⟨q, hq, hc⟩ := optB_eq_some hc
    obtain ⟨r, hr, hc⟩ := optB_eq_some hc
    rw [frc_eq] at hc; cases hc
    exact good_store hT hM hi (hρ _ (by simp [Op.operands]) _ hq) (hρ _ (by simp [Op.operands]) _ hr) h
  case nilCheck x =>
    obtain ⟨q, hq, hc⟩ := optB_eq_some hc; cases hc
    exact good_nilck hM (hρ _ (by simp [Op.operands]) _ hq) h _ ρ x rfl rfl
  case binOp op t x y p =>
    obtain ⟨q, hq, hc⟩ := optB_eq_some hc
    obtain ⟨r, hr, hc⟩ := optB_eq_some hc
    exact bin_good hT hM (hρ _ (by simp [Op.operands]) _ hq) (hρ _ (by simp [Op.operands]) _ hr) hc h
  case unOp op t x => obtain ⟨q, hq, hc⟩ := optB_eq_some hc; cases hc; exact good_un hM (hρ _ (by simp [Op.operands]) _ hq) h
  case convert s d x =>
    obtain ⟨q, hq, hc⟩ := optB_eq_some hc
    exact conv_good hT hM hn (hρ _ (by simp [Op.operands]) _ hq) hc h
  case makeInterface t x =>
    obtain ⟨i, hi, hc⟩ := optB_eq_some hc
    split at hc
    · cases hc
    · rename_i hu
      obtain ⟨q, hq, hc⟩ := optB_eq_some hc; cases hc
      exact good_mkiface hT hM hi (fun ms e => hu ms e) (hρ _ (by simp [Op.operands]) _ hq) h
  case makeFunc fn a b =>
    split at hc
    · obtain ⟨q, hq, hc⟩ := optB_eq_some hc
      obtain ⟨r, hr, hc⟩ := optB_eq_some hc; cases hc
      exact good_mkfunc hM (by simpa using all2 (opds_rel _ _ (fun y hy => hρ y (by simp [Op.operands] at hy ⊢; simp [hy])) hq)) (by simpa using all2 (opds_rel _ _ (fun y hy => hρ y (by simp [Op.operands] at hy ⊢; simp [hy])) hr)) h
    · cases hc
  case makeMap t r =>
    cases r with
    | none => cases hc; exact good_mkmap hM hn h
    | some r => cases hc
  case makeSlice t l c =>
    obtain ⟨i, hi, hc⟩ := optB_eq_some hc
    split at hc
    · rename_i e hu
      obtain ⟨j, hj, hc⟩ := optB_eq_some hc
      obtain ⟨hz, hc⟩ := cndO hc
      obtain ⟨q, hq, hc⟩ := optB_eq_some hc
      obtain ⟨r, hr, hc⟩ := optB_eq_some hc
      rw [frc_eq, frc_eq] at hc; cases hc
      exact good_mkslice hT hM hi hu hj (beq_nat hz) (hρ _ (by simp [Op.operands]) _ hq) (hρ _ (by simp [Op.operands]) _ hr) hn h
    · cases hc
  case slice t x lo hi mx =>
    obtain ⟨i, hi', hc⟩ := optB_eq_some hc
    obtain ⟨q, hq, hc⟩ := optB_eq_some hc
    obtain ⟨ql, hql, hc⟩ := optB_eq_some hc
    obtain ⟨qh, hqh, hc⟩ := optB_eq_some hc
    obtain ⟨qm, hqm, hc⟩ := optB_eq_some hc
    have rl := opt_rel (fun y hy => hρ y (by simp [Op.operands] at hy ⊢; simp [hy])) hql
    have rh := opt_rel (fun y hy => hρ y (by simp [Op.operands] at hy ⊢; simp [hy])) hqh
    have rm := opt_rel (fun y hy => hρ y (by simp [Op.operands] at hy ⊢; simp [hy])) hqm
    have nomx : qm = none → mx.map ρ = none := fun e => by
      subst e
      cases hm : mx.map ρ with
      | none => rfl
      | some u => rw [hm] at rm; exact rm.elim
    split at hc
    · rename_i hu
      cases qm with
      | some _ => cases hc
      | none =>
        cases hc
        have hm := nomx rfl
        simp only [execOp, hm]
        exact good_sliceS hT hM hi' hu (hρ _ (by simp [Op.operands]) _ hq) rl rh h
    · rename_i e hu
      obtain ⟨j, hj, hc⟩ := optB_eq_some hc
      cases qm with
      | none =>
        simp only [onOpt, frc_eq] at hc; cases hc
        exact good_sliceV hT hM hi' hu hj (hρ _ (by simp [Op.operands]) _ hq) rl rh rm (fun h => absurd rfl h) h
      | some _ =>
        cases qh with
        | none => cases hc
        | some _ =>
          simp only [onOpt, frc_eq] at hc; cases hc
          exact good_sliceV hT hM hi' hu hj (hρ _ (by simp [Op.operands]) _ hq) rl rh rm (fun _ h => by cases h) h
    · rename_i k e hu
      obtain ⟨j, hj, hc⟩ := optB_eq_some hc
      cases qm with
      | some _ => cases hc
      | none =>
        simp only [onOpt, frc_eq] at hc; cases hc
        have hm := nomx rfl
        simp only [execOp, hm]
        exact good_sliceA hT hM hi' hu hj (hρ _ (by simp [Op.operands]) _ hq) rl rh h
    · cases hc
  case fieldAddr t x fi =>
    obtain ⟨g, hg, hc⟩ := optB_eq_some hc
    cases hz : Nat.beq g.2.size 0 with
    | true => rw [hz] at hc; cases hc
    | false =>
      rw [hz] at hc
      obtain ⟨q, hq, hc⟩ := optB_eq_some hc
      rw [frc_eq] at hc; cases hc
      obtain ⟨i, fs, fd, h1, h2, h3, h4, h5⟩ := fieldOf_eq hg
      rw [← h5] at h
      exact good_faddr hT hM h1 h2 h3 h4 (beqF hz) (hρ _ (by simp [Op.operands]) _ hq) h
  case field t x fi =>
    obtain ⟨g, hg, hc⟩ := optB_eq_some hc
    obtain ⟨q, hq, hc⟩ := optB_eq_some hc
    rw [frc_eq] at hc
    obtain ⟨i, fs, fd, h1, h2, h3, h4, h5⟩ := fieldOf_eq hg
    refine good_field (C := C) hT hM h1 h2 h3 h4 (hρ _ (by simp [Op.operands]) _ hq) ?_
    cases ha : isAggD g.2.und with
    | true =>
      rw [ha] at hc
      simp only [cnd_true, frc_eq] at hc; cases hc
      rw [if_pos rfl, h5]; exact h
    | false =>
      rw [ha] at hc; cases hc
      rw [if_neg (by simp), h5]; exact h
  case indexAddr t x ix =>
    obtain ⟨i, hi, hc⟩ := optB_eq_some hc
    obtain ⟨q, hq, hc⟩ := optB_eq_some hc
    obtain ⟨r, hr, hc⟩ := optB_eq_some hc
    split at hc
    · rename_i k e hu
      obtain ⟨j, hj, hc⟩ := optB_eq_some hc
      rw [frc_eq] at hc; cases hc
      exact good_iaddrA hT hM hi hu hj (hρ _ (by simp [Op.operands]) _ hq) (hρ _ (by simp [Op.operands]) _ hr) h
    · rename_i e hu
      obtain ⟨j, hj, hc⟩ := optB_eq_some hc
      rw [frc_eq] at hc; cases hc
      exact good_iaddrS hT hM hi hu hj (hρ _ (by simp [Op.operands]) _ hq) (hρ _ (by simp [Op.operands]) _ hr) h
    · cases hc
  case index t x ix =>
    obtain ⟨i, hi, hc⟩ := optB_eq_some hc
    obtain ⟨q, hq, hc⟩ := optB_eq_some hc
    obtain ⟨r, hr, hc⟩ := optB_eq_some hc
    split at hc
    · rename_i hu
      cases hc
      exact good_idxS hT hM hi hu (hρ _ (by simp [Op.operands]) _ hq) (hρ _ (by simp [Op.operands]) _ hr) h
    · rename_i k e hu
      obtain ⟨j, hj, hc⟩ := optB_eq_some hc
      rw [frc_eq] at hc; cases hc
      exact good_idxA hT hM hi hu hj (hρ _ (by simp [Op.operands]) _ hq) (hρ _ (by simp [Op.operands]) _ hr) h
    · cases hc
  case lookup t x ix ok =>
    obtain ⟨i, hi, hc⟩ := optB_eq_some hc
    obtain ⟨q, hq, hc⟩ := optB_eq_some hc
    obtain ⟨r, hr, hc⟩ := optB_eq_some hc
    split at hc
    · rename_i kt e hu
      obtain ⟨a, ha, hc⟩ := optB_eq_some hc
      obtain ⟨j, hj, hc⟩ := optB_eq_some hc
      obtain ⟨key, hkey, hc⟩ := optB_eq_some hc
      rw [plainD_eq] at hkey
      cases hd : isAggD j.und with
      | true =>
        rw [hd] at hc; cases hc
        exact good_lookup hT hA hM hi hu ha hj hkey (by rw [hd]; rfl) (hρ _ (by simp [Op.operands]) _ hq) (hρ _ (by simp [Op.operands]) _ hr) h
      | false =>
        rw [hd, cnd_false] at hc
        split at hc
        · rename_i z hz
          cases hc
          exact good_lookup hT hA hM hi hu ha hj hkey (by rw [hd]; exact hz) (hρ _ (by simp [Op.operands]) _ hq) (hρ _ (by simp [Op.operands]) _ hr) h
        · cases hc
    · cases hc
  case mapUpdate t x k y =>
    obtain ⟨i, hi, hc⟩ := optB_eq_some hc
    obtain ⟨q, hq, hc⟩ := optB_eq_some hc
    obtain ⟨r, hr, hc⟩ := optB_eq_some hc
    obtain ⟨s, hs, hc⟩ := optB_eq_some hc
    split at hc
    · rename_i kt e hu
      obtain ⟨a, ha, hc⟩ := optB_eq_some hc
      obtain ⟨key, hkey, hc⟩ := optB_eq_some hc
      rw [plainD_eq] at hkey
      cases hc
      exact good_mapput hT hM hi hu ha hkey (hρ _ (by simp [Op.operands]) _ hq) (hρ _ (by simp [Op.operands]) _ hr) (hρ _ (by simp [Op.operands]) _ hs) h
    · cases hc
  case range t x =>
    obtain ⟨i, hi, hc⟩ := optB_eq_some hc
    obtain ⟨q, hq, hc⟩ := optB_eq_some hc
    split at hc
    · rename_i hu; cases hc
      exact good_rangeS hT hM hi hu hn (hρ _ (by simp [Op.operands]) _ hq) h
    · rename_i kt e hu; cases hc
      exact good_rangeM hT hM hi hu hn (hρ _ (by simp [Op.operands]) _ hq) h
    · cases hc
  case next it s =>
    obtain ⟨q, hq, hc⟩ := optB_eq_some hc
    cases s
    · cases hc; exact good_nextM hM (hρ _ (by simp [Op.operands]) _ hq) h
    · cases hc; exact good_nextS hM (hρ _ (by simp [Op.operands]) _ hq) h
  case extract x i => obtain ⟨q, hq, hc⟩ := optB_eq_some hc; cases hc; exact good_extract hM (hρ _ (by simp [Op.operands]) _ hq) h
  case call c => exact call_good hT hC hρ hfn hM hn0 hc h

end
end Go.Abs
namespace Go.Abs
set_option linter.unusedVariables false
set_option linter.unusedSimpArgs false

def tm (a : Act) (t : Nat) : Value := a.tmps.getD t undef

/-- the frame stands for the slots that are kept -/
structure FRel (π : PMap) (esc : List Nat) (nt : Nat) (E : List AV) (a : Act) : Prop where
  size : a.tmps.size = nt
  len : E.length = esc.length
  slot : ∀ t p, posOf t 0 esc = some p → VRel π (back p E) (tm a t)
  defers : a.defers = []

theorem FRel.mono {π π' : PMap} {esc : List Nat} {nt : Nat} {E : List AV} {a : Act} (h : FRel π esc nt E a) (e : Ext π π') : FRel π' esc nt E a :=
  ⟨h.size, h.len, fun t p ht => (h.slot t p ht).mono e, h.defers⟩

theorem posOf_spec {t : Nat} : ∀ {l : List Nat} {i p : Nat}, posOf t i l = some p → i ≤ p ∧ p < i + l.length ∧ l[p - i]? = some t
  | [], _, _, h => by cases h
  | e :: l, i, p, h => by
    simp only [posOf] at h
    cases he : Nat.beq e t with
    | true =>
      rw [he] at h; cases h
      refine ⟨Nat.le_refl _, by simp, ?_⟩
      rw [Nat.sub_self, beq_nat he]; rfl
    | false =>
      rw [he] at h
      obtain ⟨h1, h2, h3⟩ := posOf_spec (l := l) (i := i + 1) h
      refine ⟨by omega, by simp only [List.length_cons]; omega, ?_⟩
      rw [show p - i = (p - (i + 1)) + 1 by omega, List.getElem?_cons_succ]
      exact h3

theorem posOf_inj {t t' p : Nat} {l : List Nat} (h : posOf t 0 l = some p) (h' : posOf t' 0 l = some p) : t = t' := by
  have a := (posOf_spec h).2.2
  have b := (posOf_spec h').2.2
  rw [a] at b; cases b; rfl

theorem back_zero (K : List AV) : back 0 K = hd K := rfl
theorem back_cons (i : Nat) (v : AV) (K : List AV) : back (i + 1) (v :: K) = back i K := rfl
theorem setL_length (v : AV) : ∀ (i : Nat) (E : List AV), (setL i v E).length = E.length
  | _, [] => by rename_i i; cases i <;> rfl
  | 0, _ :: _ => rfl
  | i + 1, _ :: E => by show (setL i v E).length + 1 = _; rw [setL_length v i E]; rfl
theorem back_setL (v : AV) : ∀ (i : Nat) (E : List AV), i < E.length → back i (setL i v E) = v
  | 0, _ :: _, _ => rfl
  | i + 1, _ :: E, h => by
    show back i (setL i v E) = v
    exact back_setL v i E (by simpa using h)
theorem back_setL_ne (v : AV) : ∀ (i j : Nat) (E : List AV), i ≠ j → back j (setL i v E) = back j E
  | 0, 0, _, h => absurd rfl h
  | i, j, [], _ => by cases i <;> rfl
  | 0, j + 1, _ :: E, _ => rfl
  | i + 1, 0, _ :: E, _ => rfl
  | i + 1, j + 1, _ :: E, h => by
    show back j (setL i v E) = back j E
    exact back_setL_ne v i j E (by omega)

theorem tm_put (a : Act) (d : Option Tmp) (u : Value) (t : Nat) : tm (a.put d u) t = if d = some t ∧ t < a.tmps.size then u else tm a t := by
  cases d with
  | none => simp [Act.put]
  | some d =>
    simp only [Act.put, tm, Array.getD_eq_getD_getElem?, Array.getElem?_setIfInBounds, Option.some.injEq]
    by_cases h : d = t
    · subst h
      by_cases h2 : d < a.tmps.size
      · simp [h2]
      · simp [h2]
    · simp [h]

theorem put_size (a : Act) (d : Option Tmp) (u : Value) : (a.put d u).tmps.size = a.tmps.size := by cases d <;> simp [Act.put]
theorem put_defers (a : Act) (d : Option Tmp) (u : Value) : (a.put d u).defers = a.defers := by cases d <;> rfl

/-- what stands at a place -/
noncomputable def srcV (E K : List AV) (len : Nat) : Src → AV
  | .res p => back (len - 1 - p) K
  | .slot p => back p E
  | .const v => v

def SrcOk (x : Cx) : Src → Prop
  | .res p => p < x.len
  | .slot p => ∃ t, posOf t 0 x.esc = some p ∧ Nat.testBit x.all t = false
  | .const _ => True

/-- what a region knows on its way -/
structure CxOk (π : PMap) (nt : Nat) (x : Cx) (E K : List AV) (a : Act) : Prop where
  fr : FRel π x.esc nt E a
  last : ∀ t s, lastOf t x.prev = some s → VRel π (srcV E K x.len s) (tm a t)
  res : ∀ d s, (d, s) ∈ x.prev → SrcOk x s

theorem CxOk.mono {π π' : PMap} {nt : Nat} {x : Cx} {E K : List AV} {a : Act} (h : CxOk π nt x E K a) (e : Ext π π') : CxOk π' nt x E K a :=
  ⟨h.fr.mono e, fun t s hs => (h.last t s hs).mono e, h.res⟩

theorem srcOpd_eq {E K : List AV} {len : Nat} {s : Src} {q : Opd} (h : srcOpd len s = some q) : ev E K q = srcV E K len s := by
  cases s with
  | res p => simp only [srcOpd, frc_eq] at h; cases h; rfl
  | slot t => cases h; rfl
  | const v => cases h; rfl

theorem compSrc_rel {π : PMap} {nt : Nat} {x : Cx} {E K : List AV} {a : Act} (h : CxOk π nt x E K a) {y : Operand} {s : Src} (hs : compSrc x y = some s) : VRel π (srcV E K x.len s) (a.eval y) := by
  cases y with
  | tmp t =>
    simp only [compSrc] at hs
    cases hl : lastOf t x.prev with
    | some r =>
      rw [hl] at hs
      cases hs
      exact h.last t _ hl
    | none =>
      rw [hl] at hs
      obtain ⟨p, hp, hs⟩ := optB_eq_some hs
      rw [frc_eq] at hs
      cases hs
      exact h.fr.slot t p hp
  | const v =>
    obtain ⟨r, hr, hs⟩ := optB_eq_some hs
    cases hs
    exact absVal_rel hr
  | global g => cases hs
  | func f =>
    cases hs
    exact .func f [] [] #[] #[] .nil .nil

theorem CxOk.opd {π : PMap} {nt : Nat} {x : Cx} {E K : List AV} {a : Act} (h : CxOk π nt x E K a) (S : List Operand) : OpdOk π x E K a.eval S := by
  intro y _ q hq
  obtain ⟨s, hs, hq⟩ := optB_eq_some hq
  rw [srcOpd_eq hq]
  exact compSrc_rel h hs

theorem keptOf_eq {esc : List Nat} {d : Option Nat} : keptOf esc d = d.bind fun t => posOf t 0 esc := by
  cases d with
  | none => rfl
  | some t =>
    show optB (posOf t 0 esc) _ = _
    cases h : posOf t 0 esc with
    | none => simp [optB, h]
    | some p => simp [optB, frc_eq, h]

theorem lastOf_mem {t : Nat} {s : Src} : ∀ {l : List (Option Nat × Src)}, lastOf t l = some s → ∃ d, (d, s) ∈ l
  | [], h => by cases h
  | d :: l, h => by
    simp only [lastOf] at h
    cases hd : d.1 with
    | none =>
      rw [hd] at h
      obtain ⟨e, he⟩ := lastOf_mem (l := l) h
      exact ⟨e, List.mem_cons_of_mem _ he⟩
    | some e =>
      rw [hd] at h
      simp only [onOpt] at h
      cases hb : Nat.beq e t with
      | true =>
        rw [hb] at h
        cases h
        exact ⟨d.1, List.mem_cons_self⟩
      | false =>
        rw [hb] at h
        obtain ⟨e, he⟩ := lastOf_mem (l := l) h
        exact ⟨e, List.mem_cons_of_mem _ he⟩

theorem lastOf_cons {t : Nat} {d : Option Nat} {s : Src} {l : List (Option Nat × Src)} : lastOf t ((d, s) :: l) = if d = some t then some s else lastOf t l := by
  simp only [lastOf]
  cases d with
  | none => simp [onOpt]
  | some e =>
    simp only [onOpt, Option.some.injEq]
    cases hb : Nat.beq e t with
    | true => rw [if_pos (beq_nat hb)]; rfl
    | false => rw [if_neg (beqF hb)]; rfl

/-- an operation's result is laid down -/
theorem CxOk.push {π : PMap} {nt : Nat} {x : Cx} {E K : List AV} {a : Act} (h : CxOk π nt x E K a) {d : Option Nat} {v : AV} {u : Value} (hv : VRel π v u)
    (hd : ∀ t, d = some t → t < nt ∧ Nat.testBit x.all t = true) : CxOk π nt (x.push d) (putD E (keptOf x.esc d) v) (v :: K) (a.put d u) := by
  have hslot : ∀ t p, posOf t 0 x.esc = some p → back p (putD E (keptOf x.esc d) v) = if d = some t then v else back p E := by
    intro t p hp
    rw [keptOf_eq]
    cases d with
    | none => simp [putD, onOpt]
    | some e =>
      simp only [Option.bind_some, Option.some.injEq]
      by_cases het : e = t
      · subst het
        rw [hp, if_pos rfl]
        simp only [putD, onOpt]
        have := posOf_spec hp
        exact back_setL v p E (by rw [h.fr.len]; omega)
      · rw [if_neg het]
        cases hpe : posOf e 0 x.esc with
        | none => simp [putD, onOpt]
        | some q =>
          simp only [putD, onOpt]
          refine back_setL_ne v q p E ?_
          intro hqp
          subst hqp
          exact het (posOf_inj hpe hp)
  have hkeep : ∀ s, SrcOk x s → srcV (putD E (keptOf x.esc d) v) (v :: K) (x.len + 1) s = srcV E K x.len s := by
    intro s hs
    cases s with
    | res p =>
      simp only [SrcOk] at hs
      show back (x.len + 1 - 1 - p) (v :: K) = back (x.len - 1 - p) K
      rw [show x.len + 1 - 1 - p = (x.len - 1 - p) + 1 by omega, back_cons]
    | slot p =>
      obtain ⟨t, ht, hb⟩ := hs
      show back p _ = back p E
      rw [hslot t p ht, if_neg]
      intro e
      have := (hd t e).2
      rw [hb] at this; cases this
    | const c => rfl
  refine ⟨⟨by rw [put_size]; exact h.fr.size, ?_, ?_, by rw [put_defers]; exact h.fr.defers⟩, ?_, ?_⟩
  · show _ = x.esc.length
    rw [← h.fr.len]
    cases keptOf x.esc d with
    | none => rfl
    | some p => exact setL_length v p E
  · intro t p hp
    rw [hslot t p hp, tm_put]
    by_cases e : d = some t
    · rw [if_pos e, if_pos ⟨e, by rw [h.fr.size]; exact (hd t e).1⟩]; exact hv
    · rw [if_neg e, if_neg (fun h => e h.1)]; exact h.fr.slot t p hp
  · intro t s hs
    change lastOf t ((d, .res x.len) :: x.prev) = some s at hs
    rw [lastOf_cons] at hs
    rw [tm_put]
    by_cases e : d = some t
    · rw [if_pos e] at hs
      cases hs
      rw [if_pos ⟨e, by rw [h.fr.size]; exact (hd t e).1⟩]
      show VRel π (back (x.len + 1 - 1 - x.len) (v :: K)) u
      rw [show x.len + 1 - 1 - x.len = 0 by omega]
      exact hv
    · rw [if_neg e] at hs
      rw [if_neg (fun h => e h.1)]
      obtain ⟨d', hm⟩ := lastOf_mem hs
      show VRel π (srcV _ (v :: K) (x.len + 1) s) _
      rw [hkeep s (h.res _ _ hm)]
      exact h.last t s hs
  · intro d' s hm
    change (d', s) ∈ (d, .res x.len) :: x.prev at hm
    rcases List.mem_cons.1 hm with e | hm
    · cases e
      show x.len < x.len + 1
      omega
    · have := h.res _ _ hm
      cases s with
      | res p => show p < x.len + 1; have : p < x.len := this; omega
      | slot p => exact this
      | const c => trivial

theorem aliasOf_spec {π : PMap} {nt : Nat} {x : Cx} {E K : List AV} {a : Act} (h : CxOk π nt x E K a) {o : Oper} {s : Src} (hs : aliasOf x o = some s) :
    ∃ y, o.op = .move y ∧ o.guard = none ∧ keptOf x.esc o.dst = none ∧ VRel π (srcV E K x.len s) (a.eval y) ∧ SrcOk x s := by
  simp only [aliasOf] at hs
  split at hs
  · rename_i y hy
    obtain ⟨h1, hs⟩ := cndO hs
    obtain ⟨h2, hs⟩ := cndO hs
    have hg : o.guard = none := by cases hg : o.guard with
      | none => rfl
      | some g => rw [hg] at h1; cases h1
    have hk : keptOf x.esc o.dst = none := by cases hk : keptOf x.esc o.dst with
      | none => rfl
      | some g => rw [hk] at h2; cases h2
    refine ⟨y, hy, hg, hk, ?_⟩
    cases y with
    | tmp t =>
      simp only at hs
      cases hl : lastOf t x.prev with
      | some r =>
        rw [hl] at hs
        cases hs
        obtain ⟨d, hm⟩ := lastOf_mem hl
        exact ⟨h.last t _ hl, h.res _ _ hm⟩
      | none =>
        rw [hl] at hs
        simp only [onOpt] at hs
        cases hb : Nat.testBit x.all t with
        | true => rw [hb] at hs; cases hs
        | false =>
          rw [hb] at hs
          have hs' : compSrc x (.tmp t) = some s := hs
          refine ⟨compSrc_rel h hs', ?_⟩
          simp only [compSrc, hl] at hs'
          obtain ⟨p, hp, hs2⟩ := optB_eq_some hs'
          rw [frc_eq] at hs2
          cases hs2
          exact ⟨t, hp, hb⟩
    | const c =>
      have hs' : compSrc x (.const c) = some s := hs
      refine ⟨compSrc_rel h hs', ?_⟩
      obtain ⟨r, hr, hs⟩ := optB_eq_some hs'
      cases hs; trivial
    | global g => cases hs
    | func f => 
      have hs' : compSrc x (.func f) = some s := hs
      refine ⟨compSrc_rel h hs', ?_⟩
      cases hs; trivial
  · cases hs

/-- a move that is looked through -/
theorem CxOk.alias {π : PMap} {nt : Nat} {x : Cx} {E K : List AV} {a : Act} (h : CxOk π nt x E K a) {d : Option Nat} {s : Src} {u : Value} (hv : VRel π (srcV E K x.len s) u)
    (hs : SrcOk x s) (hk : keptOf x.esc d = none) (hd : ∀ t, d = some t → t < nt) : CxOk π nt (x.alias d s) E K (a.put d u) := by
  refine ⟨⟨by rw [put_size]; exact h.fr.size, h.fr.len, ?_, by rw [put_defers]; exact h.fr.defers⟩, ?_, ?_⟩
  · intro t p hp
    rw [tm_put, if_neg]
    · exact h.fr.slot t p hp
    · rintro ⟨e, _⟩
      rw [keptOf_eq, e] at hk
      have hp' : posOf t 0 x.esc = some p := hp
      simp [hp'] at hk
  · intro t r hr
    change lastOf t ((d, s) :: x.prev) = some r at hr
    rw [lastOf_cons] at hr
    rw [tm_put]
    by_cases e : d = some t
    · rw [if_pos e] at hr
      cases hr
      rw [if_pos ⟨e, by rw [h.fr.size]; exact hd t e⟩]
      exact hv
    · rw [if_neg e] at hr
      rw [if_neg (fun h => e h.1)]
      exact h.last t r hr
  · intro d' r hm
    change (d', r) ∈ (d, s) :: x.prev at hm
    rcases List.mem_cons.1 hm with e | hm
    · cases e; exact hs
    · exact h.res _ _ hm

end Go.Abs
namespace Go.Abs
set_option linter.unusedVariables false
set_option linter.unusedSimpArgs false

section
variable {P : Program} {TT : Trie TI} {π : PMap} {m : Mem} {w : World} {n : Nat} {E K : List AV} {C : CallR} {v : AV} {m' : Mem} {n' : Nat} {x : Cx} {a : Act} {nt : Nat} {Q : Exit → Act → World → Prop}

/-- from what an operation comes to, to where its region goes on -/
theorem good_wp {o : Oper} {next : Act → World → Prop} (h : Good P π m w n v m' n' ((execOp a.eval o).run P w))
    (hk : ∀ π' v' w', VRel π' v v' → MRel π' m'.get w' → Step π m.get w π' m'.get w' n n' → next (a.put o.dst v') w') : o.wp P a w next Q := by
  unfold Oper.wp
  generalize (execOp a.eval o).run P w = r at h
  cases r with
  | ok x w1 =>
    cases x with
    | value u => obtain ⟨π', h1, h2, h3⟩ := h; exact hk π' u w1 h1 h2 h3
    | skip => obtain ⟨π', h1, h2, h3⟩ := h; exact hk π' undef w1 h1 h2 h3
    | enter f args =>
      refine Calls.mono h fun e w2 he => ?_
      obtain ⟨u, rfl, π', h1, h2, h3⟩ := he
      exact hk π' u w2 h1 h2 h3
    | _ => exact h.elim
  | halt x w1 => exact h.elim

/-- nothing from n on stands for anything -/
def Free (π : PMap) (n : Nat) : Prop := ∀ k, n ≤ k → π k = none

theorem Free.step {π π' : PMap} {M M' : MemF} {w w' : World} {n n' : Nat} (h : Free π n) (s : Step π M w π' M' w' n n') : Free π' n' := by
  intro k hk
  cases e : π' k with
  | none => rfl
  | some p =>
    have h1 := h k (Nat.le_trans s.le hk)
    have := s.dom k (by rw [e]; exact fun h => by cases h) h1
    omega

theorem tm_bool {t : Nat} {c : Bool} (h : tm a t = .bool c) : a.tmps[t]? = some (.bool c) := by
  simp only [tm, Array.getD_eq_getD_getElem?] at h
  cases e : a.tmps[t]? with
  | none => rw [e] at h; cases h
  | some u => rw [e] at h; simp at h; rw [h]

theorem tm_tup {t : Nat} {l : Array Value} (h : tm a t = .tuple l) : (a.tmps[t]? = none ∨ a.tmps[t]? = some (.tuple l)) := by
  simp only [tm, Array.getD_eq_getD_getElem?] at h
  cases e : a.tmps[t]? with
  | none => exact .inl rfl
  | some u => rw [e] at h; simp at h; rw [h]; exact .inr rfl

/-- a guard's word -/
theorem onGd_wanted {β : Type} {ops : Array Oper} {o g : Oper} {j t : Nat} {c : AV} {want : Bool} {d r X Y : β} (hg : ops[j]? = some g) (hd : g.dst = some t) (ho : o.guard = some (j, want)) (hv : VRel π c (tm a t))
    (h : onGd c want d X Y = r) (hdr : d ≠ r) :
    (Region.wanted o (yielded ops a.tmps) = true ∧ X = r) ∨ (Region.wanted o (yielded ops a.tmps) = false ∧ Y = r) := by
  have hy : yielded ops a.tmps j = match a.tmps[t]? with | some (.bool b) => some b | _ => none := by
    simp only [yielded, hg, Option.bind_some, hd]
    cases a.tmps[t]? with
    | none => rfl
    | some u => cases u <;> rfl
  simp only [Region.wanted, ho, hy]
  cases c <;> simp only [onGd] at h <;> first | exact absurd h hdr | skip
  · rename_i b
    have := tm_bool hv.bool_inv
    rw [this]
    cases b <;> cases want <;> simp_all [cnd]
  · obtain ⟨cs, _, e⟩ := hv.tup_inv
    rcases tm_tup e with e | e <;> rw [e] <;> simp_all

theorem isFirst_last {t : Nat} : ∀ {k : Nat} {l : List (Option Nat × Src)} {d : Option Nat × Src}, isFirst t k l = true → l[k]? = some d → d.1 = some t → lastOf t l = some d.2
  | 0, [], _, _, h, _ => by cases h
  | 0, e :: l, d, _, h, hd => by
    simp only [List.getElem?_cons_zero, Option.some.injEq] at h
    subst h
    obtain ⟨d1, d2⟩ := e
    simp only at hd
    rw [lastOf_cons, if_pos hd]
  | k + 1, [], _, h, _, _ => by cases h
  | k + 1, e :: l, d, h, hk, hd => by
    obtain ⟨d1, d2⟩ := e
    simp only [List.getElem?_cons_succ] at hk
    have key : d1 ≠ some t ∧ isFirst t k l = true := by
      cases d1 with
      | none => exact ⟨by simp, h⟩
      | some e =>
        simp only [isFirst, onOpt] at h
        cases hb : Nat.beq e t with
        | true => rw [hb] at h; cases h
        | false => rw [hb] at h; exact ⟨fun he => beqF hb (by simpa using he), h⟩
    rw [lastOf_cons, if_neg key.1]
    exact isFirst_last key.2 hk hd

/-- the slots that the operations ahead wrote, the last one first -/
def Prev (ops : Array Oper) (i : Nat) (x : Cx) : Prop := x.prev.map (·.1) = ((ops.toList.take i).map (·.dst)).reverse

theorem Prev.at {ops : Array Oper} {i j : Nat} {d : Option Nat × Src} (h : Prev ops i x) (hi : i ≤ ops.size) (hj : j < i) (hd : x.prev[i - 1 - j]? = some d) : ∃ g, ops[j]? = some g ∧ g.dst = d.1 := by
  have h1 : (x.prev.map (·.1))[i - 1 - j]? = some d.1 := by rw [List.getElem?_map, hd]; rfl
  rw [h, List.getElem?_reverse (by simp; omega)] at h1
  rw [List.getElem?_map] at h1
  obtain ⟨g, hg, e⟩ := Option.map_eq_some_iff.1 h1
  rw [List.getElem?_take] at hg
  split at hg
  · have hl : ((ops.toList.take i).map (·.dst)).length = i := by simp; omega
    rw [hl] at hg
    rw [show i - 1 - (i - 1 - j) = j by omega] at hg
    exact ⟨g, by simpa using hg, e⟩
  · cases hg

theorem guard_rel {ops : Array Oper} {i : Nat} {o : Oper} {g : Option (Opd × Bool)} (h : CxOk π nt x E K a) (hp : Prev ops i x) (hi : i ≤ ops.size) (hg : compGuard x i o.guard = some g) :
    (o.guard = none ∧ g = none) ∨ ∃ j want y ob t, o.guard = some (j, want) ∧ g = some (y, want) ∧ ops[j]? = some ob ∧ ob.dst = some t ∧ VRel π (ev E K y) (tm a t) := by
  cases ho : o.guard with
  | none => rw [ho] at hg; cases hg; exact .inl ⟨rfl, rfl⟩
  | some gw =>
    obtain ⟨j, want⟩ := gw
    rw [ho] at hg
    simp only [compGuard, onOpt] at hg
    obtain ⟨hlt, hg⟩ := cndO hg
    have hlt : j < i := by have : j + 1 ≤ i := by simpa [Nat.blt, Nat.ble_eq] using hlt
                           omega
    rw [frc_eq] at hg
    obtain ⟨d, hd, hg⟩ := optB_eq_some hg
    obtain ⟨t, ht, hg⟩ := optB_eq_some hg
    obtain ⟨hf, hg⟩ := cndO hg
    obtain ⟨y, hy, hg⟩ := optB_eq_some hg
    cases hg
    obtain ⟨ob, h1, h2⟩ := hp.at hi hlt hd
    refine .inr ⟨j, want, y, ob, t, rfl, rfl, h1, by rw [h2, ht], ?_⟩
    rw [srcOpd_eq hy]
    exact h.last t _ (isFirst_last hf hd ht)


theorem compOpB_ok {o : Op} {f : OpF} (h : compOpB P TT x o = some f) (hf : f C E K m n = .ok v m' n') : compOp P TT x o = some f := by
  unfold compOpB at h
  cases hc : compOp P TT x o with
  | some g => rw [hc] at h; exact h
  | none => rw [hc] at h; cases h; cases hf

theorem onRQ_normal {y : R} {f : AV → Mem → Nat → Go.Abs.Q} {E' : List AV} (h : onRQ y f = .normal E' m' n') : ∃ v m1 n1, y = .ok v m1 n1 ∧ f v m1 n1 = .normal E' m' n' := by
  cases y with
  | bad => cases h
  | ok v m1 n1 => exact ⟨v, m1, n1, rfl, h⟩

/-- a region in its text's order -/
theorem seq_ok (hT : TTok P TT) (hA : TTagg P TT) (hC : CSound P C) {ops : Array Oper} : ∀ (l : List Oper) (i : Nat) (x : Cx) (F : RegF) (E K : List AV) (m : Mem) (n : Nat) (w : World) (a : Act) (π : PMap) (E' : List AV) (m' : Mem) (n' : Nat),
    ops.toList.drop i = l → i ≤ ops.size → Prev ops i x → (∀ o ∈ l, ∀ t, o.dst = some t → t < nt ∧ Nat.testBit x.all t = true) → compSeq P TT i x l = some F → CxOk π nt x E K a → MRel π m.get w → Free π n →
    F C E K m n = .normal E' m' n' →
    (∀ π' a' w', FRel π' x.esc nt E' a' → MRel π' m'.get w' → Step π m.get w π' m'.get w' n n' → Free π' n' → Q .normal a' w') →
    wpOps P ops Q (List.range' i l.length) a w := by
  intro l
  induction l with
  | nil =>
    intro i x F E K m n w a π E' m' n' hl hi hp hd hc hx hM hf h hQ
    cases hc
    cases h
    exact hQ π a w hx.fr hM (.refl _ _ _ _) hf
  | cons o l ih =>
    intro i x F E K m n w a π E' m' n' hl hi hp hd hc hx hM hf h hQ
    have hoi : ops[i]? = some o := by
      have : (ops.toList.drop i)[0]? = some o := by rw [hl]; rfl
      rw [List.getElem?_drop] at this
      simpa using this
    have hil : i < ops.size := (Array.getElem?_eq_some_iff.1 hoi).1
    have hl' : ops.toList.drop (i + 1) = l := by
      have h1 : (ops.toList.drop i).drop 1 = l := by rw [hl]; rfl
      rwa [List.drop_drop] at h1
    have hpn : ∀ (d : Option Nat × Src), d.1 = o.dst → Prev ops (i + 1) ⟨x.esc, x.all, d :: x.prev, x.len⟩ ∧ Prev ops (i + 1) ⟨x.esc, x.all, d :: x.prev, x.len + 1⟩ := by
      intro d hdo
      have h2 : ops.toList.take (i + 1) = ops.toList.take i ++ [o] := by
        rw [List.take_add_one]
        simp [hoi]
      unfold Prev at *
      rw [h2]
      simp [hp, hdo]
    have hdo := hd o List.mem_cons_self
    have hd' : ∀ o ∈ l, ∀ t, o.dst = some t → t < nt ∧ Nat.testBit x.all t = true := fun o ho => hd o (List.mem_cons_of_mem _ ho)
    rw [List.length_cons, List.range'_succ]
    simp only [wpOps, hoi]
    simp only [compSeq] at hc
    cases hal : aliasOf x o with
    | some s =>
      rw [hal] at hc
      obtain ⟨y, hy, hg, hk, hv, hs⟩ := aliasOf_spec hx hal
      have hw : Region.wanted o (yielded ops a.tmps) = true := by simp [Region.wanted, hg]
      rw [if_pos hw]
      refine .inl ?_
      have hrun : (execOp a.eval o).run P w = .ok (.value (a.eval y)) w := by
        obtain ⟨dst, op, ty, pos, after, guard⟩ := o
        simp only at hy
        subst hy
        rfl
      simp only [Oper.wp, hrun, Oper.upon]
      exact ih (i + 1) (x.alias o.dst s) F E K m n w _ π E' m' n' hl' (by omega) (hpn _ rfl).1 hd' hc (hx.alias hv hs hk fun t ht => (hdo t ht).1) hM hf h hQ
    | none =>
      rw [hal] at hc
      obtain ⟨f, hcf, hc⟩ := optB_eq_some hc
      obtain ⟨g, hcg, hc⟩ := optB_eq_some hc
      obtain ⟨rest, hcr, hc⟩ := optB_eq_some hc
      -- where it is wanted
      have run : ∀ v m1 n1, f C E K m n = .ok v m1 n1 → rest C (putD E (keptOf x.esc o.dst) v) (v :: K) m1 n1 = .normal E' m' n' →
          o.wp P a w (wpOps P ops Q (List.range' (i + 1) l.length)) Q := by
        intro v m1 n1 hf1 hr
        have hgood := compOp_good hT hA hC (hx.opd _) (fun _ => rfl) hM hf (compOpB_ok hcf hf1) hf1
        refine good_wp hgood fun π' v' w' r1 r2 r3 => ?_
        exact ih (i + 1) (x.push o.dst) rest _ _ m1 n1 w' _ π' E' m' n' hl' (by omega) (hpn _ rfl).2 hd' hcr ((hx.mono r3.ext).push r1 hdo) r2 (hf.step r3) hr
          fun π2 a2 w2 s1 s2 s3 s4 => hQ π2 a2 w2 s1 s2 (r3.trans s3) s4
      have skip : rest C (putD E (keptOf x.esc o.dst) undefA) (undefA :: K) m n = .normal E' m' n' →
          wpOps P ops Q (List.range' (i + 1) l.length) (a.put o.dst undef) w := fun hr =>
        ih (i + 1) (x.push o.dst) rest _ _ m n w _ π E' m' n' hl' (by omega) (hpn _ rfl).2 hd' hcr (hx.push .undef hdo) hM hf hr hQ
      rcases guard_rel hx hp hi hcg with ⟨hg, rfl⟩ | ⟨j, want, y, ob, t, hg, rfl, h1, h2, h3⟩
      · have hw : Region.wanted o (yielded ops a.tmps) = true := by simp [Region.wanted, hg]
        rw [if_pos hw]
        refine .inl ?_
        simp only [mkStep, onOpt] at hc
        cases hko : keptOf x.esc o.dst with
        | none =>
          rw [hko] at hc; cases hc
          obtain ⟨v, m1, n1, e1, e2⟩ := onRQ_normal h
          exact run v m1 n1 e1 (by rw [hko]; exact e2)
        | some p =>
          rw [hko] at hc; cases hc
          obtain ⟨v, m1, n1, e1, e2⟩ := onRQ_normal h
          exact run v m1 n1 e1 (by rw [hko]; exact e2)
      · simp only [mkStep, onOpt] at hc
        cases hc
        rcases onGd_wanted h1 h2 hg h3 h (by intro e; cases e) with ⟨hw, h⟩ | ⟨hw, h⟩
        · rw [if_pos hw]
          obtain ⟨v, m1, n1, e1, e2⟩ := onRQ_normal h
          exact .inl (run v m1 n1 e1 e2)
        · rw [if_neg (by rw [hw]; simp)]
          exact skip h

end
end Go.Abs
namespace Go.Abs
set_option linter.unusedVariables false
set_option linter.unusedSimpArgs false

/-- it reckons with its operands alone -/
def PureR (h : Mem → Nat → R) : Prop := ∀ m n v m' n', h m n = .ok v m' n' → ∀ m2 n2, h m2 n2 = .ok v m2 n2

theorem PureR.bad : PureR fun _ _ => .bad := fun _ _ _ _ _ h => R.noConfusion h
theorem PureR.ok (v : AV) : PureR fun m n => .ok v m n := fun _ _ _ _ _ h _ _ => by cases h; rfl
theorem PureR.cnd {b : Bool} {x y : Mem → Nat → R} (hx : PureR x) (hy : PureR y) : PureR fun m n => cnd b (x m n) (y m n) := by cases b; exact hy; exact hx
theorem PureR.onOpt {α : Type} {x : Option α} {d : Mem → Nat → R} {f : α → Mem → Nat → R} (hd : PureR d) (hf : ∀ a, PureR (f a)) : PureR fun m n => onOpt x (d m n) fun a => f a m n := by cases x; exact hd; exact hf _
theorem PureR.onBool {x : AV} {f : Bool → Mem → Nat → R} (hf : ∀ a, PureR (f a)) : PureR fun m n => onBool x .bad fun a => f a m n := by cases x <;> first | exact PureR.bad | exact hf _
theorem PureR.onInt {x : AV} {f : Nat → Int → Mem → Nat → R} (hf : ∀ a b, PureR (f a b)) : PureR fun m n => onInt x .bad fun a b => f a b m n := by cases x <;> first | exact PureR.bad | exact hf _ _
theorem PureR.onStr {x : AV} {f : List Nat → Mem → Nat → R} (hf : ∀ a, PureR (f a)) : PureR fun m n => onStr x .bad fun a => f a m n := by cases x <;> first | exact PureR.bad | exact hf _
theorem PureR.onPtr {x : AV} {f : Nat → Nat → Mem → Nat → R} (hf : ∀ a b, PureR (f a b)) : PureR fun m n => onPtr x .bad fun a b => f a b m n := by cases x <;> first | exact PureR.bad | exact hf _ _
theorem PureR.onAgg {x : AV} {f : List AV → Mem → Nat → R} (hf : ∀ a, PureR (f a)) : PureR fun m n => onAgg x .bad fun a => f a m n := by cases x <;> first | exact PureR.bad | exact hf _
theorem PureR.onTup {x : AV} {f : List AV → Mem → Nat → R} (hf : ∀ a, PureR (f a)) : PureR fun m n => onTup x .bad fun a => f a m n := by cases x <;> first | exact PureR.bad | exact hf _
theorem PureR.natOf {x : Int} {k : Nat} {f : Nat → Mem → Nat → R} (hf : ∀ a, PureR (f a)) : PureR fun m n => natOf x k .bad fun a => f a m n := by
  cases x with
  | ofNat a => exact PureR.cnd (hf a) PureR.bad
  | negSucc a => exact PureR.bad
theorem PureR.boundA {E K : List AV} {x : Option Opd} {y d : Nat} {f : Nat → Mem → Nat → R} (hf : ∀ a, PureR (f a)) : PureR fun m n => boundA E K x y d .bad fun a => f a m n := by
  cases x with
  | none => exact hf d
  | some x => exact PureR.onInt fun _ _ => PureR.natOf hf
theorem PureR.ite {b : Prop} [Decidable b] {x y : Mem → Nat → R} (hx : PureR x) (hy : PureR y) : PureR fun m n => if b then x m n else y m n := by
  by_cases h : b
  · simpa [h] using hx
  · simpa [h] using hy

/-- it looks at memory, and leaves it -/
def ReadAt (m : Mem) (h : Nat → R) : Prop := ∀ n v m' n', h n = .ok v m' n' → m' = m ∧ n' = n ∧ ∀ n2, h n2 = .ok v m n2

section
variable {m : Mem}
theorem ReadAt.bad : ReadAt m fun _ => .bad := fun _ _ _ _ h => R.noConfusion h
theorem ReadAt.ok (v : AV) : ReadAt m fun n => .ok v m n := fun _ _ _ _ h => by cases h; exact ⟨rfl, rfl, fun _ => rfl⟩
theorem ReadAt.cnd {b : Bool} {x y : Nat → R} (hx : ReadAt m x) (hy : ReadAt m y) : ReadAt m fun n => cnd b (x n) (y n) := by cases b; exact hy; exact hx
theorem ReadAt.onOpt {α : Type} {x : Option α} {d : Nat → R} {f : α → Nat → R} (hd : ReadAt m d) (hf : ∀ a, ReadAt m (f a)) : ReadAt m fun n => onOpt x (d n) fun a => f a n := by cases x; exact hd; exact hf _
theorem ReadAt.onPtr {x : AV} {f : Nat → Nat → Nat → R} (hf : ∀ a b, ReadAt m (f a b)) : ReadAt m fun n => onPtr x .bad fun a b => f a b n := by cases x <;> first | exact ReadAt.bad | exact hf _ _
theorem ReadAt.onCells {i : Nat} {f : Nat → List AV → Bool → Nat → Nat → Nat → R} (hf : ∀ a b c d e, ReadAt m (f a b c d e)) : ReadAt m fun n => onCells m i .bad fun a b c d e => f a b c d e n := by
  unfold Go.Abs.onCells
  split
  · exact hf _ _ _ _ _
  · exact ReadAt.bad
theorem ReadAt.onMap {i : Nat} {f : List (AV × AV × Nat) → Nat → Nat → R} (hf : ∀ a b, ReadAt m (f a b)) : ReadAt m fun n => onMap m i .bad fun a b => f a b n := by
  unfold Go.Abs.onMap
  split
  · exact hf _ _
  · exact ReadAt.bad
theorem PureR.read {h : Mem → Nat → R} (hp : PureR h) : ReadAt m (h m) := fun n v m' n' e => by
  have h1 := hp m n v m' n' e m
  have h2 := h1 n
  rw [e] at h2
  cases h2
  exact ⟨rfl, rfl, h1⟩
end

def PureF (f : OpF) : Prop := ∀ C E K, PureR (f C E K)
def ReadF (f : OpF) : Prop := ∀ C E K m, ReadAt m (f C E K m)
/-- it makes a block, with its operands alone -/
def MakeF (f : OpF) : Prop := ∀ C E K m n v m' n', f C E K m n = .ok v m' n' → ∃ ob, ∀ m2, f C E K m2 n = .ok v (m2.put n (some ob)) (n + 1)

theorem pure_bad : PureF oBad := fun _ _ _ => PureR.bad
theorem pure_mv (x : Opd) : PureF (oMv x) := fun _ _ _ => PureR.ok _
theorem pure_pick (c a b : Opd) : PureF (oPick c a b) := fun _ E K => PureR.onBool fun t => PureR.ok _
theorem pure_build (z : List AV) (l : List (Nat × Nat × Opd)) : PureF (oBuild z l) := fun _ _ _ => PureR.onOpt PureR.bad fun _ => PureR.ok _
theorem pure_nilck (x : Opd) : PureF (oNilck x) := fun _ E K => by
  unfold oNilck
  generalize ev E K x = y
  cases y <;> first | exact PureR.bad | exact PureR.ok _
theorem pure_int (op : BinOp) (x y : Opd) : PureF (oInt op x y) := fun _ _ _ => PureR.onInt fun _ _ => PureR.onInt fun _ _ => PureR.cnd (PureR.onOpt PureR.bad fun _ => PureR.ok _) PureR.bad
theorem pure_cmp (f : Int → Int → Bool) (x y : Opd) : PureF (oCmp f x y) := fun _ _ _ => PureR.onInt fun _ _ => PureR.onInt fun _ _ => PureR.cnd (PureR.ok _) PureR.bad
theorem pure_ari (f : Nat → Int → Int → Int) (x y : Opd) : PureF (oAri f x y) := fun _ _ _ => PureR.onInt fun _ _ => PureR.onInt fun _ _ => PureR.cnd (PureR.ok _) PureR.bad
theorem pure_shl (x y : Opd) : PureF (oShl x y) := fun _ _ _ => PureR.onInt fun _ _ => PureR.onInt fun _ _ => PureR.natOf fun _ => PureR.ok _
theorem pure_shr (x y : Opd) : PureF (oShr x y) := fun _ _ _ => PureR.onInt fun _ _ => PureR.onInt fun _ _ => PureR.natOf fun _ => PureR.ok _
theorem pure_strB (op : BinOp) (x y : Opd) : PureF (oStrB op x y) := fun _ _ _ => PureR.onStr fun _ => PureR.onStr fun _ => PureR.onOpt PureR.bad fun _ => PureR.ok _
theorem pure_eq (e : EqK) (q : Bool) (x y : Opd) : PureF (oEq e q x y) := fun _ _ _ => PureR.onOpt PureR.bad fun _ => PureR.ok _
theorem pure_un (op : UnOp) (x : Opd) : PureF (oUn op x) := fun _ _ _ => PureR.onOpt PureR.bad fun _ => PureR.ok _
theorem pure_mkiface (t : Nat) (x : Opd) : PureF (oMkiface t x) := fun _ _ _ => PureR.ok _
theorem pure_mkfunc (f : Nat) (a b : List Opd) : PureF (oMkfunc f a b) := fun _ _ _ => PureR.ok _
theorem pure_sliceS (x : Opd) (lo hi : Option Opd) : PureF (oSliceS x lo hi) := fun _ _ _ => PureR.onStr fun _ => PureR.boundA fun _ => PureR.boundA fun _ => PureR.ok _
theorem pure_sliceV (sz : Nat) (x : Opd) (lo hi mx : Option Opd) : PureF (oSliceV sz x lo hi mx) := fun _ _ _ => PureR.onOpt PureR.bad fun _ => PureR.ok _
theorem pure_sliceA (k sz : Nat) (x : Opd) (lo hi : Option Opd) : PureF (oSliceA k sz x lo hi) := fun _ _ _ => PureR.onPtr fun _ _ => PureR.boundA fun _ => PureR.boundA fun _ => PureR.ok _
theorem pure_faddr (o : Nat) (x : Opd) : PureF (oFaddr o x) := fun _ _ _ => PureR.onPtr fun _ _ => PureR.ok _
theorem pure_field1 (o : Nat) (x : Opd) : PureF (oField1 o x) := fun _ _ _ => PureR.onAgg fun _ => PureR.onOpt PureR.bad fun _ => PureR.ok _
theorem pure_fieldN (o k : Nat) (x : Opd) : PureF (oFieldN o k x) := fun _ _ _ => PureR.onAgg fun _ => PureR.cnd (PureR.ok _) PureR.bad
theorem pure_iaddrA (k sz : Nat) (x i : Opd) : PureF (oIaddrA k sz x i) := fun _ _ _ => PureR.onPtr fun _ _ => PureR.onInt fun _ _ => PureR.natOf fun _ => PureR.cnd (PureR.ok _) PureR.bad
theorem pure_iaddrS (sz : Nat) (x i : Opd) : PureF (oIaddrS sz x i) := fun _ E K => by
  unfold oIaddrS
  generalize ev E K x = y
  cases y <;> first | exact PureR.bad | exact PureR.onInt fun _ _ => PureR.cnd (PureR.natOf fun _ => PureR.cnd (PureR.ok _) PureR.bad) PureR.bad
theorem pure_idxS (x i : Opd) : PureF (oIdxS x i) := fun _ _ _ => PureR.onStr fun _ => PureR.onInt fun _ j => by
  cases j with
  | ofNat j => exact PureR.onOpt PureR.bad fun _ => PureR.ok _
  | negSucc j => exact PureR.bad
theorem pure_idxA (k sz : Nat) (g : Bool) (x i : Opd) : PureF (oIdxA k sz g x i) := fun _ _ _ => PureR.onAgg fun _ => PureR.onInt fun _ _ => PureR.natOf fun _ => PureR.cnd (PureR.cnd (PureR.ok _) (PureR.onOpt PureR.bad fun _ => PureR.ok _)) PureR.bad
theorem pure_extract (x : Opd) (i : Nat) : PureF (oExtract x i) := fun _ _ _ => PureR.onTup fun _ => PureR.onOpt PureR.bad fun _ => PureR.ok _
theorem pure_max (a : Opd) (l : List Opd) : PureF (oMax a l) := fun _ _ _ => PureR.onInt fun _ _ => PureR.onOpt PureR.bad fun _ => PureR.ok _
theorem pure_min (a : Opd) (l : List Opd) : PureF (oMin a l) := fun _ _ _ => PureR.onInt fun _ _ => PureR.onOpt PureR.bad fun _ => PureR.ok _
theorem pure_lenS (x : Opd) : PureF (oLenS x) := fun _ _ _ => PureR.onStr fun _ => PureR.ok _
theorem pure_lenV (x : Opd) : PureF (oLenV x) := fun _ E K => by
  unfold oLenV
  generalize ev E K x = y
  cases y <;> first | exact PureR.bad | exact PureR.ok _
theorem pure_lenC (k : Nat) : PureF (oLenC k) := fun _ _ _ => PureR.ok _
theorem PureF.read {f : OpF} (h : PureF f) : ReadF f := fun C E K m => (h C E K).read

theorem read_load1 (x : Opd) : ReadF (oLoad1 x) := fun _ _ _ _ => ReadAt.onPtr fun _ _ => ReadAt.onCells fun _ _ _ _ _ => ReadAt.onOpt ReadAt.bad fun _ => ReadAt.ok _
theorem read_loadN (k : Nat) (x : Opd) : ReadF (oLoadN k x) := fun _ _ _ _ => ReadAt.onPtr fun _ _ => ReadAt.onCells fun _ _ _ _ _ => ReadAt.cnd (ReadAt.ok _) ReadAt.bad
theorem read_lookup (kt : Nat) (z : AV) (ok : Bool) (x k : Opd) : ReadF (oLookup kt z ok x k) := fun _ E K m => by
  unfold oLookup
  refine ReadAt.cnd ?_ ReadAt.bad
  generalize ev E K x = y
  cases y <;> first | exact ReadAt.bad | exact ReadAt.ok _ | exact ReadAt.onMap fun _ _ => ReadAt.onOpt ReadAt.bad fun _ => ReadAt.onOpt (ReadAt.ok _) fun _ => ReadAt.ok _
theorem read_lenM (x : Opd) : ReadF (oLenM x) := fun _ E K m => by
  unfold oLenM
  generalize ev E K x = y
  cases y <;> first | exact ReadAt.bad | exact ReadAt.ok _ | exact ReadAt.onMap fun _ _ => ReadAt.ok _

theorem make_alloc (el : Nat) (z : List AV) : MakeF (oAlloc el z) := fun _ _ _ _ _ _ _ _ h => by cases h; exact ⟨_, fun _ => rfl⟩
theorem make_box (el sz : Nat) (x : Opd) : MakeF (oBox el sz x) := fun C E K m n v m' n' h => by
  obtain ⟨h1, h⟩ := cnd_ne h bad_ne
  cases h
  exact ⟨_, fun m2 => by unfold oBox; rw [h1]; rfl⟩
theorem make_bslice (el sz len : Nat) (z : List AV) (ps : List (Nat × Nat × Opd)) : MakeF (oBslice el sz len z ps) := fun C E K m n v m' n' h => by
  obtain ⟨cs, h1, h⟩ := onOpt_ne h bad_ne
  cases h
  exact ⟨_, fun m2 => by unfold oBslice; rw [h1]; rfl⟩

section
variable {P : Program} {TT : Trie TI} {cx : Cx}

theorem bin_pure {op : BinOp} {t : Nat} {x y : Opd} {f : OpF} (hc : compBin TT op t x y = some f) : PureF f := by
  obtain ⟨i, hi, hc⟩ := optB_eq_some hc
  split at hc
  · split at hc <;> cases hc <;> first | exact pure_ari _ _ _ | exact pure_cmp _ _ _ | exact pure_shl _ _ | exact pure_shr _ _ | exact pure_int _ _ _
  · cases hc; exact pure_strB _ _ _
  · have key : ∀ neg, compBin.compEq TT x y i.und neg = some f → PureF f := by
      intro neg hc
      unfold compBin.compEq at hc
      split at hc <;> first | (cases hc; exact pure_eq _ _ _ _) | skip
      · obtain ⟨j, hj, hc⟩ := optB_eq_some hc
        cases hz : Nat.beq j.size 0 with
        | true => rw [hz] at hc; cases hc
        | false => rw [hz] at hc; cases hc; exact pure_eq _ _ _ _
      · cases hc
    split at hc
    · exact key _ hc
    · exact key _ hc
    · cases hc

/-- what an operation's kind promises -/
def KindOk (k : Nat) (f : OpF) : Prop := (k = 0 → PureF f) ∧ (k = 1 → ReadF f) ∧ (k = 2 → MakeF f)

theorem KindOk.pure {f : OpF} (h : PureF f) : KindOk 0 f := ⟨fun _ => h, (fun e => by cases e), (fun e => by cases e)⟩
theorem KindOk.read {f : OpF} (h : ReadF f) : KindOk 1 f := ⟨(fun e => by cases e), fun _ => h, (fun e => by cases e)⟩
theorem KindOk.make {f : OpF} (h : MakeF f) : KindOk 2 f := ⟨(fun e => by cases e), (fun e => by cases e), fun _ => h⟩
theorem KindOk.any {f : OpF} : KindOk 3 f := ⟨(fun e => by cases e), (fun e => by cases e), (fun e => by cases e)⟩

theorem kind_ok {o : Op} {f : OpF} (hc : compOp P TT cx o = some f) : KindOk (kindOf o) f := by
  cases o <;> simp only [compOp] at hc <;> first | (cases hc; done) | exact KindOk.any | skip
  case move x => obtain ⟨q, hq, hc⟩ := optB_eq_some hc; cases hc; exact .pure (pure_mv _)
  case pick c a b =>
    obtain ⟨q, hq, hc⟩ := optB_eq_some hc
    obtain ⟨r, hr, hc⟩ := optB_eq_some hc
    obtain ⟨s, hs, hc⟩ := optB_eq_some hc; cases hc
    exact .pure (pure_pick _ _ _)
  case alloc t => obtain ⟨i, hi, hc⟩ := optB_eq_some hc; cases hc; exact .make (make_alloc _ _)
  case box t x =>
    obtain ⟨i, hi, hc⟩ := optB_eq_some hc
    obtain ⟨q, hq, hc⟩ := optB_eq_some hc
    rw [frc_eq] at hc; cases hc
    exact .make (make_box _ _ _)
  case build t ps =>
    obtain ⟨i, hi, hc⟩ := optB_eq_some hc
    split at hc
    · obtain ⟨pl, hpl, hc⟩ := optB_eq_some hc
      obtain ⟨l, hl, hc⟩ := optB_eq_some hc; cases hc
      exact .pure (pure_build _ _)
    · obtain ⟨j, hj, hc⟩ := optB_eq_some hc
      obtain ⟨l, hl, hc⟩ := optB_eq_some hc; cases hc
      exact .pure (pure_build _ _)
    · cases hc
  case buildSlice t len ps =>
    obtain ⟨i, hi, hc⟩ := optB_eq_some hc
    split at hc
    · obtain ⟨j, hj, hc⟩ := optB_eq_some hc
      obtain ⟨hz, hc⟩ := cndO hc
      obtain ⟨hle, hc⟩ := cndO hc
      obtain ⟨l, hl, hc⟩ := optB_eq_some hc
      rw [frc_eq] at hc; cases hc
      exact .make (make_bslice _ _ _ _ _)
    · cases hc
  case load t x =>
    obtain ⟨i, hi, hc⟩ := optB_eq_some hc
    obtain ⟨q, hq, hc⟩ := optB_eq_some hc
    cases ha : isAggD i.und with
    | true => rw [ha] at hc; simp only [cnd_true, frc_eq] at hc; cases hc; exact .read (read_loadN _ _)
    | false => rw [ha] at hc; cases hc; exact .read (read_load1 _)
  case nilCheck x => obtain ⟨q, hq, hc⟩ := optB_eq_some hc; cases hc; exact .pure (pure_nilck _)
  case binOp op t x y p =>
    obtain ⟨q, hq, hc⟩ := optB_eq_some hc
    obtain ⟨r, hr, hc⟩ := optB_eq_some hc
    exact .pure (bin_pure hc)
  case unOp op t x => obtain ⟨q, hq, hc⟩ := optB_eq_some hc; cases hc; exact .pure (pure_un _ _)
  case makeInterface t x =>
    obtain ⟨i, hi, hc⟩ := optB_eq_some hc
    split at hc
    · cases hc
    · obtain ⟨q, hq, hc⟩ := optB_eq_some hc; cases hc; exact .pure (pure_mkiface _ _)
  case makeFunc fn a b =>
    split at hc
    · obtain ⟨q, hq, hc⟩ := optB_eq_some hc
      obtain ⟨r, hr, hc⟩ := optB_eq_some hc; cases hc
      exact .pure (pure_mkfunc _ _ _)
    · cases hc
  case slice t x lo hi mx =>
    obtain ⟨i, hi', hc⟩ := optB_eq_some hc
    obtain ⟨q, hq, hc⟩ := optB_eq_some hc
    obtain ⟨ql, hql, hc⟩ := optB_eq_some hc
    obtain ⟨qh, hqh, hc⟩ := optB_eq_some hc
    obtain ⟨qm, hqm, hc⟩ := optB_eq_some hc
    split at hc
    · cases qm with
      | some _ => cases hc
      | none => cases hc; exact .pure (pure_sliceS _ _ _)
    · obtain ⟨j, hj, hc⟩ := optB_eq_some hc
      cases qm with
      | none => simp only [onOpt, frc_eq] at hc; cases hc; exact .pure (pure_sliceV _ _ _ _ _)
      | some _ =>
        cases qh with
        | none => cases hc
        | some _ => simp only [onOpt, frc_eq] at hc; cases hc; exact .pure (pure_sliceV _ _ _ _ _)
    · obtain ⟨j, hj, hc⟩ := optB_eq_some hc
      cases qm with
      | some _ => cases hc
      | none => simp only [onOpt, frc_eq] at hc; cases hc; exact .pure (pure_sliceA _ _ _ _ _)
    · cases hc
  case fieldAddr t x fi =>
    obtain ⟨g, hg, hc⟩ := optB_eq_some hc
    cases hz : Nat.beq g.2.size 0 with
    | true => rw [hz] at hc; cases hc
    | false =>
      rw [hz] at hc
      obtain ⟨q, hq, hc⟩ := optB_eq_some hc
      rw [frc_eq] at hc; cases hc
      exact .pure (pure_faddr _ _)
  case field t x fi =>
    obtain ⟨g, hg, hc⟩ := optB_eq_some hc
    obtain ⟨q, hq, hc⟩ := optB_eq_some hc
    rw [frc_eq] at hc
    cases ha : isAggD g.2.und with
    | true => rw [ha] at hc; simp only [cnd_true, frc_eq] at hc; cases hc; exact .pure (pure_fieldN _ _ _)
    | false => rw [ha] at hc; cases hc; exact .pure (pure_field1 _ _)
  case indexAddr t x ix =>
    obtain ⟨i, hi, hc⟩ := optB_eq_some hc
    obtain ⟨q, hq, hc⟩ := optB_eq_some hc
    obtain ⟨r, hr, hc⟩ := optB_eq_some hc
    split at hc
    · obtain ⟨j, hj, hc⟩ := optB_eq_some hc
      rw [frc_eq] at hc; cases hc; exact .pure (pure_iaddrA _ _ _ _)
    · obtain ⟨j, hj, hc⟩ := optB_eq_some hc
      rw [frc_eq] at hc; cases hc; exact .pure (pure_iaddrS _ _ _)
    · cases hc
  case index t x ix =>
    obtain ⟨i, hi, hc⟩ := optB_eq_some hc
    obtain ⟨q, hq, hc⟩ := optB_eq_some hc
    obtain ⟨r, hr, hc⟩ := optB_eq_some hc
    split at hc
    · cases hc; exact .pure (pure_idxS _ _)
    · obtain ⟨j, hj, hc⟩ := optB_eq_some hc
      rw [frc_eq] at hc; cases hc; exact .pure (pure_idxA _ _ _ _ _)
    · cases hc
  case lookup t x ix ok =>
    obtain ⟨i, hi, hc⟩ := optB_eq_some hc
    obtain ⟨q, hq, hc⟩ := optB_eq_some hc
    obtain ⟨r, hr, hc⟩ := optB_eq_some hc
    split at hc
    · obtain ⟨a, ha, hc⟩ := optB_eq_some hc
      obtain ⟨j, hj, hc⟩ := optB_eq_some hc
      obtain ⟨key, hkey, hc⟩ := optB_eq_some hc
      cases hd : isAggD j.und with
      | true => rw [hd] at hc; cases hc; exact .read (read_lookup _ _ _ _ _)
      | false =>
        rw [hd, cnd_false] at hc
        split at hc
        · cases hc; exact .read (read_lookup _ _ _ _ _)
        · cases hc
    · cases hc
  case extract x i => obtain ⟨q, hq, hc⟩ := optB_eq_some hc; cases hc; exact .pure (pure_extract _ _)
  case call c =>
    simp only [compCall] at hc
    split at hc
    · rename_i g hg
      have : kindOf (.call c) = 3 := by simp [kindOf, hg]
      rw [this]; exact .any
    · rename_i b hb
      have hk : kindOf (.call c) = (match b with | .len => 1 | .max => 0 | .min => 0 | _ => 3) := by simp only [kindOf, hb]; cases b <;> rfl
      rw [hk]
      split at hc
      · obtain ⟨i, hi, hc⟩ := optB_eq_some hc
        split at hc
        · obtain ⟨q, hq, hc⟩ := optB_eq_some hc; cases hc; exact .read (pure_lenS _).read
        · obtain ⟨q, hq, hc⟩ := optB_eq_some hc; cases hc; exact .read (pure_lenV _).read
        · obtain ⟨q, hq, hc⟩ := optB_eq_some hc; cases hc; exact .read (read_lenM _)
        · cases hc; exact .read (pure_lenC _).read
        · obtain ⟨j, hj, hc⟩ := optB_eq_some hc
          split at hc
          · cases hc; exact .read (pure_lenC _).read
          · cases hc
        · cases hc
      · obtain ⟨q, hq, hc⟩ := optB_eq_some hc
        obtain ⟨r, hr, hc⟩ := optB_eq_some hc; cases hc; exact .pure (pure_max _ _)
      · obtain ⟨q, hq, hc⟩ := optB_eq_some hc
        obtain ⟨r, hr, hc⟩ := optB_eq_some hc; cases hc; exact .pure (pure_min _ _)
      all_goals first | exact .any | (cases hc; done)
    · cases hc

end
end Go.Abs
