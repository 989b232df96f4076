/-
  A part of the proof: see the last text.
-/
import Derived.Test.YtbjcefejalifeacGreatDoorE
import Derived.Scope
import Derived.Laws.StandIn
set_option linter.unusedVariables false
set_option linter.unusedSimpArgs false
namespace Go.Abs
set_option linter.unusedVariables false
set_option linter.unusedSimpArgs false

/-- where code left off -/
def After (π : PMap) (m : Mem) (w : World) (n : Nat) (esc : List Nat) (nt : Nat) (E' : List AV) (m' : Mem) (n' : Nat) (a' : Act) (w' : World) : Prop :=
  ∃ π', FRel π' esc nt E' a' ∧ MRel π' m'.get w' ∧ Step π m.get w π' m'.get w' n n' ∧ Free π' n'

/-- what code comes to, and how it leaves -/
def Res (π : PMap) (m : Mem) (w : World) (n : Nat) (esc : List Nat) (nt : Nat) (q : Abs.Q) (e : Exit) (a' : Act) (w' : World) : Prop :=
  match q, e with
  | .normal E' m' n', .normal => After π m w n esc nt E' m' n' a' w'
  | .ret E' m' n', .ret => After π m w n esc nt E' m' n' a' w'
  | .exit i E' m' n', .exit j => i = j ∧ After π m w n esc nt E' m' n' a' w'
  | .goto i E' m' n', .goto j => i = j ∧ After π m w n esc nt E' m' n' a' w'
  | _, _ => False

theorem After.trans {π π1 : PMap} {m m1 m' : Mem} {w w1 w' : World} {n n1 n' : Nat} {esc : List Nat} {nt : Nat} {E' : List AV} {a' : Act} (s : Step π m.get w π1 m1.get w1 n n1) (h : After π1 m1 w1 n1 esc nt E' m' n' a' w') :
    After π m w n esc nt E' m' n' a' w' := by
  obtain ⟨π', h1, h2, h3, h4⟩ := h
  exact ⟨π', h1, h2, s.trans h3, h4⟩

theorem Res.trans {π π1 : PMap} {m m1 : Mem} {w w1 : World} {n n1 : Nat} {esc : List Nat} {nt : Nat} {q : Abs.Q} {e : Exit} {a' : Act} {w' : World} (s : Step π m.get w π1 m1.get w1 n n1) (h : Res π1 m1 w1 n1 esc nt q e a' w') :
    Res π m w n esc nt q e a' w' := by
  cases q <;> cases e <;> first | exact h.elim | exact After.trans s h | exact ⟨h.1, After.trans s h.2⟩

section
variable {P : Program} {TT : Trie TI} {C : CallR} {esc : List Nat} {nt : Nat}

def CodOk (P : Program) (C : CallR) (esc : List Nat) (nt : Nat) (F : CodF) (c : Code) : Prop := ∀ N E m n w a π, FRel π esc nt E a → MRel π m.get w → Free π n → F C N E m n ≠ .bad → c.wp P (Res π m w n esc nt (F C N E m n)) a w

theorem after_refl {π : PMap} {m : Mem} {w : World} {n : Nat} {E : List AV} {a : Act} (h1 : FRel π esc nt E a) (h2 : MRel π m.get w) (h3 : Free π n) : After π m w n esc nt E m n a w :=
  ⟨π, h1, h2, .refl _ _ _ _, h3⟩

theorem seq_good {F G : CodF} {x y : Code} (hx : CodOk P C esc nt F x) (hy : CodOk P C esc nt G y) : CodOk P C esc nt (cSeq F G) (.seq x y) := by
  intro N E m n w a π h1 h2 h3 hb
  refine wp_seq (wp_mono (hx N E m n w a π h1 h2 h3 ?_) ?_)
  · intro e; apply hb; simp only [cSeq, e]; rfl
  · intro e a1 w1 hr
    simp only [cSeq] at hb ⊢
    cases hq : F C N E m n with
    | bad => rw [hq] at hr; exact hr.elim
    | normal E1 m1 n1 =>
      rw [hq] at hr hb
      cases e <;> first | exact hr.elim | skip
      obtain ⟨π1, r1, r2, r3, r4⟩ := hr
      exact wp_mono (hy N E1 m1 n1 w1 a1 π1 r1 r2 r4 hb) fun e a2 w2 h => h.trans r3
    | _ => rw [hq] at hr; cases e <;> first | exact hr.elim | exact hr

theorem loop_good {F : CodF} {c : Code} (hc : CodOk P C esc nt F c) : CodOk P C esc nt (cLoop F) (.loop c) := by
  intro N0 E m n w a π h1 h2 h3 hb
  intro b k cs
  have key : ∀ N E m n w a π, FRel π esc nt E a → MRel π m.get w → Free π n → iter (F C N0) N E m n ≠ .bad →
      ∃ e a' w', Res π m w n esc nt (iter (F C N0) N E m n) e a' w' ∧ Arrives P (lone (b.at a (.code c :: .inLoop c :: k)) cs w) b k cs e a' w' := by
    intro N
    induction N with
    | zero => intro E m n w a π _ _ _ h; exact absurd rfl h
    | succ N ih =>
      intro E m n w a π h1 h2 h3 hb
      simp only [iter] at hb ⊢
      cases hq : F C N0 E m n with
      | bad => rw [hq] at hb; exact absurd rfl hb
      | normal E1 m1 n1 =>
        obtain ⟨e, a1, w1, hr, harr⟩ := hc N0 E m n w a π h1 h2 h3 (by rw [hq]; intro h; cases h) b (.inLoop c :: k) cs
        rw [hq] at hr hb
        cases e <;> first | exact hr.elim | skip
        obtain ⟨π1, r1, r2, r3, r4⟩ := hr
        simp only [onQ, frc_eq] at hb ⊢
        obtain ⟨e2, a2, w2, hr2, harr2⟩ := ih E1 m1 n1 w1 a1 π1 r1 r2 r4 hb
        exact ⟨e2, a2, w2, hr2.trans r3, .of_steps (Steps.trans harr (.one step_inLoop)) harr2⟩
      | _ =>
        obtain ⟨e, a1, w1, hr, harr⟩ := hc N0 E m n w a π h1 h2 h3 (by rw [hq]; intro h; cases h) b (.inLoop c :: k) cs
        rw [hq] at hr
        cases e <;> first | exact hr.elim | skip
        exact ⟨_, a1, w1, hr, .pass (x := .inLoop c) rfl (fun _ _ => .inl (by simp)) harr⟩
  obtain ⟨e, a', w', hq, harr⟩ := key N0 E m n w a π h1 h2 h3 hb
  exact ⟨e, a', w', hq, .of_steps (.one step_loop) harr⟩

theorem scope_good {F : CodF} {c : Code} {tab : Nat → Option CodF} (hc : CodOk P C esc nt F c)
    (ht : ∀ l, match tab l, findLabel c l with | some G, some rest => CodOk P C esc nt G rest | none, none => True | _, _ => False) : CodOk P C esc nt (cScope F tab) (.scope c) := by
  intro N0 E m n w a π h1 h2 h3 hb
  intro b k cs
  have key : ∀ (f : Nat) (q : Abs.Q) (d : Code) m n w a π, d.wp P (Res π m w n esc nt q) a w → jump tab C N0 f q ≠ .bad →
      ∃ e a' w', Res π m w n esc nt (jump tab C N0 f q) e a' w' ∧ Arrives P (lone (b.at a (.code d :: .inScope c :: k)) cs w) b k cs e a' w' := by
    intro f
    induction f with
    | zero => intro q d m n w a π _ h; exact absurd rfl h
    | succ f ih =>
      intro q d m n w a π hd hb
      obtain ⟨e, a1, w1, hr, harr⟩ := hd b (.inScope c :: k) cs
      cases q with
      | bad => exact absurd rfl hb
      | normal E1 m1 n1 =>
        cases e <;> first | exact hr.elim | skip
        exact ⟨.normal, a1, w1, hr, Steps.trans harr (.one step_inScope)⟩
      | ret E1 m1 n1 =>
        cases e <;> first | exact hr.elim | skip
        exact ⟨.ret, a1, w1, hr, harr⟩
      | exit i E1 m1 n1 =>
        cases e <;> first | exact hr.elim | skip
        exact ⟨_, a1, w1, hr, fun k' hk => harr k' (by simp [exitTo, hk])⟩
      | goto l E1 m1 n1 =>
        cases e <;> first | exact hr.elim | skip
        rename_i l'
        obtain ⟨rfl, hr⟩ := hr
        have htl := ht l
        simp only [jump] at hb ⊢
        cases htab : tab l with
        | none =>
          rw [htab] at htl hb
          cases hfl : findLabel c l with
          | some rest => rw [hfl] at htl; exact htl.elim
          | none =>
            exact ⟨.goto l, a1, w1, ⟨rfl, hr⟩, fun k' hk => harr k' (by simp [gotoIn, hfl, hk])⟩
        | some G =>
          rw [htab] at htl hb
          cases hfl : findLabel c l with
          | none => rw [hfl] at htl; exact htl.elim
          | some rest =>
            rw [hfl] at htl
            simp only [onOpt] at hb ⊢
            obtain ⟨π1, r1, r2, r3, r4⟩ := hr
            have hnb : G C N0 E1 m1 n1 ≠ .bad := by
              intro h
              rw [h] at hb
              cases f <;> exact hb rfl
            have hw := htl N0 E1 m1 n1 w1 a1 π1 r1 r2 r4 hnb
            obtain ⟨e2, a2, w2, hr2, harr2⟩ := ih _ rest m1 n1 w1 a1 π1 hw hb
            exact ⟨e2, a2, w2, hr2.trans r3, .of_steps (harr _ (by simp [gotoIn, hfl])) harr2⟩
  have hnb : F C N0 E m n ≠ .bad := by
    intro h
    simp only [cScope, h] at hb
    cases N0 <;> exact hb rfl
  obtain ⟨e, a', w', hr, harr⟩ := key N0 _ c m n w a π (hc N0 E m n w a π h1 h2 h3 hnb) hb
  exact ⟨e, a', w', hr, .of_steps (.one step_scope) harr⟩

/-- code keeps to what it is compiled to -/
theorem comp_ok (hTT : TTok P TT) (hA : TTagg P TT) (hC : CSound P C) (hmix : P.follows .mixedOrders = true) : ∀ (c : Code) (x : CT), comp P TT esc nt c = some x →
    CodOk P C esc nt x.code c ∧ ∀ l, match x.tab l, findLabel c l with | some G, some rest => CodOk P C esc nt G rest | none, none => True | _, _ => False := by
  have bad : ∀ c, CodOk P C esc nt cBad c := fun c N E m n w a π _ _ _ h => absurd rfl h
  have skip : CodOk P C esc nt cSkip .skip := fun N E m n w a π h1 h2 h3 _ => wp_skip (after_refl h1 h2 h3)
  intro c
  induction c with
  | skip => intro x h; cases h; exact ⟨skip, fun l => trivial⟩
  | label k =>
    intro x h; cases h
    refine ⟨fun N E m n w a π h1 h2 h3 _ => wp_label (after_refl h1 h2 h3), fun l => ?_⟩
    simp only [labTab, findLabel]
    cases hb : Nat.beq k l with
    | true =>
      have := beq_nat hb
      subst this
      simp only [cnd_true, beq_self_eq_true, if_true]
      exact skip
    | false =>
      have := beqF hb
      have h2 : (k == l) = false := by simpa using this
      simp only [cnd_false, h2]
      trivial
  | exit id => intro x h; cases h; exact ⟨fun N E m n w a π h1 h2 h3 _ => wp_exit ⟨rfl, after_refl h1 h2 h3⟩, fun l => trivial⟩
  | goto l => intro x h; cases h; exact ⟨fun N E m n w a π h1 h2 h3 _ => wp_goto ⟨rfl, after_refl h1 h2 h3⟩, fun l => trivial⟩
  | ret => intro x h; cases h; exact ⟨fun N E m n w a π h1 h2 h3 _ => wp_ret (after_refl h1 h2 h3), fun l => trivial⟩
  | region id ops draw =>
    intro x h
    simp only [comp] at h
    cases hr : compRegion P TT esc nt ops.toList draw with
    | none => rw [hr] at h; cases h; exact ⟨bad _, fun l => trivial⟩
    | some F =>
      rw [hr] at h; cases h
      refine ⟨fun N E m n w a π h1 h2 h3 hb => ?_, fun l => trivial⟩
      unfold compRegion at hr
      obtain ⟨hd, hr⟩ := cndO hr
      rw [frc_eq] at hr
      have hdst : ∀ o ∈ ops.toList, ∀ t, o.dst = some t → t < nt ∧ Nat.testBit (dstMask ops.toList) t = true := fun o ho t ht => ⟨dstsOk_spec hd o ho t ht, dstMask_spec o ho t ht⟩
      have hq : ∀ E' m' n', F C E [] m n = .normal E' m' n' → (Code.region id ops draw).wp P (Res π m w n esc nt (.normal E' m' n')) a w := by
        intro E' m' n' hF
        cases draw with
        | true =>
          rw [cnd_true] at hr
          obtain ⟨anc, ha, hr⟩ := optB_eq_some hr
          obtain ⟨us, hu, hr⟩ := optB_eq_some hr
          obtain ⟨hap, hr⟩ := cndO hr
          obtain ⟨ros, hro, hr⟩ := optB_eq_some hr
          rw [frc_eq] at hr
          cases hr
          exact draw_ok hTT hA hC hmix ha hu hap hd hro h1 h2 h3 hF fun π' a' w' r1 r2 r3 r4 => ⟨π', r1, r2, r3, r4⟩
        | false =>
          rw [cnd_false] at hr
          refine wp_region ?_
          have := seq_ok (nt := nt) (Q := Res π m w n esc nt (.normal E' m' n')) hTT hA hC ops.toList 0 ⟨esc, dstMask ops.toList, [], 0⟩ F E [] m n w a π E' m' n' rfl (Nat.zero_le _) (by simp [Prev]) hdst hr
            ⟨h1, (fun t s h => by cases h), (fun d s h => by cases h)⟩ h2 h3 hF (fun π' a' w' r1 r2 r3 r4 => ⟨π', r1, r2, r3, r4⟩)
          rw [List.range_eq_range']
          simpa using this
      have hb' : onlyN (F C E [] m n) ≠ .bad := hb
      show (Code.region id ops draw).wp P (Res π m w n esc nt (onlyN (F C E [] m n))) a w
      cases hE : F C E [] m n with
      | normal E' m' n' => exact hq E' m' n' hE
      | _ => rw [hE] at hb'; exact absurd rfl hb'
  | seq a b iha ihb =>
    intro x h
    obtain ⟨xa, h1, h⟩ := optB_eq_some h
    obtain ⟨xb, h2, h⟩ := optB_eq_some h
    cases h
    obtain ⟨a1, a2⟩ := iha xa h1
    obtain ⟨b1, b2⟩ := ihb xb h2
    refine ⟨seq_good a1 b1, fun l => ?_⟩
    have a2 := a2 l
    have b2 := b2 l
    simp only [seqTab, findLabel]
    cases hta : xa.tab l with
    | none =>
      rw [hta] at a2
      cases hfa : findLabel a l with
      | some r => rw [hfa] at a2; exact a2.elim
      | none => exact b2
    | some G =>
      rw [hta] at a2
      cases hfa : findLabel a l with
      | none => rw [hfa] at a2; exact a2.elim
      | some r => rw [hfa] at a2; exact seq_good a2 b1
  | cond c a b iha ihb =>
    intro x h
    obtain ⟨q, hq, h⟩ := optB_eq_some h
    obtain ⟨xa, h1, h⟩ := optB_eq_some h
    obtain ⟨xb, h2, h⟩ := optB_eq_some h
    cases h
    refine ⟨fun N E m n w act π f1 f2 f3 hb => ?_, fun l => trivial⟩
    have hcx : CxOk π nt ⟨esc, 0, [], 0⟩ E [] act := ⟨f1, (fun t s h => by cases h), (fun d s h => by cases h)⟩
    have hv := hcx.opd [c] c (by simp) q hq
    simp only [cCond] at hb ⊢
    cases hev : ev E [] q <;> rw [hev] at hb <;> first | exact absurd rfl hb | skip
    rename_i t
    rw [hev] at hv
    refine wp_cond (t := t) hv.bool_inv ?_
    cases t with
    | true => exact (iha xa h1).1 N E m n w act π f1 f2 f3 hb
    | false => exact (ihb xb h2).1 N E m n w act π f1 f2 f3 hb
  | block id b ih =>
    intro x h
    obtain ⟨xb, h1, h⟩ := optB_eq_some h
    cases h
    refine ⟨fun N E m n w a π f1 f2 f3 hb => ?_, fun l => trivial⟩
    refine wp_block (wp_mono ((ih xb h1).1 N E m n w a π f1 f2 f3 ?_) ?_)
    · intro e; apply hb; simp only [cBlock, e]
    · intro e a1 w1 hr
      simp only [cBlock] at hb ⊢
      cases hq : xb.code C N E m n with
      | exit j E1 m1 n1 =>
        rw [hq] at hr
        cases e <;> first | exact hr.elim | skip
        obtain ⟨rfl, hr⟩ := hr
        simp only [Exit.inBlock]
        cases hbj : Nat.beq j id with
        | true => rw [if_pos (beq_nat hbj)]; exact hr
        | false => rw [if_neg (beqF hbj)]; exact ⟨rfl, hr⟩
      | _ => rw [hq] at hr; cases e <;> first | exact hr.elim | exact hr
  | loop b ih =>
    intro x h
    obtain ⟨xb, h1, h⟩ := optB_eq_some h
    cases h
    exact ⟨loop_good (ih xb h1).1, fun l => trivial⟩
  | scope b ih =>
    intro x h
    obtain ⟨xb, h1, h⟩ := optB_eq_some h
    cases h
    exact ⟨scope_good (ih xb h1).1 (ih xb h1).2, fun l => trivial⟩
  | _ => intro x h; cases h; exact ⟨bad _, fun l => trivial⟩

end
end Go.Abs
namespace Go.Abs
set_option linter.unusedVariables false
set_option linter.unusedSimpArgs false

/-- a function without a text answers so -/
def ExtOk (P : Program) (f : Nat) (g : List AV → Option AV) : Prop := ∀ π args vals v w, g args = some v → VRels π args vals → ∃ v', (callFunc f vals.toArray).run P w = .ok (.value v') w ∧ VRel π v v'

def FTok (P : Program) (FT : Trie FE) : Prop := ∀ f e, FT.get f = some e → match e with
  | .go fn _ => P.funcs[f]? = some fn ∧ (fn.name == "runtime.NumGoroutine") = false
  | .noEscape => ExtOk P f noEscA
  | .indexByte => ExtOk P f idxA

section
variable {P : Program} {TT : Trie TI} {FT : Trie FE} {esc : List Nat} {nt : Nat}

theorem mkE_length (args : List AV) : ∀ (l : List Nat), (mkE args l).length = l.length
  | [] => rfl
  | t :: l => by simp [mkE, mkE_length args l]

theorem mkE_back (args : List AV) : ∀ (l : List Nat) (p t : Nat), l[p]? = some t → back p (mkE args l) = back t args
  | [], p, t, h => by simp at h
  | e :: l, 0, t, h => by
    simp only [List.getElem?_cons_zero, Option.some.injEq] at h
    subst h; rfl
  | e :: l, p + 1, t, h => by
    simp only [List.getElem?_cons_succ] at h
    show back p (mkE args l) = _
    exact mkE_back args l p t h

theorem back_rel {π : PMap} : ∀ (t : Nat) {args : List AV} {vals : List Value}, VRels π args vals → VRel π (back t args) (vals.getD t undef)
  | 0, [], [], .nil => .undef
  | t + 1, [], [], .nil => by
    have : back (t + 1) ([] : List AV) = undefA := by
      have : ∀ k, back k ([] : List AV) = undefA := by
        intro k
        induction k with
        | zero => rfl
        | succ k ih => exact ih
      exact this _
    rw [this]
    exact .undef
  | 0, _ :: _, _ :: _, .cons _ _ _ _ h _ => h
  | t + 1, _ :: _, _ :: _, .cons _ _ _ _ _ h => by
    rw [back_cons]
    simpa using back_rel t h

theorem entry_rel {π : PMap} {args : List AV} {vals : List Value} (h : VRels π args vals) (hl : args.length ≤ nt) :
    FRel π esc nt (mkE args esc) { tmps := vals.toArray ++ Array.replicate (nt - vals.toArray.size) undef, defers := [] } := by
  have hlen := h.length
  refine ⟨by simp; omega, mkE_length args esc, fun t p hp => ?_, rfl⟩
  have hs := posOf_spec hp
  rw [mkE_back args esc p t (by simpa using hs.2.2)]
  have := back_rel t h
  have e : tm { tmps := vals.toArray ++ Array.replicate (nt - vals.toArray.size) undef, defers := [] } t = vals.getD t undef := by
    simp only [tm, Array.getD_eq_getD_getElem?, List.getD_eq_getElem?_getD]
    rw [Array.getElem?_append]
    by_cases hlt : t < vals.length
    · simp [hlt]
    · rw [if_neg (by simpa using hlt)]
      rw [List.getElem?_eq_none (by omega), Array.getElem?_replicate]
      split <;> rfl
  rw [e]
  exact this

/-- a result's word -/
def resF (tmps : Array Value) : ResultVar → Sem Value
  | .tmp t => pure (tmps.getD t undef)
  | .cell c t => do loadVar t (← asAddr (tmps.getD c undef))

theorem resA_ok (hTT : TTok P TT) {π : PMap} {m : Mem} {w : World} {E : List AV} {a : Act} (hf : FRel π esc nt E a) (hM : MRel π m.get w) {r : R} (hr : .bad ≠ r) : ∀ (l : List ResultVar) (k : List AV → R), resA TT esc E m k l = r →
    ∃ vs us, k vs = r ∧ VRels π vs us ∧ (l.mapM (m := Sem) (resF a.tmps)).run P w = .ok us w := by
  intro l
  induction l with
  | nil => intro k h; exact ⟨[], [], h, .nil, by simp⟩
  | cons x l ih =>
    intro k h
    cases x with
    | tmp t =>
      obtain ⟨p, hp, h⟩ := onOpt_ne h hr
      obtain ⟨vs, us, h1, h2, h3⟩ := ih _ h
      refine ⟨_, _ :: us, h1, .cons _ _ _ _ (hf.slot t p hp) h2, ?_⟩
      have hone : (resF a.tmps (.tmp t)).run P w = .ok (tm a t) w := rfl
      simp only [List.mapM_cons, Sem.run_bind, hone, Sem.run_pure, Result.andThen_ok, h3]
    | cell c t =>
      obtain ⟨p, hp, h⟩ := onOpt_ne h hr
      obtain ⟨i, o, e1, h⟩ := onPtr_ne h hr
      obtain ⟨ti, hti, h⟩ := onOpt_ne h hr
      have hv := hf.slot c p hp
      rw [e1] at hv
      obtain ⟨q, hq, hc⟩ := hv.ptr_inv
      have hc' : a.tmps.getD c undef = .pointer (some ⟨q.b, q.s + o, none⟩) := hc
      cases hag : isAggD ti.und with
      | true =>
        rw [hag, cnd_true] at h
        obtain ⟨el, cs, op, lo, hi, hmi, hle, h⟩ := loadNA_ne h hr
        obtain ⟨vs, us, h1, h2, h3⟩ := ih _ h
        obtain ⟨cv, hcv, hcr⟩ := load_cells (P := P) hM hmi hq hle
        have hrun : (loadVar t ⟨q.b, q.s + o, none⟩).run P w = .ok (.agg cv) w := by
          simp only [loadVar, Sem.run_bind, run_agg hTT hti, hag, if_true, run_size hTT hti, Result.andThen_ok, hcv, Sem.run_pure]
        refine ⟨_, _ :: us, h1, .cons _ _ _ _ (.agg _ cv hcr) h2, ?_⟩
        have hone : (resF a.tmps (.cell c t)).run P w = .ok (.agg cv) w := by simp only [resF, hc', asAddr, Sem.run_bind, Sem.run_pure, Result.andThen_ok, hrun]
        simp only [List.mapM_cons, Sem.run_bind, hone, Sem.run_pure, Result.andThen_ok, h3]
      | false =>
        rw [hag, cnd_false] at h
        obtain ⟨el, cs, op, lo, hi, hmi, h⟩ := onCells_ne h hr
        obtain ⟨v, hv, h⟩ := onOpt_ne h hr
        obtain ⟨vs, us, h1, h2, h3⟩ := ih _ h
        obtain ⟨u, hu, hur⟩ := load_cell (P := P) hM hmi hq hv
        have hrun : (loadVar t ⟨q.b, q.s + o, none⟩).run P w = .ok u w := by
          simp only [loadVar, Sem.run_bind, run_agg hTT hti, hag, Result.andThen_ok, Bool.false_eq_true, if_false, hu]
        refine ⟨_, u :: us, h1, .cons _ _ _ _ hur h2, ?_⟩
        have hone : (resF a.tmps (.cell c t)).run P w = .ok u w := by simp only [resF, hc', asAddr, Sem.run_bind, Sem.run_pure, Result.andThen_ok, hrun]
        simp only [List.mapM_cons, Sem.run_bind, hone, Sem.run_pure, Result.andThen_ok, h3]

theorem one_rel {π : PMap} {vs : List AV} {us : List Value} (h : VRels π vs us) : VRel π (one vs) (if h : us.toArray.size = 1 then us.toArray[0] else .tuple us.toArray) := by
  cases h with
  | nil => exact .tup [] #[] .nil
  | cons x l u us h1 h2 =>
    cases h2 with
    | nil => simpa [one] using h1
    | cons y l' u' us' h3 h4 =>
      simp [one]
      exact .tup _ _ (by simpa using VRels.cons _ _ _ _ h1 (VRels.cons _ _ _ _ h3 h4))

/-- calls keep to what is reckoned -/
theorem callN_ok (hTT : TTok P TT) (hA : TTagg P TT) (hF : FTok P FT) (hmix : P.follows .mixedOrders = true) : ∀ N, CSound P (callN P TT FT N) := by
  intro N
  induction N with
  | zero => intro f args m n v m' n' h; cases h
  | succ N ih =>
    intro f args m n v m' n' h π w vals hargs hM hf
    simp only [callN] at h
    cases he : FT.get f with
    | none => rw [he] at h; cases h
    | some e =>
      rw [he] at h
      have hfe := hF f e he
      cases e with
      | noEscape =>
        obtain ⟨u, hu, h⟩ := onOpt_ne h bad_ne
        obtain ⟨rfl, rfl, rfl⟩ := ok_inj h
        obtain ⟨v', h1, h2⟩ := hfe π args vals u w hu hargs
        rw [h1]
        exact good_same hM h2
      | indexByte =>
        obtain ⟨u, hu, h⟩ := onOpt_ne h bad_ne
        obtain ⟨rfl, rfl, rfl⟩ := ok_inj h
        obtain ⟨v', h1, h2⟩ := hfe π args vals u w hu hargs
        rw [h1]
        exact good_same hM h2
      | go fn es =>
        obtain ⟨hfn, hname⟩ := hfe
        obtain ⟨F, hFc, h⟩ := onOpt_ne h bad_ne
        obtain ⟨c, hbody, hFc⟩ := optB_eq_some hFc
        obtain ⟨x, hx, hFc⟩ := optB_eq_some hFc
        cases hFc
        obtain ⟨hle, h⟩ := cnd_ne h bad_ne
        have hrun : (callFunc f vals.toArray).run P w = .ok (.enter f vals.toArray) w := by
          have hname' : ¬ fn.name = "runtime.NumGoroutine" := by simpa using hname
          simp [callFunc, hfn, hname', hbody, Result.andThen]
        rw [hrun]
        have hcod := (comp_ok (esc := es) (nt := fn.ntmps) hTT hA ih hmix c x hx).1
        have hfr := entry_rel (esc := es) (nt := fn.ntmps) hargs (ble_nat hle)
        have hnb : x.code (callN P TT FT N) (N + 1) (mkE args es) m n ≠ .bad := by
          intro e; rw [e] at h; cases h
        have hw := hcod (N + 1) (mkE args es) m n w _ π hfr hM hf hnb
        refine calls_of_wp hfn hbody (wp_mono hw ?_)
        intro e a' w' hr
        have fin : ∀ E1 m1 n1, After π m w n es fn.ntmps E1 m1 n1 a' w' → finA TT es fn E1 m1 n1 = .ok v m' n' →
            a'.defers = [] ∧ ∃ u, (results fn a'.tmps).run P w' = .ok u w' ∧ ∃ v', Ending.returned u = .returned v' ∧ Rel' π m w n v m' n' v' w' := by
          intro E1 m1 n1 ⟨π', r1, r2, r3, r4⟩ hfin
          obtain ⟨vs, us, h1, h2, h3⟩ := resA_ok hTT r1 r2 (r := .ok v m' n') bad_ne fn.results.toList _ hfin
          rw [frc_eq] at h1
          obtain ⟨rfl, rfl, rfl⟩ := ok_inj h1
          refine ⟨r1.defers, _, ?_, _, rfl, π', one_rel h2, r2, r3⟩
          have hmap : (fn.results.mapM (m := Sem) (resF a'.tmps)).run P w' = .ok us.toArray w' := by
            rw [← Array.toArray_toList (xs := fn.results)]
            rw [List.mapM_toArray]
            simp only [Sem.run_map, h3]
            rfl
          have hres : results fn a'.tmps = (do let vs ← fn.results.mapM (m := Sem) (resF a'.tmps); pure (if h : vs.size = 1 then vs[0] else .tuple vs)) := by
            unfold results
            congr 1
          rw [hres, Sem.run_bind, hmap]
          rfl
        cases hq : x.code (callN P TT FT N) (N + 1) (mkE args es) m n with
        | bad => exact absurd hq hnb
        | normal E1 m1 n1 =>
          rw [hq] at hr h
          cases e <;> first | exact hr.elim | skip
          exact fin E1 m1 n1 hr h
        | ret E1 m1 n1 =>
          rw [hq] at hr h
          cases e <;> first | exact hr.elim | skip
          exact fin E1 m1 n1 hr h
        | exit i E1 m1 n1 => rw [hq] at h; cases h
        | goto i E1 m1 n1 => rw [hq] at h; cases h

end
end Go.Abs
namespace Go.Abs
set_option linter.unusedVariables false

/-- a fact of each row of a table -/
def Trie.All {α : Type} (p : Nat → α → Prop) : (Nat → Nat) → Trie α → Prop
  | _, .leaf => True
  | f, .node v l r => (∀ a, v = some a → p (f 0) a) ∧ Trie.All p (fun j => f (2 * j + 1)) l ∧ Trie.All p (fun j => f (2 * j + 2)) r

theorem Trie.All.get {α : Type} {p : Nat → α → Prop} : ∀ {t : Trie α} {f : Nat → Nat}, Trie.All p f t → ∀ k a, t.get k = some a → p (f k) a
  | .leaf, _, _, _, _, h => by cases h
  | .node v l r, f, ⟨h1, h2, h3⟩, 0, a, h => h1 a h
  | .node v l r, f, ⟨h1, h2, h3⟩, k + 1, a, h => by
    change cnd (Nat.beq (Nat.mod k 2) 0) (l.get (Nat.div k 2)) (r.get (Nat.div k 2)) = some a at h
    have hm : k % 2 = 0 ∨ k % 2 = 1 := by omega
    have hd : Nat.div k 2 = k / 2 := rfl
    cases hb : Nat.beq (Nat.mod k 2) 0 with
    | true =>
      rw [hb] at h
      have := Trie.All.get h2 (Nat.div k 2) a h
      have e : 2 * Nat.div k 2 + 1 = k + 1 := by have h0 : k % 2 = 0 := Nat.eq_of_beq_eq_true hb
                                                 omega
      rwa [e] at this
    | false =>
      rw [hb] at h
      have := Trie.All.get h3 (Nat.div k 2) a h
      have e : 2 * Nat.div k 2 + 2 = k + 1 := by have h0 : k % 2 ≠ 0 := fun e => by have : Nat.beq (Nat.mod k 2) 0 = true := by rw [show Nat.mod k 2 = 0 from e]; rfl
                                                                                    rw [this] at hb; cases hb
                                                 omega
      rwa [e] at this

/-- what is to be known of a type's row -/
def TyOk (P : Program) (t : Nat) (i : TI) : Prop := P.underlying t = some i.und ∧ ∃ ti z, P.info? t = some ti ∧ ti.size = i.size ∧ ti.bytes = i.bytes ∧ ti.zero = some z ∧ absScs z.cells.toList = some i.zero ∧ aggV z = isAggD i.und

theorem ttok_of {P : Program} {TT : Trie TI} (h : Trie.All (TyOk P) id TT) : TTok P TT ∧ TTagg P TT := by
  refine ⟨fun t i hi => ?_, fun t i hi ti z h1 h2 => ?_⟩
  · obtain ⟨h1, ti, z, h2, h3, h4, h5, h6, h7⟩ := h.get t i hi
    exact ⟨h1, ti, z, h2, h3, h4, h5, h6⟩
  · obtain ⟨_, ti', z', h2', _, _, h5, _, h7⟩ := h.get t i hi
    simp only [id_eq] at h2'
    rw [h1] at h2'; cases h2'
    rw [h2] at h5; cases h5
    exact h7

def FnOk (P : Program) (f : Nat) (e : FE) : Prop := match e with
  | .go fn _ => P.funcs[f]? = some fn ∧ (fn.name == "runtime.NumGoroutine") = false
  | .noEscape => ExtOk P f noEscA
  | .indexByte => ExtOk P f idxA

theorem ftok_of {P : Program} {FT : Trie FE} (h : Trie.All (FnOk P) id FT) : FTok P FT := fun f e he => h.get f e he

end Go.Abs
namespace Go.Abs
set_option linter.unusedVariables false

theorem ext_noEscape {P : Program} {f : Nat} {fn : Func} (hf : P.funcs[f]? = some fn) (hname : (fn.name == "runtime.NumGoroutine") = false) (hb : fn.body.isNone = true) (hn : Extern.findNext fn = none)
    (he : Extern.find fn = some Extern.AbiNoEscape.same) : ExtOk P f noEscA := by
  intro π args vals v w h hr
  match args, h with
  | [x], h =>
    cases h
    cases hr with
    | cons _ _ u us h1 h2 =>
    cases h2
    refine ⟨_, ?_, h1⟩
    rw [run_callFunc_standIn hf hname hb hn he]
    rfl

theorem indexA_eq (s : ByteArray) (c : Nat) (hc : c ≤ 255) : ∀ (k j : Nat), j + k = s.size → indexA c ((s.data.toList.drop j).map UInt8.toNat) j = (match (List.range' j k).find? fun i => s[i]! == c.toUInt8 with
    | some i => (i : Int)
    | none => -1) := by
  intro k
  induction k with
  | zero =>
    intro j hj
    have : s.data.toList.drop j = [] := List.drop_eq_nil_of_le (by simp; omega)
    rw [this]; rfl
  | succ k ih =>
    intro j hj
    have hlt : j < s.data.toList.length := by simp; omega
    rw [List.drop_eq_getElem_cons hlt, List.map_cons, List.range'_succ, List.find?_cons]
    have hb : s[j]! = s.data.toList[j] := by
      have : j < s.size := by omega
      simp [this]
      rfl
    simp only [indexA]
    have heq : Nat.beq (s.data.toList[j]).toNat c = (s[j]! == c.toUInt8) := by
      rw [hb, Bool.eq_iff_iff]
      constructor
      · intro h
        have := Nat.eq_of_beq_eq_true h
        simp [← this]
      · intro h
        have h1 : s.data.toList[j] = c.toUInt8 := by simpa using h
        rw [h1]
        have : (c.toUInt8).toNat = c := by simp; omega
        rw [this]; simp
    rw [heq]
    cases s[j]! == c.toUInt8 with
    | true => rfl
    | false => exact ih (j + 1) (by omega)

theorem ext_indexByte {P : Program} {f : Nat} {fn : Func} (hf : P.funcs[f]? = some fn) (hname : (fn.name == "runtime.NumGoroutine") = false) (hb : fn.body.isNone = true) (hn : Extern.findNext fn = none)
    (he : Extern.find fn = some Extern.BytealgIndexByte.indexByte) : ExtOk P f idxA := by
  intro π args vals v w h hr
  match args, h with
  | [.str l, .int k (.ofNat c)], h =>
    simp only [idxA] at h
    obtain ⟨hk, h⟩ := cndO h
    obtain ⟨hc, h⟩ := cndO h
    cases h
    cases hr with
    | cons _ _ u us h1 h2 =>
    cases h2 with
    | cons _ _ u' us' h3 h4 =>
    cases h4
    obtain ⟨s, rfl, rfl⟩ := h1.str_inv
    obtain ⟨j, hj, rfl⟩ := h3.int_inv
    have : j = .u8 := kid_inj (by rw [hj, beq_nat hk]; rfl)
    subst this
    refine ⟨.int .i64 (firstIdx s (Int.ofNat c).toNat.toUInt8), ?_, ?_⟩
    · rw [run_callFunc_indexByte hf hname hb hn he]
      show Result.andThen ((Extern.BytealgIndexByte.indexByte #[.string s, .int .u8 (Int.ofNat c)]).run P w) _ = _
      rw [run_indexByte_string]
      rfl
    · have h5 := indexA_eq s c (ble_nat hc) s.size 0 (by omega)
      rw [List.drop_zero] at h5
      rw [h5]
      have : firstIdx s ((Int.ofNat c).toNat.toUInt8) = (match (List.range' 0 s.size).find? fun i => s[i]! == c.toUInt8 with | some i => (i : Int) | none => -1) := by
        unfold firstIdx
        rw [List.range_eq_range']
        rfl
      rw [this]
      exact .int .i64 _

end Go.Abs
namespace Go.Abs
set_option linter.unusedVariables false

section
variable {P : Program} {C : CallR}

/-- what a call without arguments came to once, on nothing, it comes to anywhere: where it is no pointer -/
theorem once_anywhere {f : Nat} {v : AV} {m1 : Mem} {n1 : Nat} (hC : CSound P C) (h : C f [] .leaf 0 = .ok v m1 n1) (hg : ∀ π π' u, VRel π v u → VRel π' v u) {π : PMap} {m : Mem} {w : World} {n : Nat} (hM : MRel π m.get w) :
    Good P π m w n v m n ((callFunc f #[]).run P w) := by
  have h0 := hC f [] .leaf 0 v m1 n1 h (fun _ => none) w [] .nil ⟨(fun i o h => by cases h), (fun i j p q h => by cases h)⟩ fun _ _ => rfl
  have key : ∀ u w', Rel' (fun _ => none) .leaf w 0 v m1 n1 u w' → Rel' π m w n v m n u w' := by
    rintro u w' ⟨π', h1, h2, h3⟩
    have hk : ∀ b, b < w.heap.size → w'.heap[b]? = w.heap[b]? := fun b hb => h3.keep b hb fun i p hi hp => by cases hp
    refine ⟨π, hg _ _ _ h1, hM.world fun i p hi hp => hk _ (hM.lt hi hp), ⟨.refl π, fun i a b => absurd b a, h3.size, fun b hb _ => hk b hb, fun i p hi hp => .inr ⟨i, p, hi, hp, rfl⟩, h3.os, h3.tape, h3.output, Nat.le_refl _⟩⟩
  change Good P (fun _ => none) .leaf w 0 v m1 n1 ((callFunc f #[]).run P w) at h0
  generalize (callFunc f #[]).run P w = r at h0
  cases r with
  | ok x w1 =>
    cases x with
    | value u => exact key u w1 h0
    | skip => exact key undef w1 h0
    | enter g as =>
      refine Calls.mono h0 fun e w2 he => ?_
      obtain ⟨u, rfl, hr⟩ := he
      exact ⟨u, rfl, key u w2 hr⟩
    | _ => exact h0.elim
  | halt x w1 => exact h0.elim

/-- a call that is known already -/
noncomputable def withCall (f : Nat) (v : AV) (C : CallR) : CallR := fun g as m n => cnd (Nat.beq g f) (cnd (Nat.beq as.length 0) (.ok v m n) .bad) (C g as m n)

theorem withCall_ok {f : Nat} {v : AV} {C' : CallR} {m1 : Mem} {n1 : Nat} (hC : CSound P C) (hC' : CSound P C') (h : C f [] .leaf 0 = .ok v m1 n1) (hg : ∀ π π' u, VRel π v u → VRel π' v u) : CSound P (withCall f v C') := by
  intro g as m n v2 m' n' h2 π w vals hr hM hf
  unfold withCall at h2
  cases hb : Nat.beq g f with
  | false => rw [hb, cnd_false] at h2; exact hC' g as m n v2 m' n' h2 π w vals hr hM hf
  | true =>
    rw [hb, cnd_true] at h2
    obtain ⟨h3, h2⟩ := cnd_ne h2 bad_ne
    obtain ⟨rfl, rfl, rfl⟩ := ok_inj h2
    have has : as = [] := List.eq_nil_of_length_eq_zero (beq_nat h3)
    subst has
    cases hr
    have := beq_nat hb
    subst this
    exact once_anywhere hC h hg hM

theorem ground_bool (b : Bool) : ∀ (π π' : PMap) u, VRel π (.bool b) u → VRel π' (.bool b) u := fun π π' u h => by rw [h.bool_inv]; exact .bool b

end
end Go.Abs
namespace Go.Abs
set_option linter.unusedVariables false
set_option linter.unusedSimpArgs false

/-- code, done -/
noncomputable def runC (P : Program) (TT : Trie TI) (esc : List Nat) (nt : Nat) (c : Code) : CodF := fun C N E m n => onOpt (comp P TT esc nt c) .bad fun x => x.code C N E m n

/-- some blocks of a memory alone -/
noncomputable def keepB (m : Mem) (l : List Nat) : Mem := List.rec (motive := fun _ => Mem → Mem) (fun a => a) (fun i _ ih a => ih (a.put i (m.get i))) l .leaf
noncomputable def gcQ (l : List Nat) (q : Q) : Q := Q.rec (motive := fun _ => Q) .bad (fun E m n => .normal E (keepB m l) n) (fun E m n => .ret E (keepB m l) n) (fun i E m n => .exit i E (keepB m l) n) (fun i E m n => .goto i E (keepB m l) n) q

def Sub (m' m : Mem) : Prop := ∀ i o, m'.get i = some o → m.get i = some o

theorem keepB_sub (m : Mem) (l : List Nat) : Sub (keepB m l) m := by
  have h : ∀ (l : List Nat) (a : Mem), Sub a m → Sub (List.rec (motive := fun _ => Mem → Mem) (fun a => a) (fun i _ ih a => ih (a.put i (m.get i))) l a) m := by
    intro l
    induction l with
    | nil => exact fun a h => h
    | cons i l ih =>
      intro a h
      refine ih _ fun j o hj => ?_
      rw [Trie.get_put] at hj
      by_cases e : j = i
      · subst e; rw [if_pos rfl] at hj; exact hj
      · rw [if_neg e] at hj; exact h j o hj
  exact h l .leaf fun i o h => by cases h

section
variable {P : Program} {TT : Trie TI} {FT : Trie FE} {C : CallR} {esc : List Nat} {nt : Nat}

/-- from any start that stands for ours the code comes to what stands for that -/
def Trip (P : Program) (esc : List Nat) (nt : Nat) (c : Code) (E : List AV) (m : Mem) (n : Nat) (q : Q) : Prop :=
  ∀ w a π, FRel π esc nt E a → MRel π m.get w → Free π n → c.wp P (Res π m w n esc nt q) a w

theorem trip_of (hTT : TTok P TT) (hA : TTagg P TT) (hC : CSound P C) (hmix : P.follows .mixedOrders = true) {c : Code} {N : Nat} {E : List AV} {m : Mem} {n : Nat} {q : Q}
    (h : runC P TT esc nt c C N E m n = q) (hq : q ≠ .bad) : Trip P esc nt c E m n q := by
  intro w a π h1 h2 h3
  unfold runC at h
  cases hc : comp P TT esc nt c with
  | none => rw [hc] at h; exact absurd h.symm hq
  | some x =>
    rw [hc] at h
    simp only [onOpt_some] at h
    have := (comp_ok (esc := esc) (nt := nt) hTT hA hC hmix c x hc).1 N E m n w a π h1 h2 h3 (by rw [h]; exact hq)
    rwa [h] at this

theorem After.sub {π : PMap} {m m1 m2 : Mem} {w w' : World} {n n1 : Nat} {E1 : List AV} {a' : Act} (hs : Sub m2 m1) (h : After π m w n esc nt E1 m1 n1 a' w') : After π m w n esc nt E1 m2 n1 a' w' := by
  obtain ⟨π', r1, r2, r3, r4⟩ := h
  have hsome : ∀ i, (m2.get i).isSome → (m1.get i).isSome := by
    intro i hi
    cases hg : m2.get i with
    | none => rw [hg] at hi; cases hi
    | some o => rw [hs i o hg]; rfl
  exact ⟨π', r1, ⟨fun i o h => r2.obj i o (hs i o h), fun i j p q h1 h2 => r2.inj i j p q (hsome i h1) (hsome j h2)⟩,
    ⟨r3.ext, r3.dom, r3.size, r3.keep, fun i p h => r3.img i p (hsome i h), r3.os, r3.tape, r3.output, r3.le⟩, r4⟩

theorem Trip.gc {c : Code} {E : List AV} {m : Mem} {n : Nat} {q : Q} (l : List Nat) (h : Trip P esc nt c E m n q) : Trip P esc nt c E m n (gcQ l q) := by
  intro w a π h1 h2 h3
  refine wp_mono (h w a π h1 h2 h3) fun e a1 w1 hr => ?_
  cases q <;> cases e <;> first | exact hr.elim | exact After.sub (keepB_sub _ l) hr | exact ⟨hr.1, After.sub (keepB_sub _ l) hr.2⟩

theorem gc_ne {l : List Nat} {q : Q} (h : gcQ l q ≠ .bad) : q ≠ .bad := by intro e; subst e; exact h rfl

/-- a step of a chain: done, and what is no longer wanted let go -/
theorem trip_step (hTT : TTok P TT) (hA : TTagg P TT) (hC : CSound P C) (hmix : P.follows .mixedOrders = true) {c : Code} {N : Nat} {E : List AV} {m : Mem} {n : Nat} {q : Q} {l : List Nat}
    (h : gcQ l (runC P TT esc nt c C N E m n) = q) (hq : q ≠ .bad) : Trip P esc nt c E m n q := by
  rw [← h] at hq ⊢
  exact (trip_of hTT hA hC hmix rfl (gc_ne hq)).gc l

theorem Trip.seq {a b : Code} {E E1 : List AV} {m m1 : Mem} {n n1 : Nat} {q : Q} (h1 : Trip P esc nt a E m n (.normal E1 m1 n1)) (h2 : Trip P esc nt b E1 m1 n1 q) : Trip P esc nt (.seq a b) E m n q := by
  intro w act π f1 f2 f3
  refine wp_seq (wp_mono (h1 w act π f1 f2 f3) fun e a1 w1 hr => ?_)
  cases e <;> first | exact hr.elim | skip
  obtain ⟨π1, r1, r2, r3, r4⟩ := hr
  exact wp_mono (h2 w1 a1 π1 r1 r2 r4) fun e a2 w2 h => h.trans r3

theorem normal_ne {E : List AV} {m : Mem} {n : Nat} : Q.normal E m n ≠ .bad := by intro h; cases h
theorem ret_ne {E : List AV} {m : Mem} {n : Nat} : Q.ret E m n ≠ .bad := by intro h; cases h

/-- a call, out of its body -/
theorem good_of_trip (hTT : TTok P TT) {f : Nat} {fn : Func} {c : Code} {args : List AV} {m m1 m' : Mem} {n n1 n' : Nat} {E1 : List AV} {v : AV}
    (hfn : P.funcs[f]? = some fn) (hname : (fn.name == "runtime.NumGoroutine") = false) (hbody : fn.body = some c) (hle : args.length ≤ fn.ntmps)
    (h : Trip P esc fn.ntmps c (mkE args esc) m n (.ret E1 m1 n1)) (hfin : finA TT esc fn E1 m1 n1 = .ok v m' n') {π : PMap} {w : World} {vals : List Value} (hargs : VRels π args vals) (hM : MRel π m.get w) (hf : Free π n) :
    Good P π m w n v m' n' ((callFunc f vals.toArray).run P w) := by
  have hrun : (callFunc f vals.toArray).run P w = .ok (.enter f vals.toArray) w := by
    have hname' : ¬ fn.name = "runtime.NumGoroutine" := by simpa using hname
    simp [callFunc, hfn, hname', hbody, Result.andThen]
  rw [hrun]
  have hfr := entry_rel (esc := esc) (nt := fn.ntmps) hargs hle
  refine calls_of_wp hfn hbody (wp_mono (h w _ π hfr hM hf) ?_)
  intro e a' w' hr
  cases e <;> first | exact hr.elim | skip
  obtain ⟨π', r1, r2, r3, r4⟩ := hr
  obtain ⟨vs, us, h1, h2, h3⟩ := resA_ok hTT r1 r2 (r := .ok v m' n') bad_ne fn.results.toList _ hfin
  rw [frc_eq] at h1
  obtain ⟨rfl, rfl, rfl⟩ := ok_inj h1
  refine ⟨r1.defers, _, ?_, _, rfl, π', one_rel h2, r2, r3⟩
  have hmap : (fn.results.mapM (m := Sem) (resF a'.tmps)).run P w' = .ok us.toArray w' := by
    rw [← Array.toArray_toList (xs := fn.results)]
    rw [List.mapM_toArray]
    simp only [Sem.run_map, h3]
    rfl
  have hres : results fn a'.tmps = (do let vs ← fn.results.mapM (m := Sem) (resF a'.tmps); pure (if h : vs.size = 1 then vs[0] else .tuple vs)) := by
    unfold results
    congr 1
  rw [hres, Sem.run_bind, hmap]
  rfl

/-- what a call without arguments comes to on nothing, it comes to anywhere: where it is no pointer -/
theorem anywhere {f : Nat} {v : AV} {m1 : Mem} {n1 : Nat} (h0 : ∀ w, Good P (fun _ => none) .leaf w 0 v m1 n1 ((callFunc f #[]).run P w)) (hg : ∀ π π' u, VRel π v u → VRel π' v u) {π : PMap} {m : Mem} {w : World} {n : Nat} (hM : MRel π m.get w) :
    Good P π m w n v m n ((callFunc f #[]).run P w) := by
  have h0 := h0 w
  have key : ∀ u w', Rel' (fun _ => none) .leaf w 0 v m1 n1 u w' → Rel' π m w n v m n u w' := by
    rintro u w' ⟨π', h1, h2, h3⟩
    have hk : ∀ b, b < w.heap.size → w'.heap[b]? = w.heap[b]? := fun b hb => h3.keep b hb fun i p hi hp => by cases hp
    refine ⟨π, hg _ _ _ h1, hM.world fun i p hi hp => hk _ (hM.lt hi hp), ⟨.refl π, fun i a b => absurd b a, h3.size, fun b hb _ => hk b hb, fun i p hi hp => .inr ⟨i, p, hi, hp, rfl⟩, h3.os, h3.tape, h3.output, Nat.le_refl _⟩⟩
  generalize (callFunc f #[]).run P w = r at h0
  cases r with
  | ok x w1 =>
    cases x with
    | value u => exact key u w1 h0
    | skip => exact key undef w1 h0
    | enter g as =>
      refine Calls.mono h0 fun e w2 he => ?_
      obtain ⟨u, rfl, hr⟩ := he
      exact ⟨u, rfl, key u w2 hr⟩
    | _ => exact h0.elim
  | halt x w1 => exact h0.elim

theorem withCall_ok' {f : Nat} {v : AV} {C' : CallR} {m1 : Mem} {n1 : Nat} (hC' : CSound P C') (h0 : ∀ w, Good P (fun _ => none) .leaf w 0 v m1 n1 ((callFunc f #[]).run P w)) (hg : ∀ π π' u, VRel π v u → VRel π' v u) : CSound P (withCall f v C') := by
  intro g as m n v2 m' n' h2 π w vals hr hM hf
  unfold withCall at h2
  cases hb : Nat.beq g f with
  | false => rw [hb, cnd_false] at h2; exact hC' g as m n v2 m' n' h2 π w vals hr hM hf
  | true =>
    rw [hb, cnd_true] at h2
    obtain ⟨h3, h2⟩ := cnd_ne h2 bad_ne
    obtain ⟨rfl, rfl, rfl⟩ := ok_inj h2
    have has : as = [] := List.eq_nil_of_length_eq_zero (beq_nat h3)
    subst has
    cases hr
    have := beq_nat hb
    subst this
    exact anywhere h0 hg hM

end
end Go.Abs
