/-
  A part of the proof: see the last text.
-/
import Derived.Test.YtbjcefejalifeacGreatDoorD
set_option linter.unusedVariables false
set_option linter.unusedSimpArgs false
namespace Go.Abs
set_option linter.unusedVariables false
set_option linter.unusedSimpArgs false

/-! what a region knows on its way, by any relation of a value to a slot -/
structure CxG (Rl : AV → Nat → Prop) (x : Cx) (E K : List AV) : Prop where
  len : E.length = x.esc.length
  slot : ∀ t p, posOf t 0 x.esc = some p → Rl (back p E) t
  last : ∀ t s, lastOf t x.prev = some s → Rl (srcV E K x.len s) t
  res : ∀ d s, (d, s) ∈ x.prev → SrcOk x s

theorem CxG.push {Rl Rl' : AV → Nat → Prop} {x : Cx} {E K : List AV} (h : CxG Rl x E K) {d : Option Nat} {v : AV}
    (hn : ∀ t, d = some t → Rl' v t) (hk : ∀ t u, d ≠ some t → Rl u t → Rl' u t) (hd : ∀ t, d = some t → Nat.testBit x.all t = true) :
    CxG Rl' (x.push d) (putD E (keptOf x.esc d) v) (v :: K) := by
  have hslot : ∀ t p, posOf t 0 x.esc = some p → back p (putD E (keptOf x.esc d) v) = if d = some t then v else back p E := by
    intro t p hp
    rw [keptOf_eq]
    cases d with
    | none => simp [putD, onOpt]
    | some e =>
      simp only [Option.bind_some, Option.some.injEq]
      by_cases het : e = t
      · subst het
        rw [hp, if_pos rfl]
        simp only [putD, onOpt]
        have := posOf_spec hp
        exact back_setL v p E (by rw [h.len]; omega)
      · rw [if_neg het]
        cases hpe : posOf e 0 x.esc with
        | none => simp [putD, onOpt]
        | some q =>
          simp only [putD, onOpt]
          refine back_setL_ne v q p E ?_
          intro hqp
          subst hqp
          exact het (posOf_inj hpe hp)
  have hkeep : ∀ s, SrcOk x s → srcV (putD E (keptOf x.esc d) v) (v :: K) (x.len + 1) s = srcV E K x.len s := by
    intro s hs
    cases s with
    | res p =>
      simp only [SrcOk] at hs
      show back (x.len + 1 - 1 - p) (v :: K) = back (x.len - 1 - p) K
      rw [show x.len + 1 - 1 - p = (x.len - 1 - p) + 1 by omega, back_cons]
    | slot p =>
      obtain ⟨t, ht, hb⟩ := hs
      show back p _ = back p E
      rw [hslot t p ht, if_neg]
      intro e
      have := hd t e
      rw [hb] at this; cases this
    | const c => rfl
  refine ⟨?_, ?_, ?_, ?_⟩
  · show _ = x.esc.length
    rw [← h.len]
    cases keptOf x.esc d with
    | none => rfl
    | some p => exact setL_length v p E
  · intro t p hp
    rw [hslot t p hp]
    by_cases e : d = some t
    · rw [if_pos e]; exact hn t e
    · rw [if_neg e]; exact hk t _ e (h.slot t p hp)
  · intro t s hs
    change lastOf t ((d, .res x.len) :: x.prev) = some s at hs
    rw [lastOf_cons] at hs
    by_cases e : d = some t
    · rw [if_pos e] at hs
      cases hs
      show Rl' (back (x.len + 1 - 1 - x.len) (v :: K)) t
      rw [show x.len + 1 - 1 - x.len = 0 by omega]
      exact hn t e
    · rw [if_neg e] at hs
      obtain ⟨d', hm⟩ := lastOf_mem hs
      show Rl' (srcV _ (v :: K) (x.len + 1) s) _
      rw [hkeep s (h.res _ _ hm)]
      exact hk t _ e (h.last t s hs)
  · intro d' s hm
    change (d', s) ∈ (d, .res x.len) :: x.prev at hm
    rcases List.mem_cons.1 hm with e | hm
    · cases e
      show x.len < x.len + 1
      omega
    · have := h.res _ _ hm
      cases s with
      | res p => show p < x.len + 1; have : p < x.len := this; omega
      | slot p => exact this
      | const c => trivial

theorem CxG.alias {Rl Rl' : AV → Nat → Prop} {x : Cx} {E K : List AV} (h : CxG Rl x E K) {d : Option Nat} {s : Src}
    (hn : ∀ t, d = some t → Rl' (srcV E K x.len s) t) (hk : ∀ t u, d ≠ some t → Rl u t → Rl' u t) (hs : SrcOk x s) (hkept : keptOf x.esc d = none) :
    CxG Rl' (x.alias d s) E K := by
  refine ⟨h.len, ?_, ?_, ?_⟩
  · intro t p hp
    refine hk t _ ?_ (h.slot t p hp)
    intro e
    have hp' : posOf t 0 x.esc = some p := hp
    rw [keptOf_eq, e] at hkept
    simp [hp'] at hkept
  · intro t r hr
    change lastOf t ((d, s) :: x.prev) = some r at hr
    rw [lastOf_cons] at hr
    by_cases e : d = some t
    · rw [if_pos e] at hr
      cases hr
      exact hn t e
    · rw [if_neg e] at hr
      exact hk t _ e (h.last t r hr)
  · intro d' r hm
    change (d', r) ∈ (d, s) :: x.prev at hm
    rcases List.mem_cons.1 hm with e | hm
    · cases e; exact hs
    · exact h.res _ _ hm

/-! how a region went, operation by operation -/
structure St where
  x : Cx
  E : List AV
  K : List AV
  m : Mem
  n : Nat
  pd : Pend

def Wants (E K : List AV) (g : Option (Opd × Bool)) : Prop := g = none ∨ ∃ y b, g = some (y, b) ∧ ev E K y = .bool b
def WantsNot (E K : List AV) (g : Option (Opd × Bool)) : Prop := ∃ y b, g = some (y, b) ∧ (ev E K y = .bool (!b) ∨ ∃ l, ev E K y = .tup l)

theorem onWant_ne {β : Type} {E K : List AV} {g : Option (Opd × Bool)} {d x y r : β} (h : onWant E K g d x y = r) (hd : d ≠ r) : (Wants E K g ∧ x = r) ∨ (WantsNot E K g ∧ y = r) := by
  cases g with
  | none => exact .inl ⟨.inl rfl, h⟩
  | some g =>
    obtain ⟨z, b⟩ := g
    simp only [onWant, onOpt] at h
    cases hz : ev E K z <;> rw [hz] at h <;> simp only [onGd] at h <;> first | exact absurd h hd | skip
    · rename_i c
      cases b <;> cases c <;> simp only [cnd] at h
      · exact .inl ⟨.inr ⟨z, false, rfl, hz⟩, h⟩
      · exact .inr ⟨⟨z, false, rfl, .inl hz⟩, h⟩
      · exact .inr ⟨⟨z, true, rfl, .inl hz⟩, h⟩
      · exact .inl ⟨.inr ⟨z, true, rfl, hz⟩, h⟩
    · rename_i l
      exact .inr ⟨⟨z, b, rfl, .inr ⟨l, hz⟩⟩, h⟩

section
variable (P : Program) (TT : Trie TI) (C : CallR) (n0 : Nat)

/-- one operation's part: what it was ahead; what it came to; what it did; the block that it made; what was then -/
inductive StepT (i : Nat) (o : Oper) (an : Nat) : St → AV → Ent → Option AObj → St → Prop
  | alias (S : St) (s : Src) : aliasOf S.x o = some s → StepT i o an S (srcV S.E S.K S.x.len s) (noEnt an S.m) none { S with x := S.x.alias o.dst s }
  | skip (S : St) (g : Option (Opd × Bool)) : aliasOf S.x o = none → compGuard S.x i o.guard = some g → WantsNot S.E S.K g →
      StepT i o an S undefA (noEnt an S.m) none ⟨S.x.push o.dst, putD S.E (keptOf S.x.esc o.dst) undefA, undefA :: S.K, S.m, S.n, S.pd⟩
  | look (S : St) (g : Option (Opd × Bool)) (f : OpF) (v : AV) (m' : Mem) (n' : Nat) : aliasOf S.x o = none → compGuard S.x i o.guard = some g → Wants S.E S.K g → compOpB P TT S.x o.op = some f →
      kindOf o.op ≠ 2 → kindOf o.op ≠ 3 → f C S.E S.K S.m S.n = .ok v m' n' →
      StepT i o an S v ⟨kindOf o.op, an, fun m => f C S.E S.K m S.n, v, S.m, S.m⟩ none ⟨S.x.push o.dst, putD S.E (keptOf S.x.esc o.dst) v, v :: S.K, S.m, S.n, S.pd⟩
  | make (S : St) (g : Option (Opd × Bool)) (f : OpF) (v : AV) (m' : Mem) (n' : Nat) (ob : AObj) : aliasOf S.x o = none → compGuard S.x i o.guard = some g → Wants S.E S.K g → compOpB P TT S.x o.op = some f →
      kindOf o.op = 2 → f C S.E S.K .leaf (n0 + i) = .ok v m' n' → m'.get (n0 + i) = some ob →
      StepT i o an S v (noEnt an S.m) (some ob) ⟨S.x.push o.dst, putD S.E (keptOf S.x.esc o.dst) v, v :: S.K, S.m, S.n, (i, n0 + i, ob) :: S.pd⟩
  | eff (S : St) (g : Option (Opd × Bool)) (f : OpF) (v : AV) (m' : Mem) (n' : Nat) : aliasOf S.x o = none → compGuard S.x i o.guard = some g → Wants S.E S.K g → compOpB P TT S.x o.op = some f →
      kindOf o.op = 3 → f C S.E S.K (flushM an S.m S.pd) S.n = .ok v m' n' →
      StepT i o an S v ⟨3, an, fun m => f C S.E S.K m S.n, v, S.m, m'⟩ none ⟨S.x.push o.dst, putD S.E (keptOf S.x.esc o.dst) v, v :: S.K, m', n', flushR an S.pd⟩

structure TrE where
  S : St
  v : AV
  e : Ent
  ob : Option AObj

inductive Chain : Nat → List Oper → List Nat → St → List TrE → St → Prop
  | nil (i : Nat) (S : St) : Chain i [] [] S [] S
  | cons (i : Nat) (o : Oper) (an : Nat) (l : List Oper) (as : List Nat) (S S1 S2 : St) (v : AV) (e : Ent) (mk : Option AObj) (ts : List TrE) :
      StepT P TT C n0 i o an S v e mk S1 → Chain (i + 1) l as S1 ts S2 → Chain i (o :: l) (an :: as) S (⟨S, v, e, mk⟩ :: ts) S2
end

section
variable {P : Program} {TT : Trie TI} {C : CallR} {n0 : Nat}

theorem kindOf_le (o : Op) : kindOf o ≤ 3 := by
  cases o <;> simp only [kindOf] <;> first | omega | skip
  split <;> first | omega | (split <;> omega)

theorem run_chain {kk : List AV → Mem → Nat → List Ent → Q} {r : Q} (hr : .bad ≠ r) : ∀ (l : List Oper) (as : List Nat) (i : Nat) (x : Cx) (ros : List RO) (E K : List AV) (m : Mem) (n : Nat) (pd : Pend) (acc : List Ent),
    compOps P TT as i x l = some ros → as.length = l.length → runT C n0 kk ros i E K m n pd acc = r →
    ∃ ts S', Chain P TT C n0 i l as ⟨x, E, K, m, n, pd⟩ ts S' ∧ kk S'.E (flushAll S'.m S'.pd) S'.n ((ts.map (·.e)).reverse ++ acc) = r := by
  intro l
  induction l with
  | nil =>
    intro as i x ros E K m n pd acc hc hl h
    cases as with
    | cons _ _ => simp at hl
    | nil =>
      cases hc
      exact ⟨[], _, .nil _ _, h⟩
  | cons o l ih =>
    intro as i x ros E K m n pd acc hc hl h
    cases as with
    | nil => simp at hl
    | cons an as =>
    simp only [compOps] at hc
    have hl' : as.length = l.length := by simpa using hl
    cases hal : aliasOf x o with
    | some s =>
      rw [hal] at hc
      obtain ⟨rs, hrs, hc⟩ := optB_eq_some hc
      cases hc
      simp only [runT, onOpt] at h
      obtain ⟨ts, S', h1, h2⟩ := ih as (i + 1) (x.alias o.dst s) rs E K m n pd _ hrs hl' h
      exact ⟨_, S', .cons i o an l as _ _ S' _ _ _ ts (.alias ⟨x, E, K, m, n, pd⟩ s hal) h1, by simpa using h2⟩
    | none =>
      rw [hal] at hc
      obtain ⟨f, hf, hc⟩ := optB_eq_some hc
      obtain ⟨g, hg, hc⟩ := optB_eq_some hc
      obtain ⟨rs, hrs, hc⟩ := optB_eq_some hc
      rw [frc_eq] at hc
      cases hc
      simp only [runT, onOpt] at h
      rcases onWant_ne h hr with ⟨hw, h⟩ | ⟨hw, h⟩
      · have hkl := kindOf_le o.op
        cases hb1 : Nat.ble (kindOf o.op) 1 with
        | true =>
          rw [hb1, cnd_true] at h
          have hle := ble_nat hb1
          cases hy : f C E K m n with
          | bad => rw [hy] at h; exact absurd h hr
          | ok v m' n' =>
            rw [hy] at h
            simp only [onRQ] at h
            obtain ⟨ts, S', h1, h2⟩ := ih as (i + 1) (x.push o.dst) rs _ _ _ _ _ _ hrs hl' h
            exact ⟨_, S', .cons i o an l as _ _ S' _ _ _ ts (.look ⟨x, E, K, m, n, pd⟩ g f v m' n' hal hg hw hf (by omega) (by omega) hy) h1, by simpa using h2⟩
        | false =>
          rw [hb1, cnd_false] at h
          have hnle : ¬ kindOf o.op ≤ 1 := fun e => by rw [Nat.ble_eq.mpr e] at hb1; cases hb1
          cases hb2 : Nat.beq (kindOf o.op) 2 with
          | true =>
            rw [hb2, cnd_true] at h
            have hk := beq_nat hb2
            cases hy : f C E K .leaf (n0 + i) with
            | bad => rw [hy] at h; exact absurd h hr
            | ok v m' n' =>
              rw [hy] at h
              simp only [onRQ] at h
              cases hob : m'.get (n0 + i) with
              | none => rw [hob] at h; exact absurd h hr
              | some ob =>
                rw [hob] at h
                obtain ⟨ts, S', h1, h2⟩ := ih as (i + 1) (x.push o.dst) rs _ _ _ _ _ _ hrs hl' h
                exact ⟨_, S', .cons i o an l as _ _ S' _ _ _ ts (.make ⟨x, E, K, m, n, pd⟩ g f v m' n' ob hal hg hw hf hk hy hob) h1, by simpa using h2⟩
          | false =>
            rw [hb2, cnd_false] at h
            have hk2 := beqF hb2
            have hk : kindOf o.op = 3 := by omega
            cases hy : f C E K (flushM an m pd) n with
            | bad => rw [hy] at h; exact absurd h hr
            | ok v m' n' =>
              rw [hy] at h
              simp only [onRQ, frc_eq] at h
              obtain ⟨ts, S', h1, h2⟩ := ih as (i + 1) (x.push o.dst) rs _ _ _ _ _ _ hrs hl' h
              exact ⟨_, S', .cons i o an l as _ _ S' _ _ _ ts (.eff ⟨x, E, K, m, n, pd⟩ g f v m' n' hal hg hw hf hk hy) h1, by simpa using h2⟩
      · obtain ⟨ts, S', h1, h2⟩ := ih as (i + 1) (x.push o.dst) rs _ _ _ _ _ _ hrs hl' h
        exact ⟨_, S', .cons i o an l as _ _ S' _ _ _ ts (.skip ⟨x, E, K, m, n, pd⟩ g hal hg hw) h1, by simpa using h2⟩

/-- the state ahead of an operation -/
def stAt (ts : List TrE) (S : St) (j : Nat) : St := match ts[j]? with | some t => t.S | none => S

theorem chain_at {i : Nat} {l : List Oper} {as : List Nat} {S S' : St} {ts : List TrE} (h : Chain P TT C n0 i l as S ts S') :
    ts.length = l.length ∧ as.length = l.length ∧ stAt ts S' 0 = S ∧ ∀ j (o : Oper), l[j]? = some o → ∃ an t, as[j]? = some an ∧ ts[j]? = some t ∧ t.S = stAt ts S' j ∧ StepT P TT C n0 (i + j) o an (stAt ts S' j) t.v t.e t.ob (stAt ts S' (j + 1)) := by
  induction h with
  | nil i S => exact ⟨rfl, rfl, rfl, fun j o h => by simp at h⟩
  | cons i o an l as S S1 S2 v e mk ts hs hc ih =>
    obtain ⟨h1, h2, h3, h4⟩ := ih
    refine ⟨by simp [h1], by simp [h2], rfl, fun j o' ho => ?_⟩
    cases j with
    | zero =>
      simp only [List.getElem?_cons_zero, Option.some.injEq] at ho
      subst ho
      refine ⟨an, _, rfl, rfl, rfl, ?_⟩
      have e1 : stAt (⟨S, v, e, mk⟩ :: ts) S2 (0 + 1) = S1 := h3
      rw [e1]
      exact hs
    | succ j =>
      simp only [List.getElem?_cons_succ] at ho
      obtain ⟨an', t, a1, a2, a3, a4⟩ := h4 j o' ho
      refine ⟨an', t, by simpa using a1, by simpa using a2, ?_, ?_⟩
      · rw [a3]; simp [stAt]
      · rw [show i + (j + 1) = i + 1 + j by omega]
        have e1 : stAt (⟨S, v, e, mk⟩ :: ts) S2 (j + 1) = stAt ts S2 j := by simp [stAt]
        have e2 : stAt (⟨S, v, e, mk⟩ :: ts) S2 (j + 1 + 1) = stAt ts S2 (j + 1) := by simp [stAt]
        rw [e1, e2]
        exact a4

end
end Go.Abs
namespace Go.Abs
set_option linter.unusedVariables false
set_option linter.unusedSimpArgs false

theorem bit_or {a b k : Nat} : Nat.testBit (Nat.lor a b) k = (Nat.testBit a k || Nat.testBit b k) := Nat.testBit_or a b k
theorem bit_one {j k : Nat} : Nat.testBit (Nat.shiftLeft 1 j) k = decide (j = k) := by
  show Nat.testBit (1 <<< j) k = _
  rw [Nat.one_shiftLeft, Nat.testBit_two_pow]
theorem land_zero {a b k : Nat} (h : Nat.beq (Nat.land a b) 0 = true) (ha : Nat.testBit a k = true) (hb : Nat.testBit b k = true) : False := by
  have h0 : a &&& b = 0 := beq_nat h
  have h1 := Nat.testBit_and a b k
  rw [h0, ha, hb] at h1
  simp at h1

def Uses (ops : Array Oper) (o : Oper) (t : Nat) : Prop := Operand.tmp t ∈ o.op.operands.toList ∨ ∃ g want ob, o.guard = some (g, want) ∧ ops[g]? = some ob ∧ ob.dst = some t

theorem ancOf_spec {anc : List Nat} {i : Nat} : ∀ {l : List Edge} {r : Nat}, ancOf anc i l = some r →
    (∀ e ∈ l, bindsB e = true → e.on < i) ∧ ∀ k, Nat.testBit r k = true → ∃ e ∈ l, bindsB e = true ∧ (e.on = k ∨ ∃ b, anc[i - 1 - e.on]? = some b ∧ Nat.testBit b k = true)
  | [], r, h => by
    cases h
    exact ⟨by simp, fun k hk => by simp at hk⟩
  | e :: l, r, h => by
    obtain ⟨r', hr', h⟩ := optB_eq_some h
    obtain ⟨ih1, ih2⟩ := ancOf_spec hr'
    cases hb : bindsB e with
    | false =>
      rw [hb] at h; cases h
      refine ⟨fun e' he' hb' => ?_, fun k hk => ?_⟩
      · rcases List.mem_cons.1 he' with rfl | he'
        · rw [hb] at hb'; cases hb'
        · exact ih1 e' he' hb'
      · obtain ⟨e', a, b, c⟩ := ih2 k hk
        exact ⟨e', List.mem_cons_of_mem _ a, b, c⟩
    | true =>
      rw [hb, cnd_true] at h
      obtain ⟨hlt, h⟩ := cndO h
      have hlt : e.on < i := by have : e.on + 1 ≤ i := by simpa [Nat.blt, Nat.ble_eq] using hlt
                                omega
      obtain ⟨a, ha, h⟩ := optB_eq_some h
      rw [frc_eq] at h; cases h
      refine ⟨fun e' he' hb' => ?_, fun k hk => ?_⟩
      · rcases List.mem_cons.1 he' with rfl | he'
        · exact hlt
        · exact ih1 e' he' hb'
      · rw [bit_or, bit_or, bit_one, Bool.or_eq_true, Bool.or_eq_true] at hk
        rcases hk with (hk | hk) | hk
        · exact ⟨e, List.mem_cons_self, hb, .inl (of_decide_eq_true hk)⟩
        · exact ⟨e, List.mem_cons_self, hb, .inr ⟨a, ha, hk⟩⟩
        · obtain ⟨e', a, b, c⟩ := ih2 k hk
          exact ⟨e', List.mem_cons_of_mem _ a, b, c⟩

theorem ancs_spec : ∀ {l : List Oper} {i : Nat} {anc r : List Nat}, ancs i anc l = some r → anc.length = i →
    r.length = i + l.length ∧ r.drop l.length = anc ∧ ∀ (j : Nat) (o : Oper), l[j]? = some o → ∃ a, r[l.length - 1 - j]? = some a ∧ ancOf (r.drop (l.length - j)) (i + j) o.after.toList = some a
  | [], i, anc, r, h, hl => by
    cases h
    exact ⟨by simpa using hl, rfl, fun j o h => by simp at h⟩
  | o :: l, i, anc, r, h, hl => by
    obtain ⟨a, ha, h⟩ := optB_eq_some h
    obtain ⟨h1, h2, h3⟩ := ancs_spec h (by simp [hl])
    have hdrop : r.drop (l.length + 1) = anc := by
      rw [← List.drop_drop, h2]; rfl
    refine ⟨by simp only [List.length_cons]; omega, hdrop, fun j o' ho => ?_⟩
    cases j with
    | zero =>
      simp only [List.getElem?_cons_zero, Option.some.injEq] at ho
      subst ho
      refine ⟨a, ?_, ?_⟩
      · have : (r.drop l.length)[0]? = some a := by rw [h2]; rfl
        rw [List.getElem?_drop] at this
        simpa using this
      · simp only [List.length_cons, Nat.sub_zero, Nat.add_zero]
        rw [hdrop]
        exact ha
    | succ j =>
      simp only [List.getElem?_cons_succ] at ho
      obtain ⟨b, hb1, hb2⟩ := h3 j o' ho
      refine ⟨b, ?_, ?_⟩
      · rw [← hb1]; congr 1; simp only [List.length_cons]; omega
      · rw [show i + (j + 1) = i + 1 + j by omega, show (o :: l).length - (j + 1) = l.length - j by simp]
        exact hb2

theorem apartOne_spec {aj uj dj : Nat} : ∀ {us : List (Nat × Nat)} {i : Nat}, apartOne aj uj dj i us = true → ∀ k (p : Nat × Nat), us[k]? = some p →
    Nat.beq (Nat.land dj p.2) 0 = true ∧ (Nat.testBit aj (i + k) = true ∨ (Nat.beq (Nat.land dj p.1) 0 = true ∧ Nat.beq (Nat.land uj p.2) 0 = true))
  | [], _, _, k, p, hk => by simp at hk
  | q :: us, i, h, k, p, hk => by
    simp only [apartOne] at h
    obtain ⟨h1, h⟩ := cnd_ne h (by simp)
    have key : (Nat.testBit aj i = true ∨ (Nat.beq (Nat.land dj q.1) 0 = true ∧ Nat.beq (Nat.land uj q.2) 0 = true)) ∧ apartOne aj uj dj (i + 1) us = true := by
      cases hb : Nat.testBit aj i with
      | true => rw [hb] at h; exact ⟨.inl rfl, h⟩
      | false =>
        rw [hb, cnd_false] at h
        obtain ⟨h2, h⟩ := cnd_ne h (by simp)
        obtain ⟨h3, h⟩ := cnd_ne h (by simp)
        exact ⟨.inr ⟨h2, h3⟩, h⟩
    cases k with
    | zero =>
      simp only [List.getElem?_cons_zero, Option.some.injEq] at hk
      subst hk
      exact ⟨h1, key.1⟩
    | succ k =>
      simp only [List.getElem?_cons_succ] at hk
      have := apartOne_spec key.2 k p hk
      rw [show i + (k + 1) = i + 1 + k by omega]
      exact this

theorem apartAll_spec : ∀ {m : List (Nat × Nat)} {l : List Nat} {us : List (Nat × Nat)}, apartAll us m l = true → ∀ j u a, m[j]? = some u → l[j]? = some a → apartOne a u.1 u.2 0 (us ++ m.take j) = true
  | [], _, _, _, j, u, a, hu, _ => by simp at hu
  | u0 :: m, [], _, h, _, _, _, _, _ => by cases h
  | u0 :: m, a0 :: l, us, h, j, u, a, hu, ha => by
    simp only [apartAll] at h
    obtain ⟨h1, h⟩ := cnd_ne h (by simp)
    cases j with
    | zero =>
      simp only [List.getElem?_cons_zero, Option.some.injEq] at hu ha
      subst hu ha
      simpa using h1
    | succ j =>
      simp only [List.getElem?_cons_succ] at hu ha
      have := apartAll_spec h j u a hu ha
      simpa using this

theorem usesOf_spec {all : List Oper} : ∀ {l : List Oper} {us : List (Nat × Nat)}, usesOf all l = some us →
    us.length = l.length ∧ ∀ (j : Nat) (o : Oper), l[j]? = some o → ∃ g, guardBit all o.guard = some g ∧ us[j]? = some (Nat.lor (useOpds o.op.operands.toList) g, dstBit o.dst)
  | [], us, h => by cases h; exact ⟨rfl, fun j o h => by simp at h⟩
  | o :: l, us, h => by
    obtain ⟨g, hg, h⟩ := optB_eq_some h
    obtain ⟨r, hr, h⟩ := optB_eq_some h
    cases h
    obtain ⟨h1, h2⟩ := usesOf_spec hr
    refine ⟨by simp [h1], fun j o' ho => ?_⟩
    cases j with
    | zero =>
      simp only [List.getElem?_cons_zero, Option.some.injEq] at ho
      subst ho
      exact ⟨g, hg, rfl⟩
    | succ j =>
      simp only [List.getElem?_cons_succ] at ho
      obtain ⟨g', a, b⟩ := h2 j o' ho
      exact ⟨g', a, by simpa using b⟩

theorem useOpds_bit {t : Nat} : ∀ {l : List Operand}, Operand.tmp t ∈ l → Nat.testBit (useOpds l) t = true
  | [], h => by simp at h
  | y :: l, h => by
    simp only [useOpds, bit_or, Bool.or_eq_true]
    rcases List.mem_cons.1 h with e | h
    · subst e
      exact .inl (by simp only [useOpd, bit_one, decide_true])
    · exact .inr (useOpds_bit h)

theorem uses_bit {ops : Array Oper} {o : Oper} {t g : Nat} (hg : guardBit ops.toList o.guard = some g) (h : Uses ops o t) : Nat.testBit (Nat.lor (useOpds o.op.operands.toList) g) t = true := by
  rw [bit_or, Bool.or_eq_true]
  rcases h with h | ⟨j, want, ob, h1, h2, h3⟩
  · exact .inl (useOpds_bit h)
  · right
    rw [h1] at hg
    obtain ⟨ob', ho, hg⟩ := optB_eq_some hg
    have : ob' = ob := by
      have h2' : ops.toList[j]? = some ob := by simpa using h2
      rw [h2'] at ho; cases ho; rfl
    subst this
    obtain ⟨d, hd, hg⟩ := optB_eq_some hg
    rw [h3] at hd; cases hd
    cases hg
    rw [bit_one, decide_eq_true_eq]

theorem dst_bit {d : Option Nat} {t : Nat} (h : d = some t) : Nat.testBit (dstBit d) t = true := by
  subst h
  simp only [dstBit, bit_one, decide_true]

structure Static (ops : Array Oper) (as : List Nat) : Prop where
  len : as.length = ops.size
  ord : ∀ (j : Nat) (o : Oper) (a : Nat), ops[j]? = some o → as[j]? = some a → (∀ e ∈ o.after, bindsB e = true → e.on < j) ∧
    ∀ k, Nat.testBit a k = true → ∃ e ∈ o.after, bindsB e = true ∧ (e.on = k ∨ ∃ b, as[e.on]? = some b ∧ Nat.testBit b k = true)
  one : ∀ (i j : Nat) (oi oj : Oper) (t : Nat), i < j → ops[i]? = some oi → ops[j]? = some oj → oi.dst = some t → oj.dst ≠ some t
  apart : ∀ (i j : Nat) (oi oj : Oper) (a t : Nat), i < j → ops[i]? = some oi → ops[j]? = some oj → as[j]? = some a → Nat.testBit a i = false →
    (oj.dst = some t → ¬ Uses ops oi t) ∧ (oi.dst = some t → ¬ Uses ops oj t)

theorem static_of {ops : Array Oper} {anc : List Nat} {us : List (Nat × Nat)} (h1 : ancs 0 [] ops.toList = some anc) (h2 : usesOf ops.toList ops.toList = some us) (h3 : apartAll [] us anc.reverse = true) :
    Static ops anc.reverse := by
  obtain ⟨a1, a2, a3⟩ := ancs_spec h1 rfl
  obtain ⟨b1, b2⟩ := usesOf_spec h2
  have hN : ops.toList.length = ops.size := Array.length_toList
  have hat : ∀ k, k < ops.size → anc.reverse[k]? = anc[ops.size - 1 - k]? := fun k hk => by
    rw [List.getElem?_reverse (by omega)]
    congr 1
    omega
  have hpair : ∀ (i j : Nat) (oi oj : Oper) (a : Nat), i < j → ops[i]? = some oi → ops[j]? = some oj → anc.reverse[j]? = some a → ∃ ui uj gi gj, guardBit ops.toList oi.guard = some gi ∧ guardBit ops.toList oj.guard = some gj ∧
      ui = Nat.lor (useOpds oi.op.operands.toList) gi ∧ uj = Nat.lor (useOpds oj.op.operands.toList) gj ∧
      Nat.beq (Nat.land (dstBit oj.dst) (dstBit oi.dst)) 0 = true ∧ (Nat.testBit a i = true ∨ (Nat.beq (Nat.land (dstBit oj.dst) ui) 0 = true ∧ Nat.beq (Nat.land uj (dstBit oi.dst)) 0 = true)) := by
    intro i j oi oj a hij hi hj ha
    obtain ⟨gi, e1, e2⟩ := b2 i oi (by simpa using hi)
    obtain ⟨gj, e3, e4⟩ := b2 j oj (by simpa using hj)
    have h5 := apartAll_spec h3 j _ a e4 ha
    have h6 := apartOne_spec h5 i _ (by rw [List.nil_append, List.getElem?_take, if_pos hij]; exact e2)
    rw [Nat.zero_add] at h6
    exact ⟨_, _, gi, gj, e1, e3, rfl, rfl, h6.1, h6.2⟩
  refine ⟨by simp [a1], ?_, ?_, ?_⟩
  · intro j o a ho ha
    have hj : j < ops.size := (Array.getElem?_eq_some_iff.1 ho).1
    obtain ⟨b, hb1, hb2⟩ := a3 j o (by simpa using ho)
    rw [hat j hj, ← hN, hb1] at ha
    cases ha
    obtain ⟨c1, c2⟩ := ancOf_spec hb2
    refine ⟨fun e he hb => by have := c1 e (by simpa using he) hb; omega, fun k hk => ?_⟩
    obtain ⟨e, d1, d2, d3⟩ := c2 k hk
    refine ⟨e, by simpa using d1, d2, ?_⟩
    rcases d3 with d3 | ⟨q, d3, d4⟩
    · exact .inl d3
    · right
      have hlt := c1 e d1 d2
      rw [List.getElem?_drop] at d3
      refine ⟨q, ?_, d4⟩
      rw [hat e.on (by omega), ← d3]
      congr 1
      omega
  · intro i j oi oj t hij hi hj hd hd2
    have hjl : j < anc.reverse.length := by simp [a1]; exact (Array.getElem?_eq_some_iff.1 hj).1
    obtain ⟨ui, uj, gi, gj, _, _, _, _, h5, _⟩ := hpair i j oi oj _ hij hi hj (List.getElem?_eq_getElem hjl)
    exact land_zero h5 (dst_bit hd2) (dst_bit hd)
  · intro i j oi oj a t hij hi hj ha hb
    obtain ⟨ui, uj, gi, gj, g1, g2, rfl, rfl, h5, h6⟩ := hpair i j oi oj a hij hi hj ha
    rcases h6 with h6 | ⟨h6, h7⟩
    · rw [hb] at h6; cases h6
    · exact ⟨fun hd hu => land_zero h6 (dst_bit hd) (uses_bit g1 hu), fun hd hu => land_zero h7 (uses_bit g2 hu) (dst_bit hd)⟩

theorem dstsOk_spec {nt : Nat} : ∀ {l : List Oper}, dstsOk nt l = true → ∀ o ∈ l, ∀ t, o.dst = some t → t < nt
  | [], _, o, ho, _, _ => by simp at ho
  | p :: l, h, o, ho, t, ht => by
    simp only [dstsOk] at h
    have key : (∀ d, p.dst = some d → d < nt) ∧ dstsOk nt l = true := by
      cases hd : p.dst with
      | none => rw [hd] at h; exact ⟨by simp, h⟩
      | some d =>
        rw [hd] at h
        simp only [onOpt] at h
        obtain ⟨h1, h2⟩ := cnd_ne h (by simp)
        refine ⟨fun e he => ?_, h2⟩
        cases he
        have h3 : d + 1 ≤ nt := Nat.le_of_ble_eq_true h1
        exact h3
    rcases List.mem_cons.1 ho with rfl | ho
    · exact key.1 t ht
    · exact dstsOk_spec key.2 o ho t ht

theorem dstMask_spec : ∀ {l : List Oper}, ∀ o ∈ l, ∀ t, o.dst = some t → Nat.testBit (dstMask l) t = true
  | [], o, ho, _, _ => by simp at ho
  | p :: l, o, ho, t, ht => by
    simp only [dstMask, bit_or, Bool.or_eq_true]
    rcases List.mem_cons.1 ho with rfl | ho
    · exact .inl (dst_bit ht)
    · exact .inr (dstMask_spec o ho t ht)

end Go.Abs
namespace Go.Abs
set_option linter.unusedVariables false
set_option linter.unusedSimpArgs false

/-- two parts of memory, the second one ahead -/
def un (A X : MemF) : MemF := fun b => match X b with | some o => some o | none => A b

theorem un_some {A X : MemF} {b : Nat} {o : AObj} (h : un A X b = some o) : X b = some o ∨ (X b = none ∧ A b = some o) := by
  unfold un at h
  cases hx : X b with
  | some q => rw [hx] at h; exact .inl h
  | none => rw [hx] at h; exact .inr ⟨rfl, h⟩
theorem un_right {A X : MemF} {b : Nat} {o : AObj} (h : X b = some o) : un A X b = some o := by unfold un; rw [h]
theorem un_left {A X : MemF} {b : Nat} (h : X b = none) : un A X b = A b := by unfold un; rw [h]
theorem un_isSome {A X : MemF} {b : Nat} (h : (A b).isSome) : (un A X b).isSome := by
  unfold un
  cases X b with
  | some q => rfl
  | none => exact h

/-- what one part does leaves the other -/
theorem frame_rule {π π' : PMap} {A A' X : MemF} {w w' : World} {n n' : Nat} (hM : MRel π (un A X) w) (hd : ∀ b, (X b).isSome → A b = none) (h1 : MRel π' A' w') (hs : Step π A w π' A' w' n n') :
    MRel π' (un A' X) w' ∧ Step π (un A X) w π' (un A' X) w' n n' ∧ ∀ b, (X b).isSome → A' b = none := by
  have hX : ∀ b o, X b = some o → ∃ p x, π b = some p ∧ w.heap[p.b]? = some x ∧ ORel π o x p := fun b o h => hM.obj b o (un_right h)
  have hfar : ∀ b o p, X b = some o → π b = some p → ∀ j q, (A j).isSome → π j = some q → q.b ≠ p.b := by
    intro b o p hb hp j q hj hq e
    have := hM.inj j b q p (un_isSome hj) (by rw [un_right hb]; rfl) hq hp e
    subst this
    have := hd j (by rw [hb]; rfl)
    rw [this] at hj; cases hj
  have hnew : ∀ b o p, X b = some o → π b = some p → ∀ j q, (A' j).isSome → π' j = some q → q.b ≠ p.b := by
    intro b o p hb hp j q hj hq e
    obtain ⟨p', x, hp', hx, _⟩ := hX b o hb
    rw [hp] at hp'; cases hp'
    have := lt_of_heap hx
    rcases hs.img j q hj hq with h | ⟨k, r, hk, hr, hrq⟩
    · omega
    · exact hfar b o p hb hp k r hk hr (hrq.trans e)
  have hdis : ∀ b, (X b).isSome → A' b = none := by
    intro b hb
    obtain ⟨o, ho⟩ := Option.isSome_iff_exists.1 hb
    obtain ⟨p, x, hp, hx, _⟩ := hX b o ho
    cases ha : A' b with
    | none => rfl
    | some o' => exact absurd rfl (hnew b o p ho hp b p (by rw [ha]; rfl) (hs.ext _ _ hp))
  refine ⟨⟨?_, ?_⟩, ⟨hs.ext, hs.dom, hs.size, ?_, ?_, hs.os, hs.tape, hs.output, hs.le⟩, hdis⟩
  · intro b o h
    rcases un_some h with h | ⟨_, h⟩
    · obtain ⟨p, x, hp, hx, hr⟩ := hX b o h
      refine ⟨p, x, hs.ext _ _ hp, ?_, hr.mono hs.ext⟩
      rw [hs.keep p.b (lt_of_heap hx) (fun j q hj hq => hfar b o p h hp j q hj hq)]
      exact hx
    · exact h1.obj b o h
  · intro i j p q hi hj hp hq e
    obtain ⟨oi, hoi⟩ := Option.isSome_iff_exists.1 hi
    obtain ⟨oj, hoj⟩ := Option.isSome_iff_exists.1 hj
    rcases un_some hoi with hi | ⟨_, hi⟩ <;> rcases un_some hoj with hj | ⟨_, hj⟩
    · obtain ⟨p', _, hp', _, _⟩ := hX i oi hi
      obtain ⟨q', _, hq', _, _⟩ := hX j oj hj
      have e1 := hs.ext _ _ hp'
      have e2 := hs.ext _ _ hq'
      rw [hp] at e1; cases e1
      rw [hq] at e2; cases e2
      exact hM.inj i j p q (by rw [un_right hi]; rfl) (by rw [un_right hj]; rfl) hp' hq' e
    · obtain ⟨p', _, hp', _, _⟩ := hX i oi hi
      have e1 := hs.ext _ _ hp'
      rw [hp] at e1; cases e1
      exact absurd e.symm (hnew i oi p hi hp' j q (by rw [hj]; rfl) hq)
    · obtain ⟨q', _, hq', _, _⟩ := hX j oj hj
      have e2 := hs.ext _ _ hq'
      rw [hq] at e2; cases e2
      exact absurd e (hnew j oj q hj hq' i p (by rw [hi]; rfl) hp)
    · exact h1.inj i j p q (by rw [hi]; rfl) (by rw [hj]; rfl) hp hq e
  · intro b hb hno
    exact hs.keep b hb fun i p hi hp => hno i p (un_isSome hi) hp
  · intro i p hi hp
    obtain ⟨oi, hoi⟩ := Option.isSome_iff_exists.1 hi
    rcases un_some hoi with h | ⟨_, h⟩
    · obtain ⟨p', _, hp', _, _⟩ := hX i oi h
      have e1 := hs.ext _ _ hp'
      rw [hp] at e1; cases e1
      exact .inr ⟨i, p, by rw [un_right h]; rfl, hp', rfl⟩
    · rcases hs.img i p (by rw [h]; rfl) hp with h | ⟨j, q, hj, hq, e⟩
      · exact .inl h
      · exact .inr ⟨j, q, un_isSome hj, hq, e⟩

theorem Step.wide {π₁ π₂ π₃ : PMap} {M₁ M₂ M₃ : MemF} {w₁ w₂ w₃ : World} {n₁ n₂ a b hi : Nat} (h : Step π₁ M₁ w₁ π₂ M₂ w₂ n₁ n₂) (k : Step π₂ M₂ w₂ π₃ M₃ w₃ a b) (ha : n₁ ≤ a) (hb : b ≤ hi) (hn : n₂ ≤ hi) :
    Step π₁ M₁ w₁ π₃ M₃ w₃ n₁ hi where
  ext := h.ext.trans k.ext
  dom := fun i h3 h1 => by
    have := h.le
    by_cases h2 : π₂ i = none
    · have := k.dom i h3 h2; omega
    · have := h.dom i h2 h1; omega
  size := Nat.le_trans h.size k.size
  keep := fun b hb hn => by
    rw [k.keep b (Nat.lt_of_lt_of_le hb h.size) ?_, h.keep b hb hn]
    intro i p hi hp e
    rcases h.img i p hi hp with hl | ⟨j, q, hj, hq, hqp⟩
    · omega
    · exact hn j q hj hq (hqp.trans e)
  img := fun i p hi hp => by
    rcases k.img i p hi hp with hl | ⟨j, q, hj, hq, hqp⟩
    · exact .inl (Nat.le_trans h.size hl)
    · rcases h.img j q hj hq with hl | ⟨j', q', hj', hq', e⟩
      · exact .inl (hqp ▸ hl)
      · exact .inr ⟨j', q', hj', hq', e.trans hqp⟩
  os := k.os.trans h.os
  tape := k.tape.trans h.tape
  output := k.output.trans h.output
  le := Nat.le_trans h.le hn

section
variable {P : Program} {TT : Trie TI} {π : PMap} {m : Mem} {w : World} {n : Nat} {E K : List AV} {C : CallR} {v : AV} {m' : Mem} {n' : Nat} {cx : Cx} {ρ : Operand → Value}

/-- a block is made where only its own number need be new -/
theorem make_good (hT : TTok P TT) {o : Oper} (hk : kindOf o.op = 2) (hρ : OpdOk π cx E K ρ o.op.operands.toList) {f : OpF} (hM : MRel π m.get w) (hn : ∀ x, n ≤ x → x < n' → π x = none)
    (hc : compOp P TT cx o.op = some f) (h : f C E K m n = .ok v m' n') : Good P π m w n v m' n' ((execOp ρ o).run P w) := by
  obtain ⟨dst, op, ty, pos, after, guard⟩ := o
  simp only at hc hk
  cases op <;> simp only [compOp] at hc <;> first | (cases hc; done) | (simp only [kindOf] at hk; omega) | skip
  case alloc t => obtain ⟨i, hi, hc⟩ := optB_eq_some hc; cases hc; exact good_alloc hT hM hi hn h
  case box t x =>
    obtain ⟨i, hi, hc⟩ := optB_eq_some hc
    obtain ⟨q, hq, hc⟩ := optB_eq_some hc
    rw [frc_eq] at hc; cases hc
    exact good_box hM (hρ _ (by simp [Op.operands]) _ hq) hn h
  case buildSlice t len ps =>
    obtain ⟨i, hi, hc⟩ := optB_eq_some hc
    split at hc
    · rename_i e hu
      obtain ⟨j, hj, hc⟩ := optB_eq_some hc
      obtain ⟨hz, hc⟩ := cndO hc
      obtain ⟨hle, hc⟩ := cndO hc
      obtain ⟨l, hl, hc⟩ := optB_eq_some hc
      rw [frc_eq] at hc; cases hc
      exact good_bslice hT hM hi hu hj (ble_nat hle) hn (partsA_rel _ _ (fun y hy => hρ y (by simpa [Op.operands] using hy)) hl) (beq_nat hz) h
    · cases hc
  case call c =>
    simp only [kindOf] at hk
    split at hk <;> first | omega | (split at hk <;> omega)

end

theorem aliasOf_comp {x : Cx} {o : Oper} {s : Src} (hr : ∀ d s, (d, s) ∈ x.prev → SrcOk x s) (hs : aliasOf x o = some s) :
    ∃ y, o.op = .move y ∧ o.guard = none ∧ keptOf x.esc o.dst = none ∧ compSrc x y = some s ∧ SrcOk x s := by
  simp only [aliasOf] at hs
  split at hs
  · rename_i y hy
    obtain ⟨h1, hs⟩ := cndO hs
    obtain ⟨h2, hs⟩ := cndO hs
    have hg : o.guard = none := by cases hg : o.guard with
      | none => rfl
      | some g => rw [hg] at h1; cases h1
    have hk : keptOf x.esc o.dst = none := by cases hk : keptOf x.esc o.dst with
      | none => rfl
      | some g => rw [hk] at h2; cases h2
    refine ⟨y, hy, hg, hk, ?_⟩
    cases y with
    | tmp t =>
      simp only at hs
      cases hl : lastOf t x.prev with
      | some r =>
        rw [hl] at hs
        cases hs
        obtain ⟨d, hm⟩ := lastOf_mem hl
        exact ⟨by simp only [compSrc, hl]; rfl, hr _ _ hm⟩
      | none =>
        rw [hl] at hs
        simp only [onOpt] at hs
        cases hb : Nat.testBit x.all t with
        | true => rw [hb] at hs; cases hs
        | false =>
          rw [hb] at hs
          have hs' : compSrc x (.tmp t) = some s := hs
          refine ⟨hs', ?_⟩
          simp only [compSrc, hl] at hs'
          obtain ⟨p, hp, hs2⟩ := optB_eq_some hs'
          rw [frc_eq] at hs2
          cases hs2
          exact ⟨t, hp, hb⟩
    | const c =>
      have hs' : compSrc x (.const c) = some s := hs
      refine ⟨hs', ?_⟩
      obtain ⟨r, hr, hs⟩ := optB_eq_some hs'
      cases hs; trivial
    | global g => cases hs
    | func f =>
      have hs' : compSrc x (.func f) = some s := hs
      refine ⟨hs', ?_⟩
      cases hs; trivial
  · cases hs

end Go.Abs
namespace Go.Abs
set_option linter.unusedVariables false
set_option linter.unusedSimpArgs false

/-- what an operation laid down -/
def vA (ts : List TrE) (j : Nat) : AV := match ts[j]? with | some t => t.v | none => undefA
def eA (ts : List TrE) (j : Nat) : Ent := match ts[j]? with | some t => t.e | none => noEnt 0 .leaf
def obA (ts : List TrE) (j : Nat) : Option AObj := match ts[j]? with | some t => t.ob | none => none

/-- what stands in the slots ahead of an operation -/
noncomputable def envA (ops : Array Oper) (esc : List Nat) (E0 : List AV) (ts : List TrE) : Nat → Nat → AV
  | 0, t => match posOf t 0 esc with | some p => back p E0 | none => undefA
  | j + 1, t => if ((ops[j]?).bind (·.dst)) = some t then vA ts j else envA ops esc E0 ts j t

/-- all that is known of how a region went -/
structure Went (P : Program) (TT : Trie TI) (C : CallR) (n0 nt : Nat) (ops : Array Oper) (as : List Nat) (esc : List Nat) (E0 : List AV) (m0 : Mem) (n1 : Nat) (ts : List TrE) (S' : St) : Prop where
  static : Static ops as
  chain : Chain P TT C n0 0 ops.toList as ⟨⟨esc, dstMask ops.toList, [], 0⟩, E0, [], m0, n1, []⟩ ts S'
  dst : ∀ o ∈ ops.toList, ∀ t, o.dst = some t → t < nt
  ok : allOk (ts.map (·.e)) 0 (ts.map (·.e)) = true
  len : E0.length = esc.length
  room : ∀ j, j < ops.size → obA ts j ≠ none → n0 + j < n1

section
variable {P : Program} {TT : Trie TI} {C : CallR} {n0 nt n1 : Nat} {ops : Array Oper} {as : List Nat} {esc : List Nat} {E0 : List AV} {m0 : Mem} {ts : List TrE} {S' : St}

theorem Went.at (H : Went P TT C n0 nt ops as esc E0 m0 n1 ts S') {j : Nat} {o : Oper} (ho : ops[j]? = some o) :
    ∃ an, as[j]? = some an ∧ StepT P TT C n0 j o an (stAt ts S' j) (vA ts j) (eA ts j) (obA ts j) (stAt ts S' (j + 1)) := by
  obtain ⟨h1, h2, h3, h4⟩ := chain_at H.chain
  obtain ⟨an, t, a1, a2, a3, a4⟩ := h4 j o (by simpa using ho)
  refine ⟨an, a1, ?_⟩
  rw [Nat.zero_add] at a4
  simpa [vA, eA, obA, a2] using a4

theorem Went.start (H : Went P TT C n0 nt ops as esc E0 m0 n1 ts S') : stAt ts S' 0 = ⟨⟨esc, dstMask ops.toList, [], 0⟩, E0, [], m0, n1, []⟩ := (chain_at H.chain).2.2.1

theorem allOk_spec {tt : List Ent} : ∀ {l : List Ent} {i : Nat}, allOk tt i l = true → ∀ k e, l[k]? = some e → e.kind = 3 → pairsOk (i + k) e 0 tt = true
  | [], _, _, k, e, h, _ => by simp at h
  | q :: l, i, h, k, e, hk, he => by
    simp only [allOk] at h
    have key : (q.kind = 3 → pairsOk i q 0 tt = true) ∧ allOk tt (i + 1) l = true := by
      cases hb : Nat.beq q.kind 3 with
      | true =>
        rw [hb, cnd_true] at h
        obtain ⟨h1, h2⟩ := cnd_ne h (by simp)
        exact ⟨fun _ => h1, h2⟩
      | false =>
        rw [hb, cnd_false] at h
        exact ⟨fun h3 => absurd h3 (beqF hb), h⟩
    cases k with
    | zero =>
      simp only [List.getElem?_cons_zero, Option.some.injEq] at hk
      subst hk
      exact key.1 he
    | succ k =>
      simp only [List.getElem?_cons_succ] at hk
      have := allOk_spec key.2 k e hk he
      rw [show i + (k + 1) = i + 1 + k by omega]
      exact this

theorem pairsOk_spec {i : Nat} {e : Ent} : ∀ {l : List Ent} {j : Nat}, pairsOk i e j l = true → ∀ k t, l[k]? = some t → pairOk i e (j + k) t = true
  | [], _, _, k, t, h => by simp at h
  | q :: l, j, h, k, t, hk => by
    simp only [pairsOk] at h
    obtain ⟨h1, h2⟩ := cnd_ne h (by simp)
    cases k with
    | zero =>
      simp only [List.getElem?_cons_zero, Option.some.injEq] at hk
      subst hk
      exact h1
    | succ k =>
      simp only [List.getElem?_cons_succ] at hk
      have := pairsOk_spec h2 k t hk
      rw [show j + (k + 1) = j + 1 + k by omega]
      exact this

theorem eA_get {j : Nat} (h : j < ts.length) : (ts.map (·.e))[j]? = some (eA ts j) := by
  rw [List.getElem?_map]
  have := List.getElem?_eq_getElem h
  simp [eA, this]

theorem Went.pair (H : Went P TT C n0 nt ops as esc E0 m0 n1 ts S') {i j : Nat} (hi : i < ops.size) (hj : j < ops.size) (he : (eA ts i).kind = 3) : pairOk i (eA ts i) j (eA ts j) = true := by
  have hl : ts.length = ops.size := by rw [(chain_at H.chain).1]; exact Array.length_toList
  have h1 := allOk_spec H.ok i _ (eA_get (by omega)) he
  rw [Nat.zero_add] at h1
  have h2 := pairsOk_spec h1 j _ (eA_get (by omega))
  rwa [Nat.zero_add] at h2

theorem Went.env (H : Went P TT C n0 nt ops as esc E0 m0 n1 ts S') : ∀ j, j ≤ ops.size → CxG (fun u t => u = envA ops esc E0 ts j t) (stAt ts S' j).x (stAt ts S' j).E (stAt ts S' j).K ∧
    (stAt ts S' j).x.esc = esc ∧ (stAt ts S' j).x.all = dstMask ops.toList ∧ Prev ops j (stAt ts S' j).x := by
  intro j
  induction j with
  | zero =>
    intro _
    rw [H.start]
    refine ⟨⟨H.len, (fun t p hp => ?_), (fun t s h => by cases h), (fun d s h => by cases h)⟩, rfl, rfl, by simp [Prev]⟩
    simp only [envA]
    have hp' : posOf t 0 esc = some p := hp
    rw [hp']
  | succ j ih =>
    intro hj
    obtain ⟨ih, he, ha, hp⟩ := ih (by omega)
    have ho : ops[j]? = some ops[j] := Array.getElem?_eq_getElem (by omega)
    obtain ⟨an, han, hs⟩ := H.at ho
    have hmem : ops[j] ∈ ops.toList := by simp
    have hmask : ∀ t, ops[j].dst = some t → Nat.testBit (stAt ts S' j).x.all t = true := fun t ht => by rw [ha]; exact dstMask_spec _ hmem t ht
    have henv : ∀ t, ops[j].dst = some t → envA ops esc E0 ts (j + 1) t = vA ts j := fun t ht => by
      simp only [envA, ho, Option.bind_some, ht, if_pos]
    have henv2 : ∀ t, ops[j].dst ≠ some t → envA ops esc E0 ts (j + 1) t = envA ops esc E0 ts j t := fun t ht => by
      simp only [envA, ho, Option.bind_some, if_neg ht]
    have hprev : ∀ (d : Option Nat × Src) (k : Nat), d.1 = ops[j].dst → Prev ops (j + 1) ⟨esc, dstMask ops.toList, d :: (stAt ts S' j).x.prev, k⟩ := by
      intro d k hd
      have h2 : ops.toList.take (j + 1) = ops.toList.take j ++ [ops[j]] := by
        rw [List.take_add_one]
        simp [ho]
      unfold Prev at *
      rw [h2]
      simp [hp, hd]
    have hpush : ∀ v, v = vA ts j → CxG (fun u t => u = envA ops esc E0 ts (j + 1) t) ((stAt ts S' j).x.push ops[j].dst) (putD (stAt ts S' j).E (keptOf (stAt ts S' j).x.esc ops[j].dst) v) (v :: (stAt ts S' j).K) :=
      fun v hv => ih.push (fun t ht => by rw [henv t ht]; exact hv) (fun t u ht hu => by rw [henv2 t ht]; exact hu) hmask
    have hpx : Prev ops (j + 1) ((stAt ts S' j).x.push ops[j].dst) := by
      have := hprev (ops[j].dst, .res (stAt ts S' j).x.len) ((stAt ts S' j).x.len + 1) rfl
      simpa [Cx.push, Prev] using this
    generalize hS : stAt ts S' j = S at *
    generalize hS1 : stAt ts S' (j + 1) = S1 at *
    generalize hv : vA ts j = v at *
    generalize eA ts j = e at *
    generalize obA ts j = ob at *
    cases hs with
    | alias s hal =>
      obtain ⟨y, hy, hg, hk, hsrc, hok⟩ := aliasOf_comp ih.res hal
      refine ⟨ih.alias (fun t ht => ?_) (fun t u ht hu => by rw [henv2 t ht]; exact hu) hok hk, he, ha, ?_⟩
      · rw [henv t ht]
      · have := hprev (ops[j].dst, s) S.x.len rfl
        simpa [Cx.alias, Prev] using this
    | skip g h1 h2 h3 => exact ⟨hpush _ rfl, he, ha, hpx⟩
    | look g f m' n' h1 h2 h3 h4 h5 h6 h7 => exact ⟨hpush _ rfl, he, ha, hpx⟩
    | make g f m' n' ob' h1 h2 h3 h4 h5 h6 h7 => exact ⟨hpush _ rfl, he, ha, hpx⟩
    | eff g f m' n' h1 h2 h3 h4 h5 h6 => exact ⟨hpush _ rfl, he, ha, hpx⟩

/-- a slot's value ahead of an operation: by the one that wrote it, or what stood in it -/
theorem envA_eq (hone : ∀ (i j : Nat) (oi oj : Oper) (t : Nat), i < j → ops[i]? = some oi → ops[j]? = some oj → oi.dst = some t → oj.dst ≠ some t) (t : Nat) : ∀ j, j ≤ ops.size →
    (∃ i o, i < j ∧ ops[i]? = some o ∧ o.dst = some t ∧ envA ops esc E0 ts j t = vA ts i) ∨
    ((∀ i (o : Oper), i < j → ops[i]? = some o → o.dst ≠ some t) ∧ envA ops esc E0 ts j t = envA ops esc E0 ts 0 t) := by
  intro j
  induction j with
  | zero => intro _; exact .inr ⟨fun i o h => by omega, rfl⟩
  | succ j ih =>
    intro hj
    have ho : ops[j]? = some ops[j] := Array.getElem?_eq_getElem (by omega)
    by_cases hd : ops[j].dst = some t
    · refine .inl ⟨j, _, by omega, ho, hd, ?_⟩
      simp only [envA, ho, Option.bind_some, hd, if_pos]
    · have e : envA ops esc E0 ts (j + 1) t = envA ops esc E0 ts j t := by simp only [envA, ho, Option.bind_some, if_neg hd]
      rw [e]
      rcases ih (by omega) with ⟨i, o, h1, h2, h3, h4⟩ | ⟨h1, h2⟩
      · exact .inl ⟨i, o, by omega, h2, h3, h4⟩
      · refine .inr ⟨fun i o hi ho' => ?_, h2⟩
        by_cases hij : i = j
        · subst hij
          rw [ho] at ho'; cases ho'
          exact hd
        · exact h1 i o (by omega) ho'

end
end Go.Abs
namespace Go.Abs
set_option linter.unusedVariables false
set_option linter.unusedSimpArgs false

theorem cndB {b c : Bool} (h : cnd b c false = true) : b = true ∧ c = true := by cases b; cases h; exact ⟨rfl, h⟩

theorem allB2_sound {f : AV → AV → Bool} (hf : ∀ x y, f x y = true → x = y) : ∀ {l k : List AV}, allB2 f l k = true → l = k
  | [], [], _ => rfl
  | [], _ :: _, h => by cases h
  | _ :: _, [], h => by cases h
  | x :: l, y :: k, h => by
    obtain ⟨h1, h2⟩ := cndB h
    rw [hf _ _ h1, allB2_sound hf h2]

theorem beqAV_sound : ∀ (k : Nat) (x y : AV), beqAV k x y = true → x = y := by
  intro k
  induction k with
  | zero => intro x y h; cases h
  | succ k ih =>
    intro x y h
    cases x <;> simp only [beqAV] at h
    case bool a => cases y <;> first | (cases h; done) | skip
                   rename_i b
                   cases a <;> cases b <;> first | rfl | (cases h; done)
    case int c a => cases y <;> first | (cases h; done) | skip
                    obtain ⟨h1, h2⟩ := cndB h
                    rw [eqI_eq, beq_iff_eq] at h2
                    rw [beq_nat h1, h2]
    case str a => cases y <;> first | (cases h; done) | skip
                  rename_i b
                  have : ∀ {a b : List Nat}, beqL a b = true → a = b := by
                    intro a
                    induction a with
                    | nil => intro b h; cases b; rfl; cases h
                    | cons x a ih =>
                      intro b h
                      cases b with
                      | nil => cases h
                      | cons y b => obtain ⟨h1, h2⟩ := cndB h; rw [beq_nat h1, ih h2]
                  rw [this h]
    case ptr i o => cases y <;> first | (cases h; done) | skip
                    obtain ⟨h1, h2⟩ := cndB h
                    rw [beq_nat h1, beq_nat h2]
    case nilptr => cases y <;> first | rfl | (cases h; done)
    case slice i o l c z => cases y <;> first | (cases h; done) | skip
                            obtain ⟨h1, h2⟩ := cndB h
                            simp only [Bool.and_eq_true] at h1
                            obtain ⟨⟨⟨a1, a2⟩, a3⟩, a4⟩ := h1
                            rename_i j p l' c' z'
                            have : c = c' := by
                              cases c <;> cases c' <;> first | rfl | (cases h2; done) | skip
                              rw [beq_nat h2]
                            rw [beq_nat a1, beq_nat a2, beq_nat a3, beq_nat a4, this]
    case nilslice => cases y <;> first | rfl | (cases h; done)
    case empt => cases h
    case mp i => cases y <;> first | (cases h; done) | skip
                 rw [beq_nat h]
    case nilmap => cases y <;> first | rfl | (cases h; done)
    case func f a b => cases y <;> first | (cases h; done) | skip
                       obtain ⟨h1, h2⟩ := cndB h
                       obtain ⟨h2, h3⟩ := cndB h2
                       rw [beq_nat h1, allB2_sound ih h2, allB2_sound ih h3]
    case nilfunc => cases y <;> first | rfl | (cases h; done)
    case iface t v => cases y <;> first | (cases h; done) | skip
                      obtain ⟨h1, h2⟩ := cndB h
                      rw [beq_nat h1, ih _ _ h2]
    case niliface => cases y <;> first | rfl | (cases h; done)
    case agg l => cases y <;> first | (cases h; done) | skip
                  rw [allB2_sound ih h]
    case tup l => cases y <;> first | (cases h; done) | skip
                  rw [allB2_sound ih h]
    case opq v => cases h

theorem comesTo_eq {x : R} {v : AV} (h : comesTo x v = true) : ∃ m' n', x = .ok v m' n' := by
  cases x with
  | bad => cases h
  | ok u m' n' => exact ⟨m', n', by rw [beqAV_sound 16 u v h]⟩

/-- what a guard is compiled from -/
theorem guard_src {ops : Array Oper} {i : Nat} {o : Oper} {x : Cx} {g : Option (Opd × Bool)} (hp : Prev ops i x) (hi : i ≤ ops.size) (hg : compGuard x i o.guard = some g) :
    (o.guard = none ∧ g = none) ∨ ∃ j want y ob t s, o.guard = some (j, want) ∧ g = some (y, want) ∧ ops[j]? = some ob ∧ ob.dst = some t ∧ lastOf t x.prev = some s ∧ srcOpd x.len s = some y := by
  cases ho : o.guard with
  | none => rw [ho] at hg; cases hg; exact .inl ⟨rfl, rfl⟩
  | some gw =>
    obtain ⟨j, want⟩ := gw
    rw [ho] at hg
    simp only [compGuard, onOpt] at hg
    obtain ⟨hlt, hg⟩ := cndO hg
    have hlt : j < i := by have : j + 1 ≤ i := by simpa [Nat.blt, Nat.ble_eq] using hlt
                           omega
    rw [frc_eq] at hg
    obtain ⟨d, hd, hg⟩ := optB_eq_some hg
    obtain ⟨t, ht, hg⟩ := optB_eq_some hg
    obtain ⟨hf, hg⟩ := cndO hg
    obtain ⟨y, hy, hg⟩ := optB_eq_some hg
    cases hg
    obtain ⟨ob, h1, h2⟩ := hp.at hi hlt hd
    exact .inr ⟨j, want, y, ob, t, d.2, rfl, rfl, h1, by rw [h2, ht], isFirst_last hf hd ht, hy⟩

/-- the blocks that are made, and not laid into memory yet -/
noncomputable def XA (n0 N : Nat) (ts : List TrE) (S' : St) (T : Nat) (D : Nat → Bool) : MemF := fun b =>
  if n0 ≤ b ∧ b < n0 + N ∧ D (b - n0) = true ∧ (T ≤ b - n0 ∨ (b - n0) ∈ (stAt ts S' T).pd.map (·.1)) then obA ts (b - n0) else none

section
variable {P : Program} {TT : Trie TI} {C : CallR} {n0 nt n1 : Nat} {ops : Array Oper} {as : List Nat} {esc : List Nat} {E0 : List AV} {m0 : Mem} {ts : List TrE} {S' : St}

theorem flushR_sub {an : Nat} : ∀ {pd : Pend} {p : Nat × Nat × AObj}, p ∈ flushR an pd → p ∈ pd ∧ Nat.testBit an p.1 = false
  | [], p, h => by simp [flushR] at h
  | q :: pd, p, h => by
    simp only [flushR] at h
    cases hb : Nat.testBit an q.1 with
    | true =>
      rw [hb, cnd_true] at h
      obtain ⟨a, b⟩ := flushR_sub h
      exact ⟨List.mem_cons_of_mem _ a, b⟩
    | false =>
      rw [hb, cnd_false] at h
      rcases List.mem_cons.1 h with rfl | h
      · exact ⟨List.mem_cons_self, hb⟩
      · obtain ⟨a, b⟩ := flushR_sub h
        exact ⟨List.mem_cons_of_mem _ a, b⟩

theorem flushR_keeps {an : Nat} : ∀ {pd : Pend} {p : Nat × Nat × AObj}, p ∈ pd → Nat.testBit an p.1 = false → p ∈ flushR an pd
  | [], p, h, _ => by simp at h
  | q :: pd, p, h, hb => by
    simp only [flushR]
    rcases List.mem_cons.1 h with rfl | h
    · rw [hb, cnd_false]; exact List.mem_cons_self
    · have := flushR_keeps h hb
      cases Nat.testBit an q.1 with
      | true => exact this
      | false => exact List.mem_cons_of_mem _ this

theorem Went.pd (H : Went P TT C n0 nt ops as esc E0 m0 n1 ts S') : ∀ T, T ≤ ops.size → ∀ p ∈ (stAt ts S' T).pd, p.1 < T ∧ p.2.1 = n0 + p.1 ∧ obA ts p.1 = some p.2.2 := by
  intro T
  induction T with
  | zero => intro _ p hp; rw [H.start] at hp; simp at hp
  | succ T ih =>
    intro hT p hp
    have ih := ih (by omega)
    have ho : ops[T]? = some ops[T] := Array.getElem?_eq_getElem (by omega)
    obtain ⟨an, han, hs⟩ := H.at ho
    generalize hob : obA ts T = ob at hs
    generalize vA ts T = v at hs
    generalize eA ts T = e at hs
    generalize stAt ts S' T = S at *
    generalize stAt ts S' (T + 1) = S1 at *
    cases hs with
    | alias s h => have := ih p hp; exact ⟨by omega, this.2⟩
    | skip g h1 h2 h3 => have := ih p hp; exact ⟨by omega, this.2⟩
    | look g f m' n' h1 h2 h3 h4 h5 h6 h7 => have := ih p hp; exact ⟨by omega, this.2⟩
    | make g f m' n' ob' h1 h2 h3 h4 h5 h6 h7 =>
      rcases List.mem_cons.1 hp with rfl | hp
      · exact ⟨by simp, rfl, hob⟩
      · have := ih p hp; exact ⟨by omega, this.2⟩
    | eff g f m' n' h1 h2 h3 h4 h5 h6 => have := ih p (flushR_sub hp).1; exact ⟨by omega, this.2⟩

/-- where nothing has an effect, nothing but the place turns -/
theorem Went.slide1 (H : Went P TT C n0 nt ops as esc E0 m0 n1 ts S') {T : Nat} (hT : T < ops.size) (hk : (eA ts T).kind ≠ 3) :
    (stAt ts S' (T + 1)).m = (stAt ts S' T).m ∧ (stAt ts S' (T + 1)).n = (stAt ts S' T).n ∧ ∀ D, XA n0 ops.size ts S' (T + 1) D = XA n0 ops.size ts S' T D := by
  have hpd := H.pd T (by omega)
  have ho : ops[T]? = some ops[T] := Array.getElem?_eq_getElem hT
  obtain ⟨an, han, hs⟩ := H.at ho
  have key : (stAt ts S' (T + 1)).m = (stAt ts S' T).m ∧ (stAt ts S' (T + 1)).n = (stAt ts S' T).n ∧ ((obA ts T = none ∧ (stAt ts S' (T + 1)).pd = (stAt ts S' T).pd) ∨ ∃ q, (stAt ts S' (T + 1)).pd = (T, q) :: (stAt ts S' T).pd) := by
    generalize obA ts T = ob at *
    generalize vA ts T = v at *
    generalize eA ts T = e at *
    generalize stAt ts S' T = S at *
    generalize stAt ts S' (T + 1) = S1 at *
    cases hs with
    | alias s h => exact ⟨rfl, rfl, .inl ⟨rfl, rfl⟩⟩
    | skip g h1 h2 h3 => exact ⟨rfl, rfl, .inl ⟨rfl, rfl⟩⟩
    | look g f m' n' h1 h2 h3 h4 h5 h6 h7 => exact ⟨rfl, rfl, .inl ⟨rfl, rfl⟩⟩
    | make g f m' n' ob' h1 h2 h3 h4 h5 h6 h7 => exact ⟨rfl, rfl, .inr ⟨_, rfl⟩⟩
    | eff g f m' n' h1 h2 h3 h4 h5 h6 => exact absurd rfl hk
  obtain ⟨k1, k2, k3⟩ := key
  refine ⟨k1, k2, fun D => funext fun b => ?_⟩
  unfold XA
  generalize hj : b - n0 = j
  have hlt : ∀ j, j ∈ (stAt ts S' T).pd.map (·.1) → j < T := fun j hj => by
    obtain ⟨p, hp, rfl⟩ := List.mem_map.1 hj
    exact (hpd p hp).1
  by_cases hjT : j = T
  · subst hjT
    rcases k3 with ⟨e1, e2⟩ | ⟨q, e2⟩
    · rw [e1]; simp
    · have : (j + 1 ≤ j ∨ j ∈ (stAt ts S' (j + 1)).pd.map (·.1)) ↔ (j ≤ j ∨ j ∈ (stAt ts S' j).pd.map (·.1)) := by
        rw [e2]; simp
      simp only [this]
  · have : (T + 1 ≤ j ∨ j ∈ (stAt ts S' (T + 1)).pd.map (·.1)) ↔ (T ≤ j ∨ j ∈ (stAt ts S' T).pd.map (·.1)) := by
      rcases k3 with ⟨e1, e2⟩ | ⟨q, e2⟩
      · rw [e2]
        constructor
        · rintro (h | h); exact .inl (by omega); exact .inr h
        · rintro (h | h); exact .inl (by omega); exact .inr h
      · rw [e2]
        simp only [List.map_cons, List.mem_cons]
        constructor
        · rintro (h | h | h); exact .inl (by omega); exact absurd h hjT; exact .inr h
        · rintro (h | h); exact .inl (by omega); exact .inr (.inr h)
    simp only [this]

/-- a maker that no effect before T waits for is not laid into memory yet -/
theorem Went.pending (H : Went P TT C n0 nt ops as esc E0 m0 n1 ts S') {i : Nat} (hob : obA ts i ≠ none) : ∀ T, i < T → T ≤ ops.size → (∀ e a, i < e → e < T → (eA ts e).kind = 3 → as[e]? = some a → Nat.testBit a i = false) →
    i ∈ (stAt ts S' T).pd.map (·.1) := by
  intro T
  induction T with
  | zero => intro h; omega
  | succ T ih =>
    intro hiT hT hno
    have ho : ops[T]? = some ops[T] := Array.getElem?_eq_getElem (by omega)
    obtain ⟨an, han, hs⟩ := H.at ho
    by_cases hi : i = T
    · subst hi
      generalize obA ts i = ob at *
      generalize vA ts i = v at *
      generalize eA ts i = e at *
      generalize stAt ts S' i = S at *
      generalize stAt ts S' (i + 1) = S1 at *
      cases hs with
      | make g f m' n' ob' h1 h2 h3 h4 h5 h6 h7 => simp
      | _ => exact absurd rfl hob
    · have ih := ih (by omega) (by omega) (fun e a h1 h2 h3 h4 => hno e a h1 (by omega) h3 h4)
      have hno' : (eA ts T).kind = 3 → Nat.testBit an i = false := fun hk => hno T an (by omega) (by omega) hk han
      clear hob
      generalize obA ts T = ob at *
      generalize vA ts T = v at *
      generalize eA ts T = e at *
      generalize stAt ts S' T = S at *
      generalize stAt ts S' (T + 1) = S1 at *
      cases hs with
      | make g f m' n' ob' h1 h2 h3 h4 h5 h6 h7 => exact List.mem_cons_of_mem _ ih
      | eff g f m' n' h1 h2 h3 h4 h5 h6 =>
        obtain ⟨p, hp, rfl⟩ := List.mem_map.1 ih
        exact List.mem_map.2 ⟨p, flushR_keeps hp (hno' rfl), rfl⟩
      | _ => exact ih

theorem flushM_get {an : Nat} {m : Mem} (b : Nat) : ∀ (pd : Pend), (∀ p ∈ pd, p.2.1 = n0 + p.1 ∧ obA ts p.1 = some p.2.2) →
    (flushM an m pd).get b = if n0 ≤ b ∧ Nat.testBit an (b - n0) = true ∧ (b - n0) ∈ pd.map (·.1) then obA ts (b - n0) else m.get b := by
  intro pd
  induction pd with
  | nil => intro _; simp [flushM]
  | cons p pd ih =>
    intro hp
    have ih := ih fun q hq => hp q (List.mem_cons_of_mem _ hq)
    obtain ⟨h1, h2⟩ := hp p List.mem_cons_self
    simp only [flushM]
    cases hb : Nat.testBit an p.1 with
    | true =>
      rw [cnd_true, Trie.get_put, ih]
      by_cases e : b = p.2.1
      · rw [if_pos e]
        have e1 : b - n0 = p.1 := by omega
        rw [if_pos ⟨by omega, by rw [e1]; exact hb, by rw [e1]; simp⟩, e1, h2]
      · rw [if_neg e]
        have : (n0 ≤ b ∧ Nat.testBit an (b - n0) = true ∧ b - n0 ∈ pd.map (·.1)) ↔ (n0 ≤ b ∧ Nat.testBit an (b - n0) = true ∧ b - n0 ∈ (p :: pd).map (·.1)) := by
          simp only [List.map_cons, List.mem_cons]
          constructor
          · rintro ⟨a, c, d⟩; exact ⟨a, c, .inr d⟩
          · rintro ⟨a, c, d | d⟩
            · omega
            · exact ⟨a, c, d⟩
        simp only [this]
    | false =>
      rw [cnd_false, ih]
      have : (n0 ≤ b ∧ Nat.testBit an (b - n0) = true ∧ b - n0 ∈ pd.map (·.1)) ↔ (n0 ≤ b ∧ Nat.testBit an (b - n0) = true ∧ b - n0 ∈ (p :: pd).map (·.1)) := by
        simp only [List.map_cons, List.mem_cons]
        constructor
        · rintro ⟨a, c, d⟩; exact ⟨a, c, .inr d⟩
        · rintro ⟨a, c, d | d⟩
          · rw [d, hb] at c; cases c
          · exact ⟨a, c, d⟩
      simp only [this]

theorem flushAll_get {m : Mem} (b : Nat) : ∀ (pd : Pend), (∀ p ∈ pd, p.2.1 = n0 + p.1 ∧ obA ts p.1 = some p.2.2) →
    (flushAll m pd).get b = if n0 ≤ b ∧ (b - n0) ∈ pd.map (·.1) then obA ts (b - n0) else m.get b := by
  intro pd
  induction pd with
  | nil => intro _; simp [flushAll]
  | cons p pd ih =>
    intro hp
    have ih := ih fun q hq => hp q (List.mem_cons_of_mem _ hq)
    obtain ⟨h1, h2⟩ := hp p List.mem_cons_self
    simp only [flushAll]
    rw [Trie.get_put, ih]
    by_cases e : b = p.2.1
    · rw [if_pos e]
      have e1 : b - n0 = p.1 := by omega
      rw [if_pos ⟨by omega, by rw [e1]; simp⟩, e1, h2]
    · rw [if_neg e]
      have : (n0 ≤ b ∧ b - n0 ∈ pd.map (·.1)) ↔ (n0 ≤ b ∧ b - n0 ∈ (p :: pd).map (·.1)) := by
        simp only [List.map_cons, List.mem_cons]
        constructor
        · rintro ⟨a, d⟩; exact ⟨a, .inr d⟩
        · rintro ⟨a, d | d⟩
          · omega
          · exact ⟨a, d⟩
      simp only [this]

end
end Go.Abs
namespace Go.Abs
set_option linter.unusedVariables false
set_option linter.unusedSimpArgs false

section
variable {P : Program} {TT : Trie TI} {C : CallR} {n0 nt n1 : Nat} {ops : Array Oper} {as : List Nat} {esc : List Nat} {E0 : List AV} {m0 : Mem} {ts : List TrE} {S' : St}
variable {π0 : PMap} {w0 : World} {a0 : Act}

/-- the region on its way, where D was done, whatever the order -/
structure Inv (n0 nt n1 : Nat) (ops : Array Oper) (ts : List TrE) (S' : St) (m0 : Mem) (π0 : PMap) (w0 : World) (a0 : Act) (D : Nat → Bool) (a : Act) (w : World) (π : PMap) (T : Nat) : Prop where
  le : T ≤ ops.size
  eff : ∀ j, j < ops.size → (eA ts j).kind = 3 → (D j = true ↔ j < T)
  rel : MRel π (un (stAt ts S' T).m.get (XA n0 ops.size ts S' T D)) w
  dis : ∀ b, (XA n0 ops.size ts S' T D b).isSome → (stAt ts S' T).m.get b = none
  size : a.tmps.size = nt
  defers : a.defers = []
  done : ∀ j (o : Oper) t, ops[j]? = some o → D j = true → o.dst = some t → VRel π (vA ts j) (tm a t)
  old : ∀ t, (∀ (j : Nat) (o : Oper), ops[j]? = some o → D j = true → o.dst ≠ some t) → tm a t = tm a0 t
  free : Free π (stAt ts S' T).n
  room : n1 ≤ (stAt ts S' T).n
  new : ∀ j, j < ops.size → D j = false → obA ts j ≠ none → π (n0 + j) = none
  step : Step π0 m0.get w0 π (un (stAt ts S' T).m.get (XA n0 ops.size ts S' T D)) w n0 (stAt ts S' T).n
  down : ∀ (j : Nat) (o : Oper), ops[j]? = some o → D j = true → ∀ e ∈ o.after, bindsB e = true → D e.on = true

variable {D : Nat → Bool} {a : Act} {w : World} {π : PMap} {T : Nat}

theorem Inv.slide (H : Went P TT C n0 nt ops as esc E0 m0 n1 ts S') (I : Inv n0 nt n1 ops ts S' m0 π0 w0 a0 D a w π T) : ∀ T', T ≤ T' → T' ≤ ops.size → (∀ e, T ≤ e → e < T' → (eA ts e).kind ≠ 3) →
    Inv n0 nt n1 ops ts S' m0 π0 w0 a0 D a w π T' := by
  intro T' h1
  induction T' with
  | zero => intro _ _; have : T = 0 := by omega
            subst this; exact I
  | succ T' ih =>
    intro h2 h3
    by_cases e : T = T' + 1
    · subst e; exact I
    · have I' := ih (by omega) (by omega) (fun e a b => h3 e a (by omega))
      have hk := h3 T' (by omega) (by omega)
      obtain ⟨k1, k2, k3⟩ := H.slide1 (by omega) hk
      refine ⟨h2, ?_, by rw [k1, k3]; exact I'.rel, by rw [k1, k3]; exact I'.dis, I'.size, I'.defers, I'.done, I'.old, by rw [k2]; exact I'.free, by rw [k2]; exact I'.room, I'.new, by rw [k1, k2, k3]; exact I'.step, I'.down⟩
      intro j hj hkj
      rw [I'.eff j hj hkj]
      constructor
      · intro h; omega
      · intro h
        by_cases e2 : j = T'
        · subst e2; exact absurd hkj hk
        · omega

theorem Static.below (hs : Static ops as) : ∀ (j : Nat) (o : Oper) (b k : Nat), ops[j]? = some o → as[j]? = some b → Nat.testBit b k = true → k < j := by
  intro j
  induction j using Nat.strongRecOn with
  | ind j ih =>
    intro o b k ho hb hk
    obtain ⟨h1, h2⟩ := hs.ord j o b ho hb
    obtain ⟨e, he, hbe, h⟩ := h2 k hk
    have hlt := h1 e he hbe
    rcases h with h | ⟨c, hc, hck⟩
    · omega
    · have hj : j < ops.size := (Array.getElem?_eq_some_iff.1 ho).1
      have := ih e.on hlt ops[e.on] c k (Array.getElem?_eq_getElem (by omega)) hc hck
      omega

/-- what stands ahead was done -/
theorem anc_done (hs : Static ops as) (down : ∀ (j : Nat) (o : Oper), ops[j]? = some o → D j = true → ∀ e ∈ o.after, bindsB e = true → D e.on = true) :
    ∀ (j : Nat) (o : Oper) (b k : Nat), ops[j]? = some o → (∀ e ∈ o.after, bindsB e = true → D e.on = true) → as[j]? = some b → Nat.testBit b k = true → D k = true := by
  intro j
  induction j using Nat.strongRecOn with
  | ind j ih =>
    intro o b k ho hd hb hk
    obtain ⟨h1, h2⟩ := hs.ord j o b ho hb
    obtain ⟨e, he, hbe, h⟩ := h2 k hk
    have hlt := h1 e he hbe
    have hde := hd e he hbe
    rcases h with h | ⟨c, hc, hck⟩
    · rw [← h]; exact hde
    · have hj : j < ops.size := (Array.getElem?_eq_some_iff.1 ho).1
      have ho' : ops[e.on]? = some ops[e.on] := Array.getElem?_eq_getElem (by omega)
      exact ih e.on hlt _ c k ho' (down e.on _ ho' hde) hc hck

/-- a slot that an operation uses holds what it held in the text's order -/
theorem Inv.slot (H : Went P TT C n0 nt ops as esc E0 m0 n1 ts S') (I : Inv n0 nt n1 ops ts S' m0 π0 w0 a0 D a w π T) (hfr : FRel π0 esc nt E0 a0) {i : Nat} {o : Oper} (ho : ops[i]? = some o) (hi : D i = false)
    (haf : ∀ e ∈ o.after, bindsB e = true → D e.on = true) {t : Nat} (hu : Uses ops o t) (hv : (∃ i' o', i' < i ∧ ops[i']? = some o' ∧ o'.dst = some t) ∨ ∃ p, posOf t 0 esc = some p) :
    VRel π (envA ops esc E0 ts i t) (tm a t) := by
  have hiN : i < ops.size := (Array.getElem?_eq_some_iff.1 ho).1
  have hlen := H.static.len
  have hasj : ∀ j, j < ops.size → as[j]? = some (as.getD j 0) := fun j hj => by rw [List.getD_eq_getElem?_getD, List.getElem?_eq_getElem (by omega)]; rfl
  rcases envA_eq (esc := esc) (E0 := E0) (ts := ts) H.static.one t i (by omega) with ⟨k, ok, hk, hok, hd, he⟩ | ⟨hno, he⟩
  · rw [he]
    refine I.done k ok t hok ?_ hd
    cases hb : Nat.testBit (as.getD i 0) k with
    | true => exact anc_done H.static I.down i o _ k ho haf (hasj i hiN) hb
    | false => exact absurd hu ((H.static.apart k i ok o _ t hk hok ho (hasj i hiN) hb).2 hd)
  · rw [he]
    have hold : tm a t = tm a0 t := by
      refine I.old t fun j oj hoj hDj hdj => ?_
      have hjN : j < ops.size := (Array.getElem?_eq_some_iff.1 hoj).1
      by_cases h1 : j < i
      · exact hno j oj h1 hoj hdj
      · by_cases h2 : j = i
        · subst h2; rw [hi] at hDj; cases hDj
        · cases hb : Nat.testBit (as.getD j 0) i with
          | true =>
            have := anc_done H.static I.down j oj _ i hoj (I.down j oj hoj hDj) (hasj j hjN) hb
            rw [hi] at this; cases this
          | false => exact (H.static.apart i j o oj _ t (by omega) ho hoj (hasj j hjN) hb).1 hdj hu
    rw [hold]
    rcases hv with ⟨i', o', h1, h2, h3⟩ | ⟨p, hp⟩
    · exact absurd h3 (hno i' o' h1 h2)
    · simp only [envA, hp]
      exact (hfr.slot t p hp).mono I.step.ext

theorem Prev.mem {i : Nat} {x : Cx} (h : Prev ops i x) {t : Nat} {s : Src} (hl : lastOf t x.prev = some s) : ∃ i' o', i' < i ∧ ops[i']? = some o' ∧ o'.dst = some t := by
  have key : ∀ (l : List (Option Nat × Src)), lastOf t l = some s → some t ∈ l.map (·.1) := by
    intro l
    induction l with
    | nil => intro h; cases h
    | cons d l ih =>
      intro h
      obtain ⟨d1, d2⟩ := d
      rw [lastOf_cons] at h
      by_cases e : d1 = some t
      · simp [e]
      · rw [if_neg e] at h
        exact List.mem_cons_of_mem _ (ih h)
  have := key _ hl
  rw [h, List.mem_reverse, List.mem_map] at this
  obtain ⟨o, ho, hd⟩ := this
  obtain ⟨k, hk⟩ := List.mem_iff_getElem?.1 ho
  rw [List.getElem?_take] at hk
  split at hk
  · rename_i hlt
    exact ⟨k, o, hlt, by simpa using hk, hd⟩
  · cases hk

/-- an operand that an operation uses -/
theorem Inv.src (H : Went P TT C n0 nt ops as esc E0 m0 n1 ts S') (I : Inv n0 nt n1 ops ts S' m0 π0 w0 a0 D a w π T) (hfr : FRel π0 esc nt E0 a0) {i : Nat} {o : Oper} (ho : ops[i]? = some o) (hi : D i = false)
    (haf : ∀ e ∈ o.after, bindsB e = true → D e.on = true) {y : Operand} (hu : ∀ t, y = .tmp t → Uses ops o t) {s : Src} (hs : compSrc (stAt ts S' i).x y = some s) :
    VRel π (srcV (stAt ts S' i).E (stAt ts S' i).K (stAt ts S' i).x.len s) (a.eval y) := by
  have hiN : i < ops.size := (Array.getElem?_eq_some_iff.1 ho).1
  obtain ⟨hg, hesc, hall, hprev⟩ := H.env i (by omega)
  cases y with
  | tmp t =>
    simp only [compSrc] at hs
    cases hl : lastOf t (stAt ts S' i).x.prev with
    | some r =>
      rw [hl] at hs
      cases hs
      rw [hg.last t _ hl]
      exact I.slot H hfr ho hi haf (hu t rfl) (.inl (hprev.mem hl))
    | none =>
      rw [hl] at hs
      obtain ⟨p, hp, hs⟩ := optB_eq_some hs
      rw [frc_eq] at hs
      cases hs
      show VRel π (back p _) _
      rw [hg.slot t p hp]
      exact I.slot H hfr ho hi haf (hu t rfl) (.inr ⟨p, by rw [← hesc]; exact hp⟩)
  | const v =>
    obtain ⟨r, hr, hs⟩ := optB_eq_some hs
    cases hs
    exact absVal_rel hr
  | global g => cases hs
  | func f =>
    cases hs
    exact .func f [] [] #[] #[] .nil .nil

theorem Inv.opd (H : Went P TT C n0 nt ops as esc E0 m0 n1 ts S') (I : Inv n0 nt n1 ops ts S' m0 π0 w0 a0 D a w π T) (hfr : FRel π0 esc nt E0 a0) {i : Nat} {o : Oper} (ho : ops[i]? = some o) (hi : D i = false)
    (haf : ∀ e ∈ o.after, bindsB e = true → D e.on = true) : OpdOk π (stAt ts S' i).x (stAt ts S' i).E (stAt ts S' i).K a.eval o.op.operands.toList := by
  intro y hy q hq
  obtain ⟨s, hs, hq⟩ := optB_eq_some hq
  rw [srcOpd_eq hq]
  exact I.src H hfr ho hi haf (fun t ht => .inl (by rw [← ht]; exact hy)) hs

/-- is it wanted? as it is reckoned -/
theorem Inv.wants (H : Went P TT C n0 nt ops as esc E0 m0 n1 ts S') (I : Inv n0 nt n1 ops ts S' m0 π0 w0 a0 D a w π T) (hfr : FRel π0 esc nt E0 a0) {i : Nat} {o : Oper} (ho : ops[i]? = some o) (hi : D i = false)
    (haf : ∀ e ∈ o.after, bindsB e = true → D e.on = true) {g : Option (Opd × Bool)} (hg : compGuard (stAt ts S' i).x i o.guard = some g) :
    (Wants (stAt ts S' i).E (stAt ts S' i).K g → Region.wanted o (yielded ops a.tmps) = true) ∧ (WantsNot (stAt ts S' i).E (stAt ts S' i).K g → Region.wanted o (yielded ops a.tmps) = false) := by
  have hiN : i < ops.size := (Array.getElem?_eq_some_iff.1 ho).1
  obtain ⟨hgx, hesc, hall, hprev⟩ := H.env i (by omega)
  rcases guard_src hprev (by omega) hg with ⟨h1, rfl⟩ | ⟨j, want, y, ob, t, s, h1, rfl, h2, h3, h4, h5⟩
  · refine ⟨fun _ => by simp [Region.wanted, h1], fun h => ?_⟩
    obtain ⟨y, b, e, _⟩ := h
    cases e
  · have hv : VRel π (ev (stAt ts S' i).E (stAt ts S' i).K y) (tm a t) := by
      rw [srcOpd_eq h5, hgx.last t s h4]
      exact I.slot H hfr ho hi haf (.inr ⟨j, want, ob, h1, h2, h3⟩) (.inl (hprev.mem h4))
    have key : ∀ (X Y : Nat) (r : Nat), onGd (ev (stAt ts S' i).E (stAt ts S' i).K y) want 0 X Y = r → 0 ≠ r → (Region.wanted o (yielded ops a.tmps) = true ∧ X = r) ∨ (Region.wanted o (yielded ops a.tmps) = false ∧ Y = r) :=
      fun X Y r h hr => onGd_wanted h2 h3 h1 hv h hr
    constructor
    · rintro (h | ⟨y', b, e, hb⟩)
      · cases h
      · cases e
        rcases key 1 2 1 (by rw [hb]; cases want <;> rfl) (by omega) with h | h
        · exact h.1
        · omega
    · rintro ⟨y', b, e, hb⟩
      cases e
      have : onGd (ev (stAt ts S' i).E (stAt ts S' i).K y) want 0 1 2 = 2 := by
        rcases hb with hb | ⟨l, hb⟩ <;> rw [hb]
        · cases want <;> rfl
        · rfl
      rcases key 1 2 2 this (by omega) with h | h
      · omega
      · exact h.1

end
end Go.Abs
namespace Go.Abs
set_option linter.unusedVariables false
set_option linter.unusedSimpArgs false

section
variable {P : Program} {TT : Trie TI} {C : CallR} {n0 nt n1 : Nat} {ops : Array Oper} {as : List Nat} {esc : List Nat} {E0 : List AV} {m0 : Mem} {ts : List TrE} {S' : St}
variable {π0 : PMap} {w0 : World} {a0 : Act} {D : Nat → Bool} {a : Act} {w : World} {π : PMap} {T : Nat}

theorem Went.effect (H : Went P TT C n0 nt ops as esc E0 m0 n1 ts S') {j : Nat} (hj : j < ops.size) (hk : (eA ts j).kind = 3) :
    (eA ts j).pre = (stAt ts S' j).m ∧ (eA ts j).post = (stAt ts S' (j + 1)).m := by
  obtain ⟨an, han, hs⟩ := H.at (Array.getElem?_eq_getElem hj)
  generalize obA ts j = ob at *
  generalize vA ts j = v at *
  generalize eA ts j = e at *
  generalize stAt ts S' j = S at *
  generalize stAt ts S' (j + 1) = S1 at *
  cases hs with
  | alias s h => cases hk
  | skip g h1 h2 h3 => cases hk
  | look g f m' n' h1 h2 h3 h4 h5 h6 h7 => exact absurd hk (by assumption)
  | make g f m' n' ob' h1 h2 h3 h4 h5 h6 h7 => cases hk
  | eff g f m' n' h1 h2 h3 h4 h5 h6 => exact ⟨rfl, rfl⟩

theorem Went.an (H : Went P TT C n0 nt ops as esc E0 m0 n1 ts S') {j : Nat} (hj : j < ops.size) : as[j]? = some (eA ts j).an := by
  obtain ⟨an, han, hs⟩ := H.at (Array.getElem?_eq_getElem hj)
  rw [han]
  generalize obA ts j = ob at *
  generalize vA ts j = v at *
  generalize eA ts j = e at *
  generalize stAt ts S' j = S at *
  generalize stAt ts S' (j + 1) = S1 at *
  cases hs <;> rfl

/-- what looks at memory sees the same, whenever it is done -/
theorem Inv.comes (H : Went P TT C n0 nt ops as esc E0 m0 n1 ts S') (I : Inv n0 nt n1 ops ts S' m0 π0 w0 a0 D a w π T) {j : Nat} {o : Oper} (ho : ops[j]? = some o) (hj : D j = false) (haf : ∀ e ∈ o.after, bindsB e = true → D e.on = true)
    (hk : (eA ts j).kind = 1) (h0 : ∃ m' n', (eA ts j).run (stAt ts S' j).m = .ok (vA ts j) m' n') (hv : (eA ts j).v = vA ts j) : ∃ m' n', (eA ts j).run (stAt ts S' T).m = .ok (vA ts j) m' n' := by
  have hjN : j < ops.size := (Array.getElem?_eq_some_iff.1 ho).1
  have hbit : ∀ e, e < ops.size → Nat.testBit (eA ts j).an e = true → D e = true := fun e he hb =>
    anc_done H.static I.down j o _ e ho haf (H.an hjN) hb
  have hpair : ∀ e, e < ops.size → (eA ts e).kind = 3 → Nat.testBit (eA ts j).an e = false → Nat.testBit (eA ts e).an j = false →
      ∃ m' n', (eA ts j).run (cnd (Nat.blt e j) (eA ts e).pre (eA ts e).post) = .ok (vA ts j) m' n' := by
    intro e he hke h1 h2
    have := H.pair he hjN hke
    unfold pairOk at this
    rw [hk] at this
    simp only [h1, h2, cnd_false] at this
    rw [hv] at this
    exact comesTo_eq this
  by_cases hTj : T ≤ j
  · -- it is done early
    have low : ∀ d T', T' + d = j → (∀ e, T' ≤ e → e < j → (eA ts e).kind = 3 → D e = false) → ∃ m' n', (eA ts j).run (stAt ts S' T').m = .ok (vA ts j) m' n' := by
      intro d
      induction d with
      | zero => intro T' h _; have : T' = j := by omega
                subst this; exact h0
      | succ d ih =>
        intro T' h hno
        by_cases hke : (eA ts T').kind = 3
        · have hD := hno T' (Nat.le_refl _) (by omega) hke
          have h1 : Nat.testBit (eA ts j).an T' = false := by
            cases hb : Nat.testBit (eA ts j).an T' with
            | false => rfl
            | true => rw [hbit T' (by omega) hb] at hD; cases hD
          have h2 : Nat.testBit (eA ts T').an j = false := by
            cases hb : Nat.testBit (eA ts T').an j with
            | false => rfl
            | true =>
              have := H.static.below T' _ _ j (Array.getElem?_eq_getElem (by omega)) (H.an (by omega)) hb
              omega
          have := hpair T' (by omega) hke h1 h2
          have hbl : Nat.blt T' j = true := Nat.ble_eq.mpr (by omega)
          rw [hbl, cnd_true, (H.effect (by omega) hke).1] at this
          exact this
        · obtain ⟨k1, _, _⟩ := H.slide1 (by omega) hke
          rw [← k1]
          exact ih (T' + 1) (by omega) fun e h1 h2 h3 => hno e (by omega) h2 h3
    refine low (j - T) T (by omega) fun e h1 h2 h3 => ?_
    cases hd : D e with
    | false => rfl
    | true => have := (I.eff e (by omega) h3).1 hd; omega
  · -- it is done late
    have high : ∀ d T', T' = j + 1 + d → T' ≤ ops.size → (∀ e, j < e → e < T' → (eA ts e).kind = 3 → D e = true) → ∃ m' n', (eA ts j).run (stAt ts S' T').m = .ok (vA ts j) m' n' := by
      intro d
      induction d with
      | zero =>
        intro T' h hT' _
        obtain ⟨k1, _, _⟩ := H.slide1 hjN (by omega : (eA ts j).kind ≠ 3)
        subst h
        show ∃ m' n', (eA ts j).run (stAt ts S' (j + 1)).m = _
        rw [k1]; exact h0
      | succ d ih =>
        intro T' h hT' hno
        have hT1 : T' = (j + 1 + d) + 1 := by omega
        subst hT1
        by_cases hke : (eA ts (j + 1 + d)).kind = 3
        · have hD := hno (j + 1 + d) (by omega) (by omega) hke
          have h1 : Nat.testBit (eA ts j).an (j + 1 + d) = false := by
            cases hb : Nat.testBit (eA ts j).an (j + 1 + d) with
            | false => rfl
            | true =>
              have := H.static.below j _ _ (j + 1 + d) ho (H.an hjN) hb
              omega
          have h2 : Nat.testBit (eA ts (j + 1 + d)).an j = false := by
            cases hb : Nat.testBit (eA ts (j + 1 + d)).an j with
            | false => rfl
            | true =>
              have ho' : ops[j + 1 + d]? = some ops[j + 1 + d] := Array.getElem?_eq_getElem (by omega)
              have := anc_done H.static I.down (j + 1 + d) _ _ j ho' (I.down _ _ ho' hD) (H.an (by omega)) hb
              rw [hj] at this; cases this
          have := hpair (j + 1 + d) (by omega) hke h1 h2
          have hbl : Nat.blt (j + 1 + d) j = false := by
            cases hb : Nat.blt (j + 1 + d) j with
            | false => rfl
            | true => have := Nat.le_of_ble_eq_true hb; omega
          rw [hbl, cnd_false, (H.effect (by omega) hke).2] at this
          exact this
        · obtain ⟨k1, _, _⟩ := H.slide1 (by omega) hke
          rw [k1]
          exact ih (j + 1 + d) rfl (by omega) fun e h1 h2 h3 => hno e h1 (by omega) h3
    refine high (T - (j + 1)) T (by omega) I.le fun e h1 h2 h3 => ?_
    exact (I.eff e (by have := I.le; omega) h3).2 h2

/-- one more is done -/
theorem Inv.next (H : Went P TT C n0 nt ops as esc E0 m0 n1 ts S') (I : Inv n0 nt n1 ops ts S' m0 π0 w0 a0 D a w π T) {i : Nat} {o : Oper} (ho : ops[i]? = some o) (hi : D i = false)
    (haf : ∀ e ∈ o.after, bindsB e = true → D e.on = true) {u : Value} {w' : World} {π' : PMap} {T' : Nat} {D' : Nat → Bool} (hD : ∀ j, D' j = (D j || (j == i)))
    (hext : Ext π π') (hv : VRel π' (vA ts i) u) (hT : T' ≤ ops.size) (heff : ∀ j, j < ops.size → (eA ts j).kind = 3 → (D' j = true ↔ j < T'))
    (hrel : MRel π' (un (stAt ts S' T').m.get (XA n0 ops.size ts S' T' D')) w') (hdis : ∀ b, (XA n0 ops.size ts S' T' D' b).isSome → (stAt ts S' T').m.get b = none)
    (hfree : Free π' (stAt ts S' T').n) (hroom : n1 ≤ (stAt ts S' T').n) (hnew : ∀ j, j < ops.size → D' j = false → obA ts j ≠ none → π' (n0 + j) = none)
    (hstep : Step π0 m0.get w0 π' (un (stAt ts S' T').m.get (XA n0 ops.size ts S' T' D')) w' n0 (stAt ts S' T').n) :
    Inv n0 nt n1 ops ts S' m0 π0 w0 a0 D' (a.put o.dst u) w' π' T' := by
  have hiN : i < ops.size := (Array.getElem?_eq_some_iff.1 ho).1
  have hsub : ∀ j, D j = true → D' j = true := fun j h => by rw [hD, h]; rfl
  have hDi : D' i = true := by rw [hD]; simp
  refine ⟨hT, heff, hrel, hdis, by rw [put_size]; exact I.size, by rw [put_defers]; exact I.defers, ?_, ?_, hfree, hroom, hnew, hstep, ?_⟩
  · intro j oj t hoj hj hd
    by_cases hji : j = i
    · subst hji
      rw [ho] at hoj; cases hoj
      rw [tm_put, if_pos ⟨hd, by rw [I.size]; exact H.dst o (by have := Array.mem_of_getElem? ho; simpa using this) t hd⟩]
      exact hv
    · have hDj : D j = true := by
        rw [hD] at hj
        simpa [hji] using hj
      rw [tm_put, if_neg]
      · exact (I.done j oj t hoj hDj hd).mono hext
      · rintro ⟨e, _⟩
        rcases Nat.lt_or_gt_of_ne hji with h | h
        · exact H.static.one j i oj o t h hoj ho hd e
        · exact H.static.one i j o oj t h ho hoj e hd
  · intro t ht
    rw [tm_put, if_neg]
    · exact I.old t fun j oj hoj hj => ht j oj hoj (hsub j hj)
    · rintro ⟨e, _⟩
      exact ht i o ho hDi e
  · intro j oj hoj hj e he hb
    by_cases hji : j = i
    · subst hji
      rw [ho] at hoj; cases hoj
      exact hsub _ (haf e he hb)
    · have hDj : D j = true := by
        rw [hD] at hj
        simpa [hji] using hj
      exact hsub _ (I.down j oj hoj hDj e he hb)

/-- makers aside, nothing is pending anew -/
theorem XA_same {i : Nat} (hi : obA ts i = none) {D' : Nat → Bool} (hD : ∀ j, D' j = (D j || (j == i))) (T : Nat) : XA n0 ops.size ts S' T D' = XA n0 ops.size ts S' T D := by
  funext b
  unfold XA
  by_cases hj : b - n0 = i
  · rw [hj, hi]; simp
  · have : D' (b - n0) = D (b - n0) := by rw [hD]; simp [hj]
    rw [this]

end
end Go.Abs
namespace Go.Abs
set_option linter.unusedVariables false
set_option linter.unusedSimpArgs false

section
variable {P : Program} {TT : Trie TI} {C : CallR} {n0 nt n1 : Nat} {ops : Array Oper} {as : List Nat} {esc : List Nat} {E0 : List AV} {m0 : Mem} {ts : List TrE} {S' : St}
variable {π0 : PMap} {w0 : World} {a0 : Act} {D : Nat → Bool} {a : Act} {w : World} {π : PMap} {T : Nat} {Q : Exit → Act → World → Prop}

theorem un_congr {A A' X X' : MemF} (h : ∀ b, un A X b = un A' X' b) : un A X = un A' X' := funext h

/-- one that is ready is done -/
theorem Inv.op (hTT : TTok P TT) (hA : TTagg P TT) (hC : CSound P C) (H : Went P TT C n0 nt ops as esc E0 m0 n1 ts S') (I : Inv n0 nt n1 ops ts S' m0 π0 w0 a0 D a w π T) (hfr : FRel π0 esc nt E0 a0) {i : Nat} {o : Oper} (ho : ops[i]? = some o)
    (hi : D i = false) (haf : ∀ e ∈ o.after, bindsB e = true → D e.on = true) {D' : Nat → Bool} (hD : ∀ j, D' j = (D j || (j == i))) {K : Act → World → Prop}
    (hK : ∀ a' w' π' T', Inv n0 nt n1 ops ts S' m0 π0 w0 a0 D' a' w' π' T' → K a' w') : wpOp P ops Q i K a w := by
  have hiN : i < ops.size := (Array.getElem?_eq_some_iff.1 ho).1
  obtain ⟨an, han, hs⟩ := H.at ho
  have hnew0 : ∀ {π' : PMap} {M M' : MemF} {w' : World} {n' : Nat}, Step π M w π' M' w' (stAt ts S' T).n n' → ∀ j, j < ops.size → D' j = false → obA ts j ≠ none → π' (n0 + j) = none := by
    intro π' M M' w' n' hst j hj hDj hobj
    have hDj' : D j = false := by
      rw [hD] at hDj
      simp at hDj
      exact hDj.1
    cases e : π' (n0 + j) with
    | none => rfl
    | some p =>
      have h1 := I.new j hj hDj' hobj
      have := hst.dom (n0 + j) (by rw [e]; exact fun h => by cases h) h1
      have := H.room j hj hobj
      have := I.room
      omega
  have heff0 : (eA ts i).kind ≠ 3 → ∀ j, j < ops.size → (eA ts j).kind = 3 → (D' j = true ↔ j < T) := by
    intro hne j hj hk
    have : j ≠ i := by intro e; subst e; exact hne hk
    rw [hD, ← I.eff j hj hk]
    simp [this]
  unfold wpOp
  simp only [ho]
  -- the rest of the case that nothing in memory is turned
  have still : obA ts i = none → (eA ts i).kind ≠ 3 → ∀ u, VRel π (vA ts i) u → K (a.put o.dst u) w := by
    intro hob hne u hv
    have hX := XA_same (ops := ops) (n0 := n0) (S' := S') hob hD T
    exact hK _ _ π T (I.next H ho hi haf hD (.refl π) hv I.le (heff0 hne) (by rw [hX]; exact I.rel) (by rw [hX]; exact I.dis) I.free I.room
      (hnew0 (.refl π (stAt ts S' T).m.get w (stAt ts S' T).n)) (by rw [hX]; exact I.step))
  have hopd := I.opd H hfr ho hi haf
  have hwants := fun {g} (hg : compGuard (stAt ts S' i).x i o.guard = some g) => I.wants H hfr ho hi haf hg
  have halias := fun {s} (h : aliasOf (stAt ts S' i).x o = some s) => aliasOf_comp (H.env i (by omega)).1.res h
  have hsrc := fun {y : Operand} (hu : ∀ t, y = .tmp t → Uses ops o t) {s : Src} (hs : compSrc (stAt ts S' i).x y = some s) => I.src H hfr ho hi haf hu hs
  have hcomes := I.comes H ho hi haf
  have hpend := H.pending (i := i)
  have hpdi := H.pd i (by omega)
  generalize hob : obA ts i = ob at hs
  generalize hv : vA ts i = v at hs
  generalize he : eA ts i = e at hs
  generalize hS : stAt ts S' i = S at hs
  generalize hS1 : stAt ts S' (i + 1) = S1 at hs
  cases hs with
  | alias s hal =>
    rw [hS] at halias hsrc
    obtain ⟨y, hy, hg, hk, hcs, hok⟩ := halias hal
    have hw : Region.wanted o (yielded ops a.tmps) = true := by simp [Region.wanted, hg]
    rw [if_pos hw]
    refine .inl ?_
    have hrun : (execOp a.eval o).run P w = .ok (.value (a.eval y)) w := by
      obtain ⟨dst, op, ty, pos, after, guard⟩ := o
      simp only at hy
      subst hy
      rfl
    simp only [Oper.wp, hrun, Oper.upon]
    refine still hob (by rw [he]; simp [noEnt]) _ ?_
    rw [hv]
    refine hsrc (fun t ht => .inl ?_) hcs
    rw [hy, ht]
    simp [Op.operands]
  | skip g hal hg hw =>
    rw [hS] at hwants
    have := (hwants hg).2 hw
    rw [if_neg (by rw [this]; simp)]
    refine still hob (by rw [he]; simp [noEnt]) _ ?_
    rw [hv]
    exact .undef
  | look g f v m' n' hal hg hw hf hk2 hk3 hrun =>
    rw [hS] at hwants hopd
    rw [if_pos ((hwants hg).1 hw)]
    refine .inl ?_
    have hne : (eA ts i).kind ≠ 3 := by rw [he]; exact hk3
    have hcf := compOpB_ok hf hrun
    have hkind := kind_ok hcf
    have hread : ReadF f := by
      have h1 : kindOf o.op ≤ 3 := kindOf_le o.op
      by_cases h0 : kindOf o.op = 0
      · exact (hkind.1 h0).read
      · exact hkind.2.1 (by omega)
    have hat : ∃ m2 n2, f C S.E S.K (stAt ts S' T).m S.n = .ok v m2 n2 := by
      by_cases h0 : kindOf o.op = 0
      · exact ⟨_, _, hkind.1 h0 C S.E S.K _ _ _ _ _ hrun (stAt ts S' T).m S.n⟩
      · have h1 : kindOf o.op = 1 := by have := kindOf_le o.op; omega
        have := hcomes (by rw [he]; exact h1) (by rw [he, hS, hv]; exact ⟨_, _, hrun⟩) (by rw [he, hv])
        rw [he, hv] at this
        exact this
    obtain ⟨m2, n2, hat⟩ := hat
    obtain ⟨rfl, rfl, hany⟩ := hread C S.E S.K _ _ _ _ _ hat
    have hMT : MRel π (stAt ts S' T).m.get w := I.rel.sub fun b o' h => by
      rw [un_left]
      · exact h
      · cases hx : XA n0 ops.size ts S' T D b with
        | none => rfl
        | some q => have := I.dis b (by rw [hx]; rfl); rw [this] at h; cases h
    have hgood := compOp_good hTT hA hC hopd (fun _ => rfl) hMT I.free hcf (hany (stAt ts S' T).n)
    refine good_wp hgood fun π' v' w' r1 r2 r3 => ?_
    obtain ⟨f1, f2, f3⟩ := frame_rule I.rel I.dis r2 r3
    have hX := XA_same (ops := ops) (n0 := n0) (S' := S') hob hD T
    exact hK _ _ π' T (I.next H ho hi haf hD r3.ext (by rw [hv]; exact r1) I.le (heff0 hne) (by rw [hX]; exact f1) (by rw [hX]; exact I.dis) (I.free.step r3) I.room
      (hnew0 r3) (by rw [hX]; exact I.step.trans f2))
  | make g f v m' n' ob' hal hg hw hf hk hrun hget =>
    rw [hS] at hwants hopd
    rw [if_pos ((hwants hg).1 hw)]
    refine .inl ?_
    have hne : (eA ts i).kind ≠ 3 := by rw [he]; simp [noEnt]
    have hobn : obA ts i ≠ none := by rw [hob]; simp
    have hcf := compOpB_ok hf hrun
    obtain ⟨ob2, hmk⟩ := (kind_ok hcf).2.2 hk C S.E S.K _ _ _ _ _ hrun
    have hob2 : ob2 = ob' := by
      have h1 := hmk .leaf
      rw [hrun] at h1
      cases h1
      rw [Trie.get_put, if_pos rfl] at hget
      cases hget; rfl
    subst hob2
    have hMT : MRel π (stAt ts S' T).m.get w := I.rel.sub fun b o' h => by
      rw [un_left]
      · exact h
      · cases hx : XA n0 ops.size ts S' T D b with
        | none => rfl
        | some q => have := I.dis b (by rw [hx]; rfl); rw [this] at h; cases h
    have hni : π (n0 + i) = none := I.new i hiN hi hobn
    have hroom := H.room i hiN hobn
    have hroomT := I.room
    have hgood := make_good hTT hk hopd hMT (fun x h1 h2 => by have : x = n0 + i := by omega
                                                               subst this; exact hni) hcf (hmk (stAt ts S' T).m)
    refine good_wp hgood fun π' v' w' r1 r2 r3 => ?_
    obtain ⟨f1, f2, f3⟩ := frame_rule I.rel I.dis r2 r3
    have hun0 := I.rel.none hni
    have hX0 : XA n0 ops.size ts S' T D (n0 + i) = none := by
      unfold XA
      rw [if_neg]
      rintro ⟨_, _, h, _⟩
      rw [show n0 + i - n0 = i by omega, hi] at h
      cases h
    have hm0 : (stAt ts S' T).m.get (n0 + i) = none := by rw [un_left hX0] at hun0; exact hun0
    have hX1 : XA n0 ops.size ts S' T D' (n0 + i) = some ob2 := by
      unfold XA
      rw [show n0 + i - n0 = i by omega, if_pos, hob]
      refine ⟨by omega, by omega, by rw [hD]; simp, ?_⟩
      by_cases hTi : T ≤ i
      · exact .inl hTi
      · right
        refine hpend hobn T (by omega) I.le fun e b h1 h2 h3 h4 => ?_
        cases hb : Nat.testBit b i with
        | false => rfl
        | true =>
          have hle := I.le
          have hoe : ops[e]? = some ops[e] := Array.getElem?_eq_getElem (by omega)
          have hDe := (I.eff e (by omega) h3).2 h2
          have := anc_done H.static I.down e _ b i hoe (I.down e _ hoe hDe) h4 hb
          rw [hi] at this; cases this
    have hX2 : ∀ b, b ≠ n0 + i → XA n0 ops.size ts S' T D' b = XA n0 ops.size ts S' T D b := by
      intro b hb
      unfold XA
      by_cases hr : n0 ≤ b
      · have : D' (b - n0) = D (b - n0) := by
          rw [hD]
          have : b - n0 ≠ i := by omega
          simp [this]
        rw [this]
      · rw [if_neg (fun h => hr h.1), if_neg (fun h => hr h.1)]
    have hun : un ((stAt ts S' T).m.put (n0 + i) (some ob2)).get (XA n0 ops.size ts S' T D) = un (stAt ts S' T).m.get (XA n0 ops.size ts S' T D') := by
      funext b
      by_cases hb : b = n0 + i
      · subst hb
        rw [un_left hX0, un_right hX1, Trie.get_put, if_pos rfl]
      · unfold un
        rw [hX2 b hb, Trie.get_put, if_neg hb]
    rw [hun] at f1 f2
    refine hK _ _ π' T (I.next H ho hi haf hD r3.ext (by rw [hv]; exact r1) I.le (heff0 hne) f1 ?_ ?_ I.room ?_ (I.step.wide f2 (by omega) (by omega) (Nat.le_refl _)))
    · intro b hb
      by_cases hbi : b = n0 + i
      · rw [hbi]; exact hm0
      · rw [hX2 b hbi] at hb
        exact I.dis b hb
    · intro k hk'
      cases e : π' k with
      | none => rfl
      | some p =>
        have h1 := I.free k hk'
        have := r3.dom k (by rw [e]; exact fun h => by cases h) h1
        omega
    · intro j hj hDj hobj
      have hji : j ≠ i := by
        intro h; subst h
        rw [hD] at hDj; simp at hDj
      have hDj' : D j = false := by
        rw [hD] at hDj
        simp at hDj
        exact hDj.1
      cases e : π' (n0 + j) with
      | none => rfl
      | some p =>
        have h1 := I.new j hj hDj' hobj
        have := r3.dom (n0 + j) (by rw [e]; exact fun h => by cases h) h1
        omega
  | eff g f v m' n' hal hg hw hf hk hrun =>
    rw [hS] at hwants hopd
    rw [if_pos ((hwants hg).1 hw)]
    refine .inl ?_
    have hk3 : (eA ts i).kind = 3 := by rw [he]
    have hTi : T ≤ i := by
      by_cases h : T ≤ i
      · exact h
      · have := (I.eff i hiN hk3).2 (by omega)
        rw [hi] at this; cases this
    have hani : (eA ts i).an = an := by rw [he]
    have I2 := I.slide H i hTi (by omega) fun e h1 h2 h3 => by
      have hp := H.pair (by omega : e < ops.size) hiN h3
      unfold pairOk at hp
      rw [hk3] at hp
      have hbl : Nat.blt e i = true := Nat.ble_eq.mpr (by omega)
      rw [hbl] at hp
      have := anc_done H.static I.down i o _ e ho haf (H.an hiN) hp
      have := (I.eff e (by omega) h3).1 this
      omega
    have hpd2 : ∀ p ∈ S.pd, p.2.1 = n0 + p.1 ∧ obA ts p.1 = some p.2.2 := fun p hp => (hpdi p (by rw [hS]; exact hp)).2
    have hpdlt : ∀ j, j ∈ S.pd.map (·.1) → j < i := fun j hj => by
      obtain ⟨p, hp, rfl⟩ := List.mem_map.1 hj
      exact (hpdi p (by rw [hS]; exact hp)).1
    have hnodup : ∀ j, j ∈ (flushR an S.pd).map (·.1) → j ∈ S.pd.map (·.1) ∧ Nat.testBit an j = false := fun j hj => by
      obtain ⟨p, hp, rfl⟩ := List.mem_map.1 hj
      obtain ⟨h1, h2⟩ := flushR_sub hp
      exact ⟨List.mem_map.2 ⟨p, h1, rfl⟩, h2⟩
    have hback : ∀ j, j ∈ S.pd.map (·.1) → Nat.testBit an j = false → j ∈ (flushR an S.pd).map (·.1) := fun j hj hb => by
      obtain ⟨p, hp, rfl⟩ := List.mem_map.1 hj
      exact List.mem_map.2 ⟨p, flushR_keeps hp hb, rfl⟩
    have hA1 := fun b => flushM_get (n0 := n0) (ts := ts) (an := an) (m := S.m) b S.pd hpd2
    have hanc : ∀ j, Nat.testBit an j = true → D j = true := fun j hb => anc_done H.static I.down i o _ j ho haf han hb
    -- what stays pending
    have hXb : ∀ b, XA n0 ops.size ts S' (i + 1) D' b = if n0 ≤ b ∧ b < n0 + ops.size ∧ D (b - n0) = true ∧ (i + 1 ≤ b - n0 ∨ (b - n0) ∈ (flushR an S.pd).map (·.1)) then obA ts (b - n0) else none := by
      intro b
      unfold XA
      rw [hS1]
      by_cases hj : b - n0 = i
      · rw [hj, hob]; simp
      · have : D' (b - n0) = D (b - n0) := by rw [hD]; simp [hj]
        rw [this]
    have hXi : ∀ b, XA n0 ops.size ts S' i D b = if n0 ≤ b ∧ b < n0 + ops.size ∧ D (b - n0) = true ∧ (i ≤ b - n0 ∨ (b - n0) ∈ S.pd.map (·.1)) then obA ts (b - n0) else none := by
      intro b
      unfold XA
      rw [hS]
    have hdis1 : ∀ b, (XA n0 ops.size ts S' (i + 1) D' b).isSome → (flushM an S.m S.pd).get b = none := by
      intro b hb
      rw [hXb] at hb
      split at hb
      · rename_i hc
        obtain ⟨c1, c2, c3, c4⟩ := hc
        rw [hA1, if_neg]
        · have := I2.dis b
          rw [hXi, if_pos ⟨c1, c2, c3, c4.elim (fun c4 => .inl (by omega)) (fun c4 => .inr (hnodup _ c4).1)⟩, hS] at this
          exact this hb
        · rintro ⟨_, d1, d2⟩
          rcases c4 with c4 | c4
          · have := hpdlt _ d2; omega
          · rw [(hnodup _ c4).2] at d1; cases d1
      · cases hb
    have hun : un (stAt ts S' i).m.get (XA n0 ops.size ts S' i D) = un (flushM an S.m S.pd).get (XA n0 ops.size ts S' (i + 1) D') := by
      funext b
      unfold un
      rw [hXi, hXb, hS, hA1]
      by_cases hr : n0 ≤ b
      · generalize hj : b - n0 = j
        by_cases hin : j ∈ S.pd.map (·.1)
        · have hji := hpdlt j hin
          cases hb : Nat.testBit an j with
          | true =>
            have hDj := hanc j hb
            have hnf : j ∉ (flushR an S.pd).map (·.1) := fun h => by rw [(hnodup j h).2] at hb; cases hb
            rw [if_pos ⟨hr, by omega, hDj, .inr hin⟩, if_neg (by rintro ⟨_, _, _, h | h⟩; omega; exact hnf h), if_pos ⟨hr, rfl, hin⟩]
            obtain ⟨p, hp, hpj⟩ := List.mem_map.1 hin
            have := (hpd2 p hp).2
            rw [hpj] at this
            rw [this]
          | false =>
            have hf := hback j hin hb
            rw [if_neg (show ¬ (n0 ≤ b ∧ false = true ∧ j ∈ S.pd.map (·.1)) by simp)]
            by_cases hDj : D j = true
            · rw [if_pos ⟨hr, by omega, hDj, .inr hin⟩, if_pos ⟨hr, by omega, hDj, .inr hf⟩]
            · rw [if_neg (fun h => hDj h.2.2.1), if_neg (fun h => hDj h.2.2.1)]
        · have hnf : j ∉ (flushR an S.pd).map (·.1) := fun h => hin (hnodup j h).1
          rw [if_neg (show ¬ (n0 ≤ b ∧ Nat.testBit an j = true ∧ j ∈ S.pd.map (·.1)) from fun h => hin h.2.2)]
          have : (n0 ≤ b ∧ b < n0 + ops.size ∧ D j = true ∧ (i ≤ j ∨ j ∈ S.pd.map (·.1))) ↔ (n0 ≤ b ∧ b < n0 + ops.size ∧ D j = true ∧ (i + 1 ≤ j ∨ j ∈ (flushR an S.pd).map (·.1))) := by
            constructor
            · rintro ⟨c1, c2, c3, c4 | c4⟩
              · refine ⟨c1, c2, c3, .inl ?_⟩
                have : j ≠ i := by intro h; subst h; rw [hi] at c3; cases c3
                omega
              · exact absurd c4 hin
            · rintro ⟨c1, c2, c3, c4 | c4⟩
              · exact ⟨c1, c2, c3, .inl (by omega)⟩
              · exact absurd c4 hnf
          simp only [this]
      · rw [if_neg (fun h => hr h.1), if_neg (fun h => hr h.1), if_neg (fun h => hr h.1)]
    have hrel1 := I2.rel
    rw [hun] at hrel1
    have hstep1 := I2.step
    rw [hun] at hstep1
    have hM1 : MRel π (flushM an S.m S.pd).get w := hrel1.sub fun b o' h => by
      rw [un_left]
      · exact h
      · cases hx : XA n0 ops.size ts S' (i + 1) D' b with
        | none => rfl
        | some q => have := hdis1 b (by rw [hx]; rfl); rw [this] at h; cases h
    have hfree := I2.free
    have hroom := I2.room
    rw [hS] at hfree hroom hstep1
    have hcf := compOpB_ok hf hrun
    have hgood := compOp_good hTT hA hC hopd (fun _ => rfl) hM1 hfree hcf hrun
    refine good_wp hgood fun π' v' w' r1 r2 r3 => ?_
    obtain ⟨f1, f2, f3⟩ := frame_rule hrel1 hdis1 r2 r3
    have hle := r3.le
    refine hK _ _ π' (i + 1) (I.next H ho hi haf hD r3.ext (by rw [hv]; exact r1) (by omega) ?_ (by rw [hS1]; exact f1) (by rw [hS1]; exact f3) (by rw [hS1]; exact hfree.step r3) (by rw [hS1]; show n1 ≤ n'; omega) ?_ (by rw [hS1]; exact hstep1.trans f2))
    · intro j hj hkj
      rw [hD]
      by_cases hji : j = i
      · subst hji; simp
      · have := I2.eff j hj hkj
        simp only [hji, beq_false_of_ne, Bool.or_false, ne_eq, not_false_eq_true, this]
        omega
    · intro j hj hDj hobj
      have hDj' : D j = false := by
        rw [hD] at hDj
        simp at hDj
        exact hDj.1
      cases e : π' (n0 + j) with
      | none => rfl
      | some p =>
        have h1 := I.new j hj hDj' hobj
        have := r3.dom (n0 + j) (by rw [e]; exact fun h => by cases h) h1
        have := H.room j hj hobj
        omega

end
end Go.Abs
namespace Go.Abs
set_option linter.unusedVariables false
set_option linter.unusedSimpArgs false

/-- how many are not done -/
def cnt (D : Nat → Bool) : Nat → Nat
  | 0 => 0
  | k + 1 => cnt D k + (if D k then 0 else 1)

theorem cnt_zero {D : Nat → Bool} : ∀ {k : Nat}, cnt D k = 0 → ∀ j, j < k → D j = true
  | 0, _, j, h => by omega
  | k + 1, h, j, hj => by
    simp only [cnt] at h
    by_cases e : j = k
    · subst e
      cases hd : D j with
      | true => rfl
      | false => rw [hd] at h; simp at h
    · exact cnt_zero (k := k) (by omega) j (by omega)

theorem cnt_le {D D' : Nat → Bool} (h : ∀ j, D j = true → D' j = true) : ∀ k, cnt D' k ≤ cnt D k
  | 0 => Nat.le_refl _
  | k + 1 => by
    have := cnt_le h k
    simp only [cnt]
    cases hd : D k with
    | true => rw [h k hd]; simpa using this
    | false => simp only [Bool.false_eq_true, if_false]; split <;> omega

theorem cnt_lt {D D' : Nat → Bool} (h : ∀ j, D j = true → D' j = true) {i : Nat} (h1 : D i = false) (h2 : D' i = true) : ∀ {k : Nat}, i < k → cnt D' k + 1 ≤ cnt D k
  | 0, hk => by omega
  | k + 1, hk => by
    simp only [cnt]
    by_cases e : i = k
    · subst e
      rw [h1, h2]
      have := cnt_le h i
      simp only [Bool.false_eq_true, if_false, if_true]
      omega
    · have := cnt_lt h h1 h2 (k := k) (by omega)
      cases hd : D k with
      | true => rw [h k hd]; simp only [if_true]; omega
      | false => simp only [Bool.false_eq_true, if_false]; split <;> omega

theorem binds_any (e : Edge) : Region.binds .any e = bindsB e := by
  unfold Region.binds bindsB
  cases e.ground <;> rfl

section
variable {P : Program} {TT : Trie TI} {C : CallR} {n0 nt n1 : Nat} {ops : Array Oper} {as : List Nat} {esc : List Nat} {E0 : List AV} {m0 : Mem} {ts : List TrE} {S' : St}
variable {π0 : PMap} {w0 : World} {a0 : Act} {Q : Exit → Act → World → Prop}

theorem draw_any (hTT : TTok P TT) (hA : TTagg P TT) (hC : CSound P C) (H : Went P TT C n0 nt ops as esc E0 m0 n1 ts S') (hfr : FRel π0 esc nt E0 a0)
    (hQ : ∀ D a w π T, Inv n0 nt n1 ops ts S' m0 π0 w0 a0 D a w π T → (∀ j, j < ops.size → D j = true) → Q .normal a w) :
    ∀ (fuel : Nat) (listed : Array Bool) (D : Nat → Bool) (a : Act) (w : World) (π : PMap) (T : Nat), listed.size = ops.size → (∀ j, j < ops.size → D j = listed.getD j false) → cnt D ops.size ≤ fuel →
      Inv n0 nt n1 ops ts S' m0 π0 w0 a0 D a w π T → wpAny P .any ops Q fuel listed a w := by
  intro fuel
  have hall : ∀ (listed : Array Bool) (D : Nat → Bool) (a : Act) (w : World) (π : PMap) (T : Nat), listed.size = ops.size → (∀ j, j < ops.size → D j = listed.getD j false) →
      Inv n0 nt n1 ops ts S' m0 π0 w0 a0 D a w π T → Region.ready .any ops listed = [] → ∀ j, j < ops.size → D j = true := by
    intro listed D a w π T hl hD I hr j
    induction j using Nat.strongRecOn with
    | ind j ih =>
      intro hj
      cases hd : D j with
      | true => rfl
      | false =>
        exfalso
        have : j ∈ Region.ready .any ops listed := by
          rw [mem_ready]
          refine ⟨?_, ops[j], Array.getElem?_eq_getElem hj, fun e he hb => ?_⟩
          · have := hD j hj
            rw [hd] at this
            simp [hl, hj] at this ⊢
            exact this
          · rw [binds_any] at hb
            have hlt := (H.static.ord j _ _ (Array.getElem?_eq_getElem hj) (H.an hj)).1 e he hb
            rw [← hD e.on (by omega)]
            exact ih e.on hlt (by omega)
        rw [hr] at this
        cases this
  induction fuel with
  | zero =>
    intro listed D a w π T hl hD hc I
    have hdone := cnt_zero (by omega : cnt D ops.size = 0)
    refine ⟨?_, hQ D a w π T I hdone⟩
    cases hr : Region.ready .any ops listed with
    | nil => rfl
    | cons i l =>
      have hi : i ∈ Region.ready .any ops listed := by rw [hr]; exact List.mem_cons_self
      obtain ⟨h1, o, ho, _⟩ := mem_ready.1 hi
      have hiN : i < ops.size := (Array.getElem?_eq_some_iff.1 ho).1
      have := hdone i hiN
      rw [hD i hiN] at this
      simp [hl, hiN] at h1 this
      rw [h1] at this; cases this
  | succ fuel ih =>
    intro listed D a w π T hl hD hc I
    refine ⟨fun hr => hQ D a w π T I (hall listed D a w π T hl hD I hr), fun i hi => ?_⟩
    obtain ⟨h1, o, ho, haf⟩ := mem_ready.1 hi
    have hiN : i < ops.size := (Array.getElem?_eq_some_iff.1 ho).1
    have hDi : D i = false := by
      rw [hD i hiN]
      simp [hl, hiN] at h1 ⊢
      exact h1
    have haf' : ∀ e ∈ o.after, bindsB e = true → D e.on = true := fun e he hb => by
      have hlt := (H.static.ord i o _ ho (H.an hiN)).1 e he hb
      rw [hD e.on (by omega)]
      exact haf e he (by rw [binds_any]; exact hb)
    refine I.op hTT hA hC H hfr ho hDi haf' (D' := fun j => D j || (j == i)) (fun j => rfl) fun a' w' π' T' I' => ?_
    refine ih (listed.setIfInBounds i true) _ a' w' π' T' (by simp [hl]) (fun j hj => ?_) ?_ I'
    · by_cases hji : j = i
      · subst hji
        simp [hl, hj]
      · rw [getD_set_ne false (Ne.symm hji), ← hD j hj]
        simp [hji]
    · have := cnt_lt (D := D) (D' := fun j => D j || (j == i)) (fun j h => by simp [h]) hDi (by simp) hiN
      omega

end

section
variable {P : Program} {TT : Trie TI} {π : PMap} {m : Mem} {w : World} {n : Nat} {E : List AV} {C : CallR} {m' : Mem} {n' : Nat} {a : Act} {nt : Nat} {esc : List Nat} {Q : Exit → Act → World → Prop}

theorem Free.mono (h : Free π n) {k : Nat} (hk : n ≤ k) : Free π k := fun i hi => h i (by omega)

theorem makes_ob {i : Nat} {l : List Oper} {as : List Nat} {S S' : St} {ts : List TrE} {n0 : Nat} (h : Chain P TT C n0 i l as S ts S') : ∀ {x : Cx} {ros : List RO}, x = S.x → compOps P TT as i x l = some ros → makes ros = false → ∀ t ∈ ts, t.ob = none := by
  induction h with
  | nil => intro x ros _ _ _ t ht; simp at ht
  | cons i o an l as S S1 S2 v e mk ts hs hc ih =>
    intro x ros hx hr hm t ht
    subst hx
    simp only [compOps] at hr
    have key : mk = none ∧ ∃ rs, compOps P TT as (i + 1) S1.x l = some rs ∧ makes rs = false := by
      cases hal : aliasOf S.x o with
      | some s =>
        rw [hal] at hr
        obtain ⟨rs, hrs, hr⟩ := optB_eq_some hr
        cases hr
        cases hs with
        | alias s' h' =>
          rw [hal] at h'; cases h'
          exact ⟨rfl, rs, hrs, hm⟩
        | skip g h1 => rw [hal] at h1; cases h1
        | look g f v m' n' h1 => rw [hal] at h1; cases h1
        | make g f v m' n' ob h1 => rw [hal] at h1; cases h1
        | eff g f v m' n' h1 => rw [hal] at h1; cases h1
      | none =>
        rw [hal] at hr
        obtain ⟨f, hf, hr⟩ := optB_eq_some hr
        obtain ⟨g, hg, hr⟩ := optB_eq_some hr
        obtain ⟨rs, hrs, hr⟩ := optB_eq_some hr
        rw [frc_eq] at hr
        cases hr
        simp only [makes] at hm
        have hm2 : Nat.beq (kindOf o.op) 2 = false ∧ makes rs = false := by
          cases hb : Nat.beq (kindOf o.op) 2 with
          | true => rw [hb] at hm; cases hm
          | false => rw [hb] at hm; exact ⟨rfl, hm⟩
        cases hs with
        | alias s' h' => rw [hal] at h'; cases h'
        | skip g h1 => exact ⟨rfl, rs, hrs, hm2.2⟩
        | look g f v m' n' h1 => exact ⟨rfl, rs, hrs, hm2.2⟩
        | make g f v m' n' ob h1 h2 h3 h4 h5 => exact absurd h5 (beqF hm2.1)
        | eff g f v m' n' h1 => exact ⟨rfl, rs, hrs, hm2.2⟩
    obtain ⟨k1, rs, k2, k3⟩ := key
    rcases List.mem_cons.1 ht with rfl | ht
    · exact k1
    · exact ih rfl k2 k3 t ht

/-- a region in whatever order -/
theorem draw_ok (hTT : TTok P TT) (hA : TTagg P TT) (hC : CSound P C) (hmix : P.follows .mixedOrders = true) {id : Nat} {ops : Array Oper} {anc : List Nat} {us : List (Nat × Nat)} {ros : List RO} {E' : List AV}
    (h1 : ancs 0 [] ops.toList = some anc) (h2 : usesOf ops.toList ops.toList = some us) (h3 : apartAll [] us anc.reverse = true) (hd : dstsOk nt ops.toList = true)
    (h4 : compOps P TT anc.reverse 0 ⟨esc, dstMask ops.toList, [], 0⟩ ops.toList = some ros) (hfr : FRel π esc nt E a) (hM : MRel π m.get w) (hf : Free π n)
    (h : runD (cnd (makes ros) ros.length 0) ros C E [] m n = .normal E' m' n')
    (hQ : ∀ π' a' w', FRel π' esc nt E' a' → MRel π' m'.get w' → Step π m.get w π' m'.get w' n n' → Free π' n' → Q .normal a' w') : (Code.region id ops true).wp P Q a w := by
  have hst := static_of h1 h2 h3
  simp only [runD, frc_eq] at h
  obtain ⟨ts, S', hc, hk⟩ := run_chain (by intro e; cases e) ops.toList anc.reverse 0 _ ros E [] m _ [] [] h4 (by rw [hst.len]; simp) h
  simp only [List.append_nil, List.reverse_reverse] at hk
  obtain ⟨hok, hk⟩ := cnd_ne hk (by intro e; cases e)
  have hcl := chain_at hc
  have hrl : ros.length = ops.size := by
    have key : ∀ (l : List Oper) (as : List Nat) (i : Nat) (x : Cx) (rs : List RO), compOps P TT as i x l = some rs → rs.length = l.length := by
      intro l
      induction l with
      | nil => intro as i x rs h; cases as <;> (cases h; rfl)
      | cons o l ih =>
        intro as i x rs h
        cases as with
        | nil => cases h
        | cons b as =>
          simp only [compOps] at h
          cases hal : aliasOf x o with
          | some s =>
            rw [hal] at h
            obtain ⟨r, hr, h⟩ := optB_eq_some h
            cases h
            simp [ih _ _ _ _ hr]
          | none =>
            rw [hal] at h
            obtain ⟨f, hf, h⟩ := optB_eq_some h
            obtain ⟨g, hg, h⟩ := optB_eq_some h
            obtain ⟨r, hr, h⟩ := optB_eq_some h
            rw [frc_eq] at h
            cases h
            simp [ih _ _ _ _ hr]
    rw [key _ _ _ _ _ h4]; simp
  have H : Went P TT C n nt ops anc.reverse esc E m (Nat.add n (cnd (makes ros) ros.length 0)) ts S' := by
    refine ⟨hst, hc, fun o ho t ht => dstsOk_spec hd o ho t ht, hok, hfr.len, fun j hj hob => ?_⟩
    cases hmk : makes ros with
    | true => show n + j < n + ros.length; omega
    | false =>
      exfalso
      apply hob
      unfold obA
      cases ht : ts[j]? with
      | none => rfl
      | some t => exact makes_ob hc rfl h4 hmk t (List.mem_of_getElem? ht)
  have hS0 := H.start
  have hX0 : ∀ b, XA n ops.size ts S' 0 (fun _ => false) b = none := fun b => by unfold XA; rw [if_neg]; rintro ⟨_, _, h, _⟩; cases h
  have hun0 : un (stAt ts S' 0).m.get (XA n ops.size ts S' 0 (fun _ => false)) = m.get := by
    funext b
    rw [un_left (hX0 b), hS0]
  have hnle : n ≤ Nat.add n (cnd (makes ros) ros.length 0) := Nat.le_add_right _ _
  refine wp_region_any hmix ?_
  have hM' : MRel π m.get { w with drawn := w.drawn + 1 } := hM.world fun _ _ _ _ => rfl
  refine draw_any (w0 := w) (a0 := a) hTT hA hC H hfr ?_ ops.size _ (fun _ => false) a _ π 0 (by simp) (fun j hj => by simp [hj]) ?_ ?_
  · intro D a' w' π' T I hD
    have I2 := I.slide H ops.size I.le (Nat.le_refl _) fun e h1 h2 h3 => by
      have := (I.eff e (by omega) h3).1 (hD e h2)
      omega
    have hSN : stAt ts S' ops.size = S' := by
      unfold stAt
      rw [List.getElem?_eq_none (by rw [hcl.1]; simp)]
    have hpd := H.pd ops.size (Nat.le_refl _)
    rw [hSN] at hpd
    have hunN : un (stAt ts S' ops.size).m.get (XA n ops.size ts S' ops.size D) = (flushAll S'.m S'.pd).get := by
      funext b
      rw [flushAll_get (n0 := n) (ts := ts) b S'.pd fun p hp => (hpd p hp).2]
      unfold un XA
      rw [hSN]
      by_cases hb : n ≤ b ∧ (b - n) ∈ S'.pd.map (·.1)
      · rw [if_pos hb]
        obtain ⟨p, hp, hpb⟩ := List.mem_map.1 hb.2
        obtain ⟨q1, q2, q3⟩ := hpd p hp
        rw [if_pos ⟨hb.1, by omega, hD _ (by omega), .inr hb.2⟩, ← hpb, q3]
      · rw [if_neg hb, if_neg]
        rintro ⟨c1, c2, c3, c4 | c4⟩
        · omega
        · exact hb ⟨c1, c4⟩
    have hrel := I2.rel
    have hstep := I2.step
    have hfree := I2.free
    rw [hunN] at hrel hstep
    rw [hSN] at hstep hfree
    cases hk
    have henv := H.env ops.size (Nat.le_refl _)
    rw [hSN] at henv
    obtain ⟨hg, hesc, _, _⟩ := henv
    refine hQ π' a' w' ⟨I.size, by rw [hg.len, hesc], fun t p hp => ?_, I.defers⟩ hrel ⟨hstep.ext, hstep.dom, hstep.size, hstep.keep, hstep.img, hstep.os, hstep.tape, hstep.output, hstep.le⟩ hfree
    rw [hg.slot t p (by rw [hesc]; exact hp)]
    rcases envA_eq (esc := esc) (E0 := E) (ts := ts) hst.one t ops.size (Nat.le_refl _) with ⟨k, ok, hk, hok, hd, he⟩ | ⟨hno, he⟩
    · rw [he]
      exact I.done k ok t hok (hD k hk) hd
    · rw [he, I.old t fun j oj hoj hj => hno j oj (Array.getElem?_eq_some_iff.1 hoj).1 hoj]
      simp only [envA, hp]
      exact (hfr.slot t p hp).mono hstep.ext
  · have : ∀ k, cnt (fun _ => false) k ≤ k := by
      intro k
      induction k with
      | zero => exact Nat.le_refl _
      | succ k ih => simp only [cnt]; simp; omega
    exact this _
  · refine ⟨Nat.zero_le _, (fun j hj hk => by simp), (by rw [hun0]; exact hM'), (fun b hb => by rw [hX0 b] at hb; cases hb), hfr.size, hfr.defers, (fun j o t _ h => by cases h), (fun t _ => rfl), ?_, ?_, ?_, ?_, (fun j o _ h => by cases h)⟩
    · rw [hS0]; exact hf.mono hnle
    · rw [hS0]; exact Nat.le_refl _
    · intro j hj _ hob
      exact hf _ (by omega)
    · rw [hun0, hS0]
      exact ⟨.refl _, fun i h k => absurd k h, Nat.le_refl _, fun _ _ _ => rfl, fun i p h e => .inr ⟨i, p, h, e, rfl⟩, rfl, rfl, rfl, hnle⟩

end
end Go.Abs
