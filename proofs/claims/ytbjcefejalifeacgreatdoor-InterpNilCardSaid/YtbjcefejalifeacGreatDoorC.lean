/-
  A part of the proof: see the last text.
-/
import Derived.Test.YtbjcefejalifeacGreatDoorB
import Derived.Laws.RangeString
import Derived.Laws.BytesString
import Derived.Laws.AppendOwn
import Derived.Lib.ConvBytes
set_option linter.unusedVariables false
set_option linter.unusedSimpArgs false
namespace Go.Abs
set_option linter.unusedVariables false
set_option linter.unusedSimpArgs false
open Go.MapKept

section
variable {P : Program} {TT : Trie TI} {π : PMap} {m : Mem} {w : World} {n : Nat} {E K : List AV} {C : CallR} {v : AV} {m' : Mem} {n' : Nat}

/-- a block that is written, at the machine's word -/
theorem set_obj {i : Nat} {o : AObj} {x y : Obj} {p : Pl} (hM : MRel π m.get w) (hi : (m.get i).isSome) (hp : π i = some p) (hy : w.heap[p.b]? = some y) (hr : ORel π o x p) :
    MRel π (m.put i (some o)).get { w with heap := w.heap.setIfInBounds p.b x } ∧ Step π m.get w π (m.put i (some o)).get { w with heap := w.heap.setIfInBounds p.b x } n n := by
  obtain ⟨h1, h2⟩ := heap_set (o' := x) hy
  exact upd_obj hM hi hp h1 hr h2 (by simp) rfl rfl rfl

theorem setVal_get (v k : AV) : ∀ (es : List (AV × AV × Nat)) (i j : Nat) (e : AV × AV × Nat), (setVal v k es i)[j]? = some e →
    (j = i ∧ ∃ e0, es[j]? = some e0 ∧ e = (k, v, e0.2.2)) ∨ (j ≠ i ∧ es[j]? = some e)
  | [], _, j, e, h => by simp [setVal] at h
  | e0 :: es, 0, j, e, h => by
    cases j with
    | zero => simp only [setVal, List.getElem?_cons_zero, Option.some.injEq] at h; exact .inl ⟨rfl, e0, rfl, h.symm⟩
    | succ j => simp only [setVal, List.getElem?_cons_succ] at h; exact .inr ⟨by omega, by simpa using h⟩
  | e0 :: es, i + 1, j, e, h => by
    cases j with
    | zero => simp only [setVal, List.getElem?_cons_zero, Option.some.injEq] at h; exact .inr ⟨by omega, by simpa using h⟩
    | succ j =>
      simp only [setVal, List.getElem?_cons_succ] at h
      rcases setVal_get v k es i j e h with ⟨a, e1, b, c⟩ | ⟨a, b⟩
      · exact .inl ⟨by omega, e1, by simpa using b, c⟩
      · exact .inr ⟨by omega, by simpa using b⟩
theorem setVal_length (v k : AV) : ∀ (es : List (AV × AV × Nat)) (i : Nat), (setVal v k es i).length = es.length
  | [], _ => rfl
  | _ :: _, 0 => rfl
  | _ :: es, i + 1 => by simp [setVal, setVal_length v k es i]

theorem good_mapput (hT : TTok P TT) {t kt e key : Nat} {i ik : TI} {mp k x : Opd} {um uk ux : Value} (hM : MRel π m.get w) (hi : TT.get t = some i) (hui : i.und = .map kt e) (hik : TT.get kt = some ik)
    (hkey : plainKey ik.und = some key) (hm : VRel π (ev E K mp) um) (hk : VRel π (ev E K k) uk) (hx : VRel π (ev E K x) ux)
    (h : oMapput key mp k x C E K m n = .ok v m' n') :
    Good P π m w n v m' n' ((do Instr.mapUpdate t um uk ux; pure .skip : Sem Next).run P w) := by
  obtain ⟨hka, h⟩ := cnd_ne h bad_ne
  have hisk := isKey_of hkey hka hk
  have hck : ∀ em : Bool, (Instr.checkKey em 10000 kt uk).run P w = .ok () w := fun em => run_checkKey (by exact (hT kt ik hik).1) hisk em 9999
  split at h
  rotate_left
  · cases h
  rename_i i' e1
  obtain ⟨es, clk, hmi, h⟩ := onMap_ne h bad_ne
  obtain ⟨res, hres, h⟩ := onOpt_ne h bad_ne
  rw [e1] at hm; cases hm with
  | mp _ p hp =>
  obtain ⟨q, fs, hq, hw, hl, hes⟩ := hM.map hmi
  rw [hp] at hq; cases hq
  have hgo := Go.MapKept.run_getObj_map (P := P) hw
  have hes2 : ∀ (j : Nat) e f, es[j]? = some e → fs[j]? = some f → ERel π e f := fun j e f a b => hes j e f a (by simpa using b)
  have hl2 : es.length = fs.size := by simpa using hl
  have hsome : (m.get i').isSome := by rw [hmi]; rfl
  rcases find_rel hkey hka hk es fs.toList 0 res hl hes hres with ⟨rfl, hf⟩ | ⟨j, a, a', f, rfl, ha, hf, hff, hsb⟩
  · obtain ⟨rfl, rfl, rfl⟩ := ok_inj h
    have hfk := run_findKey (P := P) (w := w) (hT kt ik hik).1 hf
    have hnew : ORel π (.map (es ++ [(ev E K k, ev E K x, clk)]) (clk + 1)) (.map (fs.push { key := uk, val := ux, born := clk }) (clk + 1)) p := by
      refine .map _ _ _ _ (by simp [hl2]) fun j e f he hf => ?_
      rw [Array.getElem?_push] at hf
      split at hf
      · rename_i ej
        cases hf
        rw [List.getElem?_append_right (by omega)] at he
        rw [ej, ← hl2] at he
        simp at he
        subst he
        exact ⟨hk, hx, rfl⟩
      · rw [List.getElem?_append_left ?_] at he
        · exact hes2 j e f he hf
        · have := (Array.getElem?_eq_some_iff.1 hf).1; omega
    obtain ⟨h1, h2⟩ := set_obj (n := n) hM hsome hp hw hnew
    simp only [Instr.mapUpdate, Sem.run_bind, run_und hT hi, hui, Result.andThen_ok, hgo, hck, hfk, run_setObj_map _ hw, Sem.run_pure]
    exact ⟨π, .tup [] #[] .nil, h1, h2⟩
  · obtain ⟨rfl, rfl, rfl⟩ := ok_inj h
    have hfk := run_findKey (P := P) (w := w) (hT kt ik hik).1 hf
    have hff2 : fs[j]? = some f := by simpa using hff
    have hks : (Instr.keyThatStays (((fs[0 + j]?).map (·.key)).getD uk) uk).run P w = .ok uk w := by
      simp [Instr.keyThatStays, hff2, hsb]
    have hnew : ORel π (.map (setVal (ev E K x) (ev E K k) es (0 + j)) clk) (.map (fs.modify (0 + j) fun e => { e with key := uk, val := ux }) clk) p := by
      refine .map _ _ _ _ (by simp [setVal_length, hl2]) fun l e f he hf => ?_
      rw [Array.getElem?_modify] at hf
      rcases setVal_get _ _ _ _ _ _ he with ⟨rfl, e0, h0, rfl⟩ | ⟨hne, h0⟩
      · rw [if_pos rfl] at hf
        obtain ⟨f0, hf0, rfl⟩ := Option.map_eq_some_iff.1 hf
        exact ⟨hk, hx, (hes2 _ _ _ h0 hf0).2.2⟩
      · rw [if_neg (Ne.symm hne)] at hf
        exact hes2 _ _ _ h0 hf
    obtain ⟨h1, h2⟩ := set_obj (n := n) hM hsome hp hw hnew
    simp only [Instr.mapUpdate, Sem.run_bind, run_und hT hi, hui, Result.andThen_ok, hgo, hck, hfk, hks, run_setObj_map _ hw, Sem.run_pure]
    exact ⟨π, .tup [] #[] .nil, h1, h2⟩

theorem good_newit {o : AObj} {x : Obj} (hM : MRel π m.get w) (hn : π n = none) (hr : ORel (upd π n ⟨w.heap.size, 0, 0⟩) o x ⟨w.heap.size, 0, 0⟩) :
    Rel' π m w n (.ptr n 0) (m.put n (some o)) (n + 1) (.pointer (some ⟨w.heap.size, 0, none⟩)) (w.alloc x) := by
  obtain ⟨h1, h2⟩ := new_obj hM hn hr
  exact ⟨_, by simpa using VRel.ptr n 0 _ (upd_same π n _), h1, h2⟩

theorem good_rangeS (hT : TTok P TT) {t : Nat} {i : TI} {x : Opd} {u : Value} (hM : MRel π m.get w) (hi : TT.get t = some i) (hui : i.und = .string) (hn : ∀ x, n ≤ x → x < n' → π x = none)
    (hx : VRel π (ev E K x) u) (h : oRangeS x C E K m n = .ok v m' n') : Good P π m w n v m' n' ((do pure (.value (← Instr.range t u)) : Sem Next).run P w) := by
  obtain ⟨l, e1, h⟩ := onStr_ne h bad_ne
  obtain ⟨rfl, rfl, rfl⟩ := ok_inj h
  rw [e1] at hx
  obtain ⟨s, rfl, rfl⟩ := hx.str_inv
  simp only [Instr.range, Sem.run_bind, run_und hT hi, hui, Result.andThen_ok, run_newObj, Sem.run_pure, World.alloc_eq]
  exact good_newit hM (hn n (Nat.le_refl _) (by omega)) (.siter s 0 _ rfl)

theorem good_rangeM (hT : TTok P TT) {t kt e : Nat} {i : TI} {x : Opd} {u : Value} (hM : MRel π m.get w) (hi : TT.get t = some i) (hui : i.und = .map kt e) (hn : ∀ x, n ≤ x → x < n' → π x = none)
    (hx : VRel π (ev E K x) u) (h : oRangeM x C E K m n = .ok v m' n') : Good P π m w n v m' n' ((do pure (.value (← Instr.range t u)) : Sem Next).run P w) := by
  simp only [oRangeM] at h
  split at h
  · rename_i e1
    obtain ⟨rfl, rfl, rfl⟩ := ok_inj h
    rw [e1] at hx; cases hx
    simp only [Instr.range, Sem.run_bind, run_und hT hi, hui, Result.andThen_ok, run_newObj, Sem.run_pure, World.alloc_eq]
    exact good_newit hM (hn n (Nat.le_refl _) (by omega)) (.miterN 0 0 [] 0 0 #[] _ rfl)
  · rename_i i' e1
    obtain ⟨es, clk, hmi, h⟩ := onMap_ne h bad_ne
    obtain ⟨rfl, rfl, rfl⟩ := ok_inj h
    rw [e1] at hx; cases hx with
    | mp _ p hp =>
    obtain ⟨q, fs, hq, hw, hl, hes⟩ := hM.map hmi
    rw [hp] at hq; cases hq
    have hnn := hn n (Nat.le_refl _) (by omega)
    simp only [Instr.range, Sem.run_bind, run_und hT hi, hui, Go.MapKept.run_getObj_map hw, Result.andThen_ok, run_newObj, Sem.run_pure, World.alloc_eq]
    exact good_newit hM hnn (.miter i' clk [] clk p _ (upd_ext _ hnn _ _ hp) rfl)
  · cases h

theorem good_nextS {t : Nat} {it : Opd} {u : Value} (hM : MRel π m.get w) (hx : VRel π (ev E K it) u) (h : oNextS it C E K m n = .ok v m' n') :
    Good P π m w n v m' n' ((do pure (.value (← Instr.next u true t)) : Sem Next).run P w) := by
  unfold oNextS at h
  simp only [lenQ_eq, getQ_eq, takeQ_eq, dropQ_eq, appQ_eq, allQ_eq] at h
  split at h
  rotate_left
  · cases h
  rename_i i e1
  split at h
  rotate_left
  · cases h
  rename_i l pos hmi
  rw [e1] at hx; cases hx with
  | ptr _ _ p hp =>
  obtain ⟨q, x, hq, hw, hr⟩ := hM.obj i _ hmi
  rw [hp] at hq; cases hq
  cases hr with
  | siter s _ _ hps =>
  rw [hps]
  have hlen : (s.data.toList.map UInt8.toNat).length = s.size := by simp
  have hsome : (m.get i).isSome := by rw [hmi]; rfl
  cases hl : (s.data.toList.map UInt8.toNat)[pos]? with
  | none =>
    rw [hl] at h
    obtain ⟨rfl, rfl, rfl⟩ := ok_inj h
    have hge : ¬ pos < s.size := by have := List.getElem?_eq_none_iff.1 hl; omega
    have hrun : (Instr.next (.pointer (some ⟨p.b, 0, none⟩)) true t).run P w = .ok (.tuple #[.bool false]) w := by
      simp [Instr.next, getObj, Sem.run_bind, Sem.run, hw, hge, Result.andThen]
    simp only [Nat.add_zero, Sem.run_bind, hrun, Result.andThen_ok, Sem.run_pure]
    exact good_same hM (.tup _ _ (.cons _ _ _ _ (.bool false) .nil))
  | some b =>
    rw [hl] at h
    obtain ⟨hb, h⟩ := cnd_ne h bad_ne
    obtain ⟨rfl, rfl, rfl⟩ := ok_inj h
    have hlt : pos < s.size := by have := (List.getElem?_eq_some_iff.1 hl).1; omega
    have hbb : (s[pos]'hlt).toNat = b := by
      have := List.getElem?_eq_some_iff.1 hl
      obtain ⟨h1, h2⟩ := this
      rw [← h2]
      simp [ByteArray.get]
      rfl
    have hb3 : b ≤ 127 := by simpa [Nat.blt, Nat.ble_eq] using hb
    have hb2 : (s[pos]'hlt).toNat < 128 := by omega
    obtain ⟨h1, h2⟩ := set_obj (n := n) hM hsome hp hw (ORel.siter (π := π) s (pos + 1) p hps)
    have hrun : (Instr.next (.pointer (some ⟨p.b, 0, none⟩)) true t).run P w = .ok (.tuple #[.bool true, goInt pos, .int .i32 b]) { w with heap := w.heap.setIfInBounds p.b (.stringIter s (pos + 1)) } := by
      simp [Instr.next, getObj, setObj, Sem.run_bind, Sem.run, hw, hlt, Result.andThen, decode_ascii s pos hlt hb2, hbb]
    simp only [Nat.add_zero, Sem.run_bind, hrun, Result.andThen_ok, Sem.run_pure]
    refine ⟨π, ?_, h1, h2⟩
    exact .tup _ _ (.cons _ _ _ _ (.bool true) (.cons _ _ _ _ (.int .i64 pos) (.cons _ _ _ _ (.int .i32 b) .nil)))

theorem good_nextM {t : Nat} {it : Opd} {u : Value} (hM : MRel π m.get w) (hx : VRel π (ev E K it) u) (h : oNextM it C E K m n = .ok v m' n') :
    Good P π m w n v m' n' ((do pure (.value (← Instr.next u false t)) : Sem Next).run P w) := by
  simp only [oNextM] at h
  split at h
  rotate_left
  · cases h
  rename_i i e1
  have hover : Rel' π m w n (.tup [.bool false]) m n (.tuple #[.bool false]) w := ⟨π, .tup _ _ (.cons _ _ _ _ (.bool false) .nil), hM, .refl _ _ _ _⟩
  split at h
  · rename_i x1 x2 x3 hmi
    obtain ⟨rfl, rfl, rfl⟩ := ok_inj h
    rw [e1] at hx; cases hx with
    | ptr _ _ p hp =>
    obtain ⟨q, x, hq, hw, hr⟩ := hM.obj i _ hmi
    rw [hp] at hq; cases hq
    cases hr with
    | miterN _ _ _ _ _ _ _ hps =>
    rw [hps]
    simp only [Nat.add_zero, Instr.next, getObj, Sem.run_bind, Sem.run, hw, Result.andThen]
    exact hover
  · rename_i j since seen st hmi
    have hsome : (m.get i).isSome := by rw [hmi]; rfl
    rw [e1] at hx; cases hx with
    | ptr _ _ p hp =>
    obtain ⟨q, x, hq, hw, hr⟩ := hM.obj i _ hmi
    rw [hp] at hq; cases hq
    cases hr with
    | miter _ _ _ _ mq _ hmq hps =>
    rw [hps]
    split at h
    · rename_i clk hmj
      obtain ⟨rfl, rfl, rfl⟩ := ok_inj h
      obtain ⟨q, fs, hq, hw2, hl, hes⟩ := hM.map hmj
      rw [hmq] at hq; cases hq
      have hfs : fs = #[] := by
        have : fs.toList = [] := List.eq_nil_of_length_eq_zero (by simpa using hl.symm)
        exact Array.toList_eq_nil_iff.1 this
      subst hfs
      simp only [Nat.add_zero, Instr.next, Sem.run_bind, getObj, Sem.run, hw, hw2, Result.andThen]
      have hfe : ∀ q : MapEntry → Bool, Array.filter q (#[] : Array MapEntry) 0 0 = #[] := fun q => rfl
      simp [Sem.run_bind, Sem.run, Result.andThen, choose, Question.forced, hfe]
      exact hover
    · rename_i e clk hmj
      obtain ⟨q, fs, hq, hw2, hl, hes⟩ := hM.map hmj
      rw [hmq] at hq; cases hq
      obtain ⟨f, hfs⟩ : ∃ f, fs = #[f] := by
        have h1 : fs.toList.length = 1 := by simpa using hl.symm
        obtain ⟨f, hf⟩ := List.length_eq_one_iff.1 h1
        exact ⟨f, Array.toList_inj.1 (by simpa using hf)⟩
      subst hfs
      obtain ⟨hk, hv, hb⟩ := hes 0 e f rfl rfl
      split at h
      · obtain ⟨hlt, h⟩ := cnd_ne h bad_ne
        obtain ⟨rfl, rfl, rfl⟩ := ok_inj h
        have hlt : f.born < since := by have : e.2.2 + 1 ≤ since := by simpa [Nat.blt, Nat.ble_eq] using hlt
                                        omega
        obtain ⟨h1, h2⟩ := set_obj (n := n) hM hsome hp hw (ORel.miter (π := π) j since [e.2.2] clk mq p hmq hps)
        have hnot : ¬ since ≤ f.born := by omega
        simp only [Nat.add_zero, Instr.next, Sem.run_bind, getObj, Sem.run, hw, hw2, Result.andThen]
        simp [Sem.run_bind, Sem.run, Result.andThen, choose, Question.forced, hlt, hnot, setObj, hw]
        rw [← hb]
        exact ⟨π, .tup _ _ (.cons _ _ _ _ (.bool true) (.cons _ _ _ _ hk (.cons _ _ _ _ hv .nil))), h1, h2⟩
      · rename_i b
        obtain ⟨hlt, h⟩ := cnd_ne h bad_ne
        obtain ⟨rfl, rfl, rfl⟩ := ok_inj h
        simp only [Bool.and_eq_true] at hlt
        have hbe := beq_nat hlt.1
        have hlt : f.born < st := by have : e.2.2 + 1 ≤ st := by simpa [Nat.blt, Nat.ble_eq] using hlt.2
                                     omega
        have hnot : ¬ st ≤ f.born := by omega
        subst hbe
        rw [hb] at *
        simp only [Nat.add_zero, Instr.next, Sem.run_bind, getObj, Sem.run, hw, hw2, Result.andThen]
        simp [Sem.run_bind, Sem.run, Result.andThen, choose, Question.forced, hlt, hnot]
        exact hover
      · cases h
    · cases h
  · cases h

end
end Go.Abs
namespace Go.Abs
set_option linter.unusedVariables false
set_option linter.unusedSimpArgs false
open Go.MapKept

section
variable {P : Program} {TT : Trie TI} {π : PMap} {m : Mem} {w : World} {n : Nat} {E K : List AV} {C : CallR} {v : AV} {m' : Mem} {n' : Nat}

theorem evs_rel {ρ : Operand → Value} : ∀ (l : List Operand) (qs : List Opd), All2 (fun x q => VRel π (ev E K q) (ρ x)) l qs → VRels π (evs E K qs) (l.map ρ)
  | _, _, .nil => .nil
  | _, _, .cons h r => .cons _ _ _ _ h (evs_rel _ _ r)

theorem good_callF (hC : CSound P C) {f : Nat} {c : Call} {qs : List Opd} {ρ : Operand → Value} {t : TypeId} (hM : MRel π m.get w) (hn : ∀ x, n ≤ x → π x = none)
    (hc : c.callee = .value (.func f)) (hf : ρ (.func f) = .func (.func f) #[] #[]) (ha : All2 (fun x q => VRel π (ev E K q) (ρ x)) c.args.toList qs)
    (h : oCallF f qs C E K m n = .ok v m' n') :
    Good P π m w n v m' n' ((do let d ← resolve ρ c t; invoke d.target d.args : Sem Next).run P w) := by
  have := hC f _ m n v m' n' h π w _ (evs_rel _ _ ha) hM hn
  simp only [resolve, hc, hf, Deferred.ofValue, Sem.run_bind, Sem.run_pure, Result.andThen_ok, invoke]
  have e : (#[] ++ c.args.map ρ ++ #[]) = (c.args.toList.map ρ).toArray := by
    apply Array.toList_inj.1; simp
  rw [e]
  exact this

theorem good_callV (hC : CSound P C) {f : Opd} {g : Operand} {c : Call} {qs : List Opd} {ρ : Operand → Value} {t : TypeId} (hM : MRel π m.get w) (hn : ∀ x, n ≤ x → π x = none)
    (hc : c.callee = .value g) (hf : VRel π (ev E K f) (ρ g)) (ha : All2 (fun x q => VRel π (ev E K q) (ρ x)) c.args.toList qs)
    (h : oCallV f qs C E K m n = .ok v m' n') :
    Good P π m w n v m' n' ((do let d ← resolve ρ c t; invoke d.target d.args : Sem Next).run P w) := by
  unfold oCallV at h
  simp only [lenQ_eq, getQ_eq, takeQ_eq, dropQ_eq, appQ_eq, allQ_eq] at h
  split at h
  · rename_i f' a b e1
    rw [e1] at hf
    generalize hg : ρ g = u at hf
    cases hf with
    | func _ _ _ a' b' h1 h2 =>
    have := hC _ _ m n v m' n' h π w _ (h1.append ((evs_rel _ _ ha).append h2)) hM hn
    simp only [resolve, hc, hg, Deferred.ofValue, Sem.run_bind, Sem.run_pure, Result.andThen_ok, invoke]
    have e : (a' ++ c.args.map ρ ++ b') = (a'.toList ++ (c.args.toList.map ρ ++ b'.toList)).toArray := by
      apply Array.toList_inj.1; simp
    rw [e]
    exact this
  · cases h

theorem good_lenS (hT : TTok P TT) {t : Nat} {i : TI} {x : Opd} {u : Value} {ty : TypeId} (hM : MRel π m.get w) (hi : TT.get t = some i) (hui : i.und = .string)
    (hx : VRel π (ev E K x) u) (h : oLenS x C E K m n = .ok v m' n') : Good P π m w n v m' n' ((do pure (.value (← Builtin.len_ #[t] ty #[u])) : Sem Next).run P w) := by
  unfold oLenS at h
  simp only [lenQ_eq, getQ_eq, takeQ_eq, dropQ_eq, appQ_eq, allQ_eq] at h
  obtain ⟨l, e1, h⟩ := onStr_ne h bad_ne
  obtain ⟨rfl, rfl, rfl⟩ := ok_inj h
  rw [e1] at hx
  obtain ⟨s, rfl, rfl⟩ := hx.str_inv
  simp [Builtin.len_, Sem.run_bind, run_und hT hi, hui, Result.andThen]
  exact good_same hM (.int .i64 _)

theorem good_lenV (hT : TTok P TT) {t e : Nat} {i : TI} {x : Opd} {u : Value} {ty : TypeId} (hM : MRel π m.get w) (hi : TT.get t = some i) (hui : i.und = .slice e)
    (hx : VRel π (ev E K x) u) (h : oLenV x C E K m n = .ok v m' n') : Good P π m w n v m' n' ((do pure (.value (← Builtin.len_ #[t] ty #[u])) : Sem Next).run P w) := by
  simp only [oLenV] at h
  split at h
  · rename_i i' o k c z e1
    obtain ⟨rfl, rfl, rfl⟩ := ok_inj h
    rw [e1] at hx
    cases hx <;>
    · simp [Builtin.len_, Sem.run_bind, run_und hT hi, hui, Result.andThen]
      exact good_same hM (.int .i64 _)
  · rename_i e1
    obtain ⟨rfl, rfl, rfl⟩ := ok_inj h
    rw [e1] at hx
    cases hx
    simp [Builtin.len_, Sem.run_bind, run_und hT hi, hui, Result.andThen]
    exact good_same hM (.int .i64 _)
  · rename_i e1
    obtain ⟨rfl, rfl, rfl⟩ := ok_inj h
    rw [e1] at hx
    cases hx
    simp [Builtin.len_, Sem.run_bind, run_und hT hi, hui, Result.andThen]
    exact good_same hM (.int .i64 _)
  · cases h

theorem good_lenM (hT : TTok P TT) {t kt e : Nat} {i : TI} {x : Opd} {u : Value} {ty : TypeId} (hM : MRel π m.get w) (hi : TT.get t = some i) (hui : i.und = .map kt e)
    (hx : VRel π (ev E K x) u) (h : oLenM x C E K m n = .ok v m' n') : Good P π m w n v m' n' ((do pure (.value (← Builtin.len_ #[t] ty #[u])) : Sem Next).run P w) := by
  simp only [oLenM] at h
  split at h
  · rename_i e1
    obtain ⟨rfl, rfl, rfl⟩ := ok_inj h
    rw [e1] at hx
    cases hx
    simp [Builtin.len_, Sem.run_bind, run_und hT hi, hui, Result.andThen]
    exact good_same hM (.int .i64 _)
  · rename_i i' e1
    obtain ⟨es, clk, hmi, h⟩ := onMap_ne h bad_ne
    obtain ⟨rfl, rfl, rfl⟩ := ok_inj h
    rw [e1] at hx; cases hx with
    | mp _ p hp =>
    obtain ⟨q, fs, hq, hw, hl, hes⟩ := hM.map hmi
    rw [hp] at hq; cases hq
    simp [Builtin.len_, Sem.run_bind, run_und hT hi, hui, Go.MapKept.run_getObj_map hw, Result.andThen]
    rw [hl]
    exact good_same hM (.int .i64 _)
  · cases h

theorem good_lenC (hT : TTok P TT) {t k e : Nat} {i : TI} {u : Value} {ty : TypeId} (hM : MRel π m.get w) (hi : TT.get t = some i) (hui : i.und = .array k e)
    (h : oLenC k C E K m n = .ok v m' n') : Good P π m w n v m' n' ((do pure (.value (← Builtin.len_ #[t] ty #[u])) : Sem Next).run P w) := by
  obtain ⟨rfl, rfl, rfl⟩ := ok_inj h
  simp [Builtin.len_, Sem.run_bind, run_und hT hi, hui, Result.andThen]
  exact good_same hM (.int .i64 _)

theorem good_lenCP (hT : TTok P TT) {t a k e : Nat} {i j : TI} {u : Value} {ty : TypeId} (hM : MRel π m.get w) (hi : TT.get t = some i) (hui : i.und = .pointer a) (hj : TT.get a = some j) (huj : j.und = .array k e)
    (h : oLenC k C E K m n = .ok v m' n') : Good P π m w n v m' n' ((do pure (.value (← Builtin.len_ #[t] ty #[u])) : Sem Next).run P w) := by
  obtain ⟨rfl, rfl, rfl⟩ := ok_inj h
  simp [Builtin.len_, Sem.run_bind, run_und hT hi, hui, run_und hT hj, huj, Result.andThen]
  exact good_same hM (.int .i64 _)

theorem max_fold {ρ : Operand → Value} {k : IntKind} {w : World} : ∀ (l : List Operand) (qs : List Opd) (x y : Int), All2 (fun a q => VRel π (ev E K q) (ρ a)) l qs → maxA E K x qs = some y →
    ((l.map ρ).foldlM Builtin.max2 (.int k x)).run P w = .ok (.int k y) w := by
  intro l
  induction l with
  | nil => intro qs x y ha h; cases ha; cases h; rfl
  | cons a l ih =>
    intro qs x y ha h
    cases ha with
    | cons h1 h2 =>
    obtain ⟨c, z, e1, h⟩ := onInt_ne h (by simp)
    rw [e1] at h1
    obtain ⟨j, _, hj⟩ := h1.int_inv
    simp only [List.map_cons, List.foldlM_cons, hj, Builtin.max2, Sem.run_bind, Sem.run_pure, Result.andThen_ok]
    have : (if z > x then z else x) = cnd (ltI x z) z x := by
      rw [ltI_eq]
      by_cases hlt : x < z <;> simp [hlt, cnd]
    rw [this]
    exact ih _ _ _ h2 h

theorem min_fold {ρ : Operand → Value} {k : IntKind} {w : World} : ∀ (l : List Operand) (qs : List Opd) (x y : Int), All2 (fun a q => VRel π (ev E K q) (ρ a)) l qs → minA E K x qs = some y →
    ((l.map ρ).foldlM Builtin.min2 (.int k x)).run P w = .ok (.int k y) w := by
  intro l
  induction l with
  | nil => intro qs x y ha h; cases ha; cases h; rfl
  | cons a l ih =>
    intro qs x y ha h
    cases ha with
    | cons h1 h2 =>
    obtain ⟨c, z, e1, h⟩ := onInt_ne h (by simp)
    rw [e1] at h1
    obtain ⟨j, _, hj⟩ := h1.int_inv
    simp only [List.map_cons, List.foldlM_cons, hj, Builtin.min2, Sem.run_bind, Sem.run_pure, Result.andThen_ok]
    have : (if z < x then z else x) = cnd (ltI z x) z x := by
      rw [ltI_eq]
      by_cases hlt : z < x <;> simp [hlt, cnd]
    rw [this]
    exact ih _ _ _ h2 h

theorem good_max {a : Operand} {l : List Operand} {x : Opd} {qs : List Opd} {ρ : Operand → Value} {ty : TypeId} {ts : Array TypeId} (hM : MRel π m.get w) (hx : VRel π (ev E K x) (ρ a))
    (ha : All2 (fun a q => VRel π (ev E K q) (ρ a)) l qs) (h : oMax x qs C E K m n = .ok v m' n') :
    Good P π m w n v m' n' ((do pure (.value (← Builtin.max_ ts ty (ρ a :: l.map ρ).toArray)) : Sem Next).run P w) := by
  obtain ⟨c, y, e1, h⟩ := onInt_ne h bad_ne
  obtain ⟨z, hz, h⟩ := onOpt_ne h bad_ne
  obtain ⟨rfl, rfl, rfl⟩ := ok_inj h
  rw [e1] at hx
  obtain ⟨k, rfl, hk⟩ := hx.int_inv
  simp only [Builtin.max_, Sem.run_bind, hk, max_fold (k := k) l qs y z ha hz, Result.andThen_ok, Sem.run_pure]
  exact good_same hM (.int k z)

theorem good_min {a : Operand} {l : List Operand} {x : Opd} {qs : List Opd} {ρ : Operand → Value} {ty : TypeId} {ts : Array TypeId} (hM : MRel π m.get w) (hx : VRel π (ev E K x) (ρ a))
    (ha : All2 (fun a q => VRel π (ev E K q) (ρ a)) l qs) (h : oMin x qs C E K m n = .ok v m' n') :
    Good P π m w n v m' n' ((do pure (.value (← Builtin.min_ ts ty (ρ a :: l.map ρ).toArray)) : Sem Next).run P w) := by
  obtain ⟨c, y, e1, h⟩ := onInt_ne h bad_ne
  obtain ⟨z, hz, h⟩ := onOpt_ne h bad_ne
  obtain ⟨rfl, rfl, rfl⟩ := ok_inj h
  rw [e1] at hx
  obtain ⟨k, rfl, hk⟩ := hx.int_inv
  simp only [Builtin.min_, Sem.run_bind, hk, min_fold (k := k) l qs y z ha hz, Result.andThen_ok, Sem.run_pure]
  exact good_same hM (.int k z)

theorem good_sdata {x : Opd} {u : Value} {ts : Array TypeId} {ty : TypeId} (hM : MRel π m.get w) (hx : VRel π (ev E K x) u) (h : oSdata x C E K m n = .ok v m' n') :
    Good P π m w n v m' n' ((do pure (.value (← Builtin.unsafeSliceData_ ts ty #[u])) : Sem Next).run P w) := by
  simp only [oSdata] at h
  split at h
  · rename_i e1
    obtain ⟨rfl, rfl, rfl⟩ := ok_inj h
    rw [e1] at hx; cases hx
    have e : ∀ a b, Builtin.unsafeSliceData_ ts ty #[.slice none a b] = pure (.pointer none) := fun _ _ => rfl
    simp only [e, Sem.run_bind, Sem.run_pure, Result.andThen_ok]
    exact good_same hM .nilptr
  · rename_i i o len cap z e1
    obtain ⟨hne, h⟩ := cnd_ne h bad_ne
    obtain ⟨rfl, rfl, rfl⟩ := ok_inj h
    rw [e1] at hx
    have hl0 : 1 ≤ cap := Nat.le_of_ble_eq_true hne
    cases hx with
    | sliceX _ _ _ _ _ p hp =>
    have e : ∀ a b c, Builtin.unsafeSliceData_ ts ty #[.slice (some a) b c] = (if c ≠ 0 then pure (.pointer (some a)) else do
      if (← viewAt a.block).isSome then pure (.pointer (some a)) else pure (.pointer (some ⟨← newObj (.view a (← elemOf ty)), 0, none⟩))) := fun _ _ _ => rfl
    have hc : cap ≠ 0 := by omega
    simp only [e, ne_eq, hc, not_false_eq_true, if_true, Sem.run_bind, Sem.run_pure, Result.andThen_ok]
    exact good_same hM (.ptr i o p hp)
  · rename_i i o len z e1
    obtain ⟨hne, h⟩ := cnd_ne h bad_ne
    obtain ⟨rfl, rfl, rfl⟩ := ok_inj h
    rw [e1] at hx
    have hl0 : 1 ≤ len := Nat.le_of_ble_eq_true hne
    cases hx with
    | sliceO _ _ _ _ c p hp h1 h2 =>
    have e : ∀ a b c, Builtin.unsafeSliceData_ ts ty #[.slice (some a) b c] = (if c ≠ 0 then pure (.pointer (some a)) else do
      if (← viewAt a.block).isSome then pure (.pointer (some a)) else pure (.pointer (some ⟨← newObj (.view a (← elemOf ty)), 0, none⟩))) := fun _ _ _ => rfl
    have hc : c ≠ 0 := by omega
    simp only [e, ne_eq, hc, not_false_eq_true, if_true, Sem.run_bind, Sem.run_pure, Result.andThen_ok]
    exact good_same hM (.ptr i o p hp)
  · cases h

end
end Go.Abs
namespace Go.Abs
set_option linter.unusedVariables false
set_option linter.unusedSimpArgs false
open Go.MapKept

section
variable {P : Program} {TT : Trie TI} {π : PMap} {m : Mem} {w : World} {n : Nat} {E K : List AV} {C : CallR} {v : AV} {m' : Mem} {n' : Nat}

theorem bytesOf_rel : ∀ (cs : List AV) (l : List Nat) (vs : List Value), bytesOf cs = some l → VRels π cs vs → vs = l.map (fun b : Nat => Value.int .u8 (b : Int)) ∧ ∀ b ∈ l, b ≤ 255
  | [], l, vs, h, hr => by cases h; cases hr; exact ⟨rfl, by simp⟩
  | x :: cs, l, vs, h, hr => by
    obtain ⟨c, k, e1, h⟩ := onInt_ne (r := some l) h (by simp)
    obtain ⟨hc, h⟩ := cnd_ne (r := some l) h (by simp)
    obtain ⟨b, rfl, hb, h⟩ := natOf_ne (r := some l) h (by simp)
    obtain ⟨r, hr2, h⟩ := optB_eq_some h
    cases h
    cases hr with
    | cons _ _ u us h1 h2 =>
    rw [e1] at h1
    obtain ⟨j, hj, rfl⟩ := h1.int_inv
    have hj : j = .u8 := kid_inj (by rw [hj, beq_nat hc]; rfl)
    subst hj
    obtain ⟨rfl, h4⟩ := bytesOf_rel cs r us hr2 h2
    exact ⟨rfl, fun y hy => by rcases List.mem_cons.1 hy with rfl | hy; exact hb; exact h4 y hy⟩

theorem fold_bytes : ∀ (l : List Nat) (s : ByteArray), (∀ b ∈ l, b ≤ 255) →
    ((l.map (fun b : Nat => (b : Int))).foldl (fun r (k : Int) => r.push (UInt8.ofNat k.toNat)) s).data.toList.map UInt8.toNat = s.data.toList.map UInt8.toNat ++ l
  | [], s, _ => by simp
  | b :: l, s, h => by
    have hb := h b List.mem_cons_self
    rw [List.map_cons, List.foldl_cons, fold_bytes l _ fun y hy => h y (List.mem_cons_of_mem _ hy)]
    have : (s.push (UInt8.ofNat (b : Int).toNat)).data.toList = s.data.toList ++ [UInt8.ofNat b] := by simp [ByteArray.push]
    rw [this]
    simp
    omega

theorem good_convBytesStr (hT : TTok P TT) {s d e : Nat} {i j k : TI} {x : Opd} {u : Value} (hM : MRel π m.get w) (hi : TT.get s = some i) (hui : i.und = .slice e) (hj : TT.get d = some j) (huj : j.und = .string)
    (hk : TT.get e = some k) (huk : k.und = .int .u8) (hx : VRel π (ev E K x) u) (h : oConvBytesStr x C E K m n = .ok v m' n') :
    Good P π m w n v m' n' ((do pure (.value (← convert s d u)) : Sem Next).run P w) := by
  have hs1 : P.underlying s = some (.slice e) := by rw [← hui]; exact (hT s i hi).1
  have hs2 : P.underlying d = some .string := by rw [← huj]; exact (hT d j hj).1
  have hs3 : P.underlying e = some (.int .u8) := by rw [← huk]; exact (hT e k hk).1
  simp only [oConvBytesStr] at h
  split at h
  · rename_i e1
    obtain ⟨rfl, rfl, rfl⟩ := ok_inj h
    rw [e1] at hx; cases hx
    have : (Conv.bytesToString (.slice none 0 0)).run P w = .ok (.string .empty) w := rfl
    simp only [Sem.run_bind, run_convert_bytes_string w s d e none 0 0 hs1 hs3 hs2, this, Result.andThen_ok, Sem.run_pure]
    exact good_same hM (.str .empty)
  · rename_i i' o len cap z e1
    obtain ⟨hz, h⟩ := cnd_ne h bad_ne
    obtain ⟨el, cs, op, lo, hi', hmi, hlen, h⟩ := loadNA_ne h bad_ne
    obtain ⟨l, hl, h⟩ := onOpt_ne h bad_ne
    obtain ⟨rfl, rfl, rfl⟩ := ok_inj h
    rw [e1] at hx
    obtain ⟨p, c, hp, rfl⟩ : ∃ p c, π i' = some p ∧ u = .slice (some ⟨p.b, p.s + o, none⟩) len c := by
      cases hx
      · exact ⟨_, _, ‹_›, rfl⟩
      · exact ⟨_, _, ‹_›, rfl⟩
    obtain ⟨vs, hvs, hr⟩ := load_cells (P := P) hM hmi hp hlen
    obtain ⟨hvl, hb⟩ := bytesOf_rel _ _ _ hl hr
    have hvl : vs = (l.map (fun b : Nat => Value.int .u8 (b : Int))).toArray := Array.toList_inj.1 (by simpa using hvl)
    subst hvl
    have h1 := run_bytesToString (P := P) w ⟨p.b, p.s + o, none⟩ len c (l.map (fun b : Nat => (b : Int))) (by rw [hvs]; simp [Function.comp_def])
    simp only [Sem.run_bind, run_convert_bytes_string w s d e _ len c hs1 hs3 hs2, h1, Result.andThen_ok, Sem.run_pure]
    have h2 := fold_bytes l .empty hb
    refine good_same hM ?_
    have h3 := VRel.str (π := π) ((l.map (fun b : Nat => (b : Int))).foldl (fun r (k : Int) => r.push (UInt8.ofNat k.toNat)) .empty)
    rw [h2] at h3
    exact h3
  · cases h

theorem u8s_rel (l : List UInt8) : VRels π (u8s (l.map UInt8.toNat)) (l.map fun b => Value.int .u8 (b.toNat : Int)) := by
  induction l with
  | nil => exact .nil
  | cons b l ih => exact .cons _ _ _ _ (.int .u8 _) ih

theorem u8s_length (l : List Nat) : (u8s l).length = l.length := by
  induction l with
  | nil => rfl
  | cons b l ih => simp [u8s, ih]

/-- a new open block -/
theorem new_open {el : Nat} {l : List AV} {c : Array Value} {fz : Nat × Nat} {w' : World} (hM : MRel π m.get w) (hn : π n = none)
    (h : VRels π l (c.toList.take l.length)) (hl : l.length ≤ c.size) (hfz : ∀ off, off < c.size → fz.1 ≤ off → off < fz.2 → False) {lo : Nat} (hfl : lo = 0 → fz.1 = fz.2)
    (hold : ∀ b, b < w.heap.size → w'.heap[b]? = w.heap[b]?) (hnew : w'.heap[w.heap.size]? = some (.cells c el fz)) (hsz : w.heap.size ≤ w'.heap.size)
    (hos : w'.os = w.os) (ht : w'.tape = w.tape) (hout : w'.output = w.output) :
    MRel (upd π n ⟨w.heap.size, 0, c.size⟩) (m.put n (some (.cells el l true lo lo))).get w' ∧
      Step π m.get w (upd π n ⟨w.heap.size, 0, c.size⟩) (m.put n (some (.cells el l true lo lo))).get w' n (n + 1) := by
  have he := upd_ext (⟨w.heap.size, 0, c.size⟩ : Pl) hn
  have h1 : MRel (upd π n ⟨w.heap.size, 0, c.size⟩) m.get w' := by
    refine (hM.ext he).world fun i p hi hp => hold _ ?_
    exact (hM.ext he).lt hi hp
  refine ⟨?_, ⟨he, ?_, hsz, fun b hb _ => hold b hb, ?_, hos, ht, hout, by omega⟩⟩
  · rw [get_put_fun]
    refine h1.add (hM.none hn) hnew (upd_same _ _ _) ?_ ?_
    · refine .cells el l true lo lo c fz _ rfl (by simpa using hl) (fun h => by cases h) ?_ ?_ (fun h => .inl (hfl h))
      · intro j x hx
        obtain ⟨u, hu, hr⟩ := h.get hx
        rw [List.getElem?_take] at hu
        split at hu
        · exact ⟨u, by simpa using hu, hr.mono he⟩
        · cases hu
      · intro off h1 h2 h3
        exact (hfz off h1 h2 h3).elim
    · intro i q hi hq e
      have := (hM.ext he).lt hi hq
      simp only at e
      omega
  · intro i h1 h2
    by_cases e : i = n
    · omega
    · rw [upd_other _ _ e] at h1; exact absurd h2 h1
  · intro i p hi hp
    by_cases e : i = n
    · subst e; rw [upd_same] at hp; cases hp; exact .inl (Nat.le_refl _)
    · rw [upd_other _ _ e] at hp
      rw [Trie.get_put, if_neg e] at hi
      exact .inr ⟨i, p, hi, hp, rfl⟩

theorem good_convStrBytes (hT : TTok P TT) {s d e : Nat} {i j k : TI} {x : Opd} {u : Value} (hM : MRel π m.get w) (hn : ∀ x, n ≤ x → x < n' → π x = none) (hi : TT.get s = some i) (hui : i.und = .string) (hj : TT.get d = some j) (huj : j.und = .slice e)
    (hk : TT.get e = some k) (huk : k.und = .int .u8) (hx : VRel π (ev E K x) u) (h : oConvStrBytes e x C E K m n = .ok v m' n') :
    Good P π m w n v m' n' ((do pure (.value (← convert s d u)) : Sem Next).run P w) := by
  unfold oConvStrBytes at h
  simp only [lenQ_eq, getQ_eq, takeQ_eq, dropQ_eq, appQ_eq, allQ_eq] at h
  have hs1 : P.underlying s = some .string := by rw [← hui]; exact (hT s i hi).1
  have hs2 : P.underlying d = some (.slice e) := by rw [← huj]; exact (hT d j hj).1
  have hs3 : P.underlying e = some (.int .u8) := by rw [← huk]; exact (hT e k hk).1
  obtain ⟨l, e1, h⟩ := onStr_ne h bad_ne
  obtain ⟨rfl, rfl, rfl⟩ := ok_inj h
  rw [e1] at hx
  obtain ⟨b, rfl, rfl⟩ := hx.str_inv
  simp only [Sem.run_bind, Go.Lib.run_convert_string_bytes w s d e b hs1 hs2 hs3, Result.andThen_ok, Sem.run_pure]
  have hcap := grownCap_ge w b.size 0 e
  have hbs : (Go.Lib.bytesCells w e b).size = grownCap w b.size 0 e := by
    have : (b.data.map fun b : UInt8 => Value.int .u8 (b.toNat : Int)).size = b.size := by rw [Array.size_map]; rfl
    rw [Go.Lib.bytesCells, Array.size_append, this, Array.size_replicate]
    omega
  have hll : (u8s (b.data.toList.map UInt8.toNat)).length = b.size := by rw [u8s_length]; simp
  obtain ⟨h1, h2⟩ := new_open (l := u8s (b.data.toList.map UInt8.toNat)) (c := Go.Lib.bytesCells w e b) (w' := Go.Lib.bytesWorld w e b) hM (hn n (Nat.le_refl _) (by omega)) (by
      rw [hll]
      have := u8s_rel (π := π) b.data.toList
      have e2 : ((Go.Lib.bytesCells w e b).toList.take b.size) = b.data.toList.map fun b => Value.int .u8 (b.toNat : Int) := by
        simp [Go.Lib.bytesCells]
      rw [e2]
      exact this) (by rw [hll, hbs]; exact hcap) (fun off h1 h2 h3 => by simp only at h2 h3; omega) (lo := 1) (fun h => by cases h) (fun b' hb' => Go.Lib.bytesWorld_at_old w e b b' hb') (Go.Lib.bytesWorld_at_new w e b)
      (by simp [Go.Lib.bytesWorld, World.freeze, World.alloc, World.drew, -World.alloc_eq, -World.drew_eq]) (by simp [Go.Lib.bytesWorld, World.freeze, World.alloc, World.drew, -World.alloc_eq, -World.drew_eq])
      (by simp [Go.Lib.bytesWorld, World.freeze, World.alloc, World.drew, -World.alloc_eq, -World.drew_eq]) (by simp [Go.Lib.bytesWorld, World.freeze, World.alloc, World.drew, -World.alloc_eq, -World.drew_eq])
  refine ⟨_, ?_, h1, h2⟩
  have := VRel.sliceO (π := upd π n ⟨w.heap.size, 0, (Go.Lib.bytesCells w e b).size⟩) n 0 b.size 1 (grownCap w b.size 0 e) _ (upd_same _ _ _) hcap (by simp [hbs])
  simpa using this

end
end Go.Abs
namespace Go.Abs
set_option linter.unusedVariables false
set_option linter.unusedSimpArgs false
open Go.MapKept Go.Lib

section
variable {P : Program} {TT : Trie TI} {π : PMap} {m : Mem} {w : World} {n : Nat} {E K : List AV} {C : CallR} {v : AV} {m' : Mem} {n' : Nat}

theorem good_convPU (hT : TTok P TT) {s d t : Nat} {i j k : TI} {x : Opd} {u : Value} (hM : MRel π m.get w) (hi : TT.get s = some i) (hui : i.und = .pointer t) (hj : TT.get d = some j) (huj : j.und = .unsafePointer)
    (hk : TT.get t = some k) (hsz : k.size ≠ 0) (hx : VRel π (ev E K x) u) (h : oConvPU x C E K m n = .ok v m' n') :
    Good P π m w n v m' n' ((do pure (.value (← convert s d u)) : Sem Next).run P w) := by
  unfold oConvPU at h
  simp only [lenQ_eq, getQ_eq, takeQ_eq, dropQ_eq, appQ_eq, allQ_eq] at h
  have hs1 : P.underlying s = some (.pointer t) := by rw [← hui]; exact (hT s i hi).1
  have hs2 : P.underlying d = some .unsafePointer := by rw [← huj]; exact (hT d j hj).1
  split at h
  · rename_i e1
    obtain ⟨rfl, rfl, rfl⟩ := ok_inj h
    rw [e1] at hx; cases hx
    have : (convert s d (.pointer none)).run P w = .ok (.pointer none) w := by
      simp [convert, run_underlying hs1, run_underlying hs2, Conv.unsafePointer]
    simp only [Sem.run_bind, this, Result.andThen_ok, Sem.run_pure]
    exact good_same hM .nilptr
  · rename_i i' o e1
    obtain ⟨el, cs, op, lo, hi', hmi, h⟩ := onCells_ne h bad_ne
    obtain ⟨hb, h⟩ := cnd_ne h bad_ne
    obtain ⟨rfl, rfl, rfl⟩ := ok_inj h
    simp only [Bool.and_eq_true, Bool.not_eq_true'] at hb
    have hlt : o < cs.length := by have : o + 1 ≤ cs.length := by simpa [Nat.blt, Nat.ble_eq] using hb.1
                                   omega
    obtain ⟨p, c, fz, hp, hw, h1, h2, h3, h4, h5⟩ := hM.cells hmi
    obtain ⟨h3a, h3b⟩ := h3 hb.2
    rw [e1] at hx
    obtain ⟨q, hq, rfl⟩ := hx.ptr_inv
    rw [hp] at hq; cases hq
    have hsh := shape_of hw
    have hnot : ¬ c.size ≤ p.s + o := by omega
    have : (convert s d (.pointer (some ⟨p.b, p.s + o, none⟩))).run P w = .ok (.pointer (some ⟨p.b, p.s + o, none⟩)) w := by
      simp [convert, run_underlying hs1, run_underlying hs2, Conv.unsafePointer, Conv.seenAt, viewAt, hsh, cellsIn, run_size hT hk, hsz, hnot]
    simp only [Sem.run_bind, this, Result.andThen_ok, Sem.run_pure]
    exact good_same hM (.ptr i' o p hp)
  · cases h

theorem liesAt_own {e : TypeId} (hs : P.cellsOf e ≠ 0) (count off : Nat) (hm : off % P.cellsOf e = 0) (hn : off / P.cellsOf e + 1 ≤ count) : liesAt P P.depth e count off e 1 = true := by
  have hd : P.depth = (2 * (P.types.size + Made.depth) + 1) + 1 := rfl
  rw [hd]
  simp only [liesAt, Bool.or_eq_true]
  left
  rw [hd]
  simp [rowAt, hs, hn, sameLayout, hm]

theorem good_convUP (hT : TTok P TT) {s d t : Nat} {i j k : TI} {x : Opd} {u : Value} (hM : MRel π m.get w) (hi : TT.get s = some i) (hui : i.und = .unsafePointer) (hj : TT.get d = some j) (huj : j.und = .pointer t)
    (hk : TT.get t = some k) (hsz : k.size ≠ 0) (hx : VRel π (ev E K x) u) (h : oConvUP P t x C E K m n = .ok v m' n') :
    Good P π m w n v m' n' ((do pure (.value (← convert s d u)) : Sem Next).run P w) := by
  unfold oConvUP at h
  simp only [lenQ_eq, getQ_eq, takeQ_eq, dropQ_eq, appQ_eq, allQ_eq] at h
  have hs1 : P.underlying s = some .unsafePointer := by rw [← hui]; exact (hT s i hi).1
  have hs2 : P.underlying d = some (.pointer t) := by rw [← huj]; exact (hT d j hj).1
  split at h
  · rename_i e1
    obtain ⟨rfl, rfl, rfl⟩ := ok_inj h
    rw [e1] at hx; cases hx
    have : (convert s d (.pointer none)).run P w = .ok (.pointer none) w := by
      simp [convert, run_underlying hs1, run_underlying hs2, Conv.unsafePointer]
    simp only [Sem.run_bind, this, Result.andThen_ok, Sem.run_pure]
    exact good_same hM .nilptr
  · rename_i i' o e1
    obtain ⟨el, cs, op, lo, hi', hmi, h⟩ := onCells_ne h bad_ne
    have hb : op = false ∧ liesAt P P.depth el (cs.length / P.cellsOf el) o t 1 = true ∧ R.ok (.ptr i' o) m n = R.ok v m' n' := by
      cases op with
      | true => cases h
      | false =>
        rw [cnd_false] at h
        refine ⟨rfl, ?_⟩
        cases he : Nat.beq el t with
        | true =>
          rw [he, cnd_true] at h
          obtain ⟨h1, ha⟩ := cnd_ne h bad_ne
          obtain ⟨h2, hz⟩ := cnd_ne ha bad_ne
          have := beq_nat he
          subst this
          have hc : P.cellsOf el ≠ 0 := by
            obtain ⟨_, ti, z, g1, g2, _⟩ := hT el k hk
            simp [Program.cellsOf, g1, g2, hsz]
          exact ⟨liesAt_own hc _ _ (beq_nat h1) (ble_nat h2), hz⟩
        | false =>
          rw [he, cnd_false] at h
          obtain ⟨h1, h⟩ := cnd_ne h bad_ne
          exact ⟨h1, h⟩
    obtain ⟨hb1, hb2, h⟩ := hb
    obtain ⟨rfl, rfl, rfl⟩ := ok_inj h
    have hb : op = false ∧ liesAt P P.depth el (cs.length / P.cellsOf el) o t 1 = true := ⟨hb1, hb2⟩
    obtain ⟨p, c, fz, hp, hw, h1, h2, h3, h4, h5⟩ := hM.cells hmi
    obtain ⟨h3a, h3b⟩ := h3 hb.1
    rw [e1] at hx
    obtain ⟨q, hq, rfl⟩ := hx.ptr_inv
    rw [hp] at hq; cases hq
    have hsh := shape_of hw
    have hsz2 : c.size = cs.length := by omega
    have hlies : liesAt P P.depth el (c.size / P.cellsOf el) (p.s + o) t 1 = true := by rw [h3a, hsz2, Nat.zero_add]; exact hb.2
    have : (convert s d (.pointer (some ⟨p.b, p.s + o, none⟩))).run P w = .ok (.pointer (some ⟨p.b, p.s + o, none⟩)) w := by
      simp [convert, run_underlying hs1, run_underlying hs2, Conv.unsafePointer, Conv.seenAt, viewAt, hsh, variablesAt, run_size hT hk, hsz, hlies]
    simp only [Sem.run_bind, this, Result.andThen_ok, Sem.run_pure]
    exact good_same hM (.ptr i' o p hp)
  · cases h

theorem liesAt_bytes_from {e : TypeId} (hc : P.cellsOf e = 1) (count off k : Nat) (hn : off + k ≤ count) : liesAt P P.depth e count off e k = true := by
  have hd : P.depth = (2 * (P.types.size + Made.depth) + 1) + 1 := rfl
  rw [hd]
  simp only [liesAt, Bool.or_eq_true]
  left
  rw [hd]
  simp [rowAt, hc, hn, sameLayout, Nat.mod_one]

theorem freeze_heap {b el o k : Nat} {c : Array Value} {fz : Nat × Nat} (hw : w.heap[b]? = some (.cells c el fz)) (hk : k ≠ 0) :
    (w.freeze ⟨b, o, none⟩ k).heap[b]? = some (.cells c el (if fz.1 == fz.2 then (o, o + k) else (min fz.1 o, max fz.2 (o + k)))) ∧
      (∀ j, j ≠ b → (w.freeze ⟨b, o, none⟩ k).heap[j]? = w.heap[j]?) ∧ (w.freeze ⟨b, o, none⟩ k).heap.size = w.heap.size ∧
      (w.freeze ⟨b, o, none⟩ k).os = w.os ∧ (w.freeze ⟨b, o, none⟩ k).tape = w.tape ∧ (w.freeze ⟨b, o, none⟩ k).output = w.output := by
  obtain ⟨lo, hi⟩ := fz
  refine ⟨?_, fun j hj => ?_, ?_, ?_, ?_, ?_⟩ <;> simp only [World.freeze, hk, if_false]
  · rw [Array.getElem?_modify, if_pos rfl, hw]; rfl
  · rw [Array.getElem?_modify, if_neg (Ne.symm hj)]
  · simp

theorem good_ustring (hT : TTok P TT) {t e it : Nat} {i j : TI} {x k : Opd} {u uk : Value} {ty : TypeId} (hM : MRel π m.get w) (hi : TT.get t = some i) (hui : i.und = .pointer e) (hj : TT.get e = some j) (huj : j.und = .int .u8)
    (hsz : j.size = 1) (hx : VRel π (ev E K x) u) (hk : VRel π (ev E K k) uk) (ts : List Nat) (h : oUstring e x k C E K m n = .ok v m' n') :
    Good P π m w n v m' n' ((do pure (.value (← Builtin.unsafeString_ (t :: ts).toArray ty #[u, uk])) : Sem Next).run P w) := by
  unfold oUstring at h
  simp only [lenQ_eq, getQ_eq, takeQ_eq, dropQ_eq, appQ_eq, allQ_eq] at h
  have hs1 : P.underlying t = some (.pointer e) := by rw [← hui]; exact (hT t i hi).1
  have hc : P.cellsOf e = 1 := by
    obtain ⟨_, ti, z, h1, h2, _⟩ := hT e j hj
    simp [Program.cellsOf, h1, h2, hsz]
  have hmax : IntKind.i64.max = 9223372036854775807 := rfl
  obtain ⟨kk, kn, ek, h⟩ := onInt_ne h bad_ne
  obtain ⟨a, rfl, ha, h⟩ := natOf_ne h bad_ne
  rw [ek] at hk
  obtain ⟨kd, _, rfl⟩ := hk.int_inv
  have hneg : ¬ (a : Int) < 0 := by omega
  have h63 : ¬ (9223372036854775807 : Int) < (a : Int) := by omega
  have hzero : ∀ q : Option Addr, a = 0 → (Builtin.unsafeString_ (t :: ts).toArray ty #[.pointer q, .int kd a]).run P w = .ok (.string .empty) w := by
    intro q h0
    subst h0
    cases q <;> rfl
  split at h
  · rename_i e1
    obtain ⟨h0, h⟩ := cnd_ne h bad_ne
    obtain ⟨rfl, rfl, rfl⟩ := ok_inj h
    rw [e1] at hx; cases hx
    simp only [Sem.run_bind, hzero none (beq_nat h0), Result.andThen_ok, Sem.run_pure]
    exact good_same hM (.str .empty)
  · rename_i i' o e1
    rw [e1] at hx
    obtain ⟨p, hp, rfl⟩ := hx.ptr_inv
    by_cases h0 : a = 0
    · subst h0
      obtain ⟨rfl, rfl, rfl⟩ := ok_inj h
      simp only [Sem.run_bind, hzero _ rfl, Result.andThen_ok, Sem.run_pure]
      exact good_same hM (.str .empty)
    · have hbf : Nat.beq a 0 = false := by cases hb : Nat.beq a 0 with
        | false => rfl
        | true => exact absurd (beq_nat hb) h0
      rw [hbf] at h
      obtain ⟨el, cs, op, lo, hi', hmi, h⟩ := onCells_ne h bad_ne
      obtain ⟨hb, h⟩ := cnd_ne h bad_ne
      obtain ⟨l, hl, h⟩ := onOpt_ne h bad_ne
      obtain ⟨rfl, rfl, rfl⟩ := ok_inj h
      simp only [Bool.and_eq_true] at hb
      obtain ⟨⟨⟨hle, ho⟩, hel⟩, hlo⟩ := hb
      have hle := ble_nat hle
      have ho := beq_nat ho
      have hel := beq_nat hel
      have hlo := beq_nat hlo
      subst ho hel hlo
      obtain ⟨q, c, fz, hq, hw, h1, h2, h3, h4, h5, h6⟩ := hM.cells6 hmi
      rw [hp] at hq; cases hq
      obtain ⟨vs, hvs, hr⟩ := load_cells (P := P) (o := 0) (k := a) hM hmi hp (by omega)
      rw [List.drop_zero] at hr
      obtain ⟨hvl, hb⟩ := bytesOf_rel _ _ _ hl hr
      have hll : l.length = a := by
        have := congrArg List.length hvl
        have h8 := hr.length
        simp at this h8
        omega
      have hlb := Go.Lib.run_loadBytes (P := P) w (l.map UInt8.ofNat) ⟨p.b, p.s + 0, none⟩ .empty (fun j x hx => by
        rw [add_eq, cell_of hw]
        rw [List.getElem?_map] at hx
        obtain ⟨y, hy, rfl⟩ := Option.map_eq_some_iff.1 hx
        have hjl : j < l.length := (List.getElem?_eq_some_iff.1 hy).1
        obtain ⟨cv, hcv⟩ : ∃ cv, cs[j]? = some cv := ⟨_, List.getElem?_eq_getElem (by omega)⟩
        obtain ⟨u, hu, hur⟩ := h4 j cv hcv
        have hy2 : vs.toList[j]? = some (.int .u8 (y : Int)) := by rw [hvl, List.getElem?_map, hy]; rfl
        have hrun2 := run_loadCells_at (P := P) (o := p.s + 0) (k := a) hw (by omega)
        rw [hvs] at hrun2
        injection hrun2 with hrun2 _
        rw [hrun2] at hy2
        rw [List.getElem?_take, if_pos (by omega), List.getElem?_drop] at hy2
        have hy255 := hb y (List.mem_of_getElem? hy)
        rw [show p.s + 0 + j = p.s + j by omega] at hy2 ⊢
        rw [show c[p.s + j]? = c.toList[p.s + j]? by simp, hy2]
        simp
        omega)
      rw [List.length_map, hll] at hlb
      have hlies := liesAt_bytes_from (P := P) (e := el) hc (c.size / P.cellsOf el) (p.s + 0) a (by rw [hc]; simp; omega)
      have hsh := shape_of hw
      have hrun : (Builtin.unsafeString_ (t :: ts).toArray ty #[.pointer (some ⟨p.b, p.s + 0, none⟩), .int kd a]).run P w = .ok (.string ⟨(l.map UInt8.ofNat).toArray⟩) (w.freeze ⟨p.b, p.s + 0, none⟩ a) := by
        simp only [Nat.add_zero] at hlies hlb ⊢
        change (asInt (.int kd a) >>= fun n => _ : Sem Value).run P w = _
        simp [asInt, asIntOf, hmax, h63, hneg, h0, variablesAt, hsh, elemOf, run_underlying hs1, hlies, hlb]
      obtain ⟨f1, f2, f3, f4, f5, f6⟩ := freeze_heap (o := p.s + 0) (k := a) hw h0
      simp only [Sem.run_bind, hrun, Result.andThen_ok, Sem.run_pure]
      obtain ⟨r1, r2⟩ := upd_obj (n := n) (o := .cells el cs op 0 (Nat.max hi' a)) hM (by rw [hmi]; rfl) hp f1 (by
        refine .cells el cs op 0 _ c _ p h1 h2 h3 h4 ?_ ?_
        · intro off g1 g2 g3
          have hm1 : hi' ≤ Nat.max hi' a := Nat.le_max_left _ _
          have hm2 : a ≤ Nat.max hi' a := Nat.le_max_right _ _
          by_cases he : fz.1 = fz.2
          · simp only [he, beq_self_eq_true, if_true] at g2 g3
            omega
          · rw [if_neg (by simpa using he)] at g2 g3
            simp only at g2 g3
            rcases h6 rfl with h6 | ⟨a1, a2, a3, a4⟩
            · exact absurd h6 he
            · by_cases hin : fz.1 ≤ off ∧ off < fz.2
              · have := h5 off g1 hin.1 hin.2
                omega
              · have h7 : min fz.1 (p.s + 0) = p.s := by omega
                omega
        · intro _
          have hm1 : hi' ≤ Nat.max hi' a := Nat.le_max_left _ _
          have hm2 : a ≤ Nat.max hi' a := Nat.le_max_right _ _
          right
          by_cases he : fz.1 = fz.2
          · simp only [he, beq_self_eq_true, if_true]
            omega
          · rw [if_neg (by simpa using he)]
            simp only
            rcases h6 rfl with h6 | ⟨a1, a2, a3, a4⟩
            · exact absurd h6 he
            · omega) f2 f3 f4 f5 f6
      refine ⟨π, ?_, r1, r2⟩
      have hs := VRel.str (π := π) ⟨(l.map UInt8.ofNat).toArray⟩
      have hback : (l.map UInt8.ofNat).map UInt8.toNat = l := by
        rw [List.map_map]
        conv => rhs; rw [← List.map_id l]
        apply List.map_congr_left
        intro y hy
        have := hb y hy
        simp
        omega
      simp only [hback] at hs
      exact hs
  · cases h

end
end Go.Abs
namespace Go.Abs
set_option linter.unusedVariables false
set_option linter.unusedSimpArgs false
open Go.MapKept

section
variable {P : Program} {TT : Trie TI} {π : PMap} {m : Mem} {w : World} {n : Nat} {E K : List AV} {C : CallR} {v : AV} {m' : Mem} {n' : Nat}

theorem loadCells_zero (a : Addr) (w : World) : (loadCells a 0).run P w = .ok #[] w := by
  simp [loadCells, loadCellsFrom]

/-- the cells that are appended, or copied -/
theorem src_rel {β : Type} {sz : Nat} {x : AV} {u : Value} {d r : β} {f : Nat → List AV → β} (hM : MRel π m.get w) (hx : VRel π x u) (h : srcA sz x m d f = r) (hd : d ≠ r) :
    ∃ (k : Nat) (cs : List AV) (vs : List Value), f k cs = r ∧ VRels π cs vs ∧ cs.length = k * sz ∧ (∀ w', (Builtin.lenOf u).run P w' = .ok k w') ∧
      ∀ (j : Nat) (w' : World), j ≤ k → w'.heap = w.heap → (Builtin.firstCells sz j u).run P w' = .ok (vs.take (j * sz)).toArray w' := by
  cases x <;> simp only [srcA] at h <;> first | exact absurd h hd | skip
  · -- a text
    rename_i l
    obtain ⟨hs, hq⟩ := cnd_ne h hd
    rw [lenQ_eq] at hq
    obtain ⟨s, rfl, rfl⟩ := hx.str_inv
    have hs := beq_nat hs
    subst hs
    refine ⟨_, _, _, hq, u8s_rel s.data.toList, by simp [u8s_length], fun w' => by simp [Builtin.lenOf], fun j w' hj _ => ?_⟩
    simp only [Builtin.firstCells, Sem.run_pure, Nat.mul_one]
    congr 1
    apply Array.toList_inj.1
    simp [List.map_take]
  · rename_i i o len cap z
    obtain ⟨hz, h⟩ := cnd_ne h hd
    have hz := beq_nat hz
    subst hz
    obtain ⟨p, c, hp, rfl⟩ : ∃ p c, π i = some p ∧ u = .slice (some ⟨p.b, p.s + o, none⟩) len c := by
      cases hx
      · exact ⟨_, _, ‹_›, rfl⟩
      · exact ⟨_, _, ‹_›, rfl⟩
    by_cases h0 : len * z = 0
    · have hb : Nat.beq (len * z) 0 = true := by rw [h0]; rfl
      rw [hb] at h
      refine ⟨len, [], [], h, .nil, by simp [h0], fun w' => by simp [Builtin.lenOf], fun j w' hj _ => ?_⟩
      have : j * z = 0 := by
        rcases Nat.mul_eq_zero.1 h0 with e | e
        · have : j = 0 := by omega
          simp [this]
        · simp [e]
      simp only [Builtin.firstCells, this, loadCells_zero]
      simp
    · have hb : Nat.beq (len * z) 0 = false := by cases hb : Nat.beq (len * z) 0 with
        | false => rfl
        | true => exact absurd (beq_nat hb) h0
      rw [hb] at h
      obtain ⟨el, cs, op, lo, hi', hmi, hlen, h⟩ := loadNA_ne h hd
      obtain ⟨q, c', fz, hq, hw, h1, h2, h3, h4, h5⟩ := hM.cells hmi
      rw [hp] at hq; cases hq
      obtain ⟨vs, hvs, hr⟩ := load_cells (P := P) hM hmi hp hlen
      refine ⟨len, _, vs.toList, h, hr, by rw [List.length_take, List.length_drop]; omega, fun w' => by simp [Builtin.lenOf], fun j w' hj hh => ?_⟩
      have hjl : j * z ≤ len * z := Nat.mul_le_mul_right _ hj
      have hfull := run_loadCells_at (P := P) (o := p.s + o) (k := len * z) hw (by omega)
      rw [hvs] at hfull
      injection hfull with hfull _
      simp only [Builtin.firstCells]
      rw [run_loadCells_at (P := P) (w := w') (o := p.s + o) (k := j * z) (by rw [hh]; exact hw) (by omega), hfull]
      simp [List.take_take, Nat.min_eq_left hjl]
  · cases hx
    refine ⟨0, [], [], h, .nil, by simp, fun w' => by simp [Builtin.lenOf], fun j w' hj _ => ?_⟩
    simp [Builtin.firstCells]
  · cases hx
    refine ⟨0, [], [], h, .nil, by simp, fun w' => by simp [Builtin.lenOf], fun j w' hj _ => ?_⟩
    have : j = 0 := by omega
    subst this
    simp only [Builtin.firstCells, Nat.zero_mul, loadCells_zero]
    simp

theorem good_copy (hT : TTok P TT) {t e : Nat} {i j : TI} {d x : Opd} {ud ux : Value} {ty : TypeId} (ts : List Nat) (hM : MRel π m.get w) (hi : TT.get t = some i) (hui : i.und = .slice e) (hj : TT.get e = some j)
    (hd : VRel π (ev E K d) ud) (hx : VRel π (ev E K x) ux) (h : oCopy j.size d x C E K m n = .ok v m' n') :
    Good P π m w n v m' n' ((do pure (.value (← Builtin.copy_ (t :: ts).toArray ty #[ud, ux])) : Sem Next).run P w) := by
  unfold oCopy at h
  simp only [lenQ_eq, getQ_eq, takeQ_eq, dropQ_eq, appQ_eq, allQ_eq] at h
  have hs1 : P.underlying t = some (.slice e) := by rw [← hui]; exact (hT t i hi).1
  split at h
  · rename_i e1
    obtain ⟨k, cs, vs, h, hr, hl, hlen, hfirst⟩ := src_rel (P := P) hM hx h bad_ne
    obtain ⟨rfl, rfl, rfl⟩ := ok_inj h
    rw [e1] at hd; cases hd
    have hfc := hfirst 0 w (Nat.zero_le _) rfl
    have hrun : (Builtin.copy_ (t :: ts).toArray ty #[.slice none 0 0, ux]).run P w = .ok (goInt 0) w := by
      simp [Builtin.copy_, run_underlying hs1, hlen, run_size hT hj, hfc, Result.andThen]
    simp only [Sem.run_bind, hrun, Result.andThen_ok, Sem.run_pure]
    exact good_same hM (.int .i64 0)
  · rename_i i' o len cap z e1
    obtain ⟨hz, h2⟩ := cnd_ne h bad_ne
    have hz := beq_nat hz
    subst hz
    obtain ⟨k, cs, vs, h3, hr, hl, hlen, hfirst⟩ := src_rel (P := P) hM hx h2 bad_ne
    obtain ⟨el, cs0, op, lo, hi', hmi, hle, hf, hone, h4⟩ := storeNA_ne h3 bad_ne
    obtain ⟨rfl, rfl, rfl⟩ := ok_inj h4
    rw [e1] at hd
    obtain ⟨p, c, hp, rfl⟩ : ∃ p c, π i' = some p ∧ ud = .slice (some ⟨p.b, p.s + o, none⟩) len c := by
      cases hd
      · exact ⟨_, _, ‹_›, rfl⟩
      · exact ⟨_, _, ‹_›, rfl⟩
    obtain ⟨w', hst, r1, r2⟩ := store_cells (P := P) (n := n) hM hmi hp hle hf hone (hr.take _)
    have hfc := hfirst (Nat.min k len) w (Nat.min_le_left _ _) rfl
    have hrun : (Builtin.copy_ (t :: ts).toArray ty #[.slice (some ⟨p.b, p.s + o, none⟩) len c, ux]).run P w = .ok (goInt (Nat.min k len)) w' := by
      simp [Builtin.copy_, run_underlying hs1, hlen, run_size hT hj, hfc, hst, Result.andThen]
    simp only [Sem.run_bind, hrun, Result.andThen_ok, Sem.run_pure]
    exact ⟨π, .int .i64 _, r1, r2⟩
  · cases h

end
end Go.Abs
namespace Go.Abs
set_option linter.unusedVariables false
set_option linter.unusedSimpArgs false
open Go.MapKept

section
variable {P : Program} {TT : Trie TI} {π : PMap} {m : Mem} {w : World} {n : Nat} {E K : List AV} {C : CallR} {v : AV} {m' : Mem} {n' : Nat}

def notInt : TypeDesc → Bool
  | .int _ => false
  | _ => true

theorem run_append_in {t u ty e : TypeId} {ud : TypeDesc} {i : TypeInfo} (ht : P.underlying t = some (.slice e)) (hu : P.underlying u = some ud) (hud : notInt ud = true) (hi : P.info? e = some i)
    (a : Addr) (sLen sCap k : Nat) (x : Value) (news : Array Value) (w' : World) (hlen : ∀ w', (Builtin.lenOf x).run P w' = .ok k w') (hf : (Builtin.firstCells i.size k x).run P w = .ok news w)
    (hle : sLen + k ≤ sCap) (hst : (storeCells (a.add (sLen * i.size)) news.toList).run P w = .ok () w') :
    (Builtin.append_ #[t, u] ty #[.slice (some a) sLen sCap, x]).run P w = .ok (.slice (some a) (sLen + k) sCap) w' := by
  have hz : (match ud with | .int _ => true | _ => false) = false := by cases ud <;> first | rfl | cases hud
  simp [Builtin.append_, run_underlying ht, run_underlying hu, sizeOf, typeInfo, hi, hlen, hf, hle, hst, Result.andThen]
  cases ud <;> first | (cases hud; done) | simp [hlen, hf, hle, hst, Result.andThen]

theorem run_append_nil0 {t u ty e : TypeId} {ud : TypeDesc} {i : TypeInfo} (ht : P.underlying t = some (.slice e)) (hu : P.underlying u = some ud) (hud : notInt ud = true) (hi : P.info? e = some i)
    (x : Value) (hlen : ∀ w', (Builtin.lenOf x).run P w' = .ok 0 w') (hf : (Builtin.firstCells i.size 0 x).run P w = .ok #[] w) :
    (Builtin.append_ #[t, u] ty #[.slice none 0 0, x]).run P w = .ok (.slice none 0 0) w := by
  simp [Builtin.append_, run_underlying ht, run_underlying hu, sizeOf, typeInfo, hi, hlen, hf, Result.andThen]
  cases ud <;> first | (cases hud; done) | simp [hlen, hf, Result.andThen]

theorem run_append_more {t u ty e : TypeId} {ud : TypeDesc} {i : TypeInfo} {z : Value} (ht : P.underlying t = some (.slice e)) (hu : P.underlying u = some ud) (hud : notInt ud = true) (hi : P.info? e = some i) (hz : i.zero = some z)
    (base : Option Addr) (sLen sCap k : Nat) (x : Value) (olds news : Array Value) (hlen : ∀ w', (Builtin.lenOf x).run P w' = .ok k w') (hf : (Builtin.firstCells i.size k x).run P w.drew = .ok news w.drew)
    (hfo : (Builtin.firstCells i.size sLen (.slice base sLen sCap)).run P w.drew = .ok olds w.drew)
    (hlt : sCap < sLen + k) (h63 : sLen + k ≤ 9223372036854775807) (hfit : Builtin.nextslicecap (sLen + k) sCap * i.bytes ≤ 281474976710656) :
    (Builtin.append_ #[t, u] ty #[.slice base sLen sCap, x]).run P w =
      .ok (.slice (some ⟨w.heap.size, 0, none⟩) (sLen + k) (grownCap w (sLen + k) sCap e)) (w.drew.alloc (.cells (olds ++ news ++ Builtin.zeroCells z.cells (grownCap w (sLen + k) sCap e - (sLen + k))) e)) := by
  have hn : ¬ (sLen + k ≤ sCap) := by omega
  have h63' : ¬ (9223372036854775807 < ((sLen : Int) + (k : Int))) := by omega
  have h48' : ¬ (281474976710656 < Builtin.nextslicecap (sLen + k) sCap * i.bytes) := by omega
  simp [Builtin.append_, run_underlying ht, run_underlying hu, sizeOf, typeInfo, hi, hlen, Result.andThen]
  cases ud <;> first | (cases hud; done) | (simp [hn, h63', h48', hlen, hf, hfo, zeroValue, typeInfo, hi, hz, Question.forced, newRow, grownCap, Result.andThen])

theorem zeroCells_size (z : Array Value) (k : Nat) : (Builtin.zeroCells z k).size = k * z.size := by simp [Builtin.zeroCells]

/-- the row grew: a new block -/
theorem grow_new {el : Nat} {l1 l2 : List AV} {v1 v2 : List Value} {z : Array Value} {need old sz : Nat} (hM : MRel π m.get w) (hn : π n = none) (h1 : VRels π l1 v1) (h2 : VRels π l2 v2) (hz : z.size = sz) (hl : l1.length + l2.length = need * sz) {lo : Nat} :
    let c := grownCap w need old el
    let w' := w.drew.alloc (.cells (v1.toArray ++ v2.toArray ++ Builtin.zeroCells z (c - need)) el)
    ∃ π', VRel π' (.slice n 0 need none sz) (.slice (some ⟨w.heap.size, 0, none⟩) need c) ∧ MRel π' (m.put n (some (.cells el (l1 ++ l2) true lo lo))).get w' ∧
      Step π m.get w π' (m.put n (some (.cells el (l1 ++ l2) true lo lo))).get w' n (n + 1) := by
  intro c w'
  have hcap : need ≤ c := grownCap_ge w need old el
  have hs1 := h1.length
  have hs2 := h2.length
  have hcs : (v1.toArray ++ v2.toArray ++ Builtin.zeroCells z (c - need)).size = c * sz := by
    rw [Array.size_append, Array.size_append, zeroCells_size, hz]
    simp only [List.size_toArray]
    rw [Nat.sub_mul]
    have := Nat.mul_le_mul_right sz hcap
    omega
  have hle : need * sz ≤ c * sz := Nat.mul_le_mul_right sz hcap
  obtain ⟨a1, a2⟩ := new_open (el := el) (l := l1 ++ l2) (c := v1.toArray ++ v2.toArray ++ Builtin.zeroCells z (c - need)) (fz := (0, 0)) (w' := w') hM hn (by
      have : (v1.toArray ++ v2.toArray ++ Builtin.zeroCells z (c - need)).toList.take (l1 ++ l2).length = v1 ++ v2 := by
        rw [List.length_append, hs1, hs2]
        simp only [Array.toList_append]
        rw [List.take_append_of_le_length (by simp)]
        simp [List.take_of_length_le]
      rw [this]
      exact h1.append h2) (by rw [hcs, List.length_append]; omega) (fun off _ _ h => by simp at h) (lo := lo) (fun _ => rfl) (fun b hb => heap_alloc_lt w.drew _ hb) (heap_alloc_new w.drew _)
      (by simp [w', World.alloc, World.drew, -World.alloc_eq, -World.drew_eq]) rfl rfl rfl
  refine ⟨_, ?_, a1, a2⟩
  have := VRel.sliceO (π := upd π n ⟨w.heap.size, 0, (v1.toArray ++ v2.toArray ++ Builtin.zeroCells z (c - need)).size⟩) n 0 need sz c _ (upd_same _ _ _) hcap (by simp only [hcs]; omega)
  simpa using this

/-- an open row grew in its own block: another block of ours, that the same one stands for -/
theorem grow_same {i el o len sz : Nat} {cs l : List AV} {vs : List Value} {lo hi : Nat} {p : Pl} {C : Nat} (hM : MRel π m.get w) (hn : π n = none) (e : m.get i = some (.cells el cs true lo hi)) (hp : π i = some p) (hol : o + len * sz = cs.length)
    (hf : hi ≤ lo) (hone : l.all oneCellA = true) (hv : VRels π l vs) (hC : p.s + o + C * sz ≤ p.z) {k : Nat} (hk : l.length = k * sz) (hle : len + k ≤ C) :
    ∃ w' π', (storeCells ⟨p.b, p.s + o + len * sz, none⟩ vs).run P w = .ok () w' ∧ VRel π' (.slice n 0 (len + k) none sz) (.slice (some ⟨p.b, p.s + o, none⟩) (len + k) C) ∧
      MRel π' ((m.put i none).put n (some (.cells el (cs.drop o ++ l) true lo lo))).get w' ∧
      Step π m.get w π' ((m.put i none).put n (some (.cells el (cs.drop o ++ l) true lo lo))).get w' n (n + 1) := by
  obtain ⟨q, c, fz, hq, hx, h1, h2, h3, h4, h5, h6⟩ := hM.cells6 e
  rw [hp] at hq; cases hq
  have hlen := hv.length
  have hlk : (len + k) * sz ≤ C * sz := Nat.mul_le_mul_right sz hle
  rw [Nat.add_mul] at hlk
  obtain ⟨c', hrun, hsz, hget⟩ := run_storeCells_at (P := P) p.b el fz vs (p.s + o + len * sz) 0 c w hx (by omega) (hv.oneCell hone) (fun j j1 j2 ⟨j3, j4⟩ => by
    have := h5 j (by omega) j3 j4
    omega)
  have hin : i ≠ n := by intro e2; subst e2; rw [hn] at hp; cases hp
  have he := upd_ext (⟨p.b, p.s + o, p.z⟩ : Pl) hn
  refine ⟨w.setRow p.b c', upd π n ⟨p.b, p.s + o, p.z⟩, hrun, ?_, ?_, ?_⟩
  · have := VRel.sliceO (π := upd π n ⟨p.b, p.s + o, p.z⟩) n 0 (len + k) sz C _ (upd_same _ _ _) hle (by simpa using hC)
    simpa using this
  · have hs : MRel π (m.put i none).get w := hM.sub fun j o' h => by
      rw [Trie.get_put] at h
      by_cases e : j = i
      · rw [if_pos e] at h; cases h
      · rwa [if_neg e] at h
    have hfar : ∀ j q, ((m.put i none).get j).isSome → π j = some q → q.b ≠ p.b := by
      intro j q hj hq e2
      rw [Trie.get_put] at hj
      by_cases f : j = i
      · simp [f] at hj
      · simp only [if_neg f] at hj
        exact f (hM.inj j i q p hj (by rw [e]; rfl) hq hp e2)
    have hw2 : MRel (upd π n ⟨p.b, p.s + o, p.z⟩) (m.put i none).get (w.setRow p.b c') := (hs.world (w' := w.setRow p.b c') fun j q hj hq => setRow_other w p.b q.b c' (hfar j q hj hq)).ext he
    rw [get_put_fun]
    refine hw2.add (p := ⟨p.b, p.s + o, p.z⟩) ((hs.none hn)) (setRow_heap w p.b c c' el fz hx) (upd_same _ _ _) ?_ ?_
    · refine .cells el _ true lo lo c' fz _ (by simp only; omega) (by simp only [List.length_append, List.length_drop]; omega) (fun h => by cases h) ?_ ?_ ?_
      · intro j x hj
        simp only
        by_cases hjl : j < (cs.drop o).length
        · rw [List.getElem?_append_left hjl, List.getElem?_drop] at hj
          rw [List.length_drop] at hjl
          obtain ⟨u, hu, hr⟩ := h4 (o + j) x hj
          refine ⟨u, ?_, hr.mono he⟩
          rw [hget, if_neg (by omega), ← hu]
          congr 1
          omega
        · rw [List.getElem?_append_right (by omega)] at hj
          rw [List.length_drop] at hjl hj
          obtain ⟨u, hu, hr⟩ := hv.get hj
          have hjj : j - (cs.length - o) < l.length := (List.getElem?_eq_some_iff.1 hj).1
          refine ⟨u, ?_, hr.mono he⟩
          rw [hget, if_pos (by omega), ← hu]
          congr 1
          omega
      · intro off a1 a2 a3
        have := h5 off a1 a2 a3
        omega
      · intro hlo
        rcases h6 hlo with h | ⟨b1, b2, b3, b4⟩
        · exact .inl h
        · omega
    · intro j q hj hq e2
      by_cases f : j = n
      · subst f
        rw [hs.none hn] at hj; simp at hj
      · rw [upd_other _ _ f] at hq
        exact hfar j q hj hq e2
  · refine ⟨he, ?_, by simp, ?_, ?_, rfl, rfl, rfl, by omega⟩
    · intro j h1 h2
      by_cases e2 : j = n
      · omega
      · rw [upd_other _ _ e2] at h1; exact absurd h2 h1
    · intro b hb hno
      exact setRow_other w p.b b c' (fun e2 => hno i p (by rw [e]; rfl) hp e2.symm)
    · intro j q hj hq
      by_cases e2 : j = n
      · subst e2
        rw [upd_same] at hq; cases hq
        exact .inr ⟨i, p, by rw [e]; rfl, hp, rfl⟩
      · rw [upd_other _ _ e2] at hq
        rw [Trie.get_put, if_neg e2, Trie.get_put] at hj
        by_cases f : j = i
        · simp [f] at hj
        · rw [if_neg f] at hj
          exact .inr ⟨j, q, hj, hq, rfl⟩

theorem good_append (hT : TTok P TT) {t u e : Nat} {i j k : TI} {x y : Opd} {ux uy : Value} {ty : TypeId} (hM : MRel π m.get w) (hn : ∀ x, n ≤ x → x < n' → π x = none) (hi : TT.get t = some i) (hui : i.und = .slice e)
    (hj : TT.get u = some j) (hnj : notInt j.und = true) (hk : TT.get e = some k) (hzl : k.zero.length = k.size)
    (hx : VRel π (ev E K x) ux) (hy : VRel π (ev E K y) uy) (h : oAppend e k.size k.bytes x y C E K m n = .ok v m' n') :
    Good P π m w n v m' n' ((do pure (.value (← Builtin.append_ #[t, u] ty #[ux, uy])) : Sem Next).run P w) := by
  have ht : P.underlying t = some (.slice e) := by rw [← hui]; exact (hT t i hi).1
  have hu : P.underlying u = some j.und := (hT u j hj).1
  obtain ⟨_, ti, z, hti, hts, htb, htz, hzr⟩ := hT e k hk
  have hzs : z.cells.size = k.size := by
    have := (absScs_rel (π := π) hzr).length
    simp only [Array.length_toList] at this
    omega
  obtain ⟨kk, new, vs, h, hr, hl, hlen, hfirst⟩ := src_rel (P := P) hM hy h bad_ne
  have hlv := hr.length
  have hf0 : ∀ w' : World, w'.heap = w.heap → (Builtin.firstCells ti.size kk uy).run P w' = .ok vs.toArray w' := fun w' hw' => by
    rw [hts, hfirst kk w' (Nat.le_refl _) hw', List.take_of_length_le (by omega)]
  have room : ∀ a old, old < a → Nat.ble ((2 * a + 1000) * k.bytes) 281474976710656 = true → Nat.ble a 4611686018427387904 = true → a ≤ 9223372036854775807 ∧ Builtin.nextslicecap a old * ti.bytes ≤ 281474976710656 := by
    intro a old hlt h1 h2
    have h1 := ble_nat h1
    have h2 := ble_nat h2
    have h3 := nextslicecap_le hlt
    rw [htb]
    refine ⟨by omega, Nat.le_trans (Nat.mul_le_mul_right k.bytes (by omega : Builtin.nextslicecap a old ≤ 2 * a + 1000)) h1⟩
  simp only [appendA, lenQ_eq, getQ_eq, takeQ_eq, dropQ_eq, appQ_eq, allQ_eq] at h
  split at h
  · rename_i e1
    rw [e1] at hx; cases hx
    by_cases hk0 : kk = 0
    · subst hk0
      obtain ⟨rfl, rfl, rfl⟩ := ok_inj h
      have hvs : vs = [] := List.eq_nil_of_length_eq_zero (by omega)
      subst hvs
      have := run_append_nil0 (P := P) (w := w) (ty := ty) ht hu hnj hti uy hlen (by simpa using hf0 w rfl)
      simp only [Sem.run_bind, this, Result.andThen_ok, Sem.run_pure]
      exact good_same hM .nilslice
    · have hbf : Nat.beq kk 0 = false := by cases hb : Nat.beq kk 0 with
        | false => rfl
        | true => exact absurd (beq_nat hb) hk0
      rw [hbf, cnd_false] at h
      obtain ⟨hb, h⟩ := cnd_ne h bad_ne
      simp only [Bool.and_eq_true] at hb
      obtain ⟨rfl, rfl, rfl⟩ := ok_inj h
      obtain ⟨r1, r2⟩ := room kk 0 (by omega) hb.1 hb.2
      have hrun := run_append_more (P := P) (w := w) (ty := ty) ht hu hnj hti htz none 0 0 kk uy #[] vs.toArray hlen (hf0 w.drew rfl) (by simp [Builtin.firstCells]) (by omega) (by omega) (by simpa using r2)
      obtain ⟨π', g1, g2, g3⟩ := grow_new (el := e) (l1 := []) (v1 := []) (need := 0 + kk) (old := 0) (sz := k.size) (lo := 0) hM (hn n (Nat.le_refl _) (by omega)) .nil hr hzs (by simp [hl])
      simp only [Sem.run_bind, hrun, Result.andThen_ok, Sem.run_pure]
      refine ⟨π', ?_, ?_, ?_⟩
      · simpa using g1
      · simpa using g2
      · simpa using g3
  · rename_i i' o len cap z' e1
    obtain ⟨hz', h0⟩ := cnd_ne h bad_ne
    have hz' := beq_nat hz'
    subst hz'
    clear h
    have h := h0
    clear h0
    rw [e1] at hx
    cases hx with
    | sliceX _ _ _ _ _ p hp =>
    by_cases hc : len + kk ≤ cap
    · have hbt : Nat.ble (len + kk) cap = true := by rw [Nat.ble_eq]; exact hc
      rw [hbt, cnd_true] at h
      obtain ⟨el, cs, op, lo, hi', hmi, hle, hf, hone, h⟩ := storeNA_ne h bad_ne
      obtain ⟨rfl, rfl, rfl⟩ := ok_inj h
      obtain ⟨w', hst, r1, r2⟩ := store_cells (P := P) (n := n) hM hmi hp hle hf hone hr
      have hrun := run_append_in (P := P) (w := w) (ty := ty) ht hu hnj hti ⟨p.b, p.s + o, none⟩ len cap kk uy vs.toArray w' hlen (hf0 w rfl) hc (by rw [add_eq, hts, Nat.add_assoc]; simpa using hst)
      simp only [Sem.run_bind, hrun, Result.andThen_ok, Sem.run_pure]
      exact ⟨π, .sliceX i' o _ cap _ p hp, r1, r2⟩
    · have hbf : Nat.ble (len + kk) cap = false := by cases hb : Nat.ble (len + kk) cap with
        | false => rfl
        | true => exact absurd (ble_nat hb) hc
      rw [hbf, cnd_false] at h
      obtain ⟨hb, h⟩ := cnd_ne h bad_ne
      simp only [Bool.and_eq_true] at hb
      obtain ⟨el, cs, op, lo, hi', hmi, hlen2, h⟩ := loadNA_ne h bad_ne
      obtain ⟨rfl, rfl, rfl⟩ := ok_inj h
      obtain ⟨q, c', fz, hq, hw, h1, h2, h3, h4, h5⟩ := hM.cells hmi
      rw [hp] at hq; cases hq
      obtain ⟨ov, hov, hor⟩ := load_cells (P := P) hM hmi hp hlen2
      obtain ⟨r1, r2⟩ := room (len + kk) cap (by omega) hb.1 hb.2
      have hfull := run_loadCells_at (P := P) (o := p.s + o) (k := len * k.size) hw (by omega)
      rw [hov] at hfull
      injection hfull with hfull _
      have hfo : (Builtin.firstCells ti.size len (.slice (some ⟨p.b, p.s + o, none⟩) len cap)).run P w.drew = .ok ov w.drew := by
        simp only [Builtin.firstCells, hts]
        rw [run_loadCells_at (P := P) (w := w.drew) (o := p.s + o) (k := len * k.size) hw (by omega), hfull]
      have hrun := run_append_more (P := P) (w := w) (ty := ty) ht hu hnj hti htz (some ⟨p.b, p.s + o, none⟩) len cap kk uy ov vs.toArray hlen (hf0 w.drew rfl) hfo (by omega) (by omega) r2
      obtain ⟨π', g1, g2, g3⟩ := grow_new (el := e) (need := len + kk) (old := cap) (sz := k.size) (lo := 0) hM (hn n (Nat.le_refl _) (by omega)) hor hr hzs (by rw [List.length_take, List.length_drop, hl, Nat.add_mul]; omega)
      simp only [Sem.run_bind, hrun, Result.andThen_ok, Sem.run_pure]
      exact ⟨π', g1, g2, g3⟩
  · rename_i i' o len z' e1
    obtain ⟨hz', h0⟩ := cnd_ne h bad_ne
    have hz' := beq_nat hz'
    subst hz'
    clear h
    have h := h0
    clear h0
    rw [e1] at hx
    cases hx with
    | sliceO _ _ _ _ c p hp hlc hcz =>
    by_cases hk0 : kk = 0
    · subst hk0
      obtain ⟨rfl, rfl, rfl⟩ := ok_inj h
      have hvs : vs = [] := List.eq_nil_of_length_eq_zero (by omega)
      subst hvs
      have := run_append_in (P := P) (w := w) (ty := ty) ht hu hnj hti ⟨p.b, p.s + o, none⟩ len c 0 uy #[] w hlen (by simpa using hf0 w rfl) (by omega) (by simp [storeCells])
      simp only [Sem.run_bind, this, Result.andThen_ok, Sem.run_pure]
      exact good_same hM (.sliceO i' o len _ c p hp hlc hcz)
    · have hbf : Nat.beq kk 0 = false := by cases hb : Nat.beq kk 0 with
        | false => rfl
        | true => exact absurd (beq_nat hb) hk0
      rw [hbf, cnd_false] at h
      obtain ⟨hb, h⟩ := cnd_ne h bad_ne
      simp only [Bool.and_eq_true] at hb
      obtain ⟨el, cs, op, lo, hi', hmi, h⟩ := onCells_ne h bad_ne
      obtain ⟨hb2, h9⟩ := cnd_ne h bad_ne
      simp only [Bool.and_eq_true] at hb2
      obtain ⟨⟨⟨⟨hop, hol⟩, hel⟩, hfz⟩, hone⟩ := hb2
      have hol := beq_nat hol
      have hel := beq_nat hel
      have hfz := ble_nat hfz
      subst hop hel
      obtain ⟨rfl, rfl, rfl⟩ := ok_inj h9
      by_cases hc : len + kk ≤ c
      · obtain ⟨w', π', hst, g1, g2, g3⟩ := grow_same (P := P) (k := kk) hM (hn n (Nat.le_refl _) (by omega)) hmi hp hol hfz hone hr hcz hl hc
        have hrun := run_append_in (P := P) (w := w) (ty := ty) ht hu hnj hti ⟨p.b, p.s + o, none⟩ len c kk uy vs.toArray w' hlen (hf0 w rfl) hc (by rw [add_eq, hts]; simpa using hst)
        simp only [Sem.run_bind, hrun, Result.andThen_ok, Sem.run_pure]
        exact ⟨π', g1, g2, g3⟩
      · obtain ⟨q, c', fz, hq, hw, h1, h2, h3, h4, h5⟩ := hM.cells hmi
        rw [hp] at hq; cases hq
        obtain ⟨ov, hov, hor⟩ := load_cells (P := P) (o := o) (k := len * k.size) hM hmi hp (by omega)
        obtain ⟨r1, r2⟩ := room (len + kk) c (by omega) hb.1 hb.2
        have hfull := run_loadCells_at (P := P) (o := p.s + o) (k := len * k.size) hw (by omega)
        rw [hov] at hfull
        injection hfull with hfull _
        have hfo : (Builtin.firstCells ti.size len (.slice (some ⟨p.b, p.s + o, none⟩) len c)).run P w.drew = .ok ov w.drew := by
          simp only [Builtin.firstCells, hts]
          rw [run_loadCells_at (P := P) (w := w.drew) (o := p.s + o) (k := len * k.size) hw (by omega), hfull]
        have hrun := run_append_more (P := P) (w := w) (ty := ty) ht hu hnj hti htz (some ⟨p.b, p.s + o, none⟩) len c kk uy ov vs.toArray hlen (hf0 w.drew rfl) hfo (by omega) (by omega) r2
        have hM2 : MRel π (m.put i' none).get w := hM.sub fun j o' h => by
          rw [Trie.get_put] at h
          by_cases e : j = i'
          · rw [if_pos e] at h; cases h
          · rwa [if_neg e] at h
        obtain ⟨π', g1, g2, g3⟩ := grow_new (el := el) (need := len + kk) (old := c) (sz := k.size) (lo := lo) hM2 (hn n (Nat.le_refl _) (by omega)) hor hr hzs (by rw [List.length_take, List.length_drop, hl, Nat.add_mul]; omega)
        have hdt : (cs.drop o).take (len * k.size) = cs.drop o := List.take_of_length_le (by rw [List.length_drop]; omega)
        rw [hdt] at g2 g3
        simp only [Sem.run_bind, hrun, Result.andThen_ok, Sem.run_pure]
        refine ⟨π', g1, g2, ?_⟩
        refine ⟨g3.ext, g3.dom, g3.size, fun b hb hno => g3.keep b hb fun j q hj hq => ?_, fun j q hj hq => ?_, g3.os, g3.tape, g3.output, g3.le⟩
        · rw [Trie.get_put] at hj
          by_cases f : j = i'
          · simp [f] at hj
          · rw [if_neg f] at hj; exact hno j q hj hq
        · rcases g3.img j q hj hq with h | ⟨a, b, c1, c2, c3⟩
          · exact .inl h
          · rw [Trie.get_put] at c1
            by_cases f : a = i'
            · simp [f] at c1
            · rw [if_neg f] at c1; exact .inr ⟨a, b, c1, c2, c3⟩
  · cases h

end
end Go.Abs
