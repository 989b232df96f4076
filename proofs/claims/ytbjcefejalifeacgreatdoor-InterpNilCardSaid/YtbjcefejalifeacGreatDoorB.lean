/-
  A part of the proof: see the last text.
-/
import Derived.Test.YtbjcefejalifeacGreatDoorA
import Derived.Laws.Strings
import Derived.Laws.RangeString
import Derived.Laws.Slices
import Derived.MapKept
import Derived.Lib.UnsafeStr
set_option linter.unusedVariables false
set_option linter.unusedSimpArgs false
namespace Go.Abs
set_option linter.unusedVariables false
set_option linter.unusedSimpArgs false

/-! what each operation comes to, on the machine -/

/-- the rows of types are the program's -/
def TTok (P : Program) (TT : Trie TI) : Prop := ∀ t i, TT.get t = some i →
  P.underlying t = some i.und ∧ ∃ ti z, P.info? t = some ti ∧ ti.size = i.size ∧ ti.bytes = i.bytes ∧ ti.zero = some z ∧ absScs z.cells.toList = some i.zero

section views
variable {β : Type}
theorem onBool_ne {v : AV} {d r : β} {f : Bool → β} (h : onBool v d f = r) (hd : d ≠ r) : ∃ b, v = .bool b ∧ f b = r := by
  unfold onBool at h; split at h
  · exact ⟨_, rfl, h⟩
  · exact absurd h hd
theorem onInt_ne {v : AV} {d r : β} {f : Nat → Int → β} (h : onInt v d f = r) (hd : d ≠ r) : ∃ c n, v = .int c n ∧ f c n = r := by
  unfold onInt at h; split at h
  · exact ⟨_, _, rfl, h⟩
  · exact absurd h hd
theorem onStr_ne {v : AV} {d r : β} {f : List Nat → β} (h : onStr v d f = r) (hd : d ≠ r) : ∃ l, v = .str l ∧ f l = r := by
  unfold onStr at h; split at h
  · exact ⟨_, rfl, h⟩
  · exact absurd h hd
theorem onPtr_ne {v : AV} {d r : β} {f : Nat → Nat → β} (h : onPtr v d f = r) (hd : d ≠ r) : ∃ i o, v = .ptr i o ∧ f i o = r := by
  unfold onPtr at h; split at h
  · exact ⟨_, _, rfl, h⟩
  · exact absurd h hd
theorem onAgg_ne {v : AV} {d r : β} {f : List AV → β} (h : onAgg v d f = r) (hd : d ≠ r) : ∃ l, v = .agg l ∧ f l = r := by
  unfold onAgg at h; split at h
  · exact ⟨_, rfl, h⟩
  · exact absurd h hd
theorem onTup_ne {v : AV} {d r : β} {f : List AV → β} (h : onTup v d f = r) (hd : d ≠ r) : ∃ l, v = .tup l ∧ f l = r := by
  unfold onTup at h; split at h
  · exact ⟨_, rfl, h⟩
  · exact absurd h hd
theorem onOpt_ne {α : Type} {x : Option α} {d r : β} {f : α → β} (h : onOpt x d f = r) (hd : d ≠ r) : ∃ a, x = some a ∧ f a = r := by
  cases x with
  | none => exact absurd h hd
  | some a => exact ⟨a, rfl, h⟩
theorem cnd_ne {b : Bool} {x d r : β} (h : cnd b x d = r) (hd : d ≠ r) : b = true ∧ x = r := by
  cases b with
  | false => exact absurd h hd
  | true => exact ⟨rfl, h⟩
theorem natOf_ne {n : Int} {k : Nat} {d r : β} {f : Nat → β} (h : natOf n k d f = r) (hd : d ≠ r) : ∃ a : Nat, n = (a : Int) ∧ a ≤ k ∧ f a = r := by
  cases n with
  | ofNat a =>
    obtain ⟨h1, h2⟩ := cnd_ne (β := β) h hd
    exact ⟨a, rfl, Nat.le_of_ble_eq_true h1, h2⟩
  | negSucc a => exact absurd h hd
theorem onMap_ne {m : Mem} {i : Nat} {d r : β} {f : List (AV × AV × Nat) → Nat → β} (h : onMap m i d f = r) (hd : d ≠ r) : ∃ es clk, m.get i = some (.map es clk) ∧ f es clk = r := by
  unfold onMap at h; split at h
  · rename_i es clk e; exact ⟨es, clk, e, h⟩
  · exact absurd h hd
theorem loadNA_ne {i o k : Nat} {m : Mem} {d r : β} {f : List AV → β} (h : loadNA i o k m d f = r) (hd : d ≠ r) :
    ∃ el cs op lo hi, m.get i = some (.cells el cs op lo hi) ∧ o + k ≤ cs.length ∧ f ((cs.drop o).take k) = r := by
  obtain ⟨el, cs, op, lo, hi, e, h⟩ := onCells_ne h hd
  obtain ⟨h1, h2⟩ := cnd_ne h hd
  rw [lenQ_eq] at h1
  rw [takeQ_eq, dropQ_eq] at h2
  exact ⟨el, cs, op, lo, hi, e, Nat.le_of_ble_eq_true h1, h2⟩
end views

theorem beq_nat {a b : Nat} (h : Nat.beq a b = true) : a = b := Nat.eq_of_beq_eq_true h
theorem ble_nat {a b : Nat} (h : Nat.ble a b = true) : a ≤ b := Nat.le_of_ble_eq_true h

/-- kinds -/
theorem kOf_kid (k : IntKind) : kOf (kid k) = k := by cases k <;> rfl
theorem kid_inj {j k : IntKind} (h : kid j = kid k) : j = k := by rw [← kOf_kid j, h, kOf_kid]

def Rel' (π : PMap) (m : Mem) (w : World) (n : Nat) (v : AV) (m' : Mem) (n' : Nat) (v' : Value) (w' : World) : Prop :=
  ∃ π', VRel π' v v' ∧ MRel π' m'.get w' ∧ Step π m.get w π' m'.get w' n n'

def Good (P : Program) (π : PMap) (m : Mem) (w : World) (n : Nat) (v : AV) (m' : Mem) (n' : Nat) : Result Next → Prop
  | .ok (.value v') w' => Rel' π m w n v m' n' v' w'
  | .ok .skip w' => Rel' π m w n v m' n' undef w'
  | .ok (.enter f args) w1 => Calls P f args w1 fun e w' => ∃ v', e = .returned v' ∧ Rel' π m w n v m' n' v' w'
  | _ => False

/-- a value, and nothing has turned -/
theorem good_same {P : Program} {π : PMap} {m : Mem} {w : World} {n : Nat} {v : AV} {v' : Value} (hM : MRel π m.get w) (h : VRel π v v') : Good P π m w n v m n (.ok (.value v') w) :=
  ⟨π, h, hM, .refl _ _ _ _⟩

/-- calls keep to what they come to -/
def CSound (P : Program) (C : CallR) : Prop := ∀ f args m n v m' n', C f args m n = .ok v m' n' →
  ∀ π w vals, VRels π args vals → MRel π m.get w → (∀ x, n ≤ x → π x = none) → Good P π m w n v m' n' ((callFunc f vals.toArray).run P w)

section
variable {P : Program} {TT : Trie TI} {π : PMap} {m : Mem} {w : World} {n : Nat} {E K : List AV} {C : CallR} {v : AV} {m' : Mem} {n' : Nat}

theorem ok_inj {v v2 : AV} {m m2 : Mem} {n n2 : Nat} (h : R.ok v m n = R.ok v2 m2 n2) : v = v2 ∧ m = m2 ∧ n = n2 := by
  injection h with h1 h2 h3; exact ⟨h1, h2, h3⟩

theorem bad_ne {v : AV} {m : Mem} {n : Nat} : R.bad ≠ R.ok v m n := fun h => R.noConfusion h

/-! inversions of the relation -/
theorem VRel.bool_inv {x : Bool} {v : Value} (h : VRel π (.bool x) v) : v = .bool x := by cases h; rfl
theorem VRel.int_inv {c : Nat} {k : Int} {v : Value} (h : VRel π (.int c k) v) : ∃ j, kid j = c ∧ v = .int j k := by cases h; exact ⟨_, rfl, rfl⟩
theorem VRel.str_inv {l : List Nat} {v : Value} (h : VRel π (.str l) v) : ∃ s : ByteArray, s.data.toList.map UInt8.toNat = l ∧ v = .string s := by cases h; exact ⟨_, rfl, rfl⟩
theorem VRel.ptr_inv {i o : Nat} {v : Value} (h : VRel π (.ptr i o) v) : ∃ p, π i = some p ∧ v = .pointer (some ⟨p.b, p.s + o, none⟩) := by cases h; exact ⟨_, ‹_›, rfl⟩
theorem VRel.agg_inv {l : List AV} {v : Value} (h : VRel π (.agg l) v) : ∃ cs : Array Value, VRels π l cs.toList ∧ v = .agg cs := by cases h; exact ⟨_, ‹_›, rfl⟩
theorem VRel.tup_inv {l : List AV} {v : Value} (h : VRel π (.tup l) v) : ∃ cs : Array Value, VRels π l cs.toList ∧ v = .tuple cs := by cases h; exact ⟨_, ‹_›, rfl⟩
theorem VRel.func_inv {f : Nat} {x y : List AV} {v : Value} (h : VRel π (.func f x y) v) : ∃ x' y' : Array Value, VRels π x x'.toList ∧ VRels π y y'.toList ∧ v = .func (.func f) x' y' := by cases h; exact ⟨_, _, ‹_›, ‹_›, rfl⟩

theorem VRel.undef : VRel π undefA Go.undef := .tup [] #[] .nil

/-- the cells of a value -/
theorem VRel.cells {x : AV} {v : Value} (h : VRel π x v) : VRels π x.cells v.cells.toList := by
  cases h with
  | agg l cs h => exact h
  | opq v hv => cases v <;> first | (cases hv; done) | exact .cons _ _ _ _ (.opq _ hv) .nil
  | bool b => exact .cons _ _ _ _ (.bool b) .nil
  | int k n => exact .cons _ _ _ _ (.int k n) .nil
  | str s => exact .cons _ _ _ _ (.str s) .nil
  | ptr i o p e => exact .cons _ _ _ _ (.ptr i o p e) .nil
  | nilptr => exact .cons _ _ _ _ .nilptr .nil
  | sliceX i o l c s p e => exact .cons _ _ _ _ (.sliceX i o l c s p e) .nil
  | sliceO i o l s c p e h1 h2 => exact .cons _ _ _ _ (.sliceO i o l s c p e h1 h2) .nil
  | nilslice => exact .cons _ _ _ _ .nilslice .nil
  | empt a c => exact .cons _ _ _ _ (.empt a c) .nil
  | mp i p e => exact .cons _ _ _ _ (.mp i p e) .nil
  | nilmap => exact .cons _ _ _ _ .nilmap .nil
  | func f a b a' b' x y => exact .cons _ _ _ _ (.func f a b a' b' x y) .nil
  | nilfunc => exact .cons _ _ _ _ .nilfunc .nil
  | iface t x v e => exact .cons _ _ _ _ (.iface t x v e) .nil
  | niliface => exact .cons _ _ _ _ .niliface .nil
  | tup l vs e => exact .cons _ _ _ _ (.tup l vs e) .nil

/-- what fits one cell of ours fits one of the machine's -/
theorem VRel.oneCell {x : AV} {v : Value} (h : VRel π x v) (hx : oneCellA x = true) : v.oneCell' = true := by
  cases h <;> first | rfl | (cases hx; done) | assumption
theorem VRels.oneCell {l : List AV} {vs : List Value} (h : VRels π l vs) (hl : l.all oneCellA = true) : ∀ v ∈ vs, v.oneCell' = true := by
  induction l generalizing vs with
  | nil => cases h; simp
  | cons x l ih => cases h with
    | cons _ v _ vs h1 h2 =>
      simp only [List.all_cons, Bool.and_eq_true] at hl
      intro u hu
      rcases List.mem_cons.1 hu with rfl | hu
      · exact h1.oneCell hl.1
      · exact ih h2 hl.2 u hu

theorem absSc_rel {v : Value} {x : AV} (h : absSc v = some x) : VRel π x v := by
  unfold absSc at h
  split at h <;> first | (cases h; done) | (cases h; first | exact .bool _ | exact .int _ _ | exact .str _ | exact .nilptr | exact .nilslice | exact .nilmap | exact .nilfunc | exact .niliface)
theorem absScs_rel {vs : List Value} {l : List AV} (h : absScs vs = some l) : VRels π l vs := by
  induction vs generalizing l with
  | nil => cases h; exact .nil
  | cons v vs ih =>
    obtain ⟨x, hx, h⟩ := optB_eq_some h
    obtain ⟨l', hl, h⟩ := optB_eq_some h
    cases h
    exact .cons _ _ _ _ (absSc_rel hx) (ih hl)
theorem absVal_rel {v : Value} {x : AV} (h : absVal v = some x) : VRel π x v := by
  unfold absVal at h
  split at h
  · obtain ⟨l, hl, h⟩ := optB_eq_some h; cases h; exact .agg _ _ (absScs_rel hl)
  · exact absSc_rel h

/-! types -/
theorem run_und {t : Nat} {i : TI} (hT : TTok P TT) (h : TT.get t = some i) (w : World) : (underlying t).run P w = .ok i.und w := by
  have := (hT t i h).1
  simp [underlying, this]
theorem run_size {t : Nat} {i : TI} (hT : TTok P TT) (h : TT.get t = some i) (w : World) : (sizeOf t).run P w = .ok i.size w := by
  obtain ⟨_, ti, z, h1, h2, _⟩ := hT t i h
  simp [sizeOf, typeInfo, h1, h2]
theorem run_zero {t : Nat} {i : TI} (hT : TTok P TT) (h : TT.get t = some i) (w : World) : ∃ z, (zeroValue t).run P w = .ok z w ∧ absScs z.cells.toList = some i.zero := by
  obtain ⟨_, ti, z, h1, _, _, h4, h5⟩ := hT t i h
  exact ⟨z, by simp [zeroValue, typeInfo, h1, h4], h5⟩
theorem run_bytes {t : Nat} {i : TI} (hT : TTok P TT) (h : TT.get t = some i) (w : World) : ∃ ti, (typeInfo t).run P w = .ok ti w ∧ ti.bytes = i.bytes ∧ ti.size = i.size := by
  obtain ⟨_, ti, z, h1, h2, h3, _⟩ := hT t i h
  exact ⟨ti, by simp [typeInfo, h1], h3, h2⟩
theorem run_agg {t : Nat} {i : TI} (hT : TTok P TT) (h : TT.get t = some i) (w : World) : (isAgg t).run P w = .ok (isAggD i.und) w := by
  simp only [isAgg, Sem.run_bind, run_und hT h, Result.andThen_ok]
  cases i.und <;> rfl

/-- cells that are read -/
theorem load_cells (hM : MRel π m.get w) {i el : Nat} {cs : List AV} {op : Bool} {lo hi o k : Nat} {p : Pl} (e : m.get i = some (.cells el cs op lo hi)) (hp : π i = some p) (hk : o + k ≤ cs.length) :
    ∃ c : Array Value, (loadCells ⟨p.b, p.s + o, none⟩ k).run P w = .ok c w ∧ VRels π ((cs.drop o).take k) c.toList := by
  obtain ⟨q, c, fz, hq, hx, h1, h2, h3, h4, h5⟩ := hM.cells e
  rw [hp] at hq; cases hq
  refine ⟨_, run_loadCells_at hx (by omega), ?_⟩
  refine .of_get (by simp; omega) fun j x u hj hu => ?_
  have hjk : j < k := by have := (List.getElem?_eq_some_iff.1 hj).1; simp at this; omega
  rw [List.getElem?_take, if_pos hjk, List.getElem?_drop] at hj
  simp only [List.getElem?_take, if_pos hjk, List.getElem?_drop, Array.getElem?_toList] at hu
  obtain ⟨u', hu', hr⟩ := h4 _ _ hj
  rw [show p.s + o + j = p.s + (o + j) by omega, hu'] at hu
  cases hu; exact hr

theorem load_cell (hM : MRel π m.get w) {i el : Nat} {cs : List AV} {op : Bool} {lo hi o : Nat} {x : AV} {p : Pl} (e : m.get i = some (.cells el cs op lo hi)) (hp : π i = some p) (hx : cs[o]? = some x) :
    ∃ u, (load ⟨p.b, p.s + o, none⟩).run P w = .ok u w ∧ VRel π x u := by
  obtain ⟨q, c, fz, hq, hx', h1, h2, h3, h4, h5⟩ := hM.cells e
  rw [hp] at hq; cases hq
  obtain ⟨u, hu, hr⟩ := h4 _ _ hx
  exact ⟨u, by rw [run_load, cell_of hx', hu], hr⟩

/-- cells that are written -/
theorem store_cells (hM : MRel π m.get w) {i el : Nat} {cs : List AV} {op : Bool} {lo hi o : Nat} {l : List AV} {vs : List Value} {p : Pl} (e : m.get i = some (.cells el cs op lo hi)) (hp : π i = some p)
    (hl : o + l.length ≤ cs.length) (hf : hi ≤ lo ∨ o + l.length ≤ lo ∨ hi ≤ o) (hone : l.all oneCellA = true) (hv : VRels π l vs) :
    ∃ w', (storeCells ⟨p.b, p.s + o, none⟩ vs).run P w = .ok () w' ∧ MRel π (m.put i (some (.cells el (spliceL o l cs) op lo hi))).get w' ∧
      Step π m.get w π (m.put i (some (.cells el (spliceL o l cs) op lo hi))).get w' n n := by
  obtain ⟨q, c, fz, hq, hx, h1, h2, h3, h4, h5, h6⟩ := hM.cells6 e
  rw [hp] at hq; cases hq
  have hlen := hv.length
  obtain ⟨c', hrun, hsz, hget⟩ := run_storeCells_at (P := P) p.b el fz vs (p.s + o) 0 c w hx (by omega) (hv.oneCell hone) (fun j j1 j2 ⟨j3, j4⟩ => by
    have := h5 j (by omega) j3 j4
    omega)
  refine ⟨w.setRow p.b c', hrun, ?_⟩
  refine upd_obj hM (by rw [e]; rfl) hp (setRow_heap w p.b c c' el fz hx) ?_ (fun k hk => setRow_other w p.b k c' hk) (by simp) rfl rfl rfl
  have hsl := splice_length o l cs hl
  refine .cells el _ op lo hi c' fz p (by omega) (by omega) (fun ho => by have := h3 ho; omega) ?_ (fun off a1 a2 a3 => by have := h5 off a1 a2 a3; omega) (by rw [hsl]; exact h6)
  intro j x hx'
  rw [splice_get o l cs hl] at hx'
  rw [hget]
  by_cases hj : o ≤ j ∧ j < o + l.length
  · rw [if_pos hj] at hx'
    rw [if_pos (by omega)]
    obtain ⟨u, hu, hr⟩ := hv.get hx'
    exact ⟨u, by rw [show p.s + j - (p.s + o + 0) = j - o by omega]; exact hu, hr⟩
  · rw [if_neg hj] at hx'
    rw [if_neg (by omega)]
    exact h4 j x hx'

/-- a new row of cells -/
theorem new_cells (hM : MRel π m.get w) (hn : π n = none) (el : Nat) {l : List AV} {c : Array Value} (h : VRels π l c.toList) :
    MRel (upd π n ⟨w.heap.size, 0, c.size⟩) (m.put n (some (.cells el l false 0 0))).get (w.alloc (.cells c el)) ∧
      Step π m.get w (upd π n ⟨w.heap.size, 0, c.size⟩) (m.put n (some (.cells el l false 0 0))).get (w.alloc (.cells c el)) n (n + 1) ∧ Ext π (upd π n ⟨w.heap.size, 0, c.size⟩) := by
  have he := upd_ext (⟨w.heap.size, 0, c.size⟩ : Pl) hn
  have hl := h.length
  simp only [Array.length_toList] at hl
  have := new_obj (s := 0) (z := c.size) (o := .cells el l false 0 0) (x := .cells c el) hM hn (by
    refine .cells el l false 0 0 c (0, 0) _ rfl (by simp; omega) (fun _ => ⟨rfl, hl⟩) ?_ (fun off _ h1 h2 => by simp at h2) (fun _ => .inl rfl)
    intro j x hx
    obtain ⟨u, hu, hr⟩ := h.get hx
    exact ⟨u, by simpa using hu, hr.mono he⟩)
  exact ⟨this.1, this.2, he⟩

end
end Go.Abs
namespace Go.Abs
set_option linter.unusedVariables false
set_option linter.unusedSimpArgs false

section
variable {P : Program} {TT : Trie TI} {π : PMap} {m : Mem} {w : World} {n : Nat} {E K : List AV} {C : CallR} {v : AV} {m' : Mem} {n' : Nat}

theorem good_mv {x : Opd} {u : Value} (hM : MRel π m.get w) (hx : VRel π (ev E K x) u) (h : oMv x C E K m n = .ok v m' n') :
    Good P π m w n v m' n' ((pure (.value u) : Sem Next).run P w) := by
  obtain ⟨rfl, rfl, rfl⟩ := ok_inj h
  exact good_same hM hx

theorem good_pick {c x y : Opd} {uc ux uy : Value} (hM : MRel π m.get w) (hc : VRel π (ev E K c) uc) (hx : VRel π (ev E K x) ux) (hy : VRel π (ev E K y) uy)
    (h : oPick c x y C E K m n = .ok v m' n') :
    Good P π m w n v m' n' ((do pure (.value (if ← asBool uc then ux else uy)) : Sem Next).run P w) := by
  obtain ⟨t, ht, h⟩ := onBool_ne h bad_ne
  obtain ⟨rfl, rfl, rfl⟩ := ok_inj h
  rw [ht] at hc
  rw [hc.bool_inv]
  simp only [asBool, Sem.run_bind, Sem.run_pure, Result.andThen_ok]
  cases t
  · exact good_same hM hy
  · exact good_same hM hx

theorem good_alloc (hT : TTok P TT) {t : Nat} {i : TI} (hM : MRel π m.get w) (hi : TT.get t = some i) (hn : ∀ x, n ≤ x → x < n' → π x = none)
    (h : oAlloc t i.zero C E K m n = .ok v m' n') :
    Good P π m w n v m' n' ((do pure (.value (← Instr.alloc t true (.tuple #[]))) : Sem Next).run P w) := by
  obtain ⟨rfl, rfl, rfl⟩ := ok_inj h
  obtain ⟨z, hz, hzr⟩ := run_zero hT hi w
  simp only [Instr.alloc, newVar, newRow, Sem.run_bind, hz, Result.andThen_ok, run_newObj, Sem.run_pure, World.alloc_eq]
  obtain ⟨h1, h2, he⟩ := new_cells hM (hn n (Nat.le_refl _) (by omega)) t (absScs_rel (π := π) hzr)
  exact ⟨_, by simpa using VRel.ptr n 0 _ (upd_same π n _), h1, h2⟩

theorem good_box {t sz : Nat} {x : Opd} {u : Value} (hM : MRel π m.get w) (hx : VRel π (ev E K x) u) (hn : ∀ x, n ≤ x → x < n' → π x = none)
    (h : oBox t sz x C E K m n = .ok v m' n') :
    Good P π m w n v m' n' ((do pure (.value (← Instr.box t u)) : Sem Next).run P w) := by
  obtain ⟨_, h⟩ := cnd_ne h bad_ne
  obtain ⟨rfl, rfl, rfl⟩ := ok_inj h
  simp only [Instr.box, newVar, newRow, Sem.run_bind, Result.andThen_ok, run_newObj, Sem.run_pure, World.alloc_eq]
  obtain ⟨h1, h2, he⟩ := new_cells hM (hn n (Nat.le_refl _) (by omega)) t hx.cells
  exact ⟨_, by simpa using VRel.ptr n 0 _ (upd_same π n _), h1, h2⟩

/-- two lists, one by one -/
inductive All2 {α β : Type} (R : α → β → Prop) : List α → List β → Prop
  | nil : All2 R [] []
  | cons {a : α} {b : β} {l : List α} {k : List β} : R a b → All2 R l k → All2 R (a :: l) (b :: k)

/-! parts laid into cells -/
theorem foldl_size (off : Nat) : ∀ (l : List (Value × Nat)) (cs : Array Value), (l.foldl (fun cs (c, j) => cs.setIfInBounds (off + j) c) cs).size = cs.size := by
  intro l
  induction l with
  | nil => intro cs; rfl
  | cons a l ih => intro cs; simp only [List.foldl_cons]; rw [ih]; simp

theorem foldl_get (off : Nat) : ∀ (l : List Value) (k : Nat) (cs : Array Value), off + k + l.length ≤ cs.size → ∀ j,
    ((l.zipIdx k).foldl (fun cs (c, j) => cs.setIfInBounds (off + j) c) cs)[j]? = if off + k ≤ j ∧ j < off + k + l.length then l[j - (off + k)]? else cs[j]? := by
  intro l
  induction l with
  | nil => intro k cs _ j; rw [if_neg (by simp only [List.length_nil]; omega)]; rfl
  | cons a l ih =>
    intro k cs h j
    simp only [List.length_cons] at h
    simp only [List.zipIdx_cons, List.foldl_cons]
    rw [ih (k + 1) _ (by rw [Array.size_setIfInBounds]; omega)]
    by_cases hj : off + k = j
    · subst hj
      rw [if_neg (by omega), if_pos (by simp only [List.length_cons]; omega)]
      simp [show off + k < cs.size by omega]
    · by_cases hr : off + (k + 1) ≤ j ∧ j < off + (k + 1) + l.length
      · rw [if_pos hr, if_pos (by simp only [List.length_cons]; omega)]
        rw [show j - (off + k) = (j - (off + (k + 1))) + 1 by omega, List.getElem?_cons_succ]
      · rw [if_neg hr, if_neg (by simp only [List.length_cons]; omega), Array.getElem?_setIfInBounds_ne hj]

theorem fill_rel {E K : List AV} {ρ : Operand → Value} {place : Nat → Option (Nat × Nat)} :
    ∀ (ps : List (Nat × Operand)) (qs : List (Nat × Nat × Opd)) (cs : List AV) (ds : Array Value) (out : List AV),
      All2 (fun (p : Nat × Operand) (q : Nat × Nat × Opd) => place p.1 = some (q.1, q.2.1) ∧ VRel π (ev E K q.2.2) (ρ p.2)) ps qs →
      VRels π cs ds.toList → fillA E K cs qs = some out →
      ∃ es : Array Value, Instr.fill place ds (ps.map fun (i, x) => (i, ρ x)) = some es ∧ VRels π out es.toList := by
  intro ps
  induction ps with
  | nil =>
    intro qs cs ds out hp hc h
    cases hp
    cases h
    exact ⟨ds, rfl, hc⟩
  | cons p ps ih =>
    intro qs cs ds out hp hc h
    cases hp with
    | @cons _ q _ qs h1 h2 =>
      obtain ⟨hpl, hv⟩ := h1
      obtain ⟨i, x⟩ := p
      simp only at hpl hv
      unfold fillA at h
      obtain ⟨e1, h⟩ := cnd_ne h (by simp)
      obtain ⟨e2, h⟩ := cnd_ne h (by simp)
      rw [lenQ_eq] at e1 e2
      have e1 := beq_nat e1
      have e2 := ble_nat e2
      have hcl := hc.length
      simp only [Array.length_toList] at hcl
      have hvc := hv.cells
      have hvl := hvc.length
      simp only [Array.length_toList] at hvl
      simp only [Nat.add_eq] at e2
      simp only [List.map_cons, Instr.fill, hpl]
      rw [if_neg (by simp; omega)]
      refine ih qs _ _ out h2 ?_ h
      have hz : (ρ x).cells.zipIdx.foldl (fun cs (c, j) => cs.setIfInBounds (q.1 + j) c) ds = ((ρ x).cells.toList.zipIdx 0).foldl (fun cs (c, j) => cs.setIfInBounds (q.1 + j) c) ds := by
        rw [← Array.foldl_toList, Array.toList_zipIdx]
      rw [hz]
      have hle : q.1 + (ev E K q.2.2).cells.length ≤ cs.length := by omega
      refine .of_get ?_ fun j y u hy hu => ?_
      · rw [splice_length _ _ _ hle, hcl, Array.length_toList, foldl_size]
      · rw [splice_get _ _ _ hle] at hy
        rw [Array.getElem?_toList, foldl_get _ _ _ _ (by simp; omega)] at hu
        by_cases hj : q.1 ≤ j ∧ j < q.1 + (ev E K q.2.2).cells.length
        · rw [if_pos hj] at hy
          rw [if_pos (by simp only [Array.length_toList]; omega), Nat.add_zero] at hu
          obtain ⟨u', hu', hr⟩ := hvc.get hy
          rw [hu'] at hu; cases hu; exact hr
        · rw [if_neg hj] at hy
          rw [if_neg (by simp only [Array.length_toList]; omega)] at hu
          obtain ⟨u', hu', hr⟩ := hc.get hy
          rw [Array.getElem?_toList] at hu'
          rw [hu'] at hu; cases hu; exact hr

theorem parts_map (ps : Array (Nat × Operand)) (ρ : Operand → Value) : (ps.map fun (i, x) => (i, ρ x)).toList = ps.toList.map fun (i, x) => (i, ρ x) := by simp

theorem good_build_struct (hT : TTok P TT) {t : Nat} {i : TI} {fs : Array Field} {ps : Array (Nat × Operand)} {pl : List (Nat × Nat)} {qs : List (Nat × Nat × Opd)} {ρ : Operand → Value}
    (hM : MRel π m.get w) (hi : TT.get t = some i) (hu : i.und = .struct fs) (hpl : placesOf TT fs.toList = some pl)
    (hq : All2 (fun (p : Nat × Operand) (q : Nat × Nat × Opd) => pl[p.1]? = some (q.1, q.2.1) ∧ VRel π (ev E K q.2.2) (ρ p.2)) ps.toList qs)
    (h : oBuild i.zero qs C E K m n = .ok v m' n') :
    Good P π m w n v m' n' ((do pure (.value (← Instr.build t (ps.map fun (i, x) => (i, ρ x)))) : Sem Next).run P w) := by
  obtain ⟨cs, hcs, h⟩ := onOpt_ne h bad_ne
  obtain ⟨rfl, rfl, rfl⟩ := ok_inj h
  obtain ⟨z, hz, hzr⟩ := run_zero hT hi w
  have hmap : ∀ (l : List Field) (pl : List (Nat × Nat)), placesOf TT l = some pl → (l.mapM (fun f => do pure (f.offset, ← sizeOf f.type) : Field → Sem (Nat × Nat))).run P w = .ok pl w := by
    intro l
    induction l with
    | nil => intro pl h; cases h; rfl
    | cons f l ih =>
      intro pl h
      obtain ⟨j, hj, h⟩ := optB_eq_some h
      obtain ⟨r, hr, h⟩ := optB_eq_some h
      cases h
      simp only [List.mapM_cons, Sem.run_bind, run_size hT hj, Result.andThen_ok, Sem.run_pure, ih r hr]
  have hmapA : (fs.mapM (fun f => do pure (f.offset, ← sizeOf f.type) : Field → Sem (Nat × Nat))).run P w = .ok pl.toArray w := by
    rw [Array.mapM_eq_mapM_toList, Sem.run_map, hmap _ _ hpl]; rfl
  obtain ⟨es, hes, hr⟩ := fill_rel (place := (pl.toArray[·]?)) ps.toList qs i.zero z.cells cs (by simpa using hq) (absScs_rel hzr) hcs
  simp only [Instr.build, Sem.run_bind, hz, Result.andThen_ok, run_und hT hi, hu]
  rw [hmapA]
  simp only [Result.andThen_ok, parts_map]
  simp only [hes, Sem.run_pure, Result.andThen_ok]
  exact good_same hM (.agg _ _ hr)

theorem good_build_array (hT : TTok P TT) {t k e : Nat} {i j : TI} {ps : Array (Nat × Operand)} {qs : List (Nat × Nat × Opd)} {ρ : Operand → Value}
    (hM : MRel π m.get w) (hi : TT.get t = some i) (hu : i.und = .array k e) (hj : TT.get e = some j)
    (hq : All2 (fun (p : Nat × Operand) (q : Nat × Nat × Opd) => (some (p.1 * j.size, j.size) : Option (Nat × Nat)) = some (q.1, q.2.1) ∧ VRel π (ev E K q.2.2) (ρ p.2)) ps.toList qs)
    (h : oBuild i.zero qs C E K m n = .ok v m' n') :
    Good P π m w n v m' n' ((do pure (.value (← Instr.build t (ps.map fun (i, x) => (i, ρ x)))) : Sem Next).run P w) := by
  obtain ⟨cs, hcs, h⟩ := onOpt_ne h bad_ne
  obtain ⟨rfl, rfl, rfl⟩ := ok_inj h
  obtain ⟨z, hz, hzr⟩ := run_zero hT hi w
  obtain ⟨es, hes, hr⟩ := fill_rel (place := fun i => some (i * j.size, j.size)) ps.toList qs i.zero z.cells cs hq (absScs_rel hzr) hcs
  simp only [Instr.build, Sem.run_bind, hz, Result.andThen_ok, run_und hT hi, hu, run_size hT hj, parts_map]
  simp only [hes, Sem.run_pure, Result.andThen_ok]
  exact good_same hM (.agg _ _ hr)

/-- zero values, side by side -/
theorem repl_rel {z : List AV} {c : Array Value} (h : VRels π z c.toList) : ∀ k, VRels π (repl k z) ((Array.range (k * c.size)).map (c[· % c.size]!)).toList := by
  intro k
  have hl := h.length
  simp only [Array.length_toList] at hl
  induction k with
  | zero => simp [repl]; exact .nil
  | succ k ih =>
    have e : ((Array.range ((k + 1) * c.size)).map (c[· % c.size]!)).toList = c.toList ++ ((Array.range (k * c.size)).map (c[· % c.size]!)).toList := by
      apply List.ext_getElem?
      intro j
      simp only [Array.toList_map, Array.toList_range, List.getElem?_map, List.getElem?_append, Array.length_toList]
      have hs : (k + 1) * c.size = k * c.size + c.size := Nat.succ_mul k c.size
      by_cases hj : j < c.size
      · rw [if_pos hj, List.getElem?_range (by omega), Option.map_some, Nat.mod_eq_of_lt hj]
        simp [hj]
      · rw [if_neg hj]
        by_cases hk : j - c.size < k * c.size
        · rw [List.getElem?_range hk, List.getElem?_range (show j < (k + 1) * c.size by omega), Option.map_some, Option.map_some]
          congr 2
          conv => lhs; rw [show j = (j - c.size) + c.size by omega, Nat.add_mod_right]
        · rw [List.getElem?_eq_none (by rw [List.length_range]; omega), List.getElem?_eq_none (by rw [List.length_range]; omega)]
    rw [e]
    show VRels _ (appQ z (repl k z)) _
    rw [appQ_eq]
    exact h.append ih

theorem good_bslice (hT : TTok P TT) {t len e : Nat} {i j : TI} {ps : Array (Nat × Operand)} {qs : List (Nat × Nat × Opd)} {ρ : Operand → Value}
    (hM : MRel π m.get w) (hi : TT.get t = some i) (hu : i.und = .slice e) (hj : TT.get e = some j) (hle : len * j.size ≤ 16777216) (hn : ∀ x, n ≤ x → x < n' → π x = none)
    (hq : All2 (fun (p : Nat × Operand) (q : Nat × Nat × Opd) => (some (p.1 * j.size, j.size) : Option (Nat × Nat)) = some (q.1, q.2.1) ∧ VRel π (ev E K q.2.2) (ρ p.2)) ps.toList qs)
    (hsz : j.zero.length = j.size)
    (h : oBslice e j.size len j.zero qs C E K m n = .ok v m' n') :
    Good P π m w n v m' n' ((do pure (.value (← Instr.buildSlice t len (ps.map fun (i, x) => (i, ρ x)))) : Sem Next).run P w) := by
  obtain ⟨cs, hcs, h⟩ := onOpt_ne h bad_ne
  obtain ⟨rfl, rfl, rfl⟩ := ok_inj h
  obtain ⟨z, hz, hzr⟩ := run_zero hT hj w
  have hzl := (absScs_rel (π := π) hzr).length
  simp only [Array.length_toList] at hzl
  have hzs : z.cells.size = j.size := by omega
  have hrep := repl_rel (absScs_rel (π := π) hzr) len
  obtain ⟨es, hes, hr⟩ := fill_rel (place := fun i => some (i * j.size, j.size)) ps.toList qs (repl len j.zero) _ cs hq hrep hcs
  have key : ∀ (c : Array Value), (Array.range (len * j.size)).map (c[· % c.size]!) = (Array.range (len * z.cells.size)).map (z.cells[· % z.cells.size]!) →
      Instr.fill (fun i => some (i * j.size, j.size)) ((Array.range (len * j.size)).map (c[· % c.size]!)) (ps.map fun (i, x) => (i, ρ x)).toList = some es := by
    intro c hc; rw [hc, parts_map]; exact hes
  have fin : (do pure (.value (← Instr.buildSlice t len (ps.map fun (i, x) => (i, ρ x)))) : Sem Next).run P w = .ok (.value (.slice (some ⟨w.heap.size, 0, none⟩) len len)) (w.alloc (.cells es e)) := by
    simp only [Instr.buildSlice, Sem.run_bind, Result.andThen_ok, run_und hT hi, hu, run_size hT hj]
    rw [if_neg (by omega)]
    by_cases h0 : len * j.size = 0
    · rw [if_pos h0]
      simp only [Sem.run_bind, Sem.run_pure, Result.andThen_ok]
      rw [key #[] (by rw [hzs, h0]; simp)]
      simp only [newRow, Sem.run_bind, run_newObj, Sem.run_pure, World.alloc_eq, Result.andThen_ok]
    · rw [if_neg h0]
      simp only [Sem.run_bind, Sem.run_pure, Result.andThen_ok, hz]
      rw [key z.cells (by rw [hzs])]
      simp only [newRow, Sem.run_bind, run_newObj, Sem.run_pure, World.alloc_eq, Result.andThen_ok]
  rw [fin]
  obtain ⟨h1, h2, he⟩ := new_cells hM (hn n (Nat.le_refl _) (by omega)) e hr
  exact ⟨_, by simpa using VRel.sliceX n 0 len len j.size _ (upd_same π n _), h1, h2⟩

theorem good_load1 (hT : TTok P TT) {t : Nat} {i : TI} {x : Opd} {u : Value} (hM : MRel π m.get w) (hi : TT.get t = some i) (ha : isAggD i.und = false) (hx : VRel π (ev E K x) u)
    (h : oLoad1 x C E K m n = .ok v m' n') :
    Good P π m w n v m' n' ((do pure (.value (← Instr.loadAt t u)) : Sem Next).run P w) := by
  obtain ⟨j, o, hj, h⟩ := onPtr_ne h bad_ne
  obtain ⟨el, cs, op, lo, hi', hm, h⟩ := onCells_ne h bad_ne
  obtain ⟨y, hy, h⟩ := onOpt_ne h bad_ne
  rw [getQ_eq] at hy
  obtain ⟨rfl, rfl, rfl⟩ := ok_inj h
  rw [hj] at hx
  obtain ⟨p, hp, rfl⟩ := hx.ptr_inv
  obtain ⟨u', hu', hr⟩ := load_cell (P := P) hM hm hp hy
  simp only [Instr.loadAt, Instr.sureAddr, Sem.run_bind, Sem.run_pure, Result.andThen_ok, loadVar, run_agg hT hi, ha, Bool.false_eq_true, if_false, hu']
  exact good_same hM hr

theorem good_loadN (hT : TTok P TT) {t : Nat} {i : TI} {x : Opd} {u : Value} (hM : MRel π m.get w) (hi : TT.get t = some i) (ha : isAggD i.und = true) (hx : VRel π (ev E K x) u)
    (h : oLoadN i.size x C E K m n = .ok v m' n') :
    Good P π m w n v m' n' ((do pure (.value (← Instr.loadAt t u)) : Sem Next).run P w) := by
  obtain ⟨j, o, hj, h⟩ := onPtr_ne h bad_ne
  obtain ⟨el, cs, op, lo, hi', hm, hk, h⟩ := loadNA_ne h bad_ne
  obtain ⟨rfl, rfl, rfl⟩ := ok_inj h
  rw [hj] at hx
  obtain ⟨p, hp, rfl⟩ := hx.ptr_inv
  obtain ⟨c, hc, hr⟩ := load_cells (P := P) hM hm hp hk
  simp only [Instr.loadAt, Instr.sureAddr, Sem.run_bind, Sem.run_pure, Result.andThen_ok, loadVar, run_agg hT hi, ha, if_true, run_size hT hi, hc]
  exact good_same hM (.agg _ _ hr)

theorem storeNA_ne {β : Type} {i o : Nat} {l : List AV} {m : Mem} {d r : β} {f : Mem → β} (h : storeNA i o l m d f = r) (hd : d ≠ r) :
    ∃ el cs op lo hi, m.get i = some (.cells el cs op lo hi) ∧ o + l.length ≤ cs.length ∧ (hi ≤ lo ∨ o + l.length ≤ lo ∨ hi ≤ o) ∧ l.all oneCellA = true ∧ f (m.put i (some (.cells el (spliceL o l cs) op lo hi))) = r := by
  obtain ⟨el, cs, op, lo, hi, hm, h⟩ := onCells_ne h hd
  obtain ⟨h1, h⟩ := cnd_ne h hd
  rw [lenQ_eq, lenQ_eq, allQ_eq] at h1
  simp only [Bool.and_eq_true, Bool.or_eq_true] at h1
  obtain ⟨⟨a1, a2⟩, a3⟩ := h1
  refine ⟨el, cs, op, lo, hi, hm, ble_nat a1, ?_, a3, h⟩
  rcases a2 with (a2 | a2) | a2
  · exact .inl (ble_nat a2)
  · exact .inr (.inl (ble_nat a2))
  · exact .inr (.inr (ble_nat a2))

theorem good_store (hT : TTok P TT) {t : Nat} {i : TI} {x y : Opd} {ux uy : Value} (hM : MRel π m.get w) (hi : TT.get t = some i) (hx : VRel π (ev E K x) ux) (hy : VRel π (ev E K y) uy)
    (h : oStore i.size x y C E K m n = .ok v m' n') :
    Good P π m w n v m' n' ((do Instr.storeAt t ux uy; pure .skip : Sem Next).run P w) := by
  obtain ⟨j, o, hj, h⟩ := onPtr_ne h bad_ne
  obtain ⟨hsz, h⟩ := cnd_ne h bad_ne
  obtain ⟨el, cs, op, lo, hi', hm, h1, h2, h3, h⟩ := storeNA_ne h bad_ne
  obtain ⟨rfl, rfl, rfl⟩ := ok_inj h
  rw [hj] at hx
  obtain ⟨p, hp, rfl⟩ := hx.ptr_inv
  have hl := hy.cells.length
  simp only [Array.length_toList] at hl
  obtain ⟨w', hw', hM', hS⟩ := store_cells (P := P) (n := n) hM hm hp h1 h2 h3 hy.cells
  rw [lenQ_eq] at hsz
  have := beq_nat hsz
  simp only [Instr.storeAt, Instr.sureAddr, Sem.run_bind, Sem.run_pure, Result.andThen_ok, storeVar, run_size hT hi]
  rw [if_neg (by omega)]
  simp only [hw', Result.andThen_ok]
  exact ⟨π, .undef, hM', hS⟩

end
end Go.Abs
namespace Go.Abs
set_option linter.unusedVariables false
set_option linter.unusedSimpArgs false

section
variable {P : Program} {TT : Trie TI} {π : PMap} {m : Mem} {w : World} {n : Nat} {E K : List AV} {C : CallR} {v : AV} {m' : Mem} {n' : Nat}

/-- a value that an operation comes to by itself -/
theorem good_pure {s : Sem Value} {u : Value} (hM : MRel π m.get w) (hs : s.run P w = .ok u w) (h : VRel π v u) : Good P π m w n v m n ((do pure (.value (← s)) : Sem Next).run P w) := by
  simp only [Sem.run_bind, hs, Result.andThen_ok, Sem.run_pure]
  exact good_same hM h

/-- ahead of nilCheck -/
theorem good_nilck {x : Opd} {u : Value} (hM : MRel π m.get w) (hx : VRel π (ev E K x) u) (h : oNilck x C E K m n = .ok v m' n')
    (o : Oper) (ρ : Operand → Value) (y : Operand) (ho : o.op = .nilCheck y) (hy : ρ y = u) :
    Good P π m w n v m' n' ((execOp ρ o).run P w) := by
  unfold oNilck at h
  split at h
  · rename_i i o' e
    obtain ⟨rfl, rfl, rfl⟩ := ok_inj h
    rw [e] at hx
    obtain ⟨p, hp, rfl⟩ := hx.ptr_inv
    have : (execOp ρ o).run P w = .ok (.value (.pointer (some ⟨p.b, p.s + o', none⟩))) w := by
      simp only [execOp, ho, hy]; rfl
    rw [this]; exact good_same hM hx
  · rename_i f a b e
    obtain ⟨rfl, rfl, rfl⟩ := ok_inj h
    rw [e] at hx
    obtain ⟨a', b', _, _, rfl⟩ := hx.func_inv
    have : (execOp ρ o).run P w = .ok (.value (.func (.func f) a' b')) w := by
      simp only [execOp, ho, hy]; rfl
    rw [this]; exact good_same hM hx
  · cases h

/-! integers -/
theorem wrapQ_eq (c : Nat) (k : Int) : wrapQ c k = (kOf c).wrap k := by
  cases k with
  | negSucc a => rfl
  | ofNat a =>
    show cnd (Nat.beq c 0) (cnd (Nat.ble a 9223372036854775807) (Int.ofNat a) ((kOf c).wrap (Int.ofNat a))) ((kOf c).wrap (Int.ofNat a)) = _
    rw [cnd_eq, cnd_eq]
    split
    · rename_i h
      have := beq_nat h; subst this
      split
      · rename_i h2
        have h2 := ble_nat h2
        simp only [kOf, IntKind.wrap, IntKind.bits, IntKind.signed]
        simp
        omega
      · rfl
    · rfl
theorem addI_eq (c : Nat) (x y : Int) : addI c x y = (kOf c).wrap (x + y) := by
  cases x with
  | negSucc a => rfl
  | ofNat a => cases y with
    | negSucc d => rfl
    | ofNat d => show wrapQ c (Int.ofNat (a + d)) = _; rw [wrapQ_eq]; rfl
theorem subI_eq (c : Nat) (x y : Int) : subI c x y = (kOf c).wrap (x - y) := by
  cases x with
  | negSucc a => rfl
  | ofNat a => cases y with
    | negSucc d => rfl
    | ofNat d =>
      show cnd (Nat.ble d a) (wrapQ c (Int.ofNat (a - d))) ((kOf c).wrap (Int.ofNat a - Int.ofNat d)) = _
      rw [cnd_eq]
      split
      · rename_i h
        rw [wrapQ_eq]
        congr 1
        have := ble_nat h
        simp only [Int.ofNat_eq_natCast]; omega
      · rfl
theorem eqI_eq (x y : Int) : eqI x y = (x == y) := by
  cases x with
  | ofNat a => cases y with
    | ofNat d =>
      show Nat.beq a d = _
      rw [Bool.eq_iff_iff]; simp [Int.ofNat_eq_natCast]; omega
    | negSucc d => show false = _; symm; rw [beq_eq_false_iff_ne]; intro h; cases h
  | negSucc a => cases y with
    | ofNat d => show false = _; symm; rw [beq_eq_false_iff_ne]; intro h; cases h
    | negSucc d =>
      show Nat.beq a d = _
      rw [Bool.eq_iff_iff]; simp
theorem ltI_eq (x y : Int) : ltI x y = decide (x < y) := by
  cases x with
  | ofNat a => cases y with
    | ofNat d => show Nat.ble (a + 1) d = _; rw [Bool.eq_iff_iff]; simp [Int.ofNat_eq_natCast]; omega
    | negSucc d => show false = _; symm; rw [decide_eq_false_iff_not]; simp only [Int.ofNat_eq_natCast]; omega
  | negSucc a => cases y with
    | ofNat d => show true = _; symm; rw [decide_eq_true_iff]; simp only [Int.ofNat_eq_natCast]; omega
    | negSucc d => show Nat.ble (d + 1) a = _; rw [Bool.eq_iff_iff]; simp; omega
theorem leI_eq (x y : Int) : leI x y = decide (x ≤ y) := by
  cases x with
  | ofNat a => cases y with
    | ofNat d => show Nat.ble a d = _; rw [Bool.eq_iff_iff]; simp [Int.ofNat_eq_natCast]
    | negSucc d => show false = _; symm; rw [decide_eq_false_iff_not]; simp only [Int.ofNat_eq_natCast]; omega
  | negSucc a => cases y with
    | ofNat d => show true = _; symm; rw [decide_eq_true_iff]; simp only [Int.ofNat_eq_natCast]; omega
    | negSucc d => show Nat.ble d a = _; rw [Bool.eq_iff_iff]; simp; omega
theorem notB_eq (x : Bool) : notB x = !x := by cases x <;> rfl

def noGuard : Value → Value → Bool
  | .nilIface, .nilIface => false
  | .agg _, .agg _ => false
  | _, _ => true
theorem not_eqGuard {op : BinOp} {t : TypeId} {x y : Operand} {a b : Value} (h : noGuard a b = true) (w : World) : (eqGuard op t x y a b).run P w = .ok () w := by
  unfold eqGuard
  cases a <;> cases b <;> first | (cases h; done) | (simp only [ite_self, Sem.run_pure])

theorem good_cmp {f : Int → Int → Bool} {op : BinOp} {t : TypeId} {x y : Opd} {ux uy : Value} {X Y : Operand} (hM : MRel π m.get w) (hx : VRel π (ev E K x) ux) (hy : VRel π (ev E K y) uy)
    (hop : op ≠ .shl ∧ op ≠ .shr) (hf : ∀ k (a d : Int), (binOp op t (.int k a) (.int k d)).run P w = .ok (.bool (f a d)) w)
    (h : oCmp f x y C E K m n = .ok v m' n') :
    Good P π m w n v m' n' ((do pure (.value (← (do eqGuard op t X Y ux uy; binOp op t ux uy : Sem Value))) : Sem Next).run P w) := by
  obtain ⟨c, a, e1, h⟩ := onInt_ne h bad_ne
  obtain ⟨d, a', e2, h⟩ := onInt_ne h bad_ne
  obtain ⟨hc, h⟩ := cnd_ne h bad_ne
  obtain ⟨rfl, rfl, rfl⟩ := ok_inj h
  rw [e1] at hx; rw [e2] at hy
  obtain ⟨j, hj, rfl⟩ := hx.int_inv
  obtain ⟨k, hk, rfl⟩ := hy.int_inv
  have : j = k := kid_inj (by rw [hj, hk]; exact beq_nat hc)
  subst this
  refine good_pure hM ?_ (.bool (f a a'))
  simp only [Sem.run_bind, not_eqGuard (P := P) (show noGuard (.int _ _) (.int _ _) = true from rfl), Result.andThen_ok, hf]

theorem good_ari {f : Nat → Int → Int → Int} {op : BinOp} {t : TypeId} {x y : Opd} {ux uy : Value} {X Y : Operand} (hM : MRel π m.get w) (hx : VRel π (ev E K x) ux) (hy : VRel π (ev E K y) uy)
    (hf : ∀ k (a d : Int), (binOp op t (.int k a) (.int k d)).run P w = .ok (.int k (f (kid k) a d)) w)
    (h : oAri f x y C E K m n = .ok v m' n') :
    Good P π m w n v m' n' ((do pure (.value (← (do eqGuard op t X Y ux uy; binOp op t ux uy : Sem Value))) : Sem Next).run P w) := by
  obtain ⟨c, a, e1, h⟩ := onInt_ne h bad_ne
  obtain ⟨d, a', e2, h⟩ := onInt_ne h bad_ne
  obtain ⟨hc, h⟩ := cnd_ne h bad_ne
  obtain ⟨rfl, rfl, rfl⟩ := ok_inj h
  rw [e1] at hx; rw [e2] at hy
  obtain ⟨j, hj, rfl⟩ := hx.int_inv
  obtain ⟨k, hk, rfl⟩ := hy.int_inv
  have : j = k := kid_inj (by rw [hj, hk]; exact beq_nat hc)
  subst this; subst hj
  refine good_pure hM ?_ (.int j _)
  simp only [Sem.run_bind, not_eqGuard (P := P) (show noGuard (.int _ _) (.int _ _) = true from rfl), Result.andThen_ok, hf]

theorem binInt_run {op : BinOp} {t : TypeId} {k : IntKind} {a d : Int} {u : AV} (h : binInt op (kid k) a d = some u) : ∃ u', (binOp op t (.int k a) (.int k d)).run P w = .ok u' w ∧ VRel π u u' := by
  have hk := kOf_kid k
  cases op <;> simp only [binInt, hk] at h <;>
    first
    | (cases h; done)
    | (cases h; refine ⟨_, ?_, .int k _⟩; simp only [binOp, ne_eq, not_true_eq_false, if_false, Op.intArith, Op.intBits, Sem.run_pure, addI_eq, subI_eq, wrapQ_eq, hk, andI, orI, xorI, andNotI]; done)
    | (cases h; refine ⟨_, ?_, .bool _⟩; simp only [binOp, ne_eq, not_true_eq_false, if_false, Op.intCmp, Sem.run_pure, eqI_eq, ltI_eq, leI_eq, notB_eq, bne]; done)
    | (rw [cnd_eq] at h
       split at h
       · cases h
       rename_i h1
       cases h
       refine ⟨_, ?_, .int k _⟩
       rw [eqI_eq] at h1
       simp only [beq_iff_eq] at h1
       simp only [binOp, ne_eq, not_true_eq_false, if_false, Op.intDiv, if_neg h1, Sem.run_pure, wrapQ_eq, hk])

theorem good_int {op : BinOp} {t : TypeId} {x y : Opd} {ux uy : Value} {X Y : Operand} (hM : MRel π m.get w) (hx : VRel π (ev E K x) ux) (hy : VRel π (ev E K y) uy)
    (h : oInt op x y C E K m n = .ok v m' n') :
    Good P π m w n v m' n' ((do pure (.value (← (do eqGuard op t X Y ux uy; binOp op t ux uy : Sem Value))) : Sem Next).run P w) := by
  obtain ⟨c, a, e1, h⟩ := onInt_ne h bad_ne
  obtain ⟨d, a', e2, h⟩ := onInt_ne h bad_ne
  obtain ⟨hc, h⟩ := cnd_ne h bad_ne
  obtain ⟨u, hu, h⟩ := onOpt_ne h bad_ne
  obtain ⟨rfl, rfl, rfl⟩ := ok_inj h
  rw [e1] at hx; rw [e2] at hy
  obtain ⟨j, hj, rfl⟩ := hx.int_inv
  obtain ⟨k, hk, rfl⟩ := hy.int_inv
  have : j = k := kid_inj (by rw [hj, hk]; exact beq_nat hc)
  subst this; subst hj
  obtain ⟨u', h1, h2⟩ := binInt_run (P := P) (w := w) (π := π) (t := t) hu
  refine good_pure hM ?_ h2
  simp only [Sem.run_bind, not_eqGuard (P := P) (show noGuard (.int _ _) (.int _ _) = true from rfl), Result.andThen_ok, h1]

theorem good_shl {t : TypeId} {x y : Opd} {ux uy : Value} {X Y : Operand} (hM : MRel π m.get w) (hx : VRel π (ev E K x) ux) (hy : VRel π (ev E K y) uy)
    (h : oShl x y C E K m n = .ok v m' n') :
    Good P π m w n v m' n' ((do pure (.value (← (do eqGuard .shl t X Y ux uy; binOp .shl t ux uy : Sem Value))) : Sem Next).run P w) := by
  obtain ⟨c, a, e1, h⟩ := onInt_ne h bad_ne
  obtain ⟨d, a', e2, h⟩ := onInt_ne h bad_ne
  obtain ⟨q, rfl, _, h⟩ := natOf_ne h bad_ne
  obtain ⟨rfl, rfl, rfl⟩ := ok_inj h
  rw [e1] at hx; rw [e2] at hy
  obtain ⟨j, hj, rfl⟩ := hx.int_inv
  obtain ⟨k, hk, rfl⟩ := hy.int_inv
  subst hj
  refine good_pure hM ?_ (.int j _)
  simp only [Sem.run_bind, not_eqGuard (P := P) (show noGuard (.int _ _) (.int _ _) = true from rfl), Result.andThen_ok, binOp, Op.shift]
  rw [if_neg (by omega), kOf_kid]
  rfl

theorem good_shr {t : TypeId} {x y : Opd} {ux uy : Value} {X Y : Operand} (hM : MRel π m.get w) (hx : VRel π (ev E K x) ux) (hy : VRel π (ev E K y) uy)
    (h : oShr x y C E K m n = .ok v m' n') :
    Good P π m w n v m' n' ((do pure (.value (← (do eqGuard .shr t X Y ux uy; binOp .shr t ux uy : Sem Value))) : Sem Next).run P w) := by
  obtain ⟨c, a, e1, h⟩ := onInt_ne h bad_ne
  obtain ⟨d, a', e2, h⟩ := onInt_ne h bad_ne
  obtain ⟨q, rfl, _, h⟩ := natOf_ne h bad_ne
  obtain ⟨rfl, rfl, rfl⟩ := ok_inj h
  rw [e1] at hx; rw [e2] at hy
  obtain ⟨j, hj, rfl⟩ := hx.int_inv
  obtain ⟨k, hk, rfl⟩ := hy.int_inv
  subst hj
  refine good_pure hM ?_ (.int j _)
  simp only [Sem.run_bind, not_eqGuard (P := P) (show noGuard (.int _ _) (.int _ _) = true from rfl), Result.andThen_ok, binOp, Op.shift]
  rw [if_neg (by omega), kOf_kid]
  rfl

/-! strings -/
theorem map_toNat_inj : ∀ {l k : List UInt8}, l.map UInt8.toNat = k.map UInt8.toNat → l = k := by
  intro l
  induction l with
  | nil => intro k h; cases k with | nil => rfl | cons _ _ => simp at h
  | cons a l ih => intro k h; cases k with
    | nil => simp at h
    | cons d k => simp only [List.map_cons, List.cons.injEq] at h; rw [UInt8.toNat_inj.1 h.1, ih h.2]

theorem beqL_eq : ∀ (l k : List Nat), beqL l k = decide (l = k) := by
  intro l
  induction l with
  | nil => intro k; cases k <;> simp [beqL]
  | cons a l ih => intro k; cases k with
    | nil => simp [beqL]
    | cons d k =>
      simp only [beqL, cnd_eq, ih]
      by_cases e : a = d
      · subst e; simp
      · have : Nat.beq a d = false := by rw [← Bool.not_eq_true]; intro h; exact e (beq_nat h)
        simp [this, e]

theorem lessL_eq : ∀ (l k : List UInt8), lessL (l.map UInt8.toNat) (k.map UInt8.toNat) = Op.bytesLess l k := by
  intro l
  induction l with
  | nil => intro k; cases k <;> rfl
  | cons a l ih => intro k; cases k with
    | nil => rfl
    | cons d k =>
      simp only [List.map_cons, lessL, Op.bytesLess, cnd_eq, ih]
      by_cases h1 : a < d
      · have : Nat.blt a.toNat d.toNat = true := by rw [Nat.blt_eq]; exact UInt8.lt_iff_toNat_lt.1 h1
        simp [this, h1]
      · have : ¬ Nat.blt a.toNat d.toNat = true := by rw [Nat.blt_eq]; exact fun h => h1 (UInt8.lt_iff_toNat_lt.2 h)
        rw [if_neg this]
        by_cases h2 : a = d
        · subst h2; simp
        · have : ¬ Nat.beq a.toNat d.toNat = true := fun h => h2 (UInt8.toNat_inj.1 (beq_nat h))
          simp [this, h1, h2]

theorem beqL_bytes (s t : List UInt8) : beqL (s.map UInt8.toNat) (t.map UInt8.toNat) = (s == t) := by
  rw [beqL_eq, Bool.eq_iff_iff, decide_eq_true_iff, beq_iff_eq]
  exact ⟨map_toNat_inj, fun h => by rw [h]⟩

theorem binStr_run {op : BinOp} {t : TypeId} {s u : ByteArray} {x : AV} (h : binStr op (s.data.toList.map UInt8.toNat) (u.data.toList.map UInt8.toNat) = some x) :
    ∃ x', (binOp op t (.string s) (.string u)).run P w = .ok x' w ∧ VRel π x x' := by
  have e1 := ByteArray.toList_eq s
  have e2 := ByteArray.toList_eq u
  cases op <;> simp only [binStr, beqL_bytes, lessL_eq] at h <;> first
    | (cases h; done)
    | (cases h; refine ⟨_, ?_, .bool _⟩; simp only [binOp, Op.stringOp, e1, e2, Sem.run_pure, notB_eq]; done)
    | skip
  obtain ⟨h1, h⟩ := cnd_ne h (by simp)
  cases h
  have h1 := ble_nat h1
  simp only [List.length_map, Array.length_toList] at h1
  refine ⟨.string (s ++ u), ?_, ?_⟩
  · simp only [binOp, Op.stringOp]
    rw [if_neg]
    · rfl
    · have hs : s.size = s.data.size := rfl
      have hu : u.size = u.data.size := rfl
      simp only [IntKind.max, IntKind.bits, IntKind.signed]
      simp
      omega
  · have := VRel.str (π := π) (s ++ u)
    simpa using this

theorem good_strB {op : BinOp} {t : TypeId} {x y : Opd} {ux uy : Value} {X Y : Operand} (hM : MRel π m.get w) (hx : VRel π (ev E K x) ux) (hy : VRel π (ev E K y) uy)
    (h : oStrB op x y C E K m n = .ok v m' n') :
    Good P π m w n v m' n' ((do pure (.value (← (do eqGuard op t X Y ux uy; binOp op t ux uy : Sem Value))) : Sem Next).run P w) := by
  obtain ⟨l, e1, h⟩ := onStr_ne h bad_ne
  obtain ⟨k, e2, h⟩ := onStr_ne h bad_ne
  obtain ⟨q, hq, h⟩ := onOpt_ne h bad_ne
  obtain ⟨rfl, rfl, rfl⟩ := ok_inj h
  rw [e1] at hx; rw [e2] at hy
  obtain ⟨s, rfl, rfl⟩ := hx.str_inv
  obtain ⟨u, rfl, rfl⟩ := hy.str_inv
  obtain ⟨x', h1, h2⟩ := binStr_run (P := P) (w := w) (π := π) (t := t) hq
  refine good_pure hM ?_ h2
  simp only [Sem.run_bind, not_eqGuard (P := P) (show noGuard (.string _) (.string _) = true from rfl), Result.andThen_ok, h1]

end
end Go.Abs
namespace Go.Abs
set_option linter.unusedVariables false
set_option linter.unusedSimpArgs false

section
variable {P : Program} {TT : Trie TI} {π : PMap} {m : Mem} {w : World} {n : Nat} {E K : List AV} {C : CallR} {v : AV} {m' : Mem} {n' : Nat}

/-- does a kind of comparison fit a type? -/
def eqFits (TT : Trie TI) : EqK → TypeDesc → Prop
  | .bool, .bool => True
  | .ptr, .pointer e => ∃ j, TT.get e = some j ∧ j.size ≠ 0
  | .nilslice, .slice _ => True
  | .nilmap, .map _ _ => True
  | .nilfunc, .func _ _ _ => True
  | .iface, .interface _ => True
  | _, _ => False

theorem eqA_run (hT : TTok P TT) {e : EqK} {t : Nat} {i : TI} {x y : AV} {ux uy : Value} {q : Bool} (hi : TT.get t = some i) (hf : eqFits TT e i.und)
    (hx : VRel π x ux) (hy : VRel π y uy) (h : eqA e x y = some q) : (Op.equal t ux uy).run P w = .ok q w ∧ noGuard ux uy = true ∧
      (∀ op, op = .eql ∨ op = .neq → binOp op t ux uy = (if op = .eql then (do pure (.bool (← Op.equal t ux uy))) else (do pure (.bool (!(← Op.equal t ux uy)))) : Sem Value)) := by
  have hu := run_und (P := P) hT hi w
  have he : ∀ a b, Op.equal t a b = Op.equalIn (9999 + 1) t a b := fun _ _ => rfl
  cases e with
  | bool =>
    cases hd : i.und <;> rw [hd] at hf hu <;> first | (exact hf.elim) | skip
    cases x <;> first | (cases h; done) | skip
    cases y <;> first | (cases h; done) | skip
    cases hx; cases hy; cases h
    refine ⟨?_, rfl, fun op ho => by rcases ho with rfl | rfl <;> rfl⟩
    rw [he]; unfold Op.equalIn; simp only [Sem.run_bind, hu, Result.andThen_ok, Sem.run_pure]
  | ptr =>
    cases hd : i.und <;> rw [hd] at hf hu <;> first | (exact hf.elim) | skip
    obtain ⟨j, hj, hsz⟩ := hf
    cases x <;> first | (cases h; done) | skip
    all_goals (cases y <;> first | (cases h; done) | skip)
    · rename_i a o a' o'
      have h : cnd (Nat.beq a a') (some (Nat.beq o o')) none = some q := h
      obtain ⟨hij, hq⟩ := cnd_ne h (by simp)
      have hij := beq_nat hij
      clear h
      subst hij
      injection hq with hq
      subst hq
      obtain ⟨p, hp, rfl⟩ := hx.ptr_inv
      obtain ⟨p', hp', rfl⟩ := hy.ptr_inv
      rw [hp] at hp'; cases hp'
      refine ⟨?_, rfl, fun op ho => by rcases ho with rfl | rfl <;> rfl⟩
      rw [he]; unfold Op.equalIn
      simp only [Sem.run_bind, hu, Result.andThen_ok, run_size hT hj]
      rw [if_pos hsz, sameAddr, if_pos (by simp)]
      simp only [Sem.run_pure]
      congr 1
      rw [Bool.eq_iff_iff]
      simp
    all_goals
      cases hx; cases hy; cases h
      refine ⟨?_, rfl, fun op ho => by rcases ho with rfl | rfl <;> rfl⟩
      rw [he]; unfold Op.equalIn; simp only [Sem.run_bind, hu, Result.andThen_ok, Sem.run_pure]; try rfl
  | nilslice =>
    cases hd : i.und <;> rw [hd] at hf hu <;> first | (exact hf.elim) | skip
    cases x <;> first | (cases h; done) | skip
    all_goals (cases y <;> first | (cases h; done) | skip)
    all_goals
      cases hx <;> cases hy <;> cases h
      all_goals
        refine ⟨?_, rfl, fun op ho => by rcases ho with rfl | rfl <;> rfl⟩
        rw [he]; unfold Op.equalIn; simp only [Sem.run_bind, hu, Result.andThen_ok, Sem.run_pure]; try rfl
  | nilmap =>
    cases hd : i.und <;> rw [hd] at hf hu <;> first | (exact hf.elim) | skip
    cases x <;> first | (cases h; done) | skip
    all_goals (cases y <;> first | (cases h; done) | skip)
    all_goals
      cases hx <;> cases hy <;> cases h
      all_goals
        refine ⟨?_, rfl, fun op ho => by rcases ho with rfl | rfl <;> rfl⟩
        rw [he]; unfold Op.equalIn; simp only [Sem.run_bind, hu, Result.andThen_ok, Sem.run_pure]; try rfl
  | nilfunc =>
    cases hd : i.und <;> rw [hd] at hf hu <;> first | (exact hf.elim) | skip
    cases x <;> first | (cases h; done) | skip
    all_goals (cases y <;> first | (cases h; done) | skip)
    all_goals
      cases hx <;> cases hy <;> cases h
      all_goals
        refine ⟨?_, rfl, fun op ho => by rcases ho with rfl | rfl <;> rfl⟩
        rw [he]; unfold Op.equalIn; simp only [Sem.run_bind, hu, Result.andThen_ok, Sem.run_pure]; try rfl
  | iface =>
    cases hd : i.und <;> rw [hd] at hf hu <;> first | (exact hf.elim) | skip
    cases x <;> first | (cases h; done) | skip
    all_goals (cases y <;> first | (cases h; done) | skip)
    all_goals
      cases hx <;> cases hy <;> cases h
      all_goals
        refine ⟨?_, rfl, fun op ho => by rcases ho with rfl | rfl <;> rfl⟩
        rw [he]; unfold Op.equalIn; simp only [Sem.run_bind, hu, Result.andThen_ok, Sem.run_pure]; try rfl

theorem good_eq (hT : TTok P TT) {e : EqK} {neg : Bool} {op : BinOp} {t : Nat} {i : TI} {x y : Opd} {ux uy : Value} {X Y : Operand} (hM : MRel π m.get w) (hi : TT.get t = some i) (hf : eqFits TT e i.und)
    (hop : op = if neg then .neq else .eql) (hx : VRel π (ev E K x) ux) (hy : VRel π (ev E K y) uy) (h : oEq e neg x y C E K m n = .ok v m' n') :
    Good P π m w n v m' n' ((do pure (.value (← (do eqGuard op t X Y ux uy; binOp op t ux uy : Sem Value))) : Sem Next).run P w) := by
  obtain ⟨q, hq, h⟩ := onOpt_ne h bad_ne
  obtain ⟨rfl, rfl, rfl⟩ := ok_inj h
  obtain ⟨h1, h2, h3⟩ := eqA_run (w := w) hT hi hf hx hy hq
  refine good_pure hM ?_ (.bool _)
  simp only [Sem.run_bind, not_eqGuard h2, Result.andThen_ok]
  cases neg
  · simp only [Bool.false_eq_true, if_false] at hop
    subst hop
    rw [h3 _ (.inl rfl)]
    simp only [if_true, Sem.run_bind, h1, Result.andThen_ok, Sem.run_pure]; rfl
  · simp only [if_true] at hop
    subst hop
    rw [h3 _ (.inr rfl)]
    simp only [reduceCtorEq, if_false, Sem.run_bind, h1, Result.andThen_ok, Sem.run_pure, ← notB_eq]; rfl

theorem good_un {op : UnOp} {x : Opd} {u : Value} (hM : MRel π m.get w) (hx : VRel π (ev E K x) u) (h : oUn op x C E K m n = .ok v m' n') :
    Good P π m w n v m' n' ((do pure (.value (← Op.unary op u)) : Sem Next).run P w) := by
  obtain ⟨q, hq, h⟩ := onOpt_ne h bad_ne
  obtain ⟨rfl, rfl, rfl⟩ := ok_inj h
  have : ∃ u', (Op.unary op u).run P w = .ok u' w ∧ VRel π q u' := by
    unfold unA at hq
    split at hq
    · rename_i e; rw [e] at hx; rw [hx.bool_inv]; cases hq
      exact ⟨_, rfl, by rw [notB_eq]; exact .bool _⟩
    · rename_i e; rw [e] at hx; obtain ⟨j, rfl, rfl⟩ := hx.int_inv; cases hq
      refine ⟨_, ?_, .int j _⟩
      simp only [Op.unary, Op.intArith, Sem.run_pure, wrapQ_eq, kOf_kid]
    · rename_i e; rw [e] at hx; obtain ⟨j, rfl, rfl⟩ := hx.int_inv; cases hq
      refine ⟨_, ?_, .int j _⟩
      rw [kOf_kid]; rfl
    · cases hq
  obtain ⟨u', h1, h2⟩ := this
  exact good_pure hM h1 h2

/-! conversions -/
theorem good_convInt (hT : TTok P TT) {s d : Nat} {i j : TI} {k k' : IntKind} {x : Opd} {u : Value} (hM : MRel π m.get w) (hi : TT.get s = some i) (hj : TT.get d = some j) (hui : i.und = .int k') (huj : j.und = .int k)
    (hx : VRel π (ev E K x) u) (h : oConvInt (kid k) x C E K m n = .ok v m' n') :
    Good P π m w n v m' n' ((do pure (.value (← convert s d u)) : Sem Next).run P w) := by
  obtain ⟨c, a, e, h⟩ := onInt_ne h bad_ne
  obtain ⟨rfl, rfl, rfl⟩ := ok_inj h
  rw [e] at hx; obtain ⟨l, rfl, rfl⟩ := hx.int_inv
  refine good_pure hM ?_ (.int k _)
  simp only [convert, Sem.run_bind, run_und hT hi, run_und hT hj, Result.andThen_ok, hui, huj, Conv.intToInt, Sem.run_pure, wrapQ_eq, kOf_kid]

theorem good_convStr (hT : TTok P TT) {s d : Nat} {i j : TI} {x : Opd} {u : Value} (hM : MRel π m.get w) (hi : TT.get s = some i) (hj : TT.get d = some j) (hui : i.und = .string) (huj : j.und = .string)
    (hx : VRel π (ev E K x) u) (h : oConvStr x C E K m n = .ok v m' n') :
    Good P π m w n v m' n' ((do pure (.value (← convert s d u)) : Sem Next).run P w) := by
  obtain ⟨l, e, h⟩ := onStr_ne h bad_ne
  obtain ⟨rfl, rfl, rfl⟩ := ok_inj h
  rw [e] at hx; obtain ⟨st, rfl, rfl⟩ := hx.str_inv
  refine good_pure hM ?_ (.str st)
  simp only [convert, Sem.run_bind, run_und hT hi, run_und hT hj, Result.andThen_ok, hui, huj, Sem.run_pure]

theorem good_mkiface (hT : TTok P TT) {t : Nat} {i : TI} {x : Opd} {u : Value} (hM : MRel π m.get w) (hi : TT.get t = some i) (hui : ∀ ms, i.und ≠ .interface ms)
    (hx : VRel π (ev E K x) u) (h : oMkiface t x C E K m n = .ok v m' n') :
    Good P π m w n v m' n' ((do pure (.value (← Instr.makeInterface t u)) : Sem Next).run P w) := by
  obtain ⟨rfl, rfl, rfl⟩ := ok_inj h
  refine good_pure hM ?_ (.iface t _ _ hx)
  simp only [Instr.makeInterface, Sem.run_bind, run_und hT hi, Result.andThen_ok]
  first | (split; · rename_i ms e; exact absurd e (hui ms)) | skip
  rfl

theorem good_mkfunc {f : Nat} {xs ys : List Opd} {us vs : Array Value} (hM : MRel π m.get w) (hx : VRels π (evs E K xs) us.toList) (hy : VRels π (evs E K ys) vs.toList)
    (h : oMkfunc f xs ys C E K m n = .ok v m' n') :
    Good P π m w n v m' n' ((do pure (.value (← Instr.makeFunc (.func f) us vs)) : Sem Next).run P w) := by
  obtain ⟨rfl, rfl, rfl⟩ := ok_inj h
  exact good_pure hM rfl (.func f _ _ _ _ hx hy)

theorem good_mkmap {t : Nat} (hM : MRel π m.get w) (hn : ∀ x, n ≤ x → x < n' → π x = none) (h : oMkmap C E K m n = .ok v m' n') :
    Good P π m w n v m' n' ((do pure (.value (← Instr.makeMap t none)) : Sem Next).run P w) := by
  obtain ⟨rfl, rfl, rfl⟩ := ok_inj h
  have hn' := hn n (Nat.le_refl _) (by omega)
  have := new_obj (s := 0) (z := 0) (o := .map [] 0) (x := .map #[] 0) hM hn' (.map [] 0 #[] _ rfl (fun j e f h => by simp at h))
  have e : (do pure (.value (← Instr.makeMap t none)) : Sem Next).run P w = .ok (.value (.map (some w.heap.size))) (w.alloc (.map #[] 0)) := rfl
  rw [e]
  exact ⟨_, .mp n _ (upd_same π n _), this.1, this.2⟩

theorem good_mkslice (hT : TTok P TT) {t e : Nat} {i j : TI} {x y : Opd} {ux uy : Value} (hM : MRel π m.get w) (hi : TT.get t = some i) (hui : i.und = .slice e) (hj : TT.get e = some j) (hsz : j.zero.length = j.size)
    (hx : VRel π (ev E K x) ux) (hy : VRel π (ev E K y) uy) (hn : ∀ x, n ≤ x → x < n' → π x = none) (h : oMkslice e j.size j.bytes j.zero x y C E K m n = .ok v m' n') :
    Good P π m w n v m' n' ((do pure (.value (← Instr.makeSlice t ux uy)) : Sem Next).run P w) := by
  obtain ⟨c, l, e1, h⟩ := onInt_ne h bad_ne
  obtain ⟨c2, l2, e2, h⟩ := onInt_ne h bad_ne
  obtain ⟨cp, rfl, hc, h⟩ := natOf_ne h bad_ne
  obtain ⟨ln, rfl, hl, h⟩ := natOf_ne h bad_ne
  obtain ⟨hb, h⟩ := cnd_ne h bad_ne
  obtain ⟨rfl, rfl, rfl⟩ := ok_inj h
  rw [e1] at hx; rw [e2] at hy
  obtain ⟨k1, _, rfl⟩ := hx.int_inv
  obtain ⟨k2, _, rfl⟩ := hy.int_inv
  have hb := ble_nat hb
  obtain ⟨ti, hti, htb, hts⟩ := run_bytes hT hj w
  obtain ⟨z, hz, hzr⟩ := run_zero hT hj w
  have hzl := (absScs_rel (π := π) hzr).length
  simp only [Array.length_toList] at hzl
  have hzs : z.cells.size = j.size := by omega
  have hrep := repl_rel (absScs_rel (π := π) hzr) cp
  have w1 : IntKind.i64.wrap (ln : Int) = ln := by simp only [IntKind.wrap, IntKind.bits, IntKind.signed]; simp; omega
  have w2 : IntKind.i64.wrap (cp : Int) = cp := by simp only [IntKind.wrap, IntKind.bits, IntKind.signed]; simp; omega
  have fin : (do pure (.value (← Instr.makeSlice t (.int k1 ln) (.int k2 cp))) : Sem Next).run P w = .ok (.value (.slice (some ⟨w.heap.size, 0, none⟩) ln cp)) (w.alloc (.cells ((Array.range (cp * z.cells.size)).map (z.cells[· % z.cells.size]!)) e)) := by
    simp only [Instr.makeSlice, Sem.run_bind, run_und hT hi, hui, Result.andThen_ok, asInt, asIntOf, Sem.run_pure, hti, w1, w2]
    rw [if_neg (by
      simp only [Bool.or_eq_true, decide_eq_true_eq, not_or]
      have : (ti.bytes : Int) * (cp : Int) = ((cp * j.bytes : Nat) : Int) := by rw [htb, Int.mul_comm]; simp
      rw [this]
      refine ⟨⟨⟨by omega, ?_⟩, by omega⟩, by omega⟩
      have h2 : ((2 : Int) ^ 48) = 281474976710656 := rfl
      rw [h2]; omega)]
    simp only [Sem.run_bind, run_askRoom, Result.andThen_ok, run_size hT hj, Int.toNat_natCast]
    by_cases h0 : cp * j.size = 0
    · rw [if_pos h0]
      simp only [Sem.run_bind, Sem.run_pure, Result.andThen_ok, newRow, run_newObj, World.alloc_eq, h0, hzs]
      have e0 : ∀ f : Nat → Value, (Array.range 0).map f = #[] := fun f => by apply Array.ext <;> simp
      rw [e0, e0]
    · rw [if_neg h0]
      simp only [Sem.run_bind, Sem.run_pure, Result.andThen_ok, newRow, run_newObj, World.alloc_eq, hz, hzs]
  rw [fin]
  obtain ⟨h1, h2, he⟩ := new_cells hM (hn n (Nat.le_refl _) (by omega)) e hrep
  exact ⟨_, by simpa using VRel.sliceX n 0 ln cp j.size _ (upd_same π n _), h1, h2⟩

/-! places -/
theorem good_faddr (hT : TTok P TT) {t f : Nat} {i j : TI} {fs : Array Field} {g : Field} {x : Opd} {u : Value} (hM : MRel π m.get w) (hi : TT.get t = some i) (hui : i.und = .struct fs) (hg : fs[f]? = some g)
    (hj : TT.get g.type = some j) (hsz : j.size ≠ 0) (hx : VRel π (ev E K x) u) (h : oFaddr g.offset x C E K m n = .ok v m' n') :
    Good P π m w n v m' n' ((do pure (.value (← Instr.fieldAt t u f)) : Sem Next).run P w) := by
  obtain ⟨k, o, e, h⟩ := onPtr_ne h bad_ne
  obtain ⟨rfl, rfl, rfl⟩ := ok_inj h
  rw [e] at hx
  obtain ⟨p, hp, rfl⟩ := hx.ptr_inv
  have := VRel.ptr (π := π) k (o + g.offset) p hp
  refine good_pure hM ?_ this
  simp only [Instr.fieldAt, Sem.run_bind, run_und hT hi, hui, Result.andThen_ok, hg, Instr.sureAddr, Sem.run_pure, fieldPlace, run_size hT hj, if_neg hsz, add_eq, Nat.add_assoc]

theorem run_part (hT : TTok P TT) {t : Nat} {i : TI} (hi : TT.get t = some i) {l : List AV} {cs : Array Value} (hl : VRels π l cs.toList) {off : Nat} (w : World) :
    (isAggD i.und = false → ∀ x, l[off]? = some x → ∃ u, (part t cs off).run P w = .ok u w ∧ VRel π x u) ∧
    (isAggD i.und = true → off + i.size ≤ l.length → ∃ u, (part t cs off).run P w = .ok u w ∧ VRel π (.agg ((l.drop off).take i.size)) u) := by
  constructor
  · intro ha x hx
    obtain ⟨u, hu, hr⟩ := hl.get hx
    rw [Array.getElem?_toList] at hu
    exact ⟨u, by simp only [part, Sem.run_bind, run_agg hT hi, ha, Result.andThen_ok, Bool.false_eq_true, if_false, hu, Sem.run_pure], hr⟩
  · intro ha hk
    refine ⟨.agg (cs.extract off (off + i.size)), by simp only [part, Sem.run_bind, run_agg hT hi, ha, Result.andThen_ok, if_true, run_size hT hi, Sem.run_pure], .agg _ _ ?_⟩
    have e : (cs.extract off (off + i.size)).toList = (cs.toList.drop off).take i.size := by
      rw [Array.toList_extract, List.extract_eq_take_drop]; congr 1; omega
    rw [e]
    exact (hl.drop off).take i.size

theorem good_field (hT : TTok P TT) {t f : Nat} {i j : TI} {fs : Array Field} {g : Field} {x : Opd} {u : Value} (hM : MRel π m.get w) (hi : TT.get t = some i) (hui : i.und = .struct fs) (hg : fs[f]? = some g)
    (hj : TT.get g.type = some j) (hx : VRel π (ev E K x) u)
    (h : (if isAggD j.und then oFieldN g.offset j.size x else oField1 g.offset x) C E K m n = .ok v m' n') :
    Good P π m w n v m' n' ((do pure (.value (← Instr.field t u f)) : Sem Next).run P w) := by
  unfold oFieldN oField1 at h
  simp only [lenQ_eq, getQ_eq, takeQ_eq, dropQ_eq, appQ_eq, allQ_eq] at h
  have run : ∀ (cs : Array Value), u = .agg cs → (Instr.field t u f).run P w = (part g.type cs g.offset).run P w := by
    rintro cs rfl
    simp only [Instr.field, Sem.run_bind, run_und hT hi, hui, Result.andThen_ok, hg, asAgg, Sem.run_pure]
  by_cases ha : isAggD j.und = true
  · rw [if_pos ha] at h
    obtain ⟨l, e, h⟩ := onAgg_ne h bad_ne
    obtain ⟨hk, h⟩ := cnd_ne h bad_ne
    obtain ⟨rfl, rfl, rfl⟩ := ok_inj h
    rw [e] at hx; obtain ⟨cs, hl, rfl⟩ := hx.agg_inv
    obtain ⟨u', h1, h2⟩ := (run_part hT hj hl w).2 ha (ble_nat hk)
    exact good_pure hM (by rw [run cs rfl, h1]) h2
  · rw [if_neg ha] at h
    obtain ⟨l, e, h⟩ := onAgg_ne h bad_ne
    obtain ⟨y, hy, h⟩ := onOpt_ne h bad_ne
    obtain ⟨rfl, rfl, rfl⟩ := ok_inj h
    rw [e] at hx; obtain ⟨cs, hl, rfl⟩ := hx.agg_inv
    obtain ⟨u', h1, h2⟩ := (run_part hT hj hl w).1 (by simpa using ha) _ hy
    exact good_pure hM (by rw [run cs rfl, h1]) h2

theorem good_iaddrA (hT : TTok P TT) {t e k : Nat} {i j : TI} {x y : Opd} {ux uy : Value} (hM : MRel π m.get w) (hi : TT.get t = some i) (hui : i.und = .array k e) (hj : TT.get e = some j)
    (hx : VRel π (ev E K x) ux) (hy : VRel π (ev E K y) uy) (h : oIaddrA k j.size x y C E K m n = .ok v m' n') :
    Good P π m w n v m' n' ((do pure (.value (← Instr.indexAt t ux uy)) : Sem Next).run P w) := by
  obtain ⟨q, o, e1, h⟩ := onPtr_ne h bad_ne
  obtain ⟨c, a, e2, h⟩ := onInt_ne h bad_ne
  obtain ⟨d, rfl, hd, h⟩ := natOf_ne h bad_ne
  obtain ⟨hlt, h⟩ := cnd_ne h bad_ne
  obtain ⟨rfl, rfl, rfl⟩ := ok_inj h
  have hlt := ble_nat hlt
  rw [e1] at hx; rw [e2] at hy
  obtain ⟨p, hp, rfl⟩ := hx.ptr_inv
  obtain ⟨k1, _, rfl⟩ := hy.int_inv
  have := VRel.ptr (π := π) q (o + d * j.size) p hp
  refine good_pure hM ?_ this
  simp only [Instr.indexAt, asIntOf, Sem.run_bind, Sem.run_pure, run_und hT hi, hui, Result.andThen_ok, Instr.sureAddr]
  rw [if_pos (by omega)]
  simp only [Sem.run_bind, run_size hT hj, Result.andThen_ok, Sem.run_pure, add_eq, Int.toNat_natCast, Nat.add_assoc]

theorem good_iaddrS (hT : TTok P TT) {t e : Nat} {i j : TI} {x y : Opd} {ux uy : Value} (hM : MRel π m.get w) (hi : TT.get t = some i) (hui : i.und = .slice e) (hj : TT.get e = some j)
    (hx : VRel π (ev E K x) ux) (hy : VRel π (ev E K y) uy) (h : oIaddrS j.size x y C E K m n = .ok v m' n') :
    Good P π m w n v m' n' ((do pure (.value (← Instr.indexAt t ux uy)) : Sem Next).run P w) := by
  unfold oIaddrS at h
  split at h
  · rename_i q o len cap z e1
    obtain ⟨c, a, e2, h⟩ := onInt_ne h bad_ne
    obtain ⟨hz, h⟩ := cnd_ne h bad_ne
    obtain ⟨d, rfl, hd, h⟩ := natOf_ne h bad_ne
    obtain ⟨hlt, h⟩ := cnd_ne h bad_ne
    obtain ⟨rfl, rfl, rfl⟩ := ok_inj h
    have hlt := ble_nat hlt
    rw [e1] at hx; rw [e2] at hy
    obtain ⟨k1, _, rfl⟩ := hy.int_inv
    have : ∃ p c', π q = some p ∧ ux = .slice (some ⟨p.b, p.s + o, none⟩) len c' := by
      cases hx with
      | sliceX _ _ _ c _ p hp => exact ⟨p, c, hp, rfl⟩
      | sliceO _ _ _ _ c p hp _ _ => exact ⟨p, c, hp, rfl⟩
    obtain ⟨p, c', hp, rfl⟩ := this
    have := VRel.ptr (π := π) q (o + d * j.size) p hp
    refine good_pure hM ?_ this
    simp only [Instr.indexAt, asIntOf, Sem.run_bind, Sem.run_pure, run_und hT hi, hui, Result.andThen_ok]
    rw [if_pos (by omega)]
    simp only [Sem.run_bind, run_size hT hj, Result.andThen_ok, Sem.run_pure, add_eq, Int.toNat_natCast, Nat.add_assoc]
  · cases h

theorem good_idxS (hT : TTok P TT) {t : Nat} {i : TI} {x y : Opd} {ux uy : Value} (hM : MRel π m.get w) (hi : TT.get t = some i) (hui : i.und = .string)
    (hx : VRel π (ev E K x) ux) (hy : VRel π (ev E K y) uy) (h : oIdxS x y C E K m n = .ok v m' n') :
    Good P π m w n v m' n' ((do pure (.value (← Instr.index t ux uy)) : Sem Next).run P w) := by
  unfold oIdxS at h
  simp only [lenQ_eq, getQ_eq, takeQ_eq, dropQ_eq, appQ_eq, allQ_eq] at h
  obtain ⟨l, e1, h⟩ := onStr_ne h bad_ne
  obtain ⟨c, a, e2, h⟩ := onInt_ne h bad_ne
  cases a with
  | negSucc a => cases h
  | ofNat a =>
    obtain ⟨d, hd, h⟩ := onOpt_ne h bad_ne
    obtain ⟨rfl, rfl, rfl⟩ := ok_inj h
    rw [e1] at hx; rw [e2] at hy
    obtain ⟨s, rfl, rfl⟩ := hx.str_inv
    obtain ⟨k1, _, rfl⟩ := hy.int_inv
    rw [List.getElem?_map, Array.getElem?_toList] at hd
    cases hs : s.data[a]? with
    | none => rw [hs] at hd; cases hd
    | some u =>
      rw [hs] at hd; cases hd
      refine good_pure hM ?_ (.int .u8 _)
      have hs' : s[a]? = some u := by
        rw [← hs]; rfl
      simp only [Instr.index, asIntOf, Sem.run_bind, Sem.run_pure, run_und hT hi, hui, Result.andThen_ok, Int.ofNat_eq_natCast]
      rw [if_pos (by omega)]
      simp only [Int.toNat_natCast, hs', Sem.run_pure]
  
theorem good_idxA (hT : TTok P TT) {t e k : Nat} {i j : TI} {x y : Opd} {ux uy : Value} (hM : MRel π m.get w) (hi : TT.get t = some i) (hui : i.und = .array k e) (hj : TT.get e = some j)
    (hx : VRel π (ev E K x) ux) (hy : VRel π (ev E K y) uy) (h : oIdxA k j.size (isAggD j.und) x y C E K m n = .ok v m' n') :
    Good P π m w n v m' n' ((do pure (.value (← Instr.index t ux uy)) : Sem Next).run P w) := by
  unfold oIdxA at h
  simp only [lenQ_eq, getQ_eq, takeQ_eq, dropQ_eq, appQ_eq, allQ_eq] at h
  obtain ⟨l, e1, h⟩ := onAgg_ne h bad_ne
  obtain ⟨c, a, e2, h⟩ := onInt_ne h bad_ne
  obtain ⟨d, rfl, hd, h⟩ := natOf_ne h bad_ne
  obtain ⟨hlt, h⟩ := cnd_ne h bad_ne
  simp only [Bool.and_eq_true, Nat.blt_eq] at hlt
  rw [e1] at hx; rw [e2] at hy
  obtain ⟨cs, hl, rfl⟩ := hx.agg_inv
  obtain ⟨k1, _, rfl⟩ := hy.int_inv
  have run : (Instr.index t (.agg cs) (.int k1 d)).run P w = (part e cs (d * j.size)).run P w := by
    simp only [Instr.index, asIntOf, Sem.run_bind, Sem.run_pure, run_und hT hi, hui, Result.andThen_ok]
    rw [if_pos (by omega)]
    simp only [Sem.run_bind, run_size hT hj, Result.andThen_ok, Int.toNat_natCast]
  cases ha : isAggD j.und with
  | true =>
    rw [ha] at h
    obtain ⟨rfl, rfl, rfl⟩ := ok_inj h
    obtain ⟨u', h1, h2⟩ := (run_part hT hj hl w).2 ha (ble_nat hlt.2)
    exact good_pure hM (by rw [run, h1]) h2
  | false =>
    rw [ha] at h
    obtain ⟨y', hy', h⟩ := onOpt_ne h bad_ne
    obtain ⟨rfl, rfl, rfl⟩ := ok_inj h
    obtain ⟨u', h1, h2⟩ := (run_part hT hj hl w).1 ha _ hy'
    exact good_pure hM (by rw [run, h1]) h2

theorem good_extract {x : Opd} {u : Value} {k : Nat} (hM : MRel π m.get w) (hx : VRel π (ev E K x) u) (h : oExtract x k C E K m n = .ok v m' n') :
    Good P π m w n v m' n' ((do pure (.value (← Instr.extract u k)) : Sem Next).run P w) := by
  unfold oExtract at h
  simp only [lenQ_eq, getQ_eq, takeQ_eq, dropQ_eq, appQ_eq, allQ_eq] at h
  obtain ⟨l, e, h⟩ := onTup_ne h bad_ne
  obtain ⟨y, hy, h⟩ := onOpt_ne h bad_ne
  obtain ⟨rfl, rfl, rfl⟩ := ok_inj h
  rw [e] at hx; obtain ⟨vs, hl, rfl⟩ := hx.tup_inv
  obtain ⟨u, hu, hr⟩ := hl.get hy
  rw [Array.getElem?_toList] at hu
  exact good_pure hM (by simp only [Instr.extract, hu, Sem.run_pure]) hr

end
end Go.Abs
namespace Go.Abs
set_option linter.unusedVariables false
set_option linter.unusedSimpArgs false

section
variable {P : Program} {TT : Trie TI} {π : PMap} {m : Mem} {w : World} {n : Nat} {E K : List AV} {C : CallR} {v : AV} {m' : Mem} {n' : Nat}

/-! slices -/

/-- an operand that may be there or not -/
def OptRel (π : PMap) (E K : List AV) : Option Opd → Option Value → Prop
  | none, none => True
  | some x, some u => VRel π (ev E K x) u
  | _, _ => False

def Bnd (x : Option Value) (y d k : Nat) : Prop := (x = none ∧ k = d) ∨ ∃ j, x = some (.int j k) ∧ k ≤ y

theorem boundA_ne {β : Type} {x : Option Opd} {u : Option Value} {y dflt : Nat} {d q : β} {f : Nat → β} (hx : OptRel π E K x u) (h : boundA E K x y dflt d f = q) (hd : d ≠ q) : ∃ k, Bnd u y dflt k ∧ f k = q := by
  cases x with
  | none => cases u with
    | none => exact ⟨dflt, .inl ⟨rfl, rfl⟩, h⟩
    | some u => exact hx.elim
  | some x => cases u with
    | none => exact hx.elim
    | some u =>
      obtain ⟨c, a, e, h⟩ := onInt_ne (β := β) h hd
      obtain ⟨k, rfl, hk, h⟩ := natOf_ne h hd
      simp only [OptRel, e] at hx
      obtain ⟨j, _, rfl⟩ := hx.int_inv
      exact ⟨k, .inr ⟨j, rfl, hk⟩, h⟩

theorem run_bound {j : IntKind} {k y : Nat} {code : BoundsCode} (h : k ≤ y) : (Instr.sliceBound (.int j k) y code).run P w = .ok k w := by
  rw [run_sliceBound w j k y code (by omega) (by omega)]; simp

theorem run_bounds_none {isS : Bool} {len cap h l : Nat} {lo hi : Option Value} (hh : Bnd hi cap len h) (hl : Bnd lo h 0 l) :
    (Instr.sliceBounds isS len cap lo hi none).run P w = .ok (l, h, cap) w := by
  rcases hh with ⟨rfl, rfl⟩ | ⟨jh, rfl, hh⟩ <;> rcases hl with ⟨rfl, rfl⟩ | ⟨jl, rfl, hl⟩ <;>
    simp only [Instr.sliceBounds, Sem.run_bind, Sem.run_pure, Result.andThen_ok, run_bound, *]

theorem run_bounds_some {isS : Bool} {len cap h l k d : Nat} {lo hi mx : Option Value} (hm : Bnd mx cap d k) (hmx : mx ≠ none) (hh : Bnd hi k 0 h) (hhi : hi ≠ none) (hl : Bnd lo h 0 l) :
    (Instr.sliceBounds isS len cap lo hi mx).run P w = .ok (l, h, k) w := by
  rcases hm with ⟨rfl, rfl⟩ | ⟨jm, rfl, hm⟩
  · exact absurd rfl hmx
  rcases hh with ⟨rfl, rfl⟩ | ⟨jh, rfl, hh⟩
  · exact absurd rfl hhi
  rcases hl with ⟨rfl, rfl⟩ | ⟨jl, rfl, hl⟩ <;>
    simp only [Instr.sliceBounds, Sem.run_bind, Sem.run_pure, Result.andThen_ok, run_bound, *]

theorem good_sliceS (hT : TTok P TT) {t : Nat} {i : TI} {x : Opd} {lo hi : Option Opd} {u : Value} {ulo uhi : Option Value} (hM : MRel π m.get w) (hi' : TT.get t = some i) (hui : i.und = .string)
    (hx : VRel π (ev E K x) u) (hlo : OptRel π E K lo ulo) (hhi : OptRel π E K hi uhi) (h : oSliceS x lo hi C E K m n = .ok v m' n') :
    Good P π m w n v m' n' ((do pure (.value (← Instr.sliceAt t u ulo uhi none)) : Sem Next).run P w) := by
  unfold oSliceS at h
  simp only [lenQ_eq, getQ_eq, takeQ_eq, dropQ_eq, appQ_eq, allQ_eq] at h
  obtain ⟨l, e, h⟩ := onStr_ne h bad_ne
  obtain ⟨hk, bh, h⟩ := boundA_ne hhi h bad_ne
  obtain ⟨lk, bl, h⟩ := boundA_ne hlo h bad_ne
  obtain ⟨rfl, rfl, rfl⟩ := ok_inj h
  rw [e] at hx; obtain ⟨s, rfl, rfl⟩ := hx.str_inv
  have hs : (s.data.toList.map UInt8.toNat).length = s.size := by simp
  rw [hs] at bh
  have hle : hk ≤ s.size := by rcases bh with ⟨_, rfl⟩ | ⟨_, _, h⟩ <;> omega
  have := VRel.str (π := π) (s.extract lk hk)
  have e2 : ((s.extract lk hk).data.toList.map UInt8.toNat) = ((s.data.toList.map UInt8.toNat).take hk).drop lk := by
    rw [ByteArray.data_extract, Array.toList_extract, List.extract_eq_take_drop, List.map_take, List.map_drop, List.take_drop]
    by_cases hlh : lk ≤ hk
    · congr 2; omega
    · have : hk < lk := by omega
      rw [List.drop_eq_nil_of_le (by simp; omega), List.drop_eq_nil_of_le (by simp; omega)]
  rw [e2] at this
  refine good_pure hM ?_ this
  simp only [Instr.sliceAt, Instr.slice, Sem.run_bind, run_und hT hi', hui, Result.andThen_ok, Option.isSome_none, Bool.false_eq_true, if_false, run_bounds_none bh bl, Sem.run_pure]

theorem good_sliceA (hT : TTok P TT) {t k e : Nat} {i j : TI} {x : Opd} {lo hi : Option Opd} {u : Value} {ulo uhi : Option Value} (hM : MRel π m.get w) (hi' : TT.get t = some i) (hui : i.und = .array k e) (hj : TT.get e = some j)
    (hx : VRel π (ev E K x) u) (hlo : OptRel π E K lo ulo) (hhi : OptRel π E K hi uhi) (h : oSliceA k j.size x lo hi C E K m n = .ok v m' n') :
    Good P π m w n v m' n' ((do pure (.value (← Instr.sliceAt t u ulo uhi none)) : Sem Next).run P w) := by
  obtain ⟨q, o, e1, h⟩ := onPtr_ne h bad_ne
  obtain ⟨hk, bh, h⟩ := boundA_ne hhi h bad_ne
  obtain ⟨lk, bl, h⟩ := boundA_ne hlo h bad_ne
  obtain ⟨rfl, rfl, rfl⟩ := ok_inj h
  rw [e1] at hx; obtain ⟨p, hp, rfl⟩ := hx.ptr_inv
  have := VRel.sliceX (π := π) q (cnd (Nat.beq k lk) o (o + lk * j.size)) (hk - lk) (k - lk) j.size p hp
  refine good_pure hM ?_ this
  simp only [Instr.sliceAt, Sem.run_bind, run_und hT hi', hui, Result.andThen_ok, Instr.sureAddr, Sem.run_pure, run_bounds_none bh bl, run_size hT hj, add_eq, cnd_eq]
  by_cases hkl : k = lk
  · subst hkl; simp
  · have : ¬ Nat.beq k lk = true := fun h => hkl (beq_nat h)
    rw [if_neg hkl, if_neg this, Nat.add_assoc]

theorem sliceVA_run {sz : Nat} {x y : AV} {lo hi mx : Option Opd} {u : Value} {ulo uhi umx : Option Value} (hx : VRel π x u) (hlo : OptRel π E K lo ulo) (hhi : OptRel π E K hi uhi) (hmx : OptRel π E K mx umx)
    (hmh : mx ≠ none → hi ≠ none) (h : sliceVA E K sz x lo hi mx = some y) :
    ∃ a len cap l hh mm, u = .slice a len cap ∧ (Instr.sliceBounds true len cap ulo uhi umx).run P w = .ok (l, hh, mm) w ∧
      VRel π y (.slice (if mm = l then a else a.map (·.add (l * sz))) (hh - l) (mm - l)) := by
  have hmx' : ∀ z, mx = some z → umx ≠ none := by rintro z rfl; cases umx with | none => exact hmx.elim | some u => simp
  have hhi' : hi ≠ none → uhi ≠ none := by intro hn; cases hi with | none => exact absurd rfl hn | some z => cases uhi with | none => exact hhi.elim | some u => simp
  have hmxn : mx = none → umx = none := by rintro rfl; cases umx with | none => rfl | some u => exact hmx.elim
  unfold sliceVA at h
  split at h
  · -- nil
    cases hx
    obtain ⟨k, bm, h⟩ := boundA_ne hmx h (by simp)
    obtain ⟨hk, bh, h⟩ := boundA_ne hhi h (by simp)
    obtain ⟨lk, bl, h⟩ := boundA_ne hlo h (by simp)
    cases h
    have k0 : k = 0 := by rcases bm with ⟨_, rfl⟩ | ⟨_, _, h⟩ <;> omega
    have h0 : hk = 0 := by rcases bh with ⟨_, rfl⟩ | ⟨_, _, h⟩ <;> omega
    subst k0; subst h0
    have l0 : lk = 0 := by rcases bl with ⟨_, rfl⟩ | ⟨_, _, h⟩ <;> omega
    subst l0
    refine ⟨none, 0, 0, 0, 0, 0, rfl, ?_, .nilslice⟩
    cases mx with
    | none => rw [hmxn rfl]; exact run_bounds_none bh bl
    | some z => exact run_bounds_some bm (hmx' z rfl) bh (hhi' (hmh (by simp))) bl
  · -- a known capacity
    rename_i i o len cap s
    obtain ⟨hs, h⟩ := cnd_ne h (by simp)
    have hs := beq_nat hs; subst hs
    cases hx with
    | sliceX _ _ _ _ _ p hp =>
      obtain ⟨k, bm, h⟩ := boundA_ne hmx h (by simp)
      cases mx with
      | none =>
        have := hmxn rfl; subst this
        rw [onOpt_none] at h
        obtain ⟨hk, bh, h⟩ := boundA_ne hhi h (by simp)
        obtain ⟨lk, bl, h⟩ := boundA_ne hlo h (by simp)
        cases h
        have kc : k = cap := by rcases bm with ⟨_, rfl⟩ | ⟨_, h, _⟩; rfl; cases h
        subst kc
        refine ⟨_, _, _, lk, hk, k, rfl, run_bounds_none bh bl, ?_⟩
        have := VRel.sliceX (π := π) i (cnd (Nat.beq k lk) o (o + lk * s)) (hk - lk) (k - lk) s p hp
        rw [cnd_eq] at this
        by_cases hkl : k = lk
        · subst hkl; simpa [cnd_eq] using this
        · have hb : ¬ Nat.beq k lk = true := fun h => hkl (beq_nat h)
          simp only [cnd_eq, Nat.add_eq, Nat.mul_eq, if_neg hb] at this ⊢
          rw [if_neg hkl]
          simpa [add_eq, Nat.add_assoc] using this
      | some z =>
        rw [onOpt_some] at h
        obtain ⟨hk, bh, h⟩ := boundA_ne hhi h (by simp)
        obtain ⟨lk, bl, h⟩ := boundA_ne hlo h (by simp)
        cases h
        refine ⟨_, _, _, lk, hk, k, rfl, run_bounds_some bm (hmx' z rfl) bh (hhi' (hmh (by simp))) bl, ?_⟩
        have := VRel.sliceX (π := π) i (cnd (Nat.beq k lk) o (o + lk * s)) (hk - lk) (k - lk) s p hp
        rw [cnd_eq] at this
        by_cases hkl : k = lk
        · subst hkl; simpa [cnd_eq] using this
        · have hb : ¬ Nat.beq k lk = true := fun h => hkl (beq_nat h)
          simp only [cnd_eq, Nat.add_eq, Nat.mul_eq, if_neg hb] at this ⊢
          rw [if_neg hkl]
          simpa [add_eq, Nat.add_assoc] using this
  · -- an open one
    rename_i i o len s
    obtain ⟨hs, h⟩ := cnd_ne h (by simp)
    have hs := beq_nat hs; subst hs
    cases hx with
    | sliceO _ _ _ _ c p hp hlc hz =>
      cases mx with
      | none =>
        have := hmxn rfl; subst this
        rw [onOpt_none] at h
        obtain ⟨hk, bh, h⟩ := boundA_ne hhi h (by simp)
        obtain ⟨lk, bl, h⟩ := boundA_ne hlo h (by simp)
        have hkl : hk ≤ len := by rcases bh with ⟨_, rfl⟩ | ⟨_, _, h⟩ <;> omega
        have bh' : Bnd uhi c len hk := by rcases bh with ⟨a, rfl⟩ | ⟨j, a, h⟩; exact .inl ⟨a, rfl⟩; exact .inr ⟨j, a, by omega⟩
        have hlk : lk ≤ hk := by rcases bl with ⟨_, rfl⟩ | ⟨_, _, h⟩ <;> omega
        refine ⟨_, _, _, lk, hk, c, rfl, run_bounds_none bh' bl, ?_⟩
        rw [cnd_eq] at h
        by_cases hll : lk = len
        · have : hk = lk := by omega
          subst this
          rw [if_pos (by rw [hll]; exact Nat.beq_refl len), cnd_eq] at h
          by_cases h0 : hk = 0
          · subst h0
            rw [if_pos (show Nat.beq 0 0 = true from rfl)] at h; cases h
            have := VRel.sliceO (π := π) i o 0 s c p hp (by omega) hz
            by_cases hc0 : c = 0
            · rw [if_pos hc0]; simpa using this
            · rw [if_neg hc0]; simpa [add_eq] using this
          · rw [if_neg (fun hb => h0 (beq_nat hb))] at h; cases h
            rw [Nat.sub_self]
            by_cases hc0 : c = hk
            · rw [if_pos hc0]; exact .empt _ _
            · rw [if_neg hc0]; exact .empt _ _
        · rw [if_neg (fun hb => hll (beq_nat hb))] at h; cases h
          have h1 : lk * s + (c - lk) * s = c * s := by rw [← Nat.add_mul]; congr 1; omega
          have := VRel.sliceO (π := π) i (o + lk * s) (hk - lk) s (c - lk) p hp (by omega) (by omega)
          rw [if_neg (by omega)]
          simpa [add_eq, Nat.add_assoc] using this
      | some z =>
        rw [onOpt_some] at h
        obtain ⟨k, bm, h⟩ := boundA_ne hmx h (by simp)
        obtain ⟨hk, bh, h⟩ := boundA_ne hhi h (by simp)
        obtain ⟨lk, bl, h⟩ := boundA_ne hlo h (by simp)
        cases h
        have bm' : Bnd umx c 0 k := by rcases bm with ⟨a, rfl⟩ | ⟨j, a, h⟩; exact .inl ⟨a, rfl⟩; exact .inr ⟨j, a, by omega⟩
        refine ⟨_, _, _, lk, hk, k, rfl, run_bounds_some bm' (hmx' z rfl) bh (hhi' (hmh (by simp))) bl, ?_⟩
        have := VRel.sliceX (π := π) i (cnd (Nat.beq k lk) o (o + lk * s)) (hk - lk) (k - lk) s p hp
        rw [cnd_eq] at this
        by_cases hkl : k = lk
        · subst hkl; simpa [cnd_eq] using this
        · have hb : ¬ Nat.beq k lk = true := fun h => hkl (beq_nat h)
          simp only [cnd_eq, Nat.add_eq, Nat.mul_eq, if_neg hb] at this ⊢
          rw [if_neg hkl]
          simpa [add_eq, Nat.add_assoc] using this
  · -- empty
    cases hx with
    | empt a c =>
      cases mx with
      | some z => cases h
      | none =>
        have := hmxn rfl; subst this
        rw [onOpt_none] at h
        obtain ⟨hk, bh, h⟩ := boundA_ne hhi h (by simp)
        obtain ⟨lk, bl, h⟩ := boundA_ne hlo h (by simp)
        cases h
        have h0 : hk = 0 := by rcases bh with ⟨_, rfl⟩ | ⟨_, _, h⟩ <;> omega
        subst h0
        have l0 : lk = 0 := by rcases bl with ⟨_, rfl⟩ | ⟨_, _, h⟩ <;> omega
        subst l0
        have bh' : Bnd uhi c 0 0 := by rcases bh with ⟨a, _⟩ | ⟨j, a, h⟩; exact .inl ⟨a, rfl⟩; exact .inr ⟨j, a, by omega⟩
        refine ⟨_, _, _, 0, 0, c, rfl, run_bounds_none bh' bl, ?_⟩
        by_cases hc0 : c = 0
        · rw [if_pos hc0]; exact .empt _ _
        · rw [if_neg hc0]; exact .empt _ _
  · cases h

theorem good_sliceV (hT : TTok P TT) {t e : Nat} {i j : TI} {x : Opd} {lo hi mx : Option Opd} {u : Value} {ulo uhi umx : Option Value} (hM : MRel π m.get w) (hi' : TT.get t = some i) (hui : i.und = .slice e) (hj : TT.get e = some j)
    (hx : VRel π (ev E K x) u) (hlo : OptRel π E K lo ulo) (hhi : OptRel π E K hi uhi) (hmx : OptRel π E K mx umx) (hmh : mx ≠ none → hi ≠ none) (h : oSliceV j.size x lo hi mx C E K m n = .ok v m' n') :
    Good P π m w n v m' n' ((do pure (.value (← Instr.sliceAt t u ulo uhi umx)) : Sem Next).run P w) := by
  obtain ⟨y, hy, h⟩ := onOpt_ne h bad_ne
  obtain ⟨rfl, rfl, rfl⟩ := ok_inj h
  obtain ⟨a, len, cap, l, hh, mm, rfl, hrun, hr⟩ := sliceVA_run (P := P) (w := w) hx hlo hhi hmx hmh hy
  refine good_pure hM ?_ hr
  simp only [Instr.sliceAt, Instr.slice, Sem.run_bind, run_und hT hi', hui, Result.andThen_ok, hrun, run_size hT hj, Sem.run_pure]

end
end Go.Abs
namespace Go.Abs
set_option linter.unusedVariables false
set_option linter.unusedSimpArgs false
open Go.MapKept

section
variable {P : Program} {TT : Trie TI} {π : PMap} {m : Mem} {w : World} {n : Nat} {E K : List AV} {C : CallR} {v : AV} {m' : Mem} {n' : Nat}

/-! maps -/
def plainKey : TypeDesc → Option Nat
  | .bool => some 0
  | .int k => some (kid k + 2)
  | .string => some 1
  | _ => none

theorem isKey_of {d : TypeDesc} {kt : Nat} {x : AV} {u : Value} (hd : plainKey d = some kt) (hk : keyA kt x = true) (hx : VRel π x u) : IsKey d u := by
  cases x <;> first | (cases hk; done) | skip
  all_goals (cases hx; have hk := beq_nat hk; cases d <;> cases hd <;> simp only [IsKey] <;> first | trivial | (simp at hk; done) | (exact kid_inj (by simpa using hk.symm)) | skip)
  all_goals (simp only [Nat.add_eq] at hk; omega)

theorem find_rel {d : TypeDesc} {kt : Nat} {x : AV} {u : Value} (hd : plainKey d = some kt) (hk : keyA kt x = true) (hx : VRel π x u) :
    ∀ (es : List (AV × AV × Nat)) (fs : List MapEntry) (j : Nat) (res : Option (Nat × AV)), es.length = fs.length → (∀ (i : Nat) e f, es[i]? = some e → fs[i]? = some f → ERel π e f) → findA x es j = some res →
      (res = none ∧ Instr.findNow d u fs j = some none) ∨
        ∃ i y y' e, res = some (j + i, y) ∧ VRel π y y' ∧ Instr.findNow d u fs j = some (some (j + i, y')) ∧ fs[i]? = some e ∧ Instr.sameBits 10000 e.key u = true := by
  intro es
  induction es with
  | nil =>
    intro fs j res hl _ h
    cases fs with
    | nil => cases h; exact .inl ⟨rfl, rfl⟩
    | cons f fs => simp at hl
  | cons e es ih =>
    intro fs j res hl he h
    cases fs with
    | nil => simp at hl
    | cons f fs =>
      obtain ⟨h1, h2, _⟩ := he 0 e f rfl rfl
      obtain ⟨q, hq, h⟩ := optB_eq_some h
      have same : Instr.sameNow d u f.key = some q ∧ (q = true → Instr.sameBits 10000 f.key u = true) := by
        revert hq h1
        generalize e.1 = k
        generalize f.key = fk
        intro h1 hq
        cases x <;> first | (cases hk; done) | skip
        all_goals (cases k <;> first | (cases hq; done) | skip)
        all_goals (cases hx; cases h1; have hk := beq_nat hk; cases d <;> cases hd <;> first | (simp at hk; done) | skip)
        all_goals first
          | (exfalso; simp only [Nat.add_eq] at hk; omega)
          | (cases hq; exact ⟨rfl, fun h => by simpa [Instr.sameBits] using (beq_iff_eq.1 h).symm⟩)
          | skip
        · simp only [eqPrim] at hq
          obtain ⟨hkk, hq2⟩ := cnd_ne hq (by simp)
          have hkk := kid_inj (beq_nat hkk)
          subst hkk
          cases hq2
          refine ⟨by simp [Instr.sameNow, eqI_eq], fun h => ?_⟩
          rw [eqI_eq] at h
          simpa [Instr.sameBits] using (beq_iff_eq.1 h).symm
        cases hq
        rename_i s _ t _
        have : beqL (s.data.toList.map UInt8.toNat) (t.data.toList.map UInt8.toNat) = (s == t) := by
          rw [beqL_bytes, Bool.eq_iff_iff, beq_iff_eq, bytes_beq]
          constructor
          · intro h; exact ByteArray.ext (Array.ext' h)
          · intro h; rw [h]
        refine ⟨by simp only [Instr.sameNow, this], fun h => ?_⟩
        rw [this, bytes_beq] at h
        subst h
        simp [Instr.sameBits, bytes_beq]
      cases q with
      | true =>
        cases h
        refine .inr ⟨0, e.2.1, f.val, f, rfl, h2, ?_, rfl, same.2 rfl⟩
        simp only [Instr.findNow, same.1, Nat.add_zero]
      | false =>
        rcases ih fs (j + 1) res (by simpa using hl) (fun i e f a b => he (i + 1) e f (by simpa using a) (by simpa using b)) h with ⟨a, b⟩ | ⟨i, y, y', e', a, b, c, d', g⟩
        · exact .inl ⟨a, by simp only [Instr.findNow, same.1]; exact b⟩
        · refine .inr ⟨i + 1, y, y', e', ?_, b, ?_, by simpa using d', g⟩
          · rw [a]; congr 2; omega
          · simp only [Instr.findNow, same.1]; rw [c]; congr 3; omega

theorem MRel.map {M : MemF} (h : MRel π M w) {i : Nat} {es : List (AV × AV × Nat)} {clk : Nat} (e : M i = some (.map es clk)) :
    ∃ (p : Pl) (fs : Array MapEntry), π i = some p ∧ w.heap[p.b]? = some (.map fs clk) ∧ es.length = fs.toList.length ∧ (∀ (j : Nat) e f, es[j]? = some e → fs.toList[j]? = some f → ERel π e f) := by
  obtain ⟨p, x, hp, hx, hr⟩ := h.obj i _ e
  cases hr with
  | map _ _ fs _ h1 h2 => exact ⟨p, fs, hp, hx, by simpa using h1, fun j e f a b => h2 j e f a (by simpa using b)⟩

def aggV : Value → Bool
  | .agg _ => true
  | _ => false

/-- zeros are aggregates where their types are -/
def TTagg (P : Program) (TT : Trie TI) : Prop := ∀ t i, TT.get t = some i → ∀ ti z, P.info? t = some ti → ti.zero = some z → aggV z = isAggD i.und

theorem zero_rel {i : TI} {z : AV} {zv : Value} (h : absScs zv.cells.toList = some i.zero) (ha : aggV zv = isAggD i.und) (hz : if isAggD i.und then z = .agg i.zero else i.zero = [z]) : VRel π z zv := by
  have hr := absScs_rel (π := π) h
  cases hd : isAggD i.und with
  | true =>
    rw [hd] at ha hz
    simp only [if_true] at hz
    subst hz
    cases zv <;> first | (cases ha; done) | skip
    exact .agg _ _ hr
  | false =>
    rw [hd] at ha hz
    simp only [Bool.false_eq_true, if_false] at hz
    rw [hz] at hr
    have hc : zv.cells = #[zv] := by cases zv <;> first | (cases ha; done) | rfl
    rw [hc] at hr
    cases hr with
    | cons _ _ _ _ h1 h2 => exact h1

theorem good_lookup (hT : TTok P TT) (hA : TTagg P TT) {t kt e key : Nat} {i ik ie : TI} {ok : Bool} {z : AV} {x y : Opd} {ux uy : Value} (hM : MRel π m.get w) (hi : TT.get t = some i) (hui : i.und = .map kt e) (hik : TT.get kt = some ik) (hie : TT.get e = some ie)
    (hkey : plainKey ik.und = some key) (hz : if isAggD ie.und then z = .agg ie.zero else ie.zero = [z]) (hx : VRel π (ev E K x) ux) (hy : VRel π (ev E K y) uy)
    (h : oLookup key z ok x y C E K m n = .ok v m' n') :
    Good P π m w n v m' n' ((do pure (.value (← Instr.lookup t ux uy ok)) : Sem Next).run P w) := by
  obtain ⟨hk, h⟩ := cnd_ne h bad_ne
  have hisk := isKey_of hkey hk hy
  have hck : ∀ em : Bool, (Instr.checkKey em 10000 kt uy).run P w = .ok () w := fun em => run_checkKey (by exact (hT kt ik hik).1) hisk em 9999
  obtain ⟨_, ti, zv, hti, _, _, htz, hzr⟩ := hT e ie hie
  have hzv : (zeroValue e).run P w = .ok zv w := by simp [zeroValue, typeInfo, hti, htz]
  have hzz : VRel π z zv := zero_rel hzr (hA e ie hie ti zv hti htz) hz
  have fin : ∀ (a : AV) (a' : Value) (q : Bool), VRel π a a' → VRel π (cnd ok (.tup [a, .bool q]) a) (if ok then .tuple #[a', .bool q] else a') := by
    intro a a' q ha
    cases ok
    · exact ha
    · exact .tup _ _ (.cons _ _ _ _ ha (.cons _ _ _ _ (.bool q) .nil))
  split at h
  · rename_i e1
    obtain ⟨rfl, rfl, rfl⟩ := ok_inj h
    rw [e1] at hx; cases hx
    refine good_pure hM ?_ (fin _ _ false hzz)
    have hfk : (Instr.findKey kt uy []).run P w = .ok none w := run_findKey (hT kt ik hik).1 rfl
    simp only [Instr.lookup, Sem.run_bind, run_und hT hi, hui, Result.andThen_ok, Sem.run_pure, hck]
    simp only [hfk, Result.andThen_ok, Sem.run_bind, hzv, Sem.run_pure]
  · rename_i i' e1
    obtain ⟨es, clk, hm, h⟩ := onMap_ne h bad_ne
    obtain ⟨res, hres, h⟩ := onOpt_ne h bad_ne
    rw [e1] at hx; cases hx with
    | mp _ p hp =>
      obtain ⟨q, fs, hq, hw, hl, hes⟩ := hM.map hm
      rw [hp] at hq; cases hq
      have hgo := Go.MapKept.run_getObj_map (P := P) hw
      rcases find_rel hkey hk hy es fs.toList 0 res hl hes hres with ⟨rfl, hf⟩ | ⟨j, a, a', f, rfl, ha, hf, _, _⟩
      · obtain ⟨rfl, rfl, rfl⟩ := ok_inj h
        refine good_pure hM ?_ (fin _ _ false hzz)
        have hfk := run_findKey (P := P) (w := w) (hT kt ik hik).1 hf
        simp only [Instr.lookup, Sem.run_bind, run_und hT hi, hui, Result.andThen_ok, hgo, Sem.run_pure, hck]
        simp only [hfk, Result.andThen_ok, Sem.run_bind, hzv, Sem.run_pure]
      · obtain ⟨rfl, rfl, rfl⟩ := ok_inj h
        refine good_pure hM ?_ (fin _ _ true ha)
        have hfk := run_findKey (P := P) (w := w) (hT kt ik hik).1 hf
        simp only [Instr.lookup, Sem.run_bind, run_und hT hi, hui, Result.andThen_ok, hgo, Sem.run_pure, hck]
        simp only [hfk, Result.andThen_ok, Sem.run_bind, Sem.run_pure]
  · cases h

end
end Go.Abs
