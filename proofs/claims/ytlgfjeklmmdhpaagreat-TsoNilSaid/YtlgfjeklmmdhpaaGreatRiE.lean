/- Ri, part E: reading cells; arithmetic; slices: the model's operations over related values. -/
import Derived.Test.YtlgfjeklmmdhpaaGreatRiD
set_option linter.unusedVariables false
set_option linter.unusedSimpArgs false
namespace Go.Ri

section
variable {P : Program} {w : World} {ι : Em}

theorem addr_add (r o n : Nat) : (⟨r, o, none⟩ : Addr).add n = ⟨r, o + n, none⟩ := by
  unfold Addr.add
  by_cases h : n = 0
  · subst h; simp
  · simp [h]

/-- Some cells of the world in a row. -/
def Row (w : World) (r o : Nat) (cs : List Value) : Prop := ∀ (i : Nat) v, cs[i]? = some v → w.cell? ⟨r, o + i, none⟩ = some v

theorem run_loadFrom (r o : Nat) : ∀ (cs : List Value) (k : Nat) (acc : Array Value), Row w r (o + k) cs →
    (loadCellsFrom ⟨r, o, none⟩ k cs.length acc).run P w = .ok (acc ++ cs.toArray) w
  | [], k, acc, h => by simp [loadCellsFrom]
  | v :: cs, k, acc, h => by
    have h0 := h 0 v rfl
    simp only [List.length_cons, loadCellsFrom, addr_add, Sem.run_bind, run_load]
    rw [Nat.add_zero] at h0
    rw [h0]
    simp only [Result.andThen_ok]
    rw [run_loadFrom r o cs (k + 1) (acc.push v) (fun i u hu => by
      have := h (i + 1) u (by simpa using hu)
      rw [show o + (k + 1) + i = o + k + (i + 1) from by omega]; exact this)]
    simp
theorem run_loadCells (r o : Nat) (cs : List Value) (h : Row w r o cs) : (loadCells ⟨r, o, none⟩ cs.length).run P w = .ok cs.toArray w := by
  rw [loadCells, run_loadFrom r o cs 0 #[] (by simpa using h)]
  simp

theorem rdL_spec {cs l : List Value} {o n : Nat} (h : rdL cs o n = some l) : o + n ≤ cs.length ∧ l.length = n ∧ ∀ (i : Nat), i < n → l[i]? = cs[o + i]? := by
  unfold rdL at h
  cases hb : Nat.ble (o + n) cs.length with
  | false => rw [hb] at h; cases h
  | true =>
    rw [hb] at h; simp only [cond_true, Option.some.injEq] at h
    subst h
    have := Nat.le_of_ble_eq_true hb
    refine ⟨this, by simp; omega, fun i hi => ?_⟩
    rw [List.getElem?_take_of_lt hi, List.getElem?_drop]
theorem mem_rdL {cs l : List Value} {o n : Nat} (h : rdL cs o n = some l) {x : Value} (hx : x ∈ l) : x ∈ cs := by
  obtain ⟨_, hl, hg⟩ := rdL_spec h
  obtain ⟨i, hi⟩ := List.mem_iff_getElem?.1 hx
  have : i < n := by rw [← hl]; exact (List.getElem?_eq_some_iff.1 hi).1
  rw [hg i this] at hi
  exact List.mem_of_getElem? hi
theorem LR.rdL {cs l cs' : List Value} {o n : Nat} (h : Ri.rdL cs o n = some l) (hl : LR ι cs cs') : ∃ l', Ri.rdL cs' o n = some l' ∧ LR ι l l' := by
  obtain ⟨h1, h2, h3⟩ := rdL_spec h
  have h4 : Nat.ble (o + n) cs'.length = true := Nat.ble_eq_true_of_le (by rw [← hl.1]; exact h1)
  have he : Ri.rdL cs' o n = some ((cs'.drop o).take n) := by unfold Ri.rdL; rw [h4]; rfl
  refine ⟨_, he, ?_⟩
  obtain ⟨g1, g2, g3⟩ := rdL_spec he
  refine ⟨by rw [h2, g2], fun i x y hx hy => ?_⟩
  have : i < n := by rw [← h2]; exact (List.getElem?_eq_some_iff.1 hx).1
  rw [h3 i this] at hx
  rw [g3 i this] at hy
  exact hl.2 _ x y hx hy

/-- What a heap's place holds stands in the world. -/
theorem BR.row {B : Nat} {k : Blk} {L : Loc} (h : BR B ι k L w) {o n : Nat} {l : List Value} (hr : rdL k.cs o n = some l) :
    ∃ l', LR ι l l' ∧ (∀ x ∈ l, one x = true) ∧ Row w L.r (o + L.sh) l' := by
  obtain ⟨c, e, fz, h1, h2, h3, _⟩ := h
  obtain ⟨g1, g2, g3⟩ := rdL_spec hr
  have hex : ∀ i : Nat, ∃ v', ∀ v, l[i]? = some v → c[L.sh + (o + i)]? = some v' ∧ VR ι v v' := fun i => by
    cases hi : l[i]? with
    | none => exact ⟨undefV, fun v hv => by cases hv⟩
    | some v =>
      have : i < n := by rw [← g2]; exact (List.getElem?_eq_some_iff.1 hi).1
      rw [g3 i this] at hi
      obtain ⟨v', a, b⟩ := h2 _ v hi
      exact ⟨v', fun u hu => by cases hu; exact ⟨a, b⟩⟩
  obtain ⟨f, hf⟩ := Classical.axiomOfChoice hex
  refine ⟨(List.range l.length).map f, ⟨by simp, fun i x y hx hy => ?_⟩, fun x hx => h3 x (mem_rdL hr hx), fun i v hv => ?_⟩
  · have hi : i < l.length := (List.getElem?_eq_some_iff.1 hx).1
    simp [hi] at hy
    subst hy
    exact (hf i x hx).2
  · have hi : i < l.length := by have := (List.getElem?_eq_some_iff.1 hv).1; simpa using this
    simp [hi] at hv
    subst hv
    have := (hf i l[i] (by simp [hi])).1
    unfold World.cell?
    simp only [h1]
    simp only [Option.isSome_none, Bool.false_eq_true, if_false]
    rw [show o + L.sh + i = L.sh + (o + i) from by omega]; exact this

theorem Row.length_cells {r o : Nat} {cs : List Value} (h : Row w r o cs) : True := trivial

theorem mkV_VR {g : Bool} {l l' : List Value} {v : Value} (h : LR ι l l') (ho : ∀ x ∈ l, one x = true) (hm : mkV g l = some v) : ∃ v', mkV g l' = some v' ∧ VR ι v v' := by
  cases g with
  | true =>
    simp only [mkV, cond_true, Option.some.injEq] at hm ⊢; subst hm
    exact ⟨_, rfl, .agg l l' h.1 h.2 ho⟩
  | false =>
    simp only [mkV, cond_false] at hm ⊢
    cases l with
    | nil => cases hm
    | cons x xs =>
      cases xs with
      | cons _ _ => cases hm
      | nil =>
        simp only [Option.some.injEq] at hm; subst hm
        obtain ⟨y, ys, rfl, h1, h2⟩ := h.cons_inv
        rw [h2.nil_inv]
        exact ⟨y, rfl, h1⟩

theorem cType_spec {t : TypeId} {g : Bool} {n : Nat} (h : cType P t = some (g, n)) :
    (g = true ∧ (isAgg t).run P w = .ok true w ∧ ∃ i, P.info? t = some i ∧ i.size = n) ∨ (g = false ∧ n = 1 ∧ (isAgg t).run P w = .ok false w) := by
  unfold cType at h
  cases hu : P.underlying t with
  | none => rw [hu] at h; cases h
  | some d =>
    rw [hu] at h; simp only at h
    have hr : (isAgg t).run P w = .ok (isAggD d) w := by
      unfold isAgg
      simp only [Sem.run_bind, run_under hu, Result.andThen_ok]
      cases d <;> rfl
    cases hd : isAggD d with
    | false =>
      rw [hd] at h hr; simp only [cond_false, Option.some.injEq, Prod.mk.injEq] at h
      exact .inr ⟨h.1.symm, h.2.symm, hr⟩
    | true =>
      rw [hd] at h hr; simp only [cond_true] at h
      cases hi : P.info? t with
      | none => rw [hi] at h; cases h
      | some i =>
        rw [hi] at h; simp only [Option.some.injEq, Prod.mk.injEq] at h
        exact .inl ⟨h.1.symm, hr, i, rfl, h.2⟩

theorem run_loadVar {t : TypeId} {g : Bool} {n : Nat} (h : cType P t = some (g, n)) (r o : Nat) {l : List Value} (hl : l.length = n) (hr : Row w r o l) {v : Value} (hm : mkV g l = some v) :
    (loadVar t ⟨r, o, none⟩).run P w = .ok v w := by
  rcases cType_spec (w := w) h with ⟨rfl, h1, i, hi, hn⟩ | ⟨rfl, rfl, h1⟩
  · simp only [mkV, cond_true, Option.some.injEq] at hm; subst hm
    have := run_loadCells (P := P) r o l hr
    rw [hl, ← hn] at this
    simp only [loadVar, Sem.run_bind, h1, Result.andThen_ok, if_true, run_size hi, this, Sem.run_pure]
  · simp only [mkV, cond_false] at hm
    match l, hm with
    | [x], hm =>
      simp only [Option.some.injEq] at hm; subst hm
      have := hr 0 x rfl
      rw [Nat.add_zero] at this
      simp only [loadVar, Sem.run_bind, h1, Result.andThen_ok, Bool.false_eq_true, if_false, run_load, this]

theorem run_part {t : TypeId} {g : Bool} {n : Nat} (h : cType P t = some (g, n)) (cs : List Value) (off : Nat) {l : List Value} (hr : rdL cs off n = some l) {v : Value} (hm : mkV g l = some v) :
    (part t ⟨cs⟩ off).run P w = .ok v w := by
  obtain ⟨g1, g2, g3⟩ := rdL_spec hr
  rcases cType_spec (w := w) h with ⟨rfl, h1, i, hi, hn⟩ | ⟨rfl, rfl, h1⟩
  · simp only [mkV, cond_true, Option.some.injEq] at hm; subst hm
    simp only [part, Sem.run_bind, h1, Result.andThen_ok, if_true, run_size hi, Sem.run_pure]
    congr 2
    apply Array.ext'
    simp only [Array.toList_extract]
    apply List.ext_getElem?
    intro j
    by_cases hj : j < n
    · rw [g3 j hj]
      simp [List.extract_eq_take_drop, List.getElem?_take, List.getElem?_drop, hn, hj]
    · rw [List.getElem?_eq_none (by simp [List.extract_eq_take_drop, hn]; omega), List.getElem?_eq_none (by omega)]
  · simp only [mkV, cond_false] at hm
    match l, hm, g2, g3 with
    | [x], hm, g2, g3 =>
      simp only [Option.some.injEq] at hm; subst hm
      have := g3 0 (by omega)
      rw [Nat.add_zero] at this
      have h' : (Array.mk cs)[off]? = some x := by simpa using this.symm
      simp only [part, Sem.run_bind, h1, Result.andThen_ok, Bool.false_eq_true, if_false, h', Sem.run_pure]

/-! ### Arithmetic -/
theorem run_binI {op : BinOp} {k : IntKind} {a b : Int} {v : Value} (t : TypeId) (h : binI op k a b = some v) (h1 : op ≠ .shl) (h2 : op ≠ .shr) : (binOp op t (.int k a) (.int k b)).run P w = .ok v w := by
  cases op <;> simp only [binI, cmpI] at h <;> first
    | (exact absurd rfl h1)
    | (exact absurd rfl h2)
    | (simp only [Option.some.injEq] at h; subst h; simp [binOp, Op.intArith, Op.intBits, Op.intCmp]; done)
    | (split at h
       · cases h
       · rename_i hb
         simp only [Option.some.injEq] at h; subst h; simp [binOp, Op.intDiv, hb])
    | cases h
theorem run_eqGuard_plain {op : BinOp} {t : TypeId} {x y : Operand} {a b : Value} (h : ∀ cs, a ≠ .agg cs) (h' : a ≠ .nilIface) : (eqGuard op t x y a b).run P w = .ok () w := by
  unfold eqGuard
  cases a <;> first
    | (exact absurd rfl (h _))
    | (exact absurd rfl h')
    | (cases op <;> simp)

end
end Go.Ri
