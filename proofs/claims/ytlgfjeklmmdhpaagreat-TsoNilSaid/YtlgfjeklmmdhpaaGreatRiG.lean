/- Ri, part G: '==' over rows of cells; conversions; the two-place operations. -/
import Derived.Test.YtlgfjeklmmdhpaaGreatRiF
import Derived.Laws.StructEq
import Derived.Laws.BytesString
set_option linter.unusedVariables false
set_option linter.unusedSimpArgs false
namespace Go.Ri

section
variable {P : Program} {w : World} {ι : Em}

/-- How a type's value lies in cells. -/
def Lies (P : Program) (t : TypeId) (xs : List Value) (v : Value) : Prop :=
  match P.underlying t with
  | some d => cond (isAggD d) (v = .agg ⟨xs⟩) (xs = [v])
  | none => False

theorem eqAll_append : ∀ (k1 k2 : List Nat) (x1 x2 y1 y2 : List Value), x1.length = k1.length → y1.length = k1.length →
    eqAll (k1 ++ k2) (x1 ++ x2) (y1 ++ y2) = match eqAll k1 x1 y1 with | some true => eqAll k2 x2 y2 | r => r
  | [], k2, [], x2, [], y2, _, _ => by simp [eqAll]
  | k :: k1, k2, x :: x1, x2, y :: y1, y2, hx, hy => by
    have ih := eqAll_append k1 k2 x1 x2 y1 y2 (by simpa using hx) (by simpa using hy)
    simp only [List.cons_append, eqAll]
    cases h : eq1 k x y with
    | none => rfl
    | some b => cases b with
      | true => exact ih
      | false => rfl
  | [], _, _ :: _, _, _, _, h, _ => by simp at h
  | [], _, [], _, _ :: _, _, _, h => by simp at h
  | _ :: _, _, [], _, _, _, h, _ => by simp at h
  | _ :: _, _, _ :: _, _, [], _, _, h => by simp at h

theorem eqAll_VR : ∀ (ks : List Nat) (xs ys xs' ys' : List Value) (b : Bool), LR ι xs xs' → LR ι ys ys' → eqAll ks xs ys = some b → eqAll ks xs' ys' = some b
  | [], _, _, _, _, b, _, _, h => by simp only [eqAll] at h ⊢; exact h
  | k :: ks, x :: xs, y :: ys, xs', ys', b, hx, hy, h => by
    obtain ⟨x', xt, rfl, h1, h2⟩ := hx.cons_inv
    obtain ⟨y', yt, rfl, h3, h4⟩ := hy.cons_inv
    simp only [eqAll] at h ⊢
    have e : ∀ q, eq1 k x y = some q → eq1 k x' y' = some q := by
      intro q hq
      unfold eq1 at hq
      split at hq
      · cases h1; cases h3; exact hq
      · cases h1; cases h3; exact hq
      · cases h1; cases h3; exact hq
      · cases hq
    cases hq : eq1 k x y with
    | none => rw [hq] at h; cases h
    | some q =>
      rw [hq] at h
      rw [e q hq]
      cases q with
      | true => exact eqAll_VR ks xs ys xt yt b h2 h4 h
      | false => exact h
  | _ :: _, [], _, _, _, _, _, _, h => by simp [eqAll] at h
  | _ :: _, _ :: _, [], _, _, _, _, _, h => by simp [eqAll] at h

theorem leaf_eq {D : Nat} {t : TypeId} {d : TypeDesc} {k : Nat} (hu : P.underlying t = some d) (hd : (d = .bool ∧ k = 1) ∨ ((∃ q, d = .int q) ∧ k = 2) ∨ (d = .string ∧ k = 3)) {x y : Value} {b : Bool}
    (h : eq1 k x y = some b) : (Op.equalIn (D + 1) t x y).run P w = .ok b w := by
  unfold eq1 at h
  split at h
  · rcases hd with ⟨rfl, _⟩ | ⟨_, h0⟩ | ⟨_, h0⟩ <;> try (cases h0)
    simp only [Option.some.injEq] at h; subst h
    exact run_equalIn_bool' w D t _ _ hu
  · rcases hd with ⟨_, h0⟩ | ⟨⟨q, rfl⟩, _⟩ | ⟨_, h0⟩ <;> try (cases h0)
    split at h
    · rename_i e; subst e
      simp only [Option.some.injEq] at h; subst h
      exact run_equalIn_int w D t _ _ _ _ hu
    · cases h
  · rcases hd with ⟨_, h0⟩ | ⟨_, h0⟩ | ⟨rfl, _⟩ <;> try (cases h0)
    simp only [Option.some.injEq] at h; subst h
    rw [run_equalIn_string w D t _ _ hu, ← beq_toListBytes]
  · cases h

/-- A part of a row of cells, as its type lies. -/
theorem run_part_lies {t : TypeId} {i : TypeInfo} {d : TypeDesc} (hu : P.underlying t = some d) (hi : P.info? t = some i) (pre xs post : List Value) (hs : xs.length = i.size) (h1 : isAggD d = false → i.size = 1) :
    ∃ v, (part t ⟨pre ++ xs ++ post⟩ pre.length).run P w = .ok v w ∧ Lies P t xs v := by
  have hr : (isAgg t).run P w = .ok (isAggD d) w := by
    unfold isAgg
    simp only [Sem.run_bind, run_under hu, Result.andThen_ok]
    cases d <;> rfl
  cases hd : isAggD d with
  | true =>
    rw [hd] at hr
    refine ⟨.agg ⟨xs⟩, ?_, by unfold Lies; rw [hu]; simp [hd]⟩
    simp only [part, Sem.run_bind, hr, Result.andThen_ok, if_true, run_size hi, Sem.run_pure]
    congr 2
    apply Array.ext'
    simp [Array.toList_extract, List.extract_eq_take_drop, ← hs]
  | false =>
    rw [hd] at hr
    have h2 := h1 hd
    rw [h2] at hs
    match xs, hs with
    | [x], _ =>
      refine ⟨x, ?_, by unfold Lies; rw [hu]; simp [hd]⟩
      have h' : (Array.mk (pre ++ [x] ++ post))[pre.length]? = some x := by simp
      simp only [part, Sem.run_bind, hr, Result.andThen_ok, Bool.false_eq_true, if_false, h', Sem.run_pure]

theorem leaves_size : ∀ (d : Nat) (t : TypeId) (ks : List Nat), leaves P d t = some ks → ∃ i u, P.info? t = some i ∧ P.underlying t = some u ∧ ks.length = i.size ∧ (isAggD u = false → i.size = 1)
  | 0, t, ks, h => by simp [leaves] at h
  | d + 1, t, ks, h => by
    unfold leaves at h
    split at h
    all_goals first
      | (rename_i i hu hi
         cases hb : Nat.beq i.size 1 with
         | false => rw [hb] at h; cases h
         | true =>
           rw [hb] at h; simp only [cond_true, Option.some.injEq] at h; subst h
           have := Nat.eq_of_beq_eq_true hb
           exact ⟨i, _, hi, hu, by simp [this], fun _ => this⟩)
      | (rename_i n e i hu hi
         split at h
         · rename_i l q hl hq
           cases hb : (Nat.beq l.length q.size && Nat.beq i.size (n * q.size)) with
           | false => rw [hb] at h; cases h
           | true =>
             rw [hb] at h; simp only [cond_true, Option.some.injEq] at h; subst h
             simp only [Bool.and_eq_true] at hb
             exact ⟨i, _, hi, hu, by simp [List.length_flatten, Nat.eq_of_beq_eq_true hb.1, Nat.eq_of_beq_eq_true hb.2], fun hx => by simp [isAggD] at hx⟩
         · cases h)
      | (rename_i fs i hu hi
         cases hs : P.stoodInHeld t with
         | true => rw [hs] at h; cases h
         | false =>
           rw [hs] at h; simp only [cond_false] at h
           split at h
           · rename_i l hl
             cases hb : Nat.beq l.length i.size with
             | false => rw [hb] at h; cases h
             | true =>
               rw [hb] at h; simp only [cond_true, Option.some.injEq] at h; subst h
               exact ⟨i, _, hi, hu, Nat.eq_of_beq_eq_true hb, fun hx => by simp [isAggD] at hx⟩
           · cases h)
      | cases h

/-- The claim for one type: what '==' answers. -/
def EqOk (P : Program) (w : World) (D : Nat) (t : TypeId) (ks : List Nat) : Prop :=
  ∀ xs ys v u b, Lies P t xs v → Lies P t ys u → xs.length = ks.length → ys.length = ks.length → eqAll ks xs ys = some b → (Op.equalIn D t v u).run P w = .ok b w

theorem eqFields_ok {D : Nat} (g : TypeId → Option (List Nat)) (hg : ∀ t ks, g t = some ks → (∃ i u, P.info? t = some i ∧ P.underlying t = some u ∧ ks.length = i.size ∧ (isAggD u = false → i.size = 1)) ∧ EqOk P w D t ks) :
    ∀ (fs : List Field) (off : Nat) (ks : List Nat) (px py xs ys : List Value) (b : Bool), leaves.leavesF P fs off g = some ks → px.length = off → py.length = off → xs.length = ks.length → ys.length = ks.length → eqAll ks xs ys = some b →
      (Op.eqFields D ⟨px ++ xs⟩ ⟨py ++ ys⟩ fs).run P w = .ok b w
  | [], off, ks, px, py, xs, ys, b, h, _, _, _, _, he => by
    simp only [leaves.leavesF, Option.some.injEq] at h; subst h
    simp only [eqAll, Option.some.injEq] at he; subst he
    simp [Op.eqFields]
  | f :: r, off, ks, px, py, xs, ys, b, h, hpx, hpy, hx, hy, he => by
    unfold leaves.leavesF at h
    split at h
    · rename_i l q hl hq
      cases hb : (Nat.beq f.offset off && Nat.beq l.length q.size && f.name != "_") with
      | false => rw [hb] at h; cases h
      | true =>
        rw [hb] at h; simp only [cond_true] at h
        simp only [Bool.and_eq_true, bne_iff_ne] at hb
        have ho := Nat.eq_of_beq_eq_true hb.1.1
        have hlq := Nat.eq_of_beq_eq_true hb.1.2
        split at h
        · rename_i m hm
          simp only [Option.some.injEq] at h; subst h
          simp only [List.length_append] at hx hy
          obtain ⟨⟨i, u, hi, hu, hki, h1⟩, hok⟩ := hg _ _ hl
          rw [hq] at hi; cases hi
          have ex : xs = xs.take l.length ++ xs.drop l.length := (List.take_append_drop _ _).symm
          have ey : ys = ys.take l.length ++ ys.drop l.length := (List.take_append_drop _ _).symm
          have lx : (xs.take l.length).length = l.length := by simp; omega
          have ly : (ys.take l.length).length = l.length := by simp; omega
          obtain ⟨v, rv, lv⟩ := run_part_lies (w := w) hu hq px (xs.take l.length) (xs.drop l.length) (by rw [lx, hki]) h1
          obtain ⟨z, rz, lz⟩ := run_part_lies (w := w) hu hq py (ys.take l.length) (ys.drop l.length) (by rw [ly, hki]) h1
          rw [List.append_assoc, ← ex, hpx, ← ho] at rv
          rw [List.append_assoc, ← ey, hpy, ← ho] at rz
          rw [ex, ey, eqAll_append l m _ _ _ _ lx ly] at he
          simp only [Op.eqFields]
          rw [if_pos hb.2]
          simp only [Sem.run_bind, rv, rz, Result.andThen_ok]
          cases hq1 : eqAll l (xs.take l.length) (ys.take l.length) with
          | none => rw [hq1] at he; cases he
          | some c =>
            rw [hok _ _ v z c lv lz lx ly hq1]
            simp only [Result.andThen_ok]
            rw [hq1] at he
            cases c with
            | false =>
              simp only [Option.some.injEq] at he; subst he
              simp
            | true =>
              simp only at he
              have ih := eqFields_ok g hg r (off + q.size) m (px ++ xs.take l.length) (py ++ ys.take l.length) (xs.drop l.length) (ys.drop l.length) b hm
                (by rw [List.length_append, lx, hpx, hlq]) (by rw [List.length_append, ly, hpy, hlq]) (by simp; omega) (by simp; omega) he
              rw [List.append_assoc, List.append_assoc, ← ex, ← ey] at ih
              simpa using ih
        · cases h
    · cases h

theorem arr_loop {D : Nat} {e : TypeId} {l : List Nat} {q : TypeInfo} {u : TypeDesc} (hq : P.info? e = some q) (hu : P.underlying e = some u) (hlq : l.length = q.size) (h1 : isAggD u = false → q.size = 1) (hok : EqOk P w D e l) :
    ∀ (m : Nat) (k : Nat) (px py xs ys : List Value) (b : Bool), px.length = k * q.size → py.length = k * q.size → xs.length = m * q.size → ys.length = m * q.size → eqAll (List.replicate m l).flatten xs ys = some b →
      ((do
        let r ← forIn (List.range' k m 1) ((none, ()) : Option Bool × Unit) (fun i _ => do
          let a ← part e ⟨px ++ xs⟩ (i * q.size)
          let c ← part e ⟨py ++ ys⟩ (i * q.size)
          let z ← Op.equalIn D e a c
          if (!z) = true then pure (ForInStep.done (some false, ())) else pure (ForInStep.yield (none, ())))
        match r.fst with
        | some r => pure r
        | none => pure true : Sem Bool)).run P w = .ok b w
  | 0, k, px, py, xs, ys, b, _, _, _, _, he => by
    simp only [List.replicate_zero, List.flatten_nil, eqAll, Option.some.injEq] at he; subst he
    simp
  | m + 1, k, px, py, xs, ys, b, hpx, hpy, hx, hy, he => by
    rw [Nat.succ_mul] at hx hy
    have ex : xs = xs.take l.length ++ xs.drop l.length := (List.take_append_drop _ _).symm
    have ey : ys = ys.take l.length ++ ys.drop l.length := (List.take_append_drop _ _).symm
    have lx : (xs.take l.length).length = l.length := by simp; omega
    have ly : (ys.take l.length).length = l.length := by simp; omega
    obtain ⟨v, rv, lv⟩ := run_part_lies (w := w) hu hq px (xs.take l.length) (xs.drop l.length) (by rw [lx, hlq]) h1
    obtain ⟨z, rz, lz⟩ := run_part_lies (w := w) hu hq py (ys.take l.length) (ys.drop l.length) (by rw [ly, hlq]) h1
    rw [List.append_assoc, ← ex, hpx] at rv
    rw [List.append_assoc, ← ey, hpy] at rz
    rw [List.replicate_succ, List.flatten_cons, ex, ey, eqAll_append l _ _ _ _ _ lx ly] at he
    rw [List.range'_succ]
    simp only [List.forIn_cons, Sem.run_bind, rv, rz, Result.andThen_ok]
    cases hq1 : eqAll l (xs.take l.length) (ys.take l.length) with
    | none => rw [hq1] at he; cases he
    | some c =>
      rw [hok _ _ v z c lv lz lx ly hq1]
      simp only [Result.andThen_ok]
      rw [hq1] at he
      cases c with
      | false =>
        simp only [Option.some.injEq] at he; subst he
        simp
      | true =>
        simp only at he
        have ih := arr_loop hq hu hlq h1 hok m (k + 1) (px ++ xs.take l.length) (py ++ ys.take l.length) (xs.drop l.length) (ys.drop l.length) b
          (by rw [List.length_append, lx, hpx, hlq, Nat.succ_mul]) (by rw [List.length_append, ly, hpy, hlq, Nat.succ_mul]) (by simp; omega) (by simp; omega) he
        rw [List.append_assoc, List.append_assoc, ← ex, ← ey] at ih
        simpa using ih

theorem eqAll_one {k : Nat} {v u : Value} {b : Bool} (he : eqAll [k] [v] [u] = some b) : eq1 k v u = some b := by
  simp only [eqAll] at he
  cases h1 : eq1 k v u with
  | none => rw [h1] at he; cases he
  | some c => rw [h1] at he; cases c <;> exact he

theorem eqT : ∀ (d : Nat) (t : TypeId) (ks : List Nat), leaves P d t = some ks → ∀ D, d ≤ D → EqOk P w D t ks
  | 0, t, ks, h, _, _ => by simp [leaves] at h
  | d + 1, t, ks, h, 0, hD => by omega
  | d + 1, t, ks, h, D + 1, hD => by
    intro xs ys v u b lv lu hx hy he
    have ih : ∀ t ks, leaves P d t = some ks → (∃ i u, P.info? t = some i ∧ P.underlying t = some u ∧ ks.length = i.size ∧ (isAggD u = false → i.size = 1)) ∧ EqOk P w D t ks :=
      fun t ks h => ⟨leaves_size d t ks h, eqT d t ks h D (by omega)⟩
    unfold leaves at h
    split at h
    · rename_i hu hi
      rename_i i
      cases hb : Nat.beq i.size 1 with
      | false => rw [hb] at h; cases h
      | true =>
        rw [hb] at h; simp only [cond_true, Option.some.injEq] at h; subst h
        unfold Lies at lv lu
        rw [hu] at lv lu
        simp only [isAggD, cond_false] at lv lu
        subst lv; subst lu
        have he' : eq1 _ v u = some b := eqAll_one he
        exact leaf_eq hu (.inl ⟨rfl, rfl⟩) he'
    · rename_i hu hi
      rename_i i
      cases hb : Nat.beq i.size 1 with
      | false => rw [hb] at h; cases h
      | true =>
        rw [hb] at h; simp only [cond_true, Option.some.injEq] at h; subst h
        unfold Lies at lv lu
        rw [hu] at lv lu
        simp only [isAggD, cond_false] at lv lu
        subst lv; subst lu
        have he' : eq1 _ v u = some b := eqAll_one he
        exact leaf_eq hu (.inr (.inl ⟨⟨_, rfl⟩, rfl⟩)) he'
    · rename_i hu hi
      rename_i i
      cases hb : Nat.beq i.size 1 with
      | false => rw [hb] at h; cases h
      | true =>
        rw [hb] at h; simp only [cond_true, Option.some.injEq] at h; subst h
        unfold Lies at lv lu
        rw [hu] at lv lu
        simp only [isAggD, cond_false] at lv lu
        subst lv; subst lu
        have he' : eq1 _ v u = some b := eqAll_one he
        exact leaf_eq hu (.inr (.inr ⟨rfl, rfl⟩)) he'
    · rename_i hu hi
      rename_i n e i
      split at h
      · rename_i hl hq
        rename_i l q
        cases hb : (Nat.beq l.length q.size && Nat.beq i.size (n * q.size)) with
        | false => rw [hb] at h; cases h
        | true =>
          rw [hb] at h; simp only [cond_true, Option.some.injEq] at h; subst h
          simp only [Bool.and_eq_true] at hb
          unfold Lies at lv lu
          rw [hu] at lv lu
          simp only [isAggD, cond_true] at lv lu
          subst lv; subst lu
          obtain ⟨⟨q', u', hq', hu', _, h1⟩, hok⟩ := ih _ _ hl
          rw [hq] at hq'; cases hq'
          have hll := Nat.eq_of_beq_eq_true hb.1
          have hlen : ((List.replicate n l).flatten).length = n * q.size := by simp [List.length_flatten, hll]
          have := arr_loop hq hu' hll h1 hok n 0 [] [] xs ys b (by simp) (by simp) (by rw [hx, hlen]) (by rw [hy, hlen]) he
          simp only [Op.equalIn, Sem.run_bind, run_under hu, Result.andThen_ok, run_size hq]
          rw [Std.Legacy.Range.forIn_eq_forIn_range']
          simp [Std.Legacy.Range.size] at this ⊢
          rw [← this]
          congr 1
          funext a w'
          rcases a with ⟨_ | _, _⟩ <;> rfl
      · cases h
    · rename_i hu hi
      rename_i fs i
      cases hs : P.stoodInHeld t with
      | true => rw [hs] at h; cases h
      | false =>
        rw [hs] at h; simp only [cond_false] at h
        split at h
        · rename_i l hl
          cases hb : Nat.beq l.length i.size with
          | false => rw [hb] at h; cases h
          | true =>
            rw [hb] at h; simp only [cond_true, Option.some.injEq] at h; subst h
            unfold Lies at lv lu
            rw [hu] at lv lu
            simp only [isAggD, cond_true] at lv lu
            subst lv; subst lu
            have hf : P.fieldsOf t = fs := by simp [Program.fieldsOf, hu]
            rw [run_equalIn_struct w D t _ _ (by rw [hf]; exact hu) hs, hf]
            have := eqFields_ok (w := w) (D := D) (fun u => leaves P d u) ih fs.toList 0 l [] [] xs ys b hl rfl rfl hx hy he
            simpa using this
        · cases h
    · cases h

end
end Go.Ri
