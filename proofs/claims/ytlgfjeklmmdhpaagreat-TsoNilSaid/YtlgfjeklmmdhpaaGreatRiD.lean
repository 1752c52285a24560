/- Ri, part D: the model's operations, run: one law each, over related values. -/
import Derived.Test.YtlgfjeklmmdhpaaGreatRiC
set_option linter.unusedVariables false
set_option linter.unusedSimpArgs false
namespace Go.Ri

section
variable {P : Program} {w : World} {ι : Em}

theorem run_info {t : TypeId} {i : TypeInfo} (h : P.info? t = some i) : (typeInfo t).run P w = .ok i w := by simp [typeInfo, h]
theorem run_size {t : TypeId} {i : TypeInfo} (h : P.info? t = some i) : (sizeOf t).run P w = .ok i.size w := by simp [sizeOf, run_info h]
theorem run_zero {t : TypeId} {i : TypeInfo} {z : Value} (h : P.info? t = some i) (hz : i.zero = some z) : (zeroValue t).run P w = .ok z w := by simp [zeroValue, run_info h, hz]
theorem run_under {t : TypeId} {d : TypeDesc} (h : P.underlying t = some d) : (underlying t).run P w = .ok d w := run_underlying h w

theorem cellsO_cells {z : Value} {zs : List Value} (h : cellsO z = some zs) : z.cells.toList = zs := by
  cases z <;> simp [cellsO] at h <;> subst h <;> rfl
theorem cZero_spec {e : TypeId} {zs : List Value} (h : cZero P e = some zs) : ∃ i z, P.info? e = some i ∧ i.zero = some z ∧ z.cells.toList = zs ∧ (∀ x ∈ zs, flat x = true) ∧ zs.length = i.size := by
  unfold cZero at h
  cases hi : P.info? e with
  | none => rw [hi] at h; cases h
  | some i =>
    rw [hi] at h; simp only at h
    cases hz : i.zero with
    | none => rw [hz] at h; cases h
    | some z =>
      rw [hz] at h; simp only at h
      cases hc : cellsO z with
      | none => rw [hc] at h; cases h
      | some l =>
        rw [hc] at h; simp only at h
        cases hb : (l.all flat && Nat.beq l.length i.size) with
        | false => rw [hb] at h; cases h
        | true =>
          rw [hb] at h; simp only [cond_true, Option.some.injEq] at h
          subst h
          simp only [Bool.and_eq_true, List.all_eq_true] at hb
          exact ⟨i, z, rfl, hz, cellsO_cells hc, hb.1, Nat.eq_of_beq_eq_true hb.2⟩

theorem run_newRow (e : TypeId) (c : Array Value) : (newRow e c).run P w = .ok ⟨w.heap.size, 0, none⟩ (w.alloc (.cells c e)) := by simp [newRow]
theorem run_alloc {e : TypeId} {i : TypeInfo} {z : Value} (hi : P.info? e = some i) (hz : i.zero = some z) :
    (Instr.alloc e true (.tuple #[])).run P w = .ok (.pointer (some ⟨w.heap.size, 0, none⟩)) (w.alloc (.cells z.cells e)) := by
  simp [Instr.alloc, run_zero hi hz, newVar, run_newRow]
theorem run_box (e : TypeId) (v : Value) : (Instr.box e v).run P w = .ok (.pointer (some ⟨w.heap.size, 0, none⟩)) (w.alloc (.cells v.cells e)) := by
  simp [Instr.box, newVar, run_newRow]

theorem cells_VR {v v' : Value} {l : List Value} (h : VR ι v v') (hc : cellsO v = some l) : LR ι l v'.cells.toList ∧ (∀ x ∈ l, one x = true) := by
  cases h <;> simp only [cellsO, Option.some.injEq] at hc <;> (try (cases hc; done)) <;> subst hc <;>
    first
    | exact ⟨⟨by assumption, by assumption⟩, by assumption⟩
    | exact ⟨LR.cons (by constructor <;> assumption) (LR.nil _), fun x hx => by simp at hx; subst hx; rfl⟩

theorem foldl_setL : ∀ (l : List Value) (k off : Nat) (cs : Array Value),
    ((l.zipIdx k).foldl (fun cs (p : Value × Nat) => cs.setIfInBounds (off + p.2) p.1) cs).toList = setL cs.toList (off + k) l
  | [], k, off, cs => rfl
  | v :: l, k, off, cs => by
    rw [List.zipIdx_cons, List.foldl_cons, foldl_setL l (k + 1) off]
    simp only [setL, Array.toList_setIfInBounds]
    rfl
theorem fill_step (v : Value) (off : Nat) (cs : Array Value) :
    (v.cells.zipIdx.foldl (fun cs (c, j) => cs.setIfInBounds (off + j) c) cs).toList = setL cs.toList off v.cells.toList := by
  have := foldl_setL v.cells.toList 0 off cs
  rw [Nat.add_zero] at this
  rw [← this, ← Array.foldl_toList, Array.toList_zipIdx]

/-- The parts of a build, related. -/
def PRel (ι : Em) (place : Nat → Option (Nat × Nat)) : List (Nat × Nat × Value) → List (Nat × Value) → Prop
  | [], [] => True
  | (o, n, v) :: r, (i, v') :: r' => place i = some (o, n) ∧ VR ι v v' ∧ PRel ι place r r'
  | _, _ => False

theorem fill_ok (place : Nat → Option (Nat × Nat)) : ∀ (ps : List (Nat × Nat × Value)) (ps' : List (Nat × Value)) (cs : List Value) (c : Array Value) (out : List Value), PRel ι place ps ps' →
    LR ι cs c.toList → (∀ x ∈ cs, one x = true) → fillL cs ps = some out → ∃ c', Instr.fill place c ps' = some c' ∧ LR ι out c'.toList ∧ (∀ x ∈ out, one x = true)
  | [], [], cs, c, out, _, hl, ho, hf => by
    simp only [fillL, Option.some.injEq] at hf; subst hf
    exact ⟨c, rfl, hl, ho⟩
  | [], _ :: _, _, _, _, h, _, _, _ => h.elim
  | _ :: _, [], _, _, _, h, _, _, _ => h.elim
  | (o, n, v) :: r, (i, v') :: r', cs, c, out, h, hl, ho, hf => by
    obtain ⟨hp, hv, hr⟩ := h
    rw [fillL] at hf
    cases hc : cellsO v with
    | none => rw [hc] at hf; cases hf
    | some l =>
      rw [hc] at hf; simp only at hf
      cases hb : (Nat.beq l.length n && Nat.ble (o + n) cs.length) with
      | false => rw [hb] at hf; cases hf
      | true =>
        rw [hb] at hf; simp only [cond_true] at hf
        simp only [Bool.and_eq_true] at hb
        have hn := Nat.eq_of_beq_eq_true hb.1
        have hle := Nat.le_of_ble_eq_true hb.2
        obtain ⟨hcl, hone⟩ := cells_VR hv hc
        have hsz : v'.cells.size = n := by rw [← Array.length_toList, ← hcl.1]; exact hn
        have hcs : c.size = cs.length := by rw [← Array.length_toList, ← hl.1]
        obtain ⟨c', h1, h2, h3⟩ := fill_ok place r r' (setL cs o l) (v'.cells.zipIdx.foldl (fun cs (c, j) => cs.setIfInBounds (o + j) c) c) out hr
          (by rw [fill_step]; exact hl.setL o hcl) (all_setL l cs o ho hone) hf
        refine ⟨c', ?_, h2, h3⟩
        rw [Instr.fill, hp]
        simp only []
        rw [if_neg (by simp only [ne_eq, gt_iff_lt, Bool.or_eq_true, decide_eq_true_eq, not_or, Decidable.not_not, Nat.not_lt]; omega)]
        exact h1

theorem run_places : ∀ (fs : List Field) (ls : List (Nat × Nat)), cPlaces P fs = some ls →
    (fs.mapM fun (f : Field) => (do pure (f.offset, ← sizeOf f.type) : Sem (Nat × Nat))).run P w = .ok ls w
  | [], ls, h => by simp only [cPlaces, Option.some.injEq] at h; subst h; rfl
  | f :: r, ls, h => by
    rw [cPlaces] at h
    cases hi : P.info? f.type with
    | none => rw [hi] at h; cases h
    | some i =>
      rw [hi] at h
      cases hr : cPlaces P r with
      | none => rw [hr] at h; cases h
      | some l =>
        rw [hr] at h; simp only [Option.some.injEq] at h; subst h
        have ih := run_places r l hr
        rw [List.mapM_cons]
        simp [run_size hi] at ih ⊢
        rw [ih]; rfl

theorem run_build_struct {t : TypeId} {fs : Array Field} {i : TypeInfo} {z : Value} {ls : List (Nat × Nat)} (hu : P.underlying t = some (.struct fs)) (hi : P.info? t = some i) (hz : i.zero = some z)
    (hl : cPlaces P fs.toList = some ls) (ps : Array (Nat × Value)) (c' : Array Value) (hf : Instr.fill (ls[·]?) z.cells ps.toList = some c') :
    (Instr.build t ps).run P w = .ok (.agg c') w := by
  have h1 : (fs.mapM fun (f : Field) => (do pure (f.offset, ← sizeOf f.type) : Sem (Nat × Nat))).run P w = .ok ls.toArray w := by
    rw [Array.mapM_eq_mapM_toList, Sem.run_map, run_places _ _ hl]; rfl
  have h2 : (fun (x : Nat) => ls.toArray[x]?) = (fun (x : Nat) => ls[x]?) := by funext x; simp
  simp [Instr.build, run_zero hi hz, run_under hu] at h1 ⊢
  rw [h1]
  simp [h2, hf]
theorem run_build_array {t e : TypeId} {n : Nat} {i q : TypeInfo} {z : Value} (hu : P.underlying t = some (.array n e)) (hi : P.info? t = some i) (hz : i.zero = some z) (hq : P.info? e = some q)
    (ps : Array (Nat × Value)) (c' : Array Value) (hf : Instr.fill (fun k => some (k * q.size, q.size)) z.cells ps.toList = some c') :
    (Instr.build t ps).run P w = .ok (.agg c') w := by
  simp [Instr.build, run_zero hi hz, run_under hu, run_size hq, hf]

/-- So many zero values in a row. -/
theorem rep_cells (z : Array Value) (zs : List Value) (h : z.toList = zs) (n sz : Nat) (hs : zs.length = sz) :
    ((Array.range (n * sz)).map (fun i => z[i % z.size]!)).toList = (List.replicate n zs).flatten := by
  have hz : z.size = sz := by rw [← Array.length_toList, h, hs]
  rw [hz]
  apply List.ext_getElem?
  intro j
  rw [Array.toList_map, Array.toList_range, List.getElem?_map]
  by_cases hj : j < n * sz
  · have hsz : 0 < sz := by
      rcases Nat.eq_zero_or_pos sz with h0 | h0
      · rw [h0] at hj; omega
      · exact h0
    have hm : j % sz < z.size := by rw [hz]; exact Nat.mod_lt _ hsz
    rw [List.getElem?_range hj]
    have key : ∀ (n j : Nat), j < n * sz → ((List.replicate n zs).flatten)[j]? = zs[j % sz]? := by
      intro n
      induction n with
      | zero => intro j hj; omega
      | succ n ih =>
        intro j hj
        rw [List.replicate_succ, List.flatten_cons]
        by_cases hlt : j < sz
        · rw [List.getElem?_append_left (by omega), Nat.mod_eq_of_lt hlt]
        · rw [List.getElem?_append_right (by omega), hs, ih (j - sz) (by rw [Nat.succ_mul] at hj; omega)]
          rw [Nat.mod_eq_sub_mod (show j ≥ sz by omega)]
    rw [key n j hj]
    simp only [Option.map_some]
    rw [← h, Array.getElem?_toList]
    simp [hm]
  · rw [List.getElem?_eq_none (by simp; omega), List.getElem?_eq_none (by simp [List.length_flatten, hs]; omega)]
    rfl
theorem run_buildSlice {t e : TypeId} {n : Nat} {i : TypeInfo} {z : Value} {zs : List Value} (hu : P.underlying t = some (.slice e)) (hi : P.info? e = some i) (hz : i.zero = some z) (hzs : z.cells.toList = zs) (hs : zs.length = i.size)
    (hn : n * i.size ≤ 16777216) (ps : Array (Nat × Value)) (c : Array Value) (hc : c.toList = (List.replicate n zs).flatten) (c' : Array Value) (hf : Instr.fill (fun k => some (k * i.size, i.size)) c ps.toList = some c') :
    (Instr.buildSlice t n ps).run P w = .ok (.slice (some ⟨w.heap.size, 0, none⟩) n n) (w.alloc (.cells c' e)) := by
  have hcc : c = (Array.range (n * i.size)).map (fun j => z.cells[j % z.cells.size]!) := by
    apply Array.ext'; rw [hc, rep_cells z.cells zs hzs n i.size hs]
  by_cases h0 : n * i.size = 0
  · have h0' : c = (Array.range (n * i.size)).map (fun j => (#[] : Array Value)[j % (#[] : Array Value).size]!) := by
      rw [hcc, h0]; simp
    rw [h0'] at hf
    have hgt : ¬ (n * i.size > 16777216) := by omega
    rw [h0] at hf
    simp [Instr.buildSlice, run_under hu, run_size hi, h0, hf, run_newRow] at hf ⊢
    rw [hf]
    simp [run_newRow]
  · have hgt : ¬ (n * i.size > 2 ^ 24) := by omega
    rw [hcc] at hf
    simp only [Instr.buildSlice, Sem.run_bind, run_under hu, Result.andThen_ok, run_size hi, if_neg hgt, if_neg h0, run_zero hi hz, Sem.run_pure, hf, run_newRow]

end
end Go.Ri
