/- Ri, part F: comparing, slicing, indexing: the model's operations over related values. -/
import Derived.Test.YtlgfjeklmmdhpaaGreatRiE
set_option linter.unusedVariables false
set_option linter.unusedSimpArgs false
namespace Go.Ri

section
variable {P : Program} {w : World} {ι : Em}

theorem equal_eq (t : TypeId) (x y : Value) : Op.equal t x y = Op.equalIn (9999 + 1) t x y := rfl

theorem run_sliceBound {k : IntKind} {i : Int} {y y' q : Nat} (code : BoundsCode) (h : okI i y = some q) (hle : y ≤ y') : (Instr.sliceBound (.int k i) y' code).run P w = .ok q w ∧ q ≤ y := by
  cases i with
  | negSucc n => simp [okI] at h
  | ofNat n =>
    simp only [okI] at h
    cases hb : Nat.ble n y with
    | false => rw [hb] at h; cases h
    | true =>
      rw [hb] at h; simp only [cond_true, Option.some.injEq] at h; subst h
      have := Nat.le_of_ble_eq_true hb
      have h2 : (0 : Int) ≤ Int.ofNat n ∧ Int.ofNat n ≤ (y' : Int) := by constructor <;> simp <;> omega
      refine ⟨?_, this⟩
      simp only [Instr.sliceBound, asIntOf, Sem.run_bind, Sem.run_pure, Result.andThen_ok, Sem.run_ite]
      rw [if_pos h2]; rfl

def IR : Option Int → Option Value → Prop
  | none, none => True
  | some n, some (.int _ m) => n = m
  | _, _ => False

theorem evI_IR {t : Tm} {nt : Nat} {a : Act} {x : Option Operand} {y : Option Opd} {o : Option Int} (hc : cOpdO nt x = some y) (he : evI t y = some o)
    (hx : ∀ z z', x = some z → cOpd nt z = some z' → VR ι (ev t z') (a.eval z)) : IR o (x.map a.eval) := by
  cases x with
  | none => simp only [cOpdO, Option.some.injEq] at hc; subst hc; simp only [evI, Option.some.injEq] at he; subst he; trivial
  | some z =>
    simp only [cOpdO] at hc
    cases hz : cOpd nt z with
    | none => rw [hz] at hc; cases hc
    | some z' =>
      rw [hz] at hc; simp only [Option.some.injEq] at hc; subst hc
      have hv := hx z z' rfl hz
      simp only [evI] at he
      generalize ev t z' = v at hv he
      simp only [Option.map_some]
      generalize a.eval z = v' at hv
      cases hv <;> simp at he
      subst he; rfl

theorem run_bounds {n c c' l h m : Nat} {lo hi mx : Option Int} {lo' hi' mx' : Option Value} (isS : Bool) (hb : bnds n c lo hi mx = some (l, h, m)) (h1 : IR lo lo') (h2 : IR hi hi') (h3 : IR mx mx') (hc : c ≤ c') (hn : n ≤ c) :
    ∃ m', (Instr.sliceBounds isS n c' lo' hi' mx').run P w = .ok (l, h, m') w ∧ l ≤ h ∧ h ≤ m ∧ m ≤ c ∧ m ≤ m' ∧ m' ≤ c' ∧ (c' = c → m' = m) := by
  unfold bnds at hb
  cases mx with
  | none =>
    cases mx' with
    | some v => exact h3.elim
    | none =>
      simp only at hb
      cases hi with
      | none =>
        cases hi' with
        | some v => exact h2.elim
        | none =>
          simp only at hb
          cases lo with
          | none =>
            cases lo' with
            | some v => exact h1.elim
            | none =>
              simp only [Option.some.injEq, Prod.mk.injEq] at hb
              obtain ⟨rfl, rfl, rfl⟩ := hb
              exact ⟨c', by simp [Instr.sliceBounds], by omega, hn, by omega, hc, by omega, by omega⟩
          | some i =>
            cases lo' with
            | none => exact h1.elim
            | some v =>
              cases v <;> first | (exact h1.elim) | skip
              rename_i k j
              cases (show i = j from h1)
              simp only at hb
              cases hq : okI i n with
              | none => rw [hq] at hb; cases hb
              | some q =>
                rw [hq] at hb; simp only [Option.some.injEq, Prod.mk.injEq] at hb
                obtain ⟨rfl, rfl, rfl⟩ := hb
                obtain ⟨r1, r2⟩ := run_sliceBound (P := P) (w := w) (k := k) .sliceB hq (Nat.le_refl _)
                exact ⟨c', by simp [Instr.sliceBounds, r1], r2, hn, by omega, hc, by omega, by omega⟩
      | some i2 =>
        cases hi' with
        | none => exact h2.elim
        | some v =>
          cases v <;> first | (exact h2.elim) | skip
          rename_i k2 j2
          cases (show i2 = j2 from h2)
          simp only at hb
          cases hq2 : okI i2 c with
          | none => rw [hq2] at hb; cases hb
          | some q2 =>
            rw [hq2] at hb; simp only at hb
            obtain ⟨s1, s2⟩ := run_sliceBound (P := P) (w := w) (k := k2) (if isS then .sliceAcap else .sliceAlen) hq2 hc
            cases lo with
            | none =>
              cases lo' with
              | some v => exact h1.elim
              | none =>
                simp only [Option.some.injEq, Prod.mk.injEq] at hb
                obtain ⟨rfl, rfl, rfl⟩ := hb
                exact ⟨c', by simp [Instr.sliceBounds, s1], by omega, s2, by omega, hc, by omega, by omega⟩
            | some i =>
              cases lo' with
              | none => exact h1.elim
              | some v =>
                cases v <;> first | (exact h1.elim) | skip
                rename_i k j
                cases (show i = j from h1)
                simp only at hb
                cases hq : okI i q2 with
                | none => rw [hq] at hb; cases hb
                | some q =>
                  rw [hq] at hb; simp only [Option.some.injEq, Prod.mk.injEq] at hb
                  obtain ⟨rfl, rfl, rfl⟩ := hb
                  obtain ⟨r1, r2⟩ := run_sliceBound (P := P) (w := w) (k := k) .sliceB hq (Nat.le_refl _)
                  exact ⟨c', by simp [Instr.sliceBounds, s1, r1], r2, s2, by omega, hc, by omega, by omega⟩
  | some i3 =>
    cases mx' with
    | none => exact h3.elim
    | some v =>
      cases v <;> first | (exact h3.elim) | skip
      rename_i k3 j3
      cases (show i3 = j3 from h3)
      simp only at hb
      cases hq3 : okI i3 c with
      | none => rw [hq3] at hb; cases hb
      | some q3 =>
        rw [hq3] at hb; simp only at hb
        obtain ⟨t1, t2⟩ := run_sliceBound (P := P) (w := w) (k := k3) (if isS then .slice3Acap else .slice3Alen) hq3 hc
        cases hi with
        | none => simp at hb
        | some i2 =>
          cases hi' with
          | none => exact h2.elim
          | some v =>
            cases v <;> first | (exact h2.elim) | skip
            rename_i k2 j2
            cases (show i2 = j2 from h2)
            simp only at hb
            cases hq2 : okI i2 q3 with
            | none => rw [hq2] at hb; cases hb
            | some q2 =>
              rw [hq2] at hb; simp only at hb
              obtain ⟨s1, s2⟩ := run_sliceBound (P := P) (w := w) (k := k2) .slice3B hq2 (Nat.le_refl _)
              cases lo with
              | none =>
                cases lo' with
                | some v => exact h1.elim
                | none =>
                  simp only [Option.some.injEq, Prod.mk.injEq] at hb
                  obtain ⟨rfl, rfl, rfl⟩ := hb
                  exact ⟨q3, by simp [Instr.sliceBounds, t1, s1], by omega, s2, t2, by omega, by omega, by omega⟩
              | some i =>
                cases lo' with
                | none => exact h1.elim
                | some v =>
                  cases v <;> first | (exact h1.elim) | skip
                  rename_i k j
                  cases (show i = j from h1)
                  simp only at hb
                  cases hq : okI i q2 with
                  | none => rw [hq] at hb; cases hb
                  | some q =>
                    rw [hq] at hb; simp only [Option.some.injEq, Prod.mk.injEq] at hb
                    obtain ⟨rfl, rfl, rfl⟩ := hb
                    obtain ⟨r1, r2⟩ := run_sliceBound (P := P) (w := w) (k := k) .slice3C hq (Nat.le_refl _)
                    exact ⟨q3, by simp [Instr.sliceBounds, t1, s1, r1], r2, s2, t2, by omega, by omega, by omega⟩

/-- The new slice of a slice: related. -/
theorem slice_VR {b o n c o' c' l h m m' sz : Nat} {L : Loc} (hL : ι b = some L) (hn : n ≤ c) (hc : c ≤ c') (hx : L.ext = false → c' = c) (hl : L.ext = true → o' + c' * L.es ≤ L.lim) (ho : 0 < c → o' = o + L.sh)
    (hs : L.ext = true → L.es = sz) (a1 : l ≤ h) (a2 : h ≤ m) (a3 : m ≤ c) (a4 : m ≤ m') (a5 : m' ≤ c') (a6 : c' = c → m' = m) :
    VR ι (.slice (some (cond (Nat.beq m l) ⟨b, o, none⟩ ⟨b, o + l * sz, none⟩)) (h - l) (m - l)) (.slice (some (if m' = l then ⟨L.r, o', none⟩ else (⟨L.r, o', none⟩ : Addr).add (l * sz))) (h - l) (m' - l)) := by
  rw [addr_add]
  have e1 : (cond (Nat.beq m l) (⟨b, o, none⟩ : Addr) ⟨b, o + l * sz, none⟩) = ⟨b, (if m = l then o else o + l * sz), none⟩ := by
    by_cases e : m = l
    · rw [beqT e, if_pos e]; rfl
    · rw [beqF e, if_neg e]; rfl
  have e2 : (if m' = l then (⟨L.r, o', none⟩ : Addr) else ⟨L.r, o' + l * sz, none⟩) = ⟨L.r, (if m' = l then o' else o' + l * sz), none⟩ := by split <;> rfl
  rw [e1, e2]
  refine .sl b _ _ _ _ _ L hL (by omega) (by omega) (fun e => by have := hx e; have := a6 this; omega) (fun e => ?_) (fun hp => ?_)
  · have h1 := hl e
    have h2 := hs e
    subst h2
    split
    · rename_i e3; rw [e3, Nat.sub_self, Nat.zero_mul]; omega
    · have h3 : l * L.es + (m' - l) * L.es = m' * L.es := by rw [← Nat.add_mul]; congr 1; omega
      have h4 : m' * L.es ≤ c' * L.es := Nat.mul_le_mul_right _ a5
      omega
  · rw [if_neg (by omega), if_neg (by omega), ho (by omega)]; omega

theorem run_slice_slice {t e : TypeId} {i : TypeInfo} (hu : P.underlying t = some (.slice e)) (hi : P.info? e = some i) {a : Option Addr} {n c l h m : Nat} {lo hi' mx : Option Value}
    (hb : (Instr.sliceBounds true n c lo hi' mx).run P w = .ok (l, h, m) w) :
    (Instr.sliceAt t (.slice a n c) lo hi' mx).run P w = .ok (.slice (if m = l then a else a.map (·.add (l * i.size))) (h - l) (m - l)) w := by
  simp [Instr.sliceAt, Instr.slice, run_under hu, hb, run_size hi]
theorem run_slice_string {t : TypeId} (hu : P.underlying t = some .string) {s : ByteArray} {l h m : Nat} {lo hi' : Option Value}
    (hb : (Instr.sliceBounds false s.size s.size lo hi' none).run P w = .ok (l, h, m) w) :
    (Instr.sliceAt t (.string s) lo hi' none).run P w = .ok (.string (s.extract l h)) w := by
  simp [Instr.sliceAt, Instr.slice, run_under hu, hb]
theorem run_slice_array {t e : TypeId} {i : TypeInfo} {n : Nat} (hu : P.underlying t = some (.array n e)) (hi : P.info? e = some i) {a : Addr} {l h m : Nat} {lo hi' mx : Option Value}
    (hb : (Instr.sliceBounds false n n lo hi' mx).run P w = .ok (l, h, m) w) :
    (Instr.sliceAt t (.pointer (some a)) lo hi' mx).run P w = .ok (.slice (some (if m = l then a else a.add (l * i.size))) (h - l) (m - l)) w := by
  simp [Instr.sliceAt, Instr.sureAddr, run_under hu, hb, run_size hi]

theorem ltI_spec {i : Int} {n q : Nat} (h : ltI i n = some q) : i = (q : Int) ∧ q < n := by
  cases i with
  | negSucc k => simp [ltI] at h
  | ofNat k =>
    simp only [ltI] at h
    cases hb : Nat.blt k n with
    | false => rw [hb] at h; cases h
    | true =>
      rw [hb] at h; simp only [cond_true, Option.some.injEq] at h; subst h
      exact ⟨rfl, by simpa [Nat.blt_eq] using hb⟩

theorem run_index_slice {t e : TypeId} {i : TypeInfo} (hu : P.underlying t = some (.slice e)) (hi : P.info? e = some i) {r o n c q : Nat} {k : IntKind} {j : Int} (hq : ltI j n = some q) :
    (Instr.indexAt t (.slice (some ⟨r, o, none⟩) n c) (.int k j)).run P w = .ok (.pointer (some ⟨r, o + q * i.size, none⟩)) w := by
  obtain ⟨rfl, hlt⟩ := ltI_spec hq
  have h2 : (0 : Int) ≤ (q : Int) ∧ (q : Int) < (n : Int) := by constructor <;> omega
  simp only [Instr.indexAt, asIntOf, Sem.run_bind, Sem.run_pure, Result.andThen_ok, run_under hu, Sem.run_ite]
  rw [if_pos h2]
  simp [run_size hi, addr_add]
theorem run_index_array {t e : TypeId} {i : TypeInfo} {len : Nat} (hu : P.underlying t = some (.array len e)) (hi : P.info? e = some i) {r o q : Nat} {k : IntKind} {j : Int} (hq : ltI j len = some q) :
    (Instr.indexAt t (.pointer (some ⟨r, o, none⟩)) (.int k j)).run P w = .ok (.pointer (some ⟨r, o + q * i.size, none⟩)) w := by
  obtain ⟨rfl, hlt⟩ := ltI_spec hq
  have h2 : (0 : Int) ≤ (q : Int) ∧ (q : Int) < (len : Int) := by constructor <;> omega
  simp only [Instr.indexAt, asIntOf, Instr.sureAddr, Sem.run_bind, Sem.run_pure, Result.andThen_ok, run_under hu, Sem.run_ite]
  rw [if_pos h2]
  simp [run_size hi, addr_add]
theorem run_fieldAt {s : TypeId} {fs : Array Field} {f : Nat} {q : Field} {i : TypeInfo} (hu : P.underlying s = some (.struct fs)) (hf : fs[f]? = some q) (hi : P.info? q.type = some i) (h0 : i.size ≠ 0) (r o : Nat) :
    (Instr.fieldAt s (.pointer (some ⟨r, o, none⟩)) f).run P w = .ok (.pointer (some ⟨r, o + q.offset, none⟩)) w := by
  simp [Instr.fieldAt, run_under hu, hf, Instr.sureAddr, fieldPlace, run_size hi, h0, addr_add]
theorem run_field {t : TypeId} {fs : Array Field} {f : Nat} {q : Field} (hu : P.underlying t = some (.struct fs)) (hf : fs[f]? = some q) (cs : Array Value) {v : Value} (hp : (part q.type cs q.offset).run P w = .ok v w) :
    (Instr.field t (.agg cs) f).run P w = .ok v w := by
  simp [Instr.field, run_under hu, hf, asAgg, hp]
theorem run_index_agg {t e : TypeId} {i : TypeInfo} {len : Nat} (hu : P.underlying t = some (.array len e)) (hi : P.info? e = some i) {q : Nat} {k : IntKind} {j : Int} (hq : ltI j len = some q) (cs : Array Value) {v : Value} (hp : (part e cs (q * i.size)).run P w = .ok v w) :
    (Instr.index t (.agg cs) (.int k j)).run P w = .ok v w := by
  obtain ⟨rfl, hlt⟩ := ltI_spec hq
  have h2 : (0 : Int) ≤ (q : Int) ∧ (q : Int) < (len : Int) := by constructor <;> omega
  simp only [Instr.index, asIntOf, Sem.run_bind, Sem.run_pure, Result.andThen_ok, run_under hu, Sem.run_ite]
  rw [if_pos h2]
  simp [run_size hi, hp]
theorem run_index_string {t : TypeId} (hu : P.underlying t = some .string) {s : ByteArray} {k : IntKind} {j : Nat} {b : UInt8} (hb : s[j]? = some b) :
    (Instr.index t (.string s) (.int k (Int.ofNat j))).run P w = .ok (.int .u8 b.toNat) w := by
  have h2 : (0 : Int) ≤ Int.ofNat j := by simp
  simp [Instr.index, asIntOf, run_under hu, hb]

end
end Go.Ri
