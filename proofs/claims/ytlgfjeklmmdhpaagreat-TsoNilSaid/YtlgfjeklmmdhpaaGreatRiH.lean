/- Ri, part H: the two-place operations and the light operations, whole. -/
import Derived.Test.YtlgfjeklmmdhpaaGreatRiG
set_option linter.unusedVariables false
set_option linter.unusedSimpArgs false
namespace Go.Ri

section
variable {P : Program} {w : World} {ι : Em}

theorem cEK_spec (t : TypeId) : match cEK P t with
    | .bo => P.underlying t = some .bool
    | .pt => ∃ e, P.underlying t = some (.pointer e)
    | .sl => ∃ e, P.underlying t = some (.slice e)
    | .mp => ∃ k e, P.underlying t = some (.map k e)
    | .fn => ∃ a b c, P.underlying t = some (.func a b c)
    | .ag ks => leaves P 6 t = some ks ∧ P.eqGuardType P.depth t = false ∧ ∃ d, P.underlying t = some d ∧ isAggD d = true
    | .no => True := by
  unfold cEK
  cases hu : P.underlying t with
  | none => simp
  | some d =>
    cases d <;> simp only [] <;> first
      | rfl
      | exact ⟨_, rfl⟩
      | exact ⟨_, _, rfl⟩
      | exact ⟨_, _, _, rfl⟩
      | trivial
      | (cases hl : leaves P 6 t with
         | none => trivial
         | some ks =>
           cases hg : P.eqGuardType P.depth t with
           | true => trivial
           | false => exact ⟨rfl, rfl, _, rfl, rfl⟩)

def plainE : Value → Bool
  | .bool _ | .pointer _ | .slice _ _ _ | .map _ | .nilFunc | .func _ _ _ | .agg _ => true
  | _ => false
def noInt : Value → Bool
  | .int _ _ => false
  | _ => true
theorem eq_both {t : TypeId} {ox oy : Operand} {x y : Value} {b : Bool} (h : (Op.equal t x y).run P w = .ok b w) (hx : plainE x = true) (hy : noInt y = true) (hg : ∀ op, (eqGuard op t ox oy x y).run P w = .ok () w) :
    (do eqGuard .eql t ox oy x y; binOp .eql t x y : Sem Value).run P w = .ok (.bool b) w ∧ (do eqGuard .neq t ox oy x y; binOp .neq t x y : Sem Value).run P w = .ok (.bool (!b)) w := by
  have h2 : (binOp .eql t x y).run P w = .ok (.bool b) w ∧ (binOp .neq t x y).run P w = .ok (.bool (!b)) w := by
    cases x <;> first
      | (cases hx; done)
      | (cases y <;> first
          | (cases hy; done)
          | (constructor <;> simp [binOp, h]))
  constructor
  · simp only [Sem.run_bind, hg, Result.andThen_ok, h2.1]
  · simp only [Sem.run_bind, hg, Result.andThen_ok, h2.2]

theorem run_eqV {t : TypeId} {ox oy : Operand} {x y x' y' : Value} {b : Bool} (h : eqV (cEK P t) x y = some b) (hx : VR ι x x') (hy : VR ι y y') :
    (do eqGuard .eql t ox oy x' y'; binOp .eql t x' y' : Sem Value).run P w = .ok (.bool b) w ∧ (do eqGuard .neq t ox oy x' y'; binOp .neq t x' y' : Sem Value).run P w = .ok (.bool (!b)) w := by
  have hs := cEK_spec (P := P) t
  unfold eqV at h
  split at h
  · rename_i hk
    rw [hk] at hs
    cases hx; cases hy
    simp only [Option.some.injEq] at h; subst h
    exact eq_both (run_equalIn_bool' w 9999 t _ _ hs) rfl rfl (fun op => by rw [eqGuard_at_bool]; rfl)
  · rename_i hk
    rw [hk] at hs
    obtain ⟨e, hs⟩ := hs
    cases hx
    simp only [Option.some.injEq] at h; subst h
    cases hy with
    | ptr0 => exact eq_both (by rw [equal_eq, Op.equalIn]; simp [run_under hs]) rfl rfl (fun op => by rw [eqGuard_at_pointer]; rfl)
    | ptr b o L hL => exact eq_both (by rw [equal_eq, Op.equalIn]; simp [run_under hs]) rfl rfl (fun op => by rw [eqGuard_at_pointer]; rfl)
  · rename_i hk
    rw [hk] at hs
    obtain ⟨e, hs⟩ := hs
    simp only [Option.some.injEq] at h; subst h
    cases hy
    cases hx with
    | ptr b o L hL => exact eq_both (by rw [equal_eq, Op.equalIn]; simp [run_under hs]) rfl rfl (fun op => by rw [eqGuard_at_pointer]; rfl)
  · rename_i hk
    rw [hk] at hs
    obtain ⟨e, hs⟩ := hs
    simp only [Option.some.injEq] at h; subst h
    cases hx
    cases hy with
    | sl0 => exact eq_both (by rw [equal_eq, Op.equalIn]; simp [run_under hs]) rfl rfl (fun op => by rw [eqGuard_at_slice]; rfl)
    | sl b o n c o' c' L hL => exact eq_both (by rw [equal_eq, Op.equalIn]; simp [run_under hs]) rfl rfl (fun op => by rw [eqGuard_at_slice]; rfl)
  · rename_i hk
    rw [hk] at hs
    obtain ⟨e, hs⟩ := hs
    simp only [Option.some.injEq] at h; subst h
    cases hy
    cases hx with
    | sl b o n c o' c' L hL => exact eq_both (by rw [equal_eq, Op.equalIn]; simp [run_under hs]) rfl rfl (fun op => by rw [eqGuard_at_slice]; rfl)
  · rename_i hk
    rw [hk] at hs
    obtain ⟨k, e, hs⟩ := hs
    simp only [Option.some.injEq] at h; subst h
    cases hx; cases hy
    exact eq_both (by rw [equal_eq, Op.equalIn]; simp [run_under hs]) rfl rfl (fun op => by rw [eqGuard_at_map]; rfl)
  · cases hx
  · rename_i hk
    rw [hk] at hs
    obtain ⟨k, e, f, hs⟩ := hs
    simp only [Option.some.injEq] at h; subst h
    cases hx; cases hy
    exact eq_both (by rw [equal_eq, Op.equalIn]; simp [run_under hs]) rfl rfl (fun op => by rw [eqGuard_at_nilFunc]; rfl)
  · rename_i hk
    rw [hk] at hs
    obtain ⟨k, e, f, hs⟩ := hs
    simp only [Option.some.injEq] at h; subst h
    cases hx
    cases hy with
    | fn g xs ys zs ws => exact eq_both (by rw [equal_eq, Op.equalIn]; simp [run_under hs]) rfl rfl (fun op => by rw [eqGuard_at_nilFunc]; rfl)
  · rename_i hk
    rw [hk] at hs
    obtain ⟨k, e, f, hs⟩ := hs
    simp only [Option.some.injEq] at h; subst h
    cases hy
    cases hx with
    | fn g xs ys zs ws => exact eq_both (by rw [equal_eq, Op.equalIn]; simp [run_under hs]) rfl rfl (fun op => by rw [eqGuard_at_func]; rfl)
  · rename_i ks xs ys hk
    rw [hk] at hs
    obtain ⟨hl, hg, d, hu, hd⟩ := hs
    cases hx with
    | agg xs xs' h1 h2 h3 =>
      cases hy with
      | agg ys ys' g1 g2 g3 =>
        cases hb : (Nat.beq xs.length ks.length && Nat.beq ys.length ks.length) with
        | false => simp only [hb, cond_false] at h; cases h
        | true =>
          simp only [hb, cond_true] at h
          simp only [Bool.and_eq_true] at hb
          have e1 := Nat.eq_of_beq_eq_true hb.1
          have e2 := Nat.eq_of_beq_eq_true hb.2
          have he := eqAll_VR ks xs ys xs' ys' b ⟨h1, h2⟩ ⟨g1, g2⟩ h
          have hv : ∀ l : List Value, Lies P t l (.agg ⟨l⟩) := fun l => by unfold Lies; rw [hu]; simp [hd]
          exact eq_both (eqT 6 t ks hl 10000 (by omega) xs' ys' _ _ b (hv _) (hv _) (by omega) (by omega) he) rfl rfl (fun op => run_eqGuard_agg w op t ox oy _ _ hg)
  · cases h

theorem run_strB {op : BinOp} {a b : ByteArray} {v : Value} (t : TypeId) (h : strB op a b = some v) : (binOp op t (.string a) (.string b)).run P w = .ok v w := by
  have hb : binOp op t (.string a) (.string b) = Op.stringOp op a b := by cases op <;> rfl
  rw [hb]
  cases op <;> simp only [strB] at h <;> first
    | (cases h; done)
    | (simp only [Option.some.injEq] at h; subst h; simp [Op.stringOp]; done)
    | (split at h
       · cases h
       · rename_i hb
         simp only [Option.some.injEq] at h; subst h
         simp only [Op.stringOp, if_neg hb, Sem.run_pure])

theorem run_binV {op : BinOp} {t : TypeId} {ox oy : Operand} {x y x' y' v : Value} (h : binV op (cEK P t) x y = some v) (hx : VR ι x x') (hy : VR ι y y') :
    (do eqGuard op t ox oy x' y'; binOp op t x' y' : Sem Value).run P w = .ok v w ∧ VR ι v v := by
  unfold binV at h
  split at h
  · split at h
    · cases h
    · rename_i hb
      simp only [Option.some.injEq] at h; subst h
      cases hx; cases hy
      refine ⟨?_, .int _ _⟩
      rw [eqGuard_at_int]
      simp [binOp, Op.shift, hb]
  · split at h
    · cases h
    · rename_i hb
      simp only [Option.some.injEq] at h; subst h
      cases hx; cases hy
      refine ⟨?_, .int _ _⟩
      rw [eqGuard_at_int]
      simp [binOp, Op.shift, hb]
  · rename_i h1 h2
    split at h
    · rename_i hk
      subst hk
      cases hx; cases hy
      rw [eqGuard_at_int]
      have hne1 : op ≠ .shl := fun e => by subst e; exact h1 rfl
      have hne2 : op ≠ .shr := fun e => by subst e; exact h2 rfl
      refine ⟨?_, ?_⟩
      · simpa using run_binI (P := P) (w := w) t h hne1 hne2
      · revert h
        cases op <;> simp only [binI, cmpI] <;> first
          | (exact absurd rfl hne1)
          | (exact absurd rfl hne2)
          | (intro h; cases h; first | exact .int _ _ | exact .bool _)
          | (split
             · intro h; cases h
             · intro h; cases h; exact .int _ _)
    · cases h
  · cases hx; cases hy
    rw [eqGuard_at_string]
    refine ⟨by simpa using run_strB (P := P) (w := w) t h, ?_⟩
    revert h
    cases op <;> simp only [strB] <;> first
      | (intro h; cases h; done)
      | (intro h; cases h; first | exact .string _ | exact .bool _)
      | (split
         · intro h; cases h
         · intro h; cases h; exact .string _)
  · cases hq : eqV (cEK P t) x y with
    | none => rw [hq] at h; cases h
    | some b =>
      rw [hq] at h; simp only [Option.map_some, Option.some.injEq] at h; subst h
      exact ⟨(run_eqV hq hx hy).1, .bool _⟩
  · cases hq : eqV (cEK P t) x y with
    | none => rw [hq] at h; cases h
    | some b =>
      rw [hq] at h; simp only [Option.map_some, Option.some.injEq] at h; subst h
      exact ⟨(run_eqV hq hx hy).2, .bool _⟩
  · cases h

theorem run_unV {op : UnOp} {x x' v : Value} (h : unV op x = some v) (hx : VR ι x x') : (Op.unary op x').run P w = .ok v w ∧ VR ι v v := by
  unfold unV at h
  split at h
  · cases hx
    simp only [binI, Option.some.injEq] at h; subst h
    exact ⟨by simp [Op.unary, Op.intArith], .int _ _⟩
  · cases hx
    simp only [binI, Option.some.injEq] at h; subst h
    exact ⟨by simp [Op.unary, Op.intBits], .int _ _⟩
  · cases hx
    simp only [Option.some.injEq] at h; subst h
    exact ⟨by simp [Op.unary], .bool _⟩
  · cases h

end
end Go.Ri
