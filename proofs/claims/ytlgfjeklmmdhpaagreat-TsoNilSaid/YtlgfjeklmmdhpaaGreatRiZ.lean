/- Ri, part Z: all of it together: what the machine comes to, the program comes to. -/
import Derived.Test.YtlgfjeklmmdhpaaGreatRiY
set_option linter.unusedVariables false
set_option linter.unusedSimpArgs false
namespace Go.Ri
open Go.RowKit (Below)

section
variable {P : Program} {F : Nat → Option AFun}

def AllOk (P : Program) (F : Nat → Option AFun) (k : Nat) : Prop := FOk P F k ∧ XOk P F k ∧ OOk P F k ∧ DOk P F k ∧ CdOk P F k ∧ LOk P F k

theorem all_ok (hF : Compiled P F) (hm : P.follows .mixedOrders = true) : ∀ k, ∀ j, j ≤ k → AllOk P F j := by
  intro k
  induction k with
  | zero =>
    intro j hj
    have : j = 0 := by omega
    subst this
    exact ⟨fun f args H v H' he => by simp [evF] at he, fun nt all o b s s' _ he => by simp [evX] at he, fun nt all i acc os bs s s' _ _ he => by simp [evO] at he, step_D (fun κ h => absurd h (Nat.not_lt_zero _)),
      fun nt c ac s x s' _ he => by simp [evC] at he, zero_L⟩
  | succ k ih =>
    intro j hj
    rcases Nat.lt_or_eq_of_le hj with h | rfl
    · exact ih j (by omega)
    · obtain ⟨f, x, o, d, c, l⟩ := ih k (Nat.le_refl _)
      have l' := step_L c l
      exact ⟨step_F hF c, step_X f, step_O x o, step_D (fun κ h => (ih κ (by omega)).2.1), step_C hm o d c l', l'⟩

def noE : Em := fun _ => none
/-- A run of the machine from an empty heap tells what a call comes to, in any world. -/
theorem calls_of_ev (hF : Compiled P F) (hm : P.follows .mixedOrders = true) {k f : Nat} {args : List Value} {v : Value} {H' : AH} (h : evF F k f args ⟨.nil, 0⟩ = some (v, H')) (w : World) {args' : Array Value} (hA : LR noE args args'.toList) :
    Calls P f args' w (fun e w' => ∃ v' ι', e = .returned v' ∧ VR ι' v v' ∧ Below w.heap.size w w') := by
  obtain ⟨_, _, g⟩ := (all_ok hF hm k k (Nat.le_refl _)).1 f args _ v H' h
  have hH : HR w.heap.size noE (AH.get ⟨.nil, 0⟩) w := ⟨fun b k L _ e => (by cases e), fun b b' k k' L L' _ _ e => (by cases e), Nat.le_refl _⟩
  refine callsIn_FF_calls ((g w.heap.size noE w args' none hA hH (fun _ _ _ => rfl)).mono fun e w' ⟨v', ι', e1, e2, e3⟩ => ⟨v', ι', e1, e2, ?_⟩)
  exact ⟨e3.fr.os, e3.fr.tape, e3.fr.output, e3.fr.size, fun r hr => e3.fr.block r hr (fun ⟨b, k, L, _, _, e, _⟩ => by cases e)⟩
theorem calls_true (hF : Compiled P F) (hm : P.follows .mixedOrders = true) {k f : Nat} {args : List Value} {H' : AH} (h : evF F k f args ⟨.nil, 0⟩ = some (.bool true, H')) (w : World) {args' : Array Value} (hA : LR noE args args'.toList) :
    Calls P f args' w (fun e w' => e = .returned (.bool true) ∧ Below w.heap.size w w') :=
  (calls_of_ev hF hm h w hA).mono fun e w' ⟨v', ι', e1, e2, e3⟩ => by
    cases e2
    exact ⟨e1, e3⟩

/-- A table of compiled functions, as a tree. -/
def okT (P : Program) : Tr AFun → (Nat → Nat) → Prop
  | .nil, _ => True
  | .node l v r, g => (∀ x, v = some x → cF P (g 0) = some x) ∧ okT P l (fun m => g (2 * m + 1)) ∧ okT P r (fun m => g (2 * m + 2))
theorem okT_get : ∀ (T : Tr AFun) (g : Nat → Nat), okT P T g → ∀ n fn, T.get n = some fn → cF P (g n) = some fn
  | .nil, g, h, n, fn, e => by cases e
  | .node l v r, g, h, n, fn, e => by
    obtain ⟨h1, h2, h3⟩ := h
    simp only [Tr.get] at e
    by_cases h0 : n = 0
    · subst h0
      simp only [Nat.beq_refl, cond_true] at e
      exact h1 fn e
    · rw [beqF h0] at e
      simp only [cond_false] at e
      by_cases hp : n % 2 = 1
      · rw [beqT hp] at e
        simp only [cond_true] at e
        have := okT_get l _ h2 (n / 2) fn e
        rw [show 2 * (n / 2) + 1 = n from by omega] at this
        exact this
      · rw [beqF hp] at e
        simp only [cond_false] at e
        have := okT_get r _ h3 (n / 2 - 1) fn e
        rw [show 2 * (n / 2 - 1) + 2 = n from by omega] at this
        exact this
theorem compiled_of_okT {T : Tr AFun} (h : okT P T (fun n => n)) : Compiled P T.get := fun f fn e => okT_get T _ h f fn e
theorem okSome {n : Nat} {c : AFun} (h : cF P n = some c) : ∀ x, some c = some x → cF P n = some x := fun x e => e ▸ h
theorem okNone {n : Nat} : ∀ x, (none : Option AFun) = some x → cF P n = some x := fun x e => by cases e

end
end Go.Ri
