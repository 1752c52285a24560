/- Ri, part U: code and functions. -/
import Derived.Test.YtlgfjeklmmdhpaaGreatRiT
import Derived.LoopNIn
set_option linter.unusedVariables false
set_option linter.unusedSimpArgs false
namespace Go.Ri

section
variable {P : Program} {F : Nat → Option AFun}

theorem CP.trans {B : Nat} {ι ι1 : Em} {nt : Nat} {H H1 : AH} {w w1 : World} {D : List Deferred} {x : X} {s' : St} {e : Exit} {a' : Act} {w' : World} (h : Post B ι ι1 H H1 w w1) (m : Mon H H1) (m2 : Mon H1 s'.h) (hf : Fresh ι H s'.h)
    (k : CP B ι1 nt H1 w1 D x s' e a' w') : CP B ι nt H w D x s' e a' w' := by
  obtain ⟨hx, ι2, t1, t2, t3⟩ := k
  exact ⟨hx, ι2, t1, t2, h.trans m m2 hf t3⟩

theorem roundsIn_mono {G : Fence} {n : Nat} {c : Code} {Q Q' : Exit → Act → World → Prop} (hq : ∀ e a w, Q e a w → Q' e a w) : ∀ (m : Nat) (a : Act) (w : World), Code.roundsIn G n P c Q m a w → Code.roundsIn G n P c Q' m a w
  | 0, a, w, h => h
  | m + 1, a, w, h => by
    rw [roundsIn_succ] at h ⊢
    refine wpIn_mono h (fun e a' w' hh => ?_)
    cases e <;> first
      | exact roundsIn_mono hq m a' w' hh
      | exact hq _ _ _ hh

/-- A loop: as many rounds as there is fuel. -/
def LOk (P : Program) (F : Nat → Option AFun) (k : Nat) : Prop :=
  ∀ nt c ac s x s', cC P nt c = some ac → evC F k (.lp ac) s = some (x, s') → Mon s.h s'.h ∧ ∀ (B : Nat) (ι : Em) (w : World) (a : Act) (ρ : Option Nat),
    TR ι nt s.t a → HR B ι s.h.get w → Fresh ι s.h s'.h → Code.roundsIn (FF ρ) 0 P c (CP B ι nt s.h w a.defers x s') k a w

theorem step_L {k : Nat} (hc : CdOk P F k) (hl : LOk P F k) : LOk P F (k + 1) := by
  intro nt c1 a1 s x s' h1 he
  simp only [evC] at he
  cases hq : evC F k a1 s with
  | none => rw [hq] at he; cases he
  | some p =>
    obtain ⟨x1, s1⟩ := p
    rw [hq] at he
    obtain ⟨m1, g1⟩ := hc nt c1 a1 s x1 s1 h1 hq
    cases x1 with
    | n =>
      simp only at he
      obtain ⟨m2, g2⟩ := hl nt c1 a1 s1 x s' h1 he
      refine ⟨m1.trans m2, fun B ι w a ρ hT hH hf => ?_⟩
      rw [roundsIn_succ]
      refine wpIn_mono (g1 B ι w a ρ hT hH (hf.left m2)) (fun e a' w' hcp => ?_)
      obtain ⟨hx, ι1, t1, t2, t3⟩ := hcp
      cases e <;> simp only [XR] at hx
      refine roundsIn_mono (fun e a'' w'' hcp => ?_) k a' w' (g2 B ι1 w' a' ρ t1 t3.hr (hf.right m1 t3))
      rw [t2] at hcp
      exact hcp.trans t3 m1 m2 hf
    | e i =>
      simp only [Option.some.injEq, Prod.mk.injEq] at he
      obtain ⟨rfl, rfl⟩ := he
      refine ⟨m1, fun B ι w a ρ hT hH hf => ?_⟩
      rw [roundsIn_succ]
      refine wpIn_mono (g1 B ι w a ρ hT hH hf) (fun e a' w' hcp => ?_)
      have hx := hcp.1
      cases e <;> simp only [XR] at hx
      exact hcp
    | r =>
      simp only [Option.some.injEq, Prod.mk.injEq] at he
      obtain ⟨rfl, rfl⟩ := he
      refine ⟨m1, fun B ι w a ρ hT hH hf => ?_⟩
      rw [roundsIn_succ]
      refine wpIn_mono (g1 B ι w a ρ hT hH hf) (fun e a' w' hcp => ?_)
      have hx := hcp.1
      cases e <;> simp only [XR] at hx
      exact hcp
theorem zero_L : LOk P F 0 := fun nt c ac s x s' _ he => by simp [evC] at he

theorem step_C (hm : P.follows .mixedOrders = true) {k : Nat} (ho : OOk P F k) (hd : DOk P F k) (hc : CdOk P F k) (hlo : LOk P F (k + 1)) : CdOk P F (k + 1) := by
  intro nt c ac s x s' hcc he
  cases c with
  | skip =>
    simp only [cC, Option.some.injEq] at hcc; subst hcc
    simp only [evC, Option.some.injEq, Prod.mk.injEq] at he
    obtain ⟨rfl, rfl⟩ := he
    exact ⟨Mon.refl _, fun B ι w a ρ hT hH hf => wpIn_skip ⟨trivial, ι, hT, rfl, Post.refl hH⟩⟩
  | region id ops draw =>
    simp only [cC] at hcc
    split at hcc
    · rename_i l hl
      cases hb : (!draw || drawOk 0 l) with
      | false => rw [hb] at hcc; cases hcc
      | true =>
        rw [hb] at hcc; simp only [cond_true, Option.some.injEq] at hcc; subst hcc
        simp only [evC] at he
        split at he
        · rename_i s1 h1
          simp only [Option.some.injEq, Prod.mk.injEq] at he
          obtain ⟨rfl, rfl⟩ := he
          cases draw with
          | false =>
            simp only [cond_false] at h1
            obtain ⟨m, g⟩ := ho nt ops 0 [] ops.toList l s s1 hl (fun j => by simp) h1
            refine ⟨m, fun B ι w a ρ hT hH hf => wpIn_region ?_⟩
            have := g B ι w a ρ (CP B ι nt s.h w a.defers .n s1) hT hH hf (fun a' w' h => h)
            rw [List.range_eq_range']
            simpa using this
          | true =>
            simp only [cond_true] at h1
            simp only [Bool.not_true, Bool.false_or] at hb
            obtain ⟨m, g⟩ := hd nt ops l s s1 hl hb h1
            refine ⟨m, fun B ι w a ρ hT hH hf => wpIn_region_any hm ?_⟩
            refine g B ι w.drew a ρ (CP B ι nt s.h w a.defers .n s1) hT hH.drew hf (fun a' w' ⟨hx, ι', t1, t2, t3⟩ => ⟨hx, ι', t1, t2, ?_⟩)
            exact ⟨t3.em, t3.hr, ⟨t3.fr.os, t3.fr.tape, t3.fr.output, t3.fr.size, t3.fr.block⟩, t3.nw⟩
        · cases he
    · cases hcc
  | seq c1 c2 =>
    simp only [cC] at hcc
    split at hcc
    · rename_i a1 a2 h1 h2
      simp only [Option.some.injEq] at hcc; subst hcc
      simp only [evC] at he
      cases hq : evC F k a1 s with
      | none => rw [hq] at he; cases he
      | some p =>
        obtain ⟨x1, s1⟩ := p
        rw [hq] at he
        obtain ⟨m1, g1⟩ := hc nt c1 a1 s x1 s1 h1 hq
        cases x1 with
        | n =>
          simp only at he
          obtain ⟨m2, g2⟩ := hc nt c2 a2 s1 x s' h2 he
          refine ⟨m1.trans m2, fun B ι w a ρ hT hH hf => wpIn_seq (wpIn_mono (g1 B ι w a ρ hT hH (hf.left m2)) (fun e a' w' hcp => ?_))⟩
          obtain ⟨hx, ι1, t1, t2, t3⟩ := hcp
          cases e <;> simp only [XR] at hx
          refine wpIn_mono (g2 B ι1 w' a' ρ t1 t3.hr (hf.right m1 t3)) (fun e a'' w'' hcp => ?_)
          rw [t2] at hcp
          exact hcp.trans t3 m1 m2 hf
        | e i =>
          simp only [Option.some.injEq, Prod.mk.injEq] at he
          obtain ⟨rfl, rfl⟩ := he
          refine ⟨m1, fun B ι w a ρ hT hH hf => wpIn_seq (wpIn_mono (g1 B ι w a ρ hT hH hf) (fun e a' w' hcp => ?_))⟩
          have hx := hcp.1
          cases e <;> simp only [XR] at hx
          exact hcp
        | r =>
          simp only [Option.some.injEq, Prod.mk.injEq] at he
          obtain ⟨rfl, rfl⟩ := he
          refine ⟨m1, fun B ι w a ρ hT hH hf => wpIn_seq (wpIn_mono (g1 B ι w a ρ hT hH hf) (fun e a' w' hcp => ?_))⟩
          have hx := hcp.1
          cases e <;> simp only [XR] at hx
          exact hcp
    · cases hcc
  | cond c c1 c2 =>
    simp only [cC] at hcc
    split at hcc
    · rename_i c' a1 a2 h0 h1 h2
      simp only [Option.some.injEq] at hcc; subst hcc
      simp only [evC] at he
      split at he
      · rename_i hev
        obtain ⟨m, g⟩ := hc nt c1 a1 s x s' h1 he
        refine ⟨m, fun B ι w a ρ hT hH hf => ?_⟩
        have hv := opd_VR h0 (hT.tv (cOpd_lt h0))
        rw [hev] at hv
        generalize hae : a.eval c = u at hv
        cases hv
        exact wpIn_cond_true hae (g B ι w a ρ hT hH hf)
      · rename_i hev
        obtain ⟨m, g⟩ := hc nt c2 a2 s x s' h2 he
        refine ⟨m, fun B ι w a ρ hT hH hf => ?_⟩
        have hv := opd_VR h0 (hT.tv (cOpd_lt h0))
        rw [hev] at hv
        generalize hae : a.eval c = u at hv
        cases hv
        exact wpIn_cond_false hae (g B ι w a ρ hT hH hf)
      · cases he
    · cases hcc
  | block id c1 =>
    simp only [cC] at hcc
    split at hcc
    · rename_i a1 h1
      simp only [Option.some.injEq] at hcc; subst hcc
      simp only [evC] at he
      cases hq : evC F k a1 s with
      | none => rw [hq] at he; cases he
      | some p =>
        obtain ⟨x1, s1⟩ := p
        rw [hq] at he
        obtain ⟨m1, g1⟩ := hc nt c1 a1 s x1 s1 h1 hq
        cases x1 with
        | n =>
          simp only [Option.some.injEq, Prod.mk.injEq] at he
          obtain ⟨rfl, rfl⟩ := he
          refine ⟨m1, fun B ι w a ρ hT hH hf => wpIn_block (wpIn_mono (g1 B ι w a ρ hT hH hf) (fun e a' w' hcp => ?_))⟩
          have hx := hcp.1
          cases e <;> simp only [XR] at hx
          exact hcp
        | r =>
          simp only [Option.some.injEq, Prod.mk.injEq] at he
          obtain ⟨rfl, rfl⟩ := he
          refine ⟨m1, fun B ι w a ρ hT hH hf => wpIn_block (wpIn_mono (g1 B ι w a ρ hT hH hf) (fun e a' w' hcp => ?_))⟩
          have hx := hcp.1
          cases e <;> simp only [XR] at hx
          exact hcp
        | e j =>
          simp only at he
          cases hj : Nat.beq j id with
          | true =>
            rw [hj] at he; simp only [cond_true, Option.some.injEq, Prod.mk.injEq] at he
            obtain ⟨rfl, rfl⟩ := he
            refine ⟨m1, fun B ι w a ρ hT hH hf => wpIn_block (wpIn_mono (g1 B ι w a ρ hT hH hf) (fun e a' w' hcp => ?_))⟩
            obtain ⟨hx, ι', t1, t2, t3⟩ := hcp
            cases e <;> simp only [XR] at hx
            subst hx
            simp only [Exit.inBlock, Nat.eq_of_beq_eq_true hj, if_true]
            exact ⟨trivial, ι', t1, t2, t3⟩
          | false =>
            rw [hj] at he; simp only [cond_false, Option.some.injEq, Prod.mk.injEq] at he
            obtain ⟨rfl, rfl⟩ := he
            refine ⟨m1, fun B ι w a ρ hT hH hf => wpIn_block (wpIn_mono (g1 B ι w a ρ hT hH hf) (fun e a' w' hcp => ?_))⟩
            obtain ⟨hx, ι', t1, t2, t3⟩ := hcp
            cases e <;> simp only [XR] at hx
            subst hx
            have hne : j ≠ id := fun e => by rw [beqT e] at hj; cases hj
            simp only [Exit.inBlock, hne, if_false]
            exact ⟨rfl, ι', t1, t2, t3⟩
    · cases hcc
  | loop c1 =>
    simp only [cC] at hcc
    split at hcc
    · rename_i a1 h1
      simp only [Option.some.injEq] at hcc; subst hcc
      obtain ⟨m, g⟩ := hlo nt c1 a1 s x s' h1 he
      exact ⟨m, fun B ι w a ρ hT hH hf => wpIn_loop_rounds (k + 1) (g B ι w a ρ hT hH hf)⟩
    · cases hcc
  | exit id =>
    simp only [cC, Option.some.injEq] at hcc; subst hcc
    simp only [evC, Option.some.injEq, Prod.mk.injEq] at he
    obtain ⟨rfl, rfl⟩ := he
    exact ⟨Mon.refl _, fun B ι w a ρ hT hH hf => wpIn_exit ⟨rfl, ι, hT, rfl, Post.refl hH⟩⟩
  | ret =>
    simp only [cC, Option.some.injEq] at hcc; subst hcc
    simp only [evC, Option.some.injEq, Prod.mk.injEq] at he
    obtain ⟨rfl, rfl⟩ := he
    exact ⟨Mon.refl _, fun B ι w a ρ hT hH hf => wpIn_ret ⟨trivial, ι, hT, rfl, Post.refl hH⟩⟩
  | _ => simp [cC] at hcc

theorem step_F (hF : Compiled P F) {k : Nat} (hc : CdOk P F k) : FOk P F (k + 1) := by
  intro f args H v H' he
  simp only [evF] at he
  split at he
  · cases he
  · rename_i fn hfn
    have hcf := hF f fn hfn
    unfold cF at hcf
    split at hcf
    · cases hcf
    · rename_i fx hfx
      split at hcf
      · cases hcf
      · rename_i c hbody
        cases hn : (fx.name != "runtime.NumGoroutine") with
        | false => rw [hn] at hcf; cases hcf
        | true =>
          rw [hn] at hcf; simp only [cond_true] at hcf
          split at hcf
          · rename_i body res hbc hrc
            simp only [Option.some.injEq] at hcf; subst hcf
            cases hl : Nat.ble args.length fx.ntmps with
            | false => simp only [hl, cond_false] at he; cases he
            | true =>
              simp only [hl, cond_true] at he
              have hlen := Nat.le_of_ble_eq_true hl
              have fin : ∀ x s, (x = .n ∨ x = .r) → evC F k body ⟨initT 0 args .nil, H⟩ = some (x, s) → (match resL s.t s.h res with | some l => some (resV l, s.h) | none => none) = some (v, H') → Mon H H' ∧ (∃ fn, P.funcs[f]? = some fn ∧ (fn.name != "runtime.NumGoroutine") = true ∧ fn.body.isSome = true) ∧
                  ∀ (B : Nat) (ι : Em) (w : World) (args' : Array Value) (ρ : Option Nat), LR ι args args'.toList → HR B ι H.get w → Fresh ι H H' → CallsIn (FF ρ) 0 P f args' w (fun e w' => ∃ v' ι', e = .returned v' ∧ VR ι' v v' ∧ Post B ι ι' H H' w w') := by
                intro x s hx hev hres
                split at hres
                · rename_i l hres1
                  simp only [Option.some.injEq, Prod.mk.injEq] at hres
                  obtain ⟨rfl, rfl⟩ := hres
                  obtain ⟨m, g⟩ := hc fx.ntmps c body _ x s hbc hev
                  refine ⟨m, ⟨fx, hfx, hn, by rw [hbody]; rfl⟩, fun B ι w args' ρ hA hH hf => callsIn_FF (callsIn_of_wp (F := FF none) hfx hbody trivial ?_ rfl)⟩
                  refine wpIn_mono (g B ι w _ none (TR.init hA hlen) hH hf) (fun e a' w' hcp => ?_)
                  obtain ⟨hxe, ι', t1, t2, t3⟩ := hcp
                  obtain ⟨v', r1, r2⟩ := run_results_fn (P := P) t3.hr t1 hrc hres1
                  rcases hx with rfl | rfl <;> cases e <;> simp only [XR] at hxe
                  · exact ⟨t2, v', r1, v', ι', rfl, r2, t3⟩
                  · exact ⟨t2, v', r1, v', ι', rfl, r2, t3⟩
                · cases hres
              split at he
              · rename_i s hev
                exact fin .n s (.inl rfl) hev he
              · rename_i s hev
                exact fin .r s (.inr rfl) hev he
              · cases he
          · cases hcf

end
end Go.Ri
