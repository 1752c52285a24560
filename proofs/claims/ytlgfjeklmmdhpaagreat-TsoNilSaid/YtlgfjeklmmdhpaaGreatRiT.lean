/- Ri, part T: operations in a row, code, functions: what part A's machine comes to, the model comes to. -/
import Derived.Test.YtlgfjeklmmdhpaaGreatRiS
set_option linter.unusedVariables false
set_option linter.unusedSimpArgs false
namespace Go.Ri

/-- The compiled functions are the program's. -/
def Compiled (P : Program) (F : Nat → Option AFun) : Prop := ∀ f fn, F f = some fn → cF P f = some fn

def Fresh (ι : Em) (H H' : AH) : Prop := ∀ b, H.nx ≤ b → b < H'.nx → ι b = none
theorem Fresh.left {ι : Em} {a b c : AH} (h : Fresh ι a c) (m : Mon b c) : Fresh ι a b := fun i h1 h2 => h i h1 (Nat.lt_of_lt_of_le h2 m.nx)
theorem Fresh.right {B : Nat} {ι ι' : Em} {a b c : AH} {w w' : World} (h : Fresh ι a c) (m : Mon a b) (p : Post B ι ι' a b w w') : Fresh ι' b c := fun i h1 h2 => by
  rw [p.em i (.inr h1)]; exact h i (Nat.le_trans m.nx h1) h2

def FOk (P : Program) (F : Nat → Option AFun) (k : Nat) : Prop :=
  ∀ f args H v H', evF F k f args H = some (v, H') → Mon H H' ∧ (∃ fn, P.funcs[f]? = some fn ∧ (fn.name != "runtime.NumGoroutine") = true ∧ fn.body.isSome = true) ∧ ∀ (B : Nat) (ι : Em) (w : World) (args' : Array Value) (ρ : Option Nat),
    LR ι args args'.toList → HR B ι H.get w → Fresh ι H H' → CallsIn (FF ρ) 0 P f args' w (fun e w' => ∃ v' ι', e = .returned v' ∧ VR ι' v v' ∧ Post B ι ι' H H' w w')

def XOk (P : Program) (F : Nat → Option AFun) (k : Nat) : Prop :=
  ∀ nt all o b s s', COk P nt all o b → evX F k b s = some s' → Mon s.h s'.h ∧ ∃ v, s'.t = putD s.t b.dst v ∧ ∀ (B : Nat) (ι : Em) (w : World) (a : Act) (ρ : Option Nat) (K : Act → World → Prop) (Q : Exit → Act → World → Prop),
    a.tmps.size = nt → TV ι s.t a (tmpsO b) → HR B ι s.h.get w → Fresh ι s.h s'.h →
    (∀ v' ι' w', VR ι' v v' → Post B ι ι' s.h s'.h w w' → K (a.put o.dst v') w') →
    (if Region.wanted o (yielded all a.tmps) then o.wpIn (FF ρ) 0 P a w K Q else (∀ f, o.about P w a.eval = some f → (FF ρ).fn f) ∧ K (a.put o.dst undef) w)

def XR : X → Exit → Prop
  | .n, .normal => True
  | .e i, .exit j => i = j
  | .r, .ret => True
  | _, _ => False

/-- What is known where code has ended. -/
def CP (B : Nat) (ι : Em) (nt : Nat) (H : AH) (w : World) (D : List Deferred) (x : X) (s' : St) (e : Exit) (a' : Act) (w' : World) : Prop :=
  XR x e ∧ ∃ ι', TR ι' nt s'.t a' ∧ a'.defers = D ∧ Post B ι ι' H s'.h w w'

def OOk (P : Program) (F : Nat → Option AFun) (k : Nat) : Prop :=
  ∀ nt all i acc os bs s s', cOps P nt all i acc os = some bs → (∀ j, all[i + j]? = os[j]?) → evO F k bs s = some s' → Mon s.h s'.h ∧ ∀ (B : Nat) (ι : Em) (w : World) (a : Act) (ρ : Option Nat) (Q : Exit → Act → World → Prop),
    TR ι nt s.t a → HR B ι s.h.get w → Fresh ι s.h s'.h → (∀ a' w', CP B ι nt s.h w a.defers .n s' .normal a' w' → Q .normal a' w') → wpOpsIn (FF ρ) 0 P all Q (List.range' i os.length) a w

def DOk (P : Program) (F : Nat → Option AFun) (k : Nat) : Prop :=
  ∀ nt all bs s s', cOps P nt all 0 [] all.toList = some bs → drawOk 0 bs = true → evD F k 0 bs s ⟨[], [], []⟩ = some s' → Mon s.h s'.h ∧ ∀ (B : Nat) (ι : Em) (w : World) (a : Act) (ρ : Option Nat) (Q : Exit → Act → World → Prop),
    TR ι nt s.t a → HR B ι s.h.get w → Fresh ι s.h s'.h → (∀ a' w', CP B ι nt s.h w a.defers .n s' .normal a' w' → Q .normal a' w') →
    wpAnyIn (FF ρ) 0 P .any all Q all.size (Array.replicate all.size false) a w

def CdOk (P : Program) (F : Nat → Option AFun) (k : Nat) : Prop :=
  ∀ nt c ac s x s', cC P nt c = some ac → evC F k ac s = some (x, s') → Mon s.h s'.h ∧ ∀ (B : Nat) (ι : Em) (w : World) (a : Act) (ρ : Option Nat),
    TR ι nt s.t a → HR B ι s.h.get w → Fresh ι s.h s'.h → c.wpIn (FF ρ) 0 P (CP B ι nt s.h w a.defers x s') a w

section
variable {P : Program} {F : Nat → Option AFun}

theorem cOps_cons {nt i : Nat} {all : Array Oper} {acc : List Nat} {o : Oper} {r : List Oper} {bs : List AOper} (h : cOps P nt all i acc (o :: r) = some bs) :
    ∃ b bs', bs = b :: bs' ∧ COk P nt all o b ∧ b.bef = befOf o acc ∧ befOk o i = true ∧ cOps P nt all (i + 1) (acc ++ [befOf o acc]) r = some bs' := by
  simp only [cOps] at h
  split at h
  · rename_i op g h1 h2
    cases hb : (cDst nt o.dst && befOk o i && (tmpsO { dst := o.dst, op, guard := g, bef := 0 }).all fun n => Nat.blt n nt) with
    | false => rw [hb] at h; cases h
    | true =>
      rw [hb] at h; simp only [cond_true] at h
      simp only [Bool.and_eq_true, List.all_eq_true] at hb
      split at h
      · rename_i l hl
        simp only [Option.some.injEq] at h; subst h
        exact ⟨_, l, rfl, ⟨h1, rfl, hb.1.1, h2, fun n hn => by have := hb.2 n hn; simpa [Nat.blt_eq] using this⟩, rfl, hb.1.2, hl⟩
      · cases h
  · cases h
theorem cOps_nil {nt i : Nat} {all : Array Oper} {acc : List Nat} {bs : List AOper} (h : cOps P nt all i acc [] = some bs) : bs = [] := by
  simp only [cOps, Option.some.injEq] at h; exact h.symm

theorem COk.tv {nt : Nat} {all : Array Oper} {o : Oper} {b : AOper} (h : COk P nt all o b) {ι : Em} {t : Tm} {a : Act} (hT : TR ι nt t a) : TV ι t a (tmpsO b) := hT.tv h.tmp
theorem tmpsO_op {b : AOper} {ι : Em} {t : Tm} {a : Act} (h : TV ι t a (tmpsO b)) : TV ι t a (tmpsA b.op) := TV.right h
theorem tmpsO_guard {b : AOper} {ι : Em} {t : Tm} {a : Act} (h : TV ι t a (tmpsO b)) : ∀ q w, b.guard = some (q, w) → VR ι ((t.get q).getD undefV) (a.tmps.getD q undef) := fun q w e =>
  h q (by unfold tmpsO; rw [e]; simp)

theorem step_O {k : Nat} (hx : XOk P F k) (ho : OOk P F k) : OOk P F (k + 1) := by
  intro nt all i acc os bs s s' hc hall he
  cases os with
  | nil =>
    have := cOps_nil hc; subst this
    simp only [evO, Option.some.injEq] at he; subst he
    refine ⟨Mon.refl _, fun B ι w a ρ Q hT hH hf hQ => ?_⟩
    simp only [List.length_nil, List.range'_zero, wpOpsIn]
    exact hQ a w ⟨trivial, ι, hT, rfl, Post.refl hH⟩
  | cons o r =>
    obtain ⟨b, bs', rfl, hk, _, _, hr⟩ := cOps_cons hc
    simp only [evO] at he
    split at he
    · rename_i s1 h1
      obtain ⟨m1, v, hv, g1⟩ := hx nt all o b s s1 hk h1
      obtain ⟨m2, g2⟩ := ho nt all (i + 1) (acc ++ [befOf o acc]) r bs' s1 s' hr (fun j => by rw [show i + 1 + j = i + (j + 1) from by omega, hall]; rfl) he
      refine ⟨m1.trans m2, fun B ι w a ρ Q hT hH hf hQ => ?_⟩
      rw [List.length_cons, List.range'_succ, wpOpsIn_cons]
      unfold wpOpIn
      have ho0 : all[i]? = some o := by have := hall 0; simpa using this
      rw [ho0]
      refine g1 B ι w a ρ _ Q hT.size (hk.tv hT) hH (hf.left m2) (fun v' ι' w' hv' hp => ?_)
      refine g2 B ι' w' _ ρ Q ?_ hp.hr (hf.right m1 hp) (fun a' w'' ⟨_, ι'', t1, t2, t3⟩ => hQ a' w'' ⟨trivial, ι'', t1, t2.trans (put_defers _ _ _), hp.trans m1 m2 hf t3⟩)
      rw [hv, hk.dst]
      exact (hT.mono (hp.sub (hf.left m2))).put hk.dlt hv'
    · cases he

theorem Mon.put {H : AH} {b : Nat} {k : Blk} (hg : H.get b = some k) (cs' : List Value) : Mon H (H.put b { k with cs := cs' }) :=
  ⟨Nat.le_refl _, fun j kj hj hgj => by
    rw [AH.get_put H b _ (AH.get_lt hg)] at hgj
    by_cases hb : j = b
    · subst hb
      simp only [if_true] at hgj; cases hgj
      exact ⟨k, hg, rfl, rfl, rfl⟩
    · simp only [hb, if_false] at hgj
      exact ⟨kj, hgj, rfl, rfl, rfl⟩⟩
theorem Mon.wr {H H' : AH} {b o : Nat} {vs : List Value} (h : H.wr b o vs = some H') : Mon H H' := by
  obtain ⟨k, hk, _, _, rfl⟩ := wr_spec h
  exact Mon.put hk _
theorem appA_mon {sz bytes : Nat} {H H' : AH} {a : Option Addr} {n c m : Nat} {new : List Value} {v : Value} (h : evA.appA sz bytes H a n c m new = some (v, H')) : Mon H H' := by
  simp only [evA.appA, Bool.cond_eq_ite] at h
  repeat' (split at h)
  all_goals first
    | (cases h; done)
    | (simp only [Option.some.injEq, Prod.mk.injEq] at h; obtain ⟨_, rfl⟩ := h; first
        | exact Mon.refl _
        | exact Mon.wr (by assumption)
        | exact Mon.new _ _
        | exact (Mon.del _ _).trans (Mon.new _ _))
theorem evA_mon {ao : AOp} {t : Tm} {H H' : AH} {v : Value} (h : evA ao t H = some (v, H')) : Mon H H' := by
  cases ao <;> simp only [evA, Bool.cond_eq_ite] at h
  all_goals (repeat' (split at h))
  all_goals first
    | (cases h; done)
    | exact appA_mon h
    | (simp only [Option.some.injEq, Prod.mk.injEq] at h; obtain ⟨_, rfl⟩ := h; first
        | exact Mon.refl _
        | exact Mon.wr (by assumption)
        | exact Mon.new _ _)

theorem cOp_ca {nt : Nat} {o : Op} {f : Nat} {xs : List Opd} (h : cOp P nt o = some (.ca f xs)) : ∃ args tys, o = .call { callee := .value (.func f), args, argTypes := tys } ∧ cOpds nt args.toList = some xs := by
  cases o with
  | call c =>
    obtain ⟨callee, args, tys⟩ := c
    cases callee with
    | value g =>
      cases g with
      | func g =>
        simp only [cOp, Bool.cond_eq_ite] at h
        repeat' (split at h)
        all_goals first
          | (cases h; done)
          | (simp only [Option.some.injEq, AOp.ca.injEq] at h; obtain ⟨rfl, rfl⟩ := h; exact ⟨_, _, rfl, by assumption⟩)
      | tmp q =>
        simp only [cOp] at h
        split at h <;> cases h
      | _ => simp [cOp] at h
    | invoke r m => simp [cOp] at h
    | builtin b =>
      cases b <;> simp only [cOp] at h <;> (repeat' (split at h)) <;> cases h
  | makeFunc fn first captured =>
    cases fn <;> simp only [cOp] at h <;> (repeat' (split at h)) <;> cases h
  | _ =>
    simp only [cOp, Bool.cond_eq_ite] at h
    (repeat' (split at h)) <;> cases h
theorem cOp_cv {nt : Nat} {o : Op} {x : Opd} {xs : List Opd} (h : cOp P nt o = some (.cv x xs)) : ∃ q args tys, o = .call { callee := .value (.tmp q), args, argTypes := tys } ∧ cOpd nt (.tmp q) = some x ∧ cOpds nt args.toList = some xs := by
  cases o with
  | call c =>
    obtain ⟨callee, args, tys⟩ := c
    cases callee with
    | value g =>
      cases g with
      | func g =>
        simp only [cOp, Bool.cond_eq_ite] at h
        (repeat' (split at h)) <;> cases h
      | tmp q =>
        simp only [cOp] at h
        split at h
        · simp only [Option.some.injEq, AOp.cv.injEq] at h
          obtain ⟨rfl, rfl⟩ := h
          exact ⟨q, _, _, rfl, by assumption, by assumption⟩
        · cases h
      | _ => simp [cOp] at h
    | invoke r m => simp [cOp] at h
    | builtin b =>
      cases b <;> simp only [cOp] at h <;> (repeat' (split at h)) <;> cases h
  | makeFunc fn first captured =>
    cases fn <;> simp only [cOp] at h <;> (repeat' (split at h)) <;> cases h
  | _ =>
    simp only [cOp, Bool.cond_eq_ite] at h
    (repeat' (split at h)) <;> cases h

theorem step_X {k : Nat} (hf : FOk P F k) : XOk P F (k + 1) := by
  intro nt all o b s s' hk he
  simp only [evX] at he
  cases hw : wantG s.t b.guard with
  | false =>
    rw [hw] at he; simp only [cond_false, Option.some.injEq] at he; subst he
    refine ⟨Mon.refl _, undefV, rfl, fun B ι w a ρ K Q hs hT hH hfr hK => ?_⟩
    rw [cGuard_wanted hk.guard hs (tmpsO_guard hT), hw]
    exact ⟨fun _ _ => trivial, hK undef ι w (VR.undef ι) (Post.refl hH)⟩
  | true =>
    rw [hw] at he; simp only [cond_true] at he
    have plain : ∀ ao, b.op = ao → (match evA ao s.t s.h with | some (v, H) => some (⟨putD s.t b.dst v, H⟩ : St) | none => none) = some s' → Mon s.h s'.h ∧ ∃ v, s'.t = putD s.t b.dst v ∧ ∀ (B : Nat) (ι : Em) (w : World) (a : Act) (ρ : Option Nat) (K : Act → World → Prop) (Q : Exit → Act → World → Prop),
        a.tmps.size = nt → TV ι s.t a (tmpsO b) → HR B ι s.h.get w → Fresh ι s.h s'.h → (∀ v' ι' w', VR ι' v v' → Post B ι ι' s.h s'.h w w' → K (a.put o.dst v') w') →
        (if Region.wanted o (yielded all a.tmps) then o.wpIn (FF ρ) 0 P a w K Q else (∀ f, o.about P w a.eval = some f → (FF ρ).fn f) ∧ K (a.put o.dst undef) w) := by
      intro ao hao he
      split at he
      · rename_i v H hA
        simp only [Option.some.injEq] at he; subst he
        have hop := hk.op
        rw [hao] at hop
        refine ⟨?_, v, rfl, fun B ι w a ρ K Q hs hT hH hfr hK => ?_⟩
        · exact evA_mon hA
        · rw [cGuard_wanted hk.guard hs (tmpsO_guard hT), hw, if_pos rfl]
          have hTA := tmpsO_op hT
          rw [hao] at hTA
          obtain ⟨_, v', w', ι', r1, r2, r3⟩ := evA_sound (w := w) (B := B) (a := a) hop hA hTA hH hfr
          exact wpIn_value hop r1 (hK v' ι' w' r3 r2)
      · cases he
    split at he
    · rename_i f xs hop
      split at he
      · rename_i v H hF
        simp only [Option.some.injEq] at he; subst he
        obtain ⟨m, ⟨fn, n1, n2, n3⟩, g⟩ := hf f _ _ _ _ hF
        refine ⟨m, v, rfl, fun B ι w a ρ K Q hs hT hH hfr hK => ?_⟩
        rw [cGuard_wanted hk.guard hs (tmpsO_guard hT), hw, if_pos rfl]
        have hTA := tmpsO_op hT
        rw [hop] at hTA
        have hc := hk.op
        rw [hop] at hc
        obtain ⟨args, tys, ho, hx⟩ := cOp_ca hc
        have hl := opds_LR hx hTA
        refine wpIn_call ho n1 n2 n3 (g B ι w (args.map a.eval) ρ (by simpa using hl) hH hfr) (fun e w' ⟨v', ι', e1, e2, e3⟩ => ⟨v', e1, hK v' ι' w' e2 e3⟩)
      · cases he
    · rename_i x xs hop
      split at he
      · rename_i f first captured hv
        split at he
        · rename_i v H hF
          simp only [Option.some.injEq] at he; subst he
          obtain ⟨m, ⟨fn, n1, n2, n3⟩, g⟩ := hf f _ _ _ _ hF
          refine ⟨m, v, rfl, fun B ι w a ρ K Q hs hT hH hfr hK => ?_⟩
          rw [cGuard_wanted hk.guard hs (tmpsO_guard hT), hw, if_pos rfl]
          have hTA := tmpsO_op hT
          rw [hop] at hTA
          have hc := hk.op
          rw [hop] at hc
          obtain ⟨q, args, tys, ho, hq, hx⟩ := cOp_cv hc
          have hl := opds_LR hx hTA.right
          have hfv := opd_VR hq hTA.left
          rw [hv] at hfv
          generalize hae : a.eval (.tmp q) = u at hfv
          cases hfv with
          | fn f' xs1 ys1 zs ws h1 h2 h3 h4 =>
            refine wpIn_callV ho hae n1 n2 n3 (g B ι w _ ρ ?_ hH hfr) (fun e w' ⟨v', ι', e1, e2, e3⟩ => ⟨v', e1, hK v' ι' w' e2 e3⟩)
            simpa using LR.append (LR.append ⟨h1, h2⟩ hl) ⟨h3, h4⟩
        · cases he
      · cases he
    · exact plain _ rfl he

end
end Go.Ri
