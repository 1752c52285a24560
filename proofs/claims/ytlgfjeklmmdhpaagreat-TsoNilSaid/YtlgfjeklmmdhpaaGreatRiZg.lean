/- Ri, part Zg: the fast machine's runs are the machine's. -/
import Derived.Test.YtlgfjeklmmdhpaaGreatRiZf
set_option linter.unusedVariables false
set_option linter.unusedSimpArgs false
namespace Go.Ri
noncomputable section

/-- With enough fuel. -/
def Ev {α : Type} (p : Nat → Option α) (r : α) : Prop := ∃ K, ∀ k, K ≤ k → p k = some r
theorem Ev.of1 {α : Type} {p : Nat → Option α} {r : α} (h : ∀ k, p (k + 1) = some r) : Ev p r := ⟨1, fun k hk => by
  obtain ⟨k, rfl⟩ : ∃ q, k = q + 1 := ⟨k - 1, by omega⟩
  exact h k⟩
theorem Ev.of2 {α β : Type} {p : Nat → Option α} {q : Nat → Option β} {r : α} {u : β} (hq : Ev q u) (h : ∀ k, q k = some u → p (k + 1) = some r) : Ev p r := by
  obtain ⟨K, hK⟩ := hq
  refine ⟨K + 1, fun k hk => ?_⟩
  obtain ⟨k, rfl⟩ : ∃ q, k = q + 1 := ⟨k - 1, by omega⟩
  exact h k (hK k (by omega))
theorem Ev.of3 {α β γ : Type} {p : Nat → Option α} {q : Nat → Option β} {q' : Nat → Option γ} {r : α} {u : β} {u' : γ} (hq : Ev q u) (hq' : Ev q' u') (h : ∀ k, q k = some u → q' k = some u' → p (k + 1) = some r) : Ev p r := by
  obtain ⟨K, hK⟩ := hq
  obtain ⟨K', hK'⟩ := hq'
  refine ⟨max K K' + 1, fun k hk => ?_⟩
  obtain ⟨k, rfl⟩ : ∃ q, k = q + 1 := ⟨k - 1, by omega⟩
  exact h k (hK k (by omega)) (hK' k (by omega))

section
variable {F : Nat → Option AFun} {cf : CF}

theorem dBox_d (d : Option Nat) (v : Value) (t : Tm) : (dBox d).d v t = putD t d v := by cases d <;> rfl
theorem wantQ_eq (g : Nat × Bool) (t : Tm) : wantQ g t = wantG t (some g) := by
  obtain ⟨g, w⟩ := g
  show wantQ (g, w) t = (match getP (pathN g) t with
    | some (.bool b) => b == w
    | _ => false)
  unfold wantQ
  cases getP (pathN g) t with
  | none => rfl
  | some v => cases v <;> first | rfl | (rename_i b; cases b <;> cases w <;> rfl)
theorem put1_some {D : DB} {t : Tm} {r : Option (Value × AH)} {s' : St} (h : put1 D t r = some s') : ∃ v H, r = some (v, H) ∧ s' = ⟨D.d v t, H⟩ := by
  cases r with
  | none => cases h
  | some p =>
    obtain ⟨v, H⟩ := p
    have h : some (St.mk (D.d v t) H) = some s' := h
    cases h
    exact ⟨v, H, rfl, rfl⟩
theorem evX_plain {k : Nat} {o : AOper} {s : St} (h1 : ∀ f xs, o.op ≠ .ca f xs) (h2 : ∀ x xs, o.op ≠ .cv x xs) (hw : wantG s.t o.guard = true) {v : Value} {H : AH} (h : evA o.op s.t s.h = some (v, H)) : evX F (k + 1) o s = some ⟨putD s.t o.dst v, H⟩ := by
  simp only [evX, hw, cond_true]
  generalize ho : o.op = ao at h h1 h2
  cases ao
  case ca f xs => exact absurd rfl (h1 f xs)
  case cv x xs => exact absurd rfl (h2 x xs)
  all_goals rw [h]
theorem act_ev (hcf : ∀ f args H r, cf f args H = some r → Ev (fun k => evF F k f args H) r) {o : AOper} {s : St} (hw : wantG s.t o.guard = true) {v : Value} {H : AH} (ha : (actBox o.op).a cf s.t s.h = some (v, H)) :
    Ev (fun k => evX F k o s) ⟨putD s.t o.dst v, H⟩ := by
  by_cases h1 : ∃ f xs, o.op = .ca f xs
  · obtain ⟨f, xs, ho⟩ := h1
    rw [ho] at ha
    have ha : cf f (evL s.t xs) s.h = some (v, H) := ha
    refine Ev.of2 (hcf _ _ _ _ ha) (fun k hk => ?_)
    simp only [evX, hw, cond_true, ho]
    rw [hk]
  · by_cases h2 : ∃ x xs, o.op = .cv x xs
    · obtain ⟨x, xs, ho⟩ := h2
      rw [ho] at ha
      have ha : e_cv x xs cf s.t s.h = some (v, H) := ha
      unfold e_cv at ha
      split at ha
      · rename_i f first captured hv
        refine Ev.of2 (hcf _ _ _ _ ha) (fun k hk => ?_)
        simp only [evX, hw, cond_true, ho]
        rw [hv]
        simp only []
        rw [hk]
      · cases ha
    · have n1 : ∀ f xs, o.op ≠ .ca f xs := fun f xs e => h1 ⟨f, xs, e⟩
      have n2 : ∀ x xs, o.op ≠ .cv x xs := fun x xs e => h2 ⟨x, xs, e⟩
      rw [actBox_a cf o.op s.t s.h n1 n2] at ha
      exact Ev.of1 fun k => evX_plain n1 n2 hw ha
theorem gX_ev (hcf : ∀ f args H r, cf f args H = some r → Ev (fun k => evF F k f args H) r) {o : AOper} {s s' : St} (h : (gBox o).r cf s = some s') : Ev (fun k => evX F k o s) s' := by
  unfold gBox at h
  split at h
  · rename_i hg
    have h : put1 (dBox o.dst) s.t ((actBox o.op).a cf s.t s.h) = some s' := h
    obtain ⟨v, H, ha, rfl⟩ := put1_some h
    rw [dBox_d]
    exact act_ev hcf (by rw [hg]; rfl) ha
  · rename_i g hg
    have h : cnd (wantQ g s.t) (put1 (dBox o.dst) s.t ((actBox o.op).a cf s.t s.h)) (some ⟨(dBox o.dst).d undefV s.t, s.h⟩) = some s' := h
    rw [wantQ_eq, ← hg] at h
    cases hw : wantG s.t o.guard with
    | true =>
      rw [hw] at h
      have h : put1 (dBox o.dst) s.t ((actBox o.op).a cf s.t s.h) = some s' := h
      obtain ⟨v, H, ha, rfl⟩ := put1_some h
      rw [dBox_d]
      exact act_ev hcf hw ha
    | false =>
      rw [hw] at h
      have h : some (St.mk ((dBox o.dst).d undefV s.t) s.h) = some s' := h
      cases h
      refine Ev.of1 fun k => ?_
      simp only [evX, hw, cond_false, dBox_d]
theorem thenS_some {g : St → Option St} {r : Option St} {s' : St} (h : thenS g r = some s') : ∃ s, r = some s ∧ g s = some s' := by
  cases r with
  | none => cases h
  | some s => exact ⟨s, rfl, h⟩
theorem gO_ev (hcf : ∀ f args H r, cf f args H = some r → Ev (fun k => evF F k f args H) r) : ∀ (l : List AOper) (s s' : St), gO cf l s = some s' → Ev (fun k => evO F k l s) s'
  | [], s, s', h => by
    have h : some s = some s' := h
    cases h
    exact Ev.of1 fun k => by simp only [evO]
  | o :: r, s, s', h => by
    have h : thenS (gO cf r) ((gBox o).r cf s) = some s' := h
    obtain ⟨s1, h1, h2⟩ := thenS_some h
    refine Ev.of3 (gX_ev hcf h1) (gO_ev hcf r s1 s' h2) (fun k e1 e2 => ?_)
    simp only [evO]
    rw [e1]
    simp only []
    rw [e2]
theorem gD_ev (hcf : ∀ f args H r, cf f args H = some r → Ev (fun k => evF F k f args H) r) : ∀ (l : List AOper) (i : Nat) (s : St) (g : Log) (s' : St), gD cf l i s g = some s' → Ev (fun k => evD F k i l s g) s'
  | [], i, s, g, s', h => by
    have h : some s = some s' := h
    cases h
    exact Ev.of1 fun k => by simp only [evD]
  | o :: r, i, s, g, s', h => by
    have h : thenD i o s g (gD cf r) ((gBox o).r cf s) = some s' := h
    unfold thenD at h
    split at h
    · rename_i s1 h1
      cases hw : wantG s.t o.guard with
      | true =>
        rw [hw] at h
        simp only [cond_true] at h
        split at h
        · rename_i g' hg
          refine Ev.of3 (gX_ev hcf h1) (gD_ev hcf r (i + 1) s1 g' s' h) (fun k e1 e2 => ?_)
          simp only [evD]
          rw [e1]
          simp only [hw, cond_true]
          rw [hg]
          simp only []
          rw [e2]
        · cases h
      | false =>
        rw [hw] at h
        simp only [cond_false] at h
        refine Ev.of3 (gX_ev hcf h1) (gD_ev hcf r (i + 1) s1 g s' h) (fun k e1 e2 => ?_)
        simp only [evD]
        rw [e1]
        simp only [hw, cond_false]
        rw [e2]
    · cases h
theorem lp_ev {a : ACode} {f : St → Option (X × St)} (hf : ∀ s r, f s = some r → Ev (fun k => evC F k a s) r) : ∀ (L : Nat) (s : St) (r : X × St), lpK L f s = some r → Ev (fun k => evC F k (.lp a) s) r
  | 0, s, r, h => by
    have h : none = some r := h
    cases h
  | L + 1, s, r, h => by
    have h : sqK (lpK L f) (f s) = some r := h
    unfold sqK at h
    split at h
    · rename_i s1 h1
      refine Ev.of3 (hf _ _ h1) (lp_ev hf L s1 r h) (fun k e1 e2 => ?_)
      simp only [evC]
      rw [e1]
      simp only []
      rw [e2]
    · rename_i i s1 h1
      cases h
      refine Ev.of2 (hf _ _ h1) (fun k e1 => ?_)
      simp only [evC]
      rw [e1]
    · rename_i s1 h1
      cases h
      refine Ev.of2 (hf _ _ h1) (fun k e1 => ?_)
      simp only [evC]
      rw [e1]
    · cases h
theorem gC_ev (hcf : ∀ f args H r, cf f args H = some r → Ev (fun k => evF F k f args H) r) (L : Nat) : ∀ (c : ACode) (s : St) (r : X × St), gC cf L c s = some r → Ev (fun k => evC F k c s) r := by
  intro c
  induction c with
  | skip =>
    intro s r h
    have h : some (X.n, s) = some r := h
    cases h
    exact Ev.of1 fun k => by simp only [evC]
  | rg ops draw =>
    intro s r h
    have h : rgK (cond draw (gD cf ops 0 s ⟨[], [], []⟩) (gO cf ops s)) = some r := h
    unfold rgK at h
    split at h
    · rename_i s1 h1
      cases h
      cases draw with
      | true =>
        refine Ev.of2 (gD_ev hcf ops 0 s _ s1 h1) (fun k e1 => ?_)
        simp only [evC, cond_true]
        rw [e1]
      | false =>
        refine Ev.of2 (gO_ev hcf ops s s1 h1) (fun k e1 => ?_)
        simp only [evC, cond_false]
        rw [e1]
    · cases h
  | sq a b iha ihb =>
    intro s r h
    have h : sqK (gC cf L b) (gC cf L a s) = some r := h
    unfold sqK at h
    split at h
    · rename_i s1 h1
      refine Ev.of3 (iha _ _ h1) (ihb _ _ h) (fun k e1 e2 => ?_)
      simp only [evC]
      rw [e1]
      simp only []
      rw [e2]
    · rename_i i s1 h1
      cases h
      refine Ev.of2 (iha _ _ h1) (fun k e1 => ?_)
      simp only [evC]
      rw [e1]
    · rename_i s1 h1
      cases h
      refine Ev.of2 (iha _ _ h1) (fun k e1 => ?_)
      simp only [evC]
      rw [e1]
    · cases h
  | cd c a b iha ihb =>
    intro s r h
    have h : cdK (gC cf L a) (gC cf L b) s (ev s.t c) = some r := h
    unfold cdK at h
    split at h
    · rename_i hv
      refine Ev.of2 (iha _ _ h) (fun k e1 => ?_)
      simp only [evC]
      rw [hv]
      simp only []
      rw [e1]
    · rename_i hv
      refine Ev.of2 (ihb _ _ h) (fun k e1 => ?_)
      simp only [evC]
      rw [hv]
      simp only []
      rw [e1]
    · cases h
  | bk id a iha =>
    intro s r h
    have h : bkK id (gC cf L a s) = some r := h
    unfold bkK at h
    split at h
    · rename_i j s1 h1
      refine Ev.of2 (iha _ _ h1) (fun k e1 => ?_)
      simp only [evC]
      rw [e1]
      simp only []
      rw [← h]
    · rename_i s1 h1
      cases h
      refine Ev.of2 (iha _ _ h1) (fun k e1 => ?_)
      simp only [evC]
      rw [e1]
    · rename_i s1 h1
      cases h
      refine Ev.of2 (iha _ _ h1) (fun k e1 => ?_)
      simp only [evC]
      rw [e1]
    · cases h
  | lp a iha =>
    intro s r h
    exact lp_ev iha L s r h
  | xt id =>
    intro s r h
    have h : some (X.e id, s) = some r := h
    cases h
    exact Ev.of1 fun k => by simp only [evC]
  | rt =>
    intro s r h
    have h : some (X.r, s) = some r := h
    cases h
    exact Ev.of1 fun k => by simp only [evC]
theorem gF_ev (F : Nat → Option AFun) (L : Nat) : ∀ (n f : Nat) (args : List Value) (H : AH) (r : Value × AH), gF F L n f args H = some r → Ev (fun k => evF F k f args H) r
  | 0, f, args, H, r, h => by
    have h : none = some r := h
    cases h
  | n + 1, f, args, H, r, h => by
    have h : gB (gF F L n) L args H (F f) = some r := h
    unfold gB at h
    split at h
    · rename_i fn hfn
      cases hb : Nat.ble args.length fn.nt with
      | false => rw [hb] at h; cases h
      | true =>
        rw [hb] at h
        simp only [cond_true] at h
        unfold retK at h
        split at h
        · rename_i s hs
          refine Ev.of2 (gC_ev (gF_ev F L n) L _ _ _ hs) (fun k e1 => ?_)
          simp only [evF]
          rw [hfn]
          simp only [hb, cond_true]
          rw [e1]
          exact h
        · rename_i s hs
          refine Ev.of2 (gC_ev (gF_ev F L n) L _ _ _ hs) (fun k e1 => ?_)
          simp only [evF]
          rw [hfn]
          simp only [hb, cond_true]
          rw [e1]
          exact h
        · cases h
    · cases h

/-- What the kernel looks at: the run says true. -/
def okB (r : Option (Value × AH)) : Bool := match r with
  | some (.bool true, _) => true
  | _ => false
theorem okB_some {r : Option (Value × AH)} (h : okB r = true) : ∃ H, r = some (.bool true, H) := by
  unfold okB at h
  split at h
  · rename_i H; exact ⟨H, rfl⟩
  · cases h

/-- A call that the fast machine finds true. -/
theorem calls_of_run {P : Program} (hF : Compiled P F) (hm : P.follows .mixedOrders = true) {L n f : Nat} {args : List Value} (h : okB (gF F L n f args ⟨.nil, 0⟩) = true) (w : World) {args' : Array Value} (hA : LR noE args args'.toList) :
    Calls P f args' w (fun e w' => e = .returned (.bool true) ∧ Go.RowKit.Below w.heap.size w w') := by
  obtain ⟨H, hr⟩ := okB_some h
  obtain ⟨K, hK⟩ := gF_ev F L n f args ⟨.nil, 0⟩ _ hr
  exact calls_true hF hm (hK K (Nat.le_refl _)) w hA

end
end
end Go.Ri
