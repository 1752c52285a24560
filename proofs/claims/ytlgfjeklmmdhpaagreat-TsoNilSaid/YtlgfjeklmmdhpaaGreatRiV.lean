/- Ri, part V: regions that draw their order: the book that was kept. -/
import Derived.Test.YtlgfjeklmmdhpaaGreatRiU
set_option linter.unusedVariables false
set_option linter.unusedSimpArgs false
namespace Go.Ri

theorem veq0_eq {x y : Value} (h : veq0 x y = true) : x = y := by
  cases x <;> cases y <;> simp only [veq0, Bool.and_eq_true, beq_iff_eq, Bool.false_eq_true] at h <;> first
    | rfl
    | (subst h; rfl)
    | (rename_i a b; obtain ⟨⟨a⟩⟩ := a; obtain ⟨⟨b⟩⟩ := b; simp only at h; rw [h])
    | (obtain ⟨rfl, rfl⟩ := h; rfl)
    | (obtain ⟨⟨rfl, h2⟩, h3⟩ := h; rw [Nat.eq_of_beq_eq_true h2, Nat.eq_of_beq_eq_true h3])
theorem veqL0_eq : ∀ {xs ys : List Value}, veqL0 xs ys = true → xs = ys
  | [], [], _ => rfl
  | x :: xs, y :: ys, h => by
    simp only [veqL0, Bool.and_eq_true] at h
    rw [veq0_eq h.1, veqL0_eq h.2]
  | [], _ :: _, h => by simp [veqL0] at h
  | _ :: _, [], h => by simp [veqL0] at h
theorem veq_eq {x y : Value} (h : veq x y = true) : x = y := by
  unfold veq at h
  split at h
  · rename_i f xs ys g zs ws
    simp only [Bool.and_eq_true] at h
    obtain ⟨xs⟩ := xs; obtain ⟨ys⟩ := ys; obtain ⟨zs⟩ := zs; obtain ⟨ws⟩ := ws
    rw [Nat.eq_of_beq_eq_true h.1.1, show xs = zs from veqL0_eq h.1.2, show ys = ws from veqL0_eq h.2]
  · exact veq0_eq h
theorem veqL_eq : ∀ {xs ys : List Value}, veqL xs ys = true → xs = ys
  | [], [], _ => rfl
  | x :: xs, y :: ys, h => by
    simp only [veqL, Bool.and_eq_true] at h
    rw [veq_eq h.1, veqL_eq h.2]
  | [], _ :: _, h => by simp [veqL] at h
  | _ :: _, [], h => by simp [veqL] at h
theorem sameAt_rd {H H' : AH} {p : Nat × Nat × Nat} (h : sameAt H H' p = true) : H'.rd p.1 p.2.1 p.2.2 = H.rd p.1 p.2.1 p.2.2 := by
  unfold sameAt at h
  split at h
  · rename_i l l' h1 h2
    rw [h1, h2, veqL_eq h]
  · rename_i h1 h2
    rw [h1, h2]
  · cases h
theorem sameBlk_get {H H' : AH} {b : Nat} (h : sameBlk H H' b = true) : H'.get b = H.get b := by
  unfold sameBlk at h
  split at h
  · rename_i k k' h1 h2
    simp only [Bool.and_eq_true, beq_iff_eq] at h
    rw [h1, h2]
    obtain ⟨cs, e, r, s⟩ := k
    obtain ⟨cs', e', r', s'⟩ := k'
    simp only at h
    rw [veqL_eq h.1.1.1, h.1.1.2, h.1.2, Nat.eq_of_beq_eq_true h.2]
  · cases h

/-! ### What the checker told of a region -/
theorem befOf_bits {o : Oper} {acc : List Nat} {m : Nat} (h : (befOf o acc).testBit m = true) : ∃ e ∈ o.after.toList, Region.binds .any e = true ∧ (m = e.on ∨ (acc.getD e.on 0).testBit m = true) := by
  unfold befOf at h
  have key : ∀ (l : List Edge) (s : Nat), (l.foldl (fun s e => cond (Region.binds .any e) (s ||| 2 ^ e.on ||| acc.getD e.on 0) s) s).testBit m = true →
      s.testBit m = true ∨ ∃ e ∈ l, Region.binds .any e = true ∧ (m = e.on ∨ (acc.getD e.on 0).testBit m = true) := by
    intro l
    induction l with
    | nil => intro s h; exact .inl h
    | cons e l ih =>
      intro s h
      rw [List.foldl_cons] at h
      rcases ih _ h with h1 | ⟨e', he, hb, hh⟩
      · cases hb : Region.binds .any e with
        | false => rw [hb] at h1; exact .inl h1
        | true =>
          rw [hb] at h1
          simp only [cond_true, Nat.testBit_or, Bool.or_eq_true] at h1
          rcases h1 with (h1 | h1) | h1
          · exact .inl h1
          · rw [Nat.testBit_two_pow] at h1
            exact .inr ⟨e, by simp, hb, .inl (by have := of_decide_eq_true h1; omega)⟩
          · exact .inr ⟨e, by simp, hb, .inr h1⟩
      · exact .inr ⟨e', by simp [he], hb, hh⟩
  rcases key _ 0 h with h0 | h0
  · simp at h0
  · exact h0

section
variable {P : Program} {F : Nat → Option AFun} {nt : Nat} {all : Array Oper}

theorem cOps_get : ∀ {os : List Oper} {i : Nat} {acc : List Nat} {bs : List AOper}, cOps P nt all i acc os = some bs → acc.length = i →
    bs.length = os.length ∧ ∀ (j : Nat) o, os[j]? = some o → ∃ b, bs[j]? = some b ∧ COk P nt all o b ∧ befOk o (i + j) = true ∧ b.bef = befOf o (acc ++ (bs.take j).map (·.bef))
  | [], i, acc, bs, h, hl => by
    have := cOps_nil h; subst this
    exact ⟨rfl, fun j o ho => by simp at ho⟩
  | o :: r, i, acc, bs, h, hl => by
    obtain ⟨b, bs', rfl, h1, h2, h3, h4⟩ := cOps_cons h
    obtain ⟨g1, g2⟩ := cOps_get h4 (by simp [hl])
    refine ⟨by simp [g1], fun j o' ho => ?_⟩
    cases j with
    | zero =>
      simp only [List.getElem?_cons_zero, Option.some.injEq] at ho; subst ho
      exact ⟨b, rfl, h1, h3, by simpa using h2⟩
    | succ j =>
      simp only [List.getElem?_cons_succ] at ho
      obtain ⟨c, c1, c2, c3, c4⟩ := g2 j o' ho
      refine ⟨c, c1, c2, by rw [show i + (j + 1) = i + 1 + j from by omega]; exact c3, ?_⟩
      rw [c4, ← h2]
      simp

theorem pairsOk_get {i : Nat} {a : AOper} : ∀ {r : List AOper} {j : Nat}, pairsOk i a j r = true → ∀ (q : Nat) b, r[q]? = some b → pairOk i a (j + q) b = true
  | [], j, h, q, b, hb => by simp at hb
  | c :: r, j, h, q, b, hb => by
    simp only [pairsOk, Bool.and_eq_true] at h
    cases q with
    | zero => simp only [List.getElem?_cons_zero, Option.some.injEq] at hb; subst hb; exact h.1
    | succ q =>
      simp only [List.getElem?_cons_succ] at hb
      rw [show j + (q + 1) = j + 1 + q from by omega]
      exact pairsOk_get h.2 q b hb
theorem drawOk_get : ∀ {r : List AOper} {i0 : Nat}, drawOk i0 r = true → ∀ (i j : Nat) a b, i < j → r[i]? = some a → r[j]? = some b → pairOk (i0 + i) a (i0 + j) b = true
  | [], i0, h, i, j, a, b, hij, ha, hb => by simp at ha
  | c :: r, i0, h, i, j, a, b, hij, ha, hb => by
    simp only [drawOk, Bool.and_eq_true] at h
    obtain ⟨j, rfl⟩ : ∃ q, j = q + 1 := ⟨j - 1, by omega⟩
    simp only [List.getElem?_cons_succ] at hb
    cases i with
    | zero =>
      simp only [List.getElem?_cons_zero, Option.some.injEq] at ha; subst ha
      have := pairsOk_get h.1 j b hb
      rw [show i0 + (j + 1) = i0 + 1 + j from by omega]; exact this
    | succ i =>
      simp only [List.getElem?_cons_succ] at ha
      have := drawOk_get h.2 i j a b (by omega) ha hb
      rw [show i0 + (i + 1) = i0 + 1 + i from by omega, show i0 + (j + 1) = i0 + 1 + j from by omega]; exact this

theorem pairOk_spec {i j : Nat} {a b : AOper} (h : pairOk i a j b = true) :
    (heavy a.op = true → heavy b.op = true → b.bef.testBit i = true) ∧ (∀ d, a.dst = some d → d ∈ tmpsO b → b.bef.testBit i = true) ∧ (∀ d, b.dst = some d → d ∈ tmpsO a → b.bef.testBit i = true) ∧
      (∀ d, a.dst = some d → b.dst ≠ some d) := by
  simp only [pairOk, Bool.and_eq_true] at h
  obtain ⟨⟨⟨h1, h2⟩, h3⟩, h4⟩ := h
  refine ⟨fun x y => ?_, fun d e m => ?_, fun d e m => ?_, fun d e e' => ?_⟩
  · simpa [x, y] using h1
  · rw [e] at h2
    simpa [m] using h2
  · rw [e] at h3
    simpa [m] using h3
  · rw [e, e'] at h4
    simp at h4

/-! ### The book -/
theorem logOk_spec {i : Nat} {o : AOper} {t : Tm} {H H' : AH} {g g' : Log} (h : logOk i o t H H' g = some g') :
    ((∀ p ∈ g.lds, p ∈ g'.lds) ∧ (∀ p ∈ g.hvs, p ∈ g'.hvs) ∧ (∀ p ∈ g.als, p ∈ g'.als)) ∧
    (heavy o.op = true → (∀ p ∈ g.lds, o.bef.testBit p.1 = true ∨ sameAt H H' p.2 = true) ∧ (∀ p ∈ g.als, o.bef.testBit p.1 = true ∨ sameBlk H H' p.2 = true) ∧ (i, H, H') ∈ g'.hvs) ∧
    (heavy o.op = false → (∀ p, reads o.op t = some p → (∀ q ∈ g.hvs, o.bef.testBit q.1 = true ∨ sameAt q.2.1 q.2.2 p = true) ∧ (i, p) ∈ g'.lds) ∧ (H'.nx ≠ H.nx → (i, H.nx) ∈ g'.als)) := by
  unfold logOk at h
  cases hh : heavy o.op with
  | true =>
    rw [hh] at h
    simp only [cond_true] at h
    cases hb : ((g.lds.all fun p => o.bef.testBit p.1 || sameAt H H' p.2) && (g.als.all fun p => o.bef.testBit p.1 || sameBlk H H' p.2)) with
    | false => rw [hb] at h; cases h
    | true =>
      rw [hb] at h
      simp only [cond_true, Option.some.injEq] at h; subst h
      simp only [Bool.and_eq_true, List.all_eq_true, Bool.or_eq_true] at hb
      exact ⟨⟨fun p h => h, fun p h => by simp [h], fun p h => h⟩, fun _ => ⟨hb.1, hb.2, by simp⟩, fun x => by cases x⟩
  | false =>
    rw [hh] at h
    simp only [cond_false] at h
    have als : ∀ p ∈ g.als, p ∈ cond (Nat.beq H'.nx H.nx) g.als ((i, H.nx) :: g.als) := fun p hp => by
      cases Nat.beq H'.nx H.nx with
      | true => exact hp
      | false => simp [hp]
    have aln : H'.nx ≠ H.nx → (i, H.nx) ∈ cond (Nat.beq H'.nx H.nx) g.als ((i, H.nx) :: g.als) := fun hn => by
      rw [beqF hn]; simp
    split at h
    · rename_i hr
      simp only [Option.some.injEq] at h; subst h
      exact ⟨⟨fun p h => h, fun p h => h, als⟩, fun x => by (cases x), fun _ => ⟨fun p hp => (by rw [hr] at hp; cases hp), aln⟩⟩
    · rename_i p hr
      cases hb : (g.hvs.all fun q => o.bef.testBit q.1 || sameAt q.2.1 q.2.2 p) with
      | false => rw [hb] at h; cases h
      | true =>
        rw [hb] at h
        simp only [cond_true, Option.some.injEq] at h; subst h
        simp only [List.all_eq_true, Bool.or_eq_true] at hb
        exact ⟨⟨fun p h => by simp [h], fun p h => h, als⟩, fun x => by (cases x), fun _ => ⟨fun p' hp => by rw [hr] at hp; cases hp; exact ⟨hb, by simp⟩, aln⟩⟩

/-- What the book says of two operations. -/
def Pr (S : Nat → St) (i : Nat) (a : AOper) (j : Nat) (b : AOper) : Prop :=
  wantG (S i).t a.guard = true → wantG (S j).t b.guard = true → b.bef.testBit i = false →
    (heavy a.op = false → heavy b.op = true → (∀ p, reads a.op (S i).t = some p → sameAt (S j).h (S (j + 1)).h p = true) ∧ ((S (i + 1)).h.nx ≠ (S i).h.nx → sameBlk (S j).h (S (j + 1)).h (S i).h.nx = true)) ∧
    (heavy a.op = true → heavy b.op = false → ∀ p, reads b.op (S j).t = some p → sameAt (S i).h (S (i + 1)).h p = true)

def Lg (S : Nat → St) (g : Log) (j : Nat) (b : AOper) : Prop :=
  wantG (S j).t b.guard = true →
    (heavy b.op = true → (∀ p ∈ g.lds, b.bef.testBit p.1 = true ∨ sameAt (S j).h (S (j + 1)).h p.2 = true) ∧ (∀ p ∈ g.als, b.bef.testBit p.1 = true ∨ sameBlk (S j).h (S (j + 1)).h p.2 = true)) ∧
    (heavy b.op = false → ∀ p, reads b.op (S j).t = some p → ∀ q ∈ g.hvs, b.bef.testBit q.1 = true ∨ sameAt q.2.1 q.2.2 p = true)

theorem evD_trace : ∀ (k i : Nat) (r : List AOper) (s : St) (g : Log) (s' : St), evD F k i r s g = some s' →
    ∃ S : Nat → St, S i = s ∧ S (i + r.length) = s' ∧ (∀ (j : Nat) b, r[j]? = some b → ∃ κ, κ < k ∧ evX F κ b (S (i + j)) = some (S (i + j + 1))) ∧
      (∀ (j : Nat) b, r[j]? = some b → Lg S g (i + j) b) ∧ (∀ (j q : Nat) a b, j < q → r[j]? = some a → r[q]? = some b → Pr S (i + j) a (i + q) b)
  | 0, i, r, s, g, s', h => by simp [evD] at h
  | k + 1, i, [], s, g, s', h => by
    simp only [evD, Option.some.injEq] at h; subst h
    exact ⟨fun _ => s, rfl, rfl, fun j b hb => by simp at hb, fun j b hb => by simp at hb, fun j q a b _ ha => by simp at ha⟩
  | k + 1, i, o :: r, s, g, s', h => by
    simp only [evD] at h
    split at h
    case h_2 => cases h
    rename_i s1 hx
    have build : ∀ g', evD F k (i + 1) r s1 g' = some s' → ((∀ p ∈ g.lds, p ∈ g'.lds) ∧ (∀ p ∈ g.hvs, p ∈ g'.hvs) ∧ (∀ p ∈ g.als, p ∈ g'.als)) →
        (wantG s.t o.guard = true → (heavy o.op = true → (∀ p ∈ g.lds, o.bef.testBit p.1 = true ∨ sameAt s.h s1.h p.2 = true) ∧ (∀ p ∈ g.als, o.bef.testBit p.1 = true ∨ sameBlk s.h s1.h p.2 = true) ∧ (i, s.h, s1.h) ∈ g'.hvs) ∧
          (heavy o.op = false → (∀ p, reads o.op s.t = some p → (∀ q ∈ g.hvs, o.bef.testBit q.1 = true ∨ sameAt q.2.1 q.2.2 p = true) ∧ (i, p) ∈ g'.lds) ∧ (s1.h.nx ≠ s.h.nx → (i, s.h.nx) ∈ g'.als))) →
        ∃ S : Nat → St, S i = s ∧ S (i + (o :: r).length) = s' ∧ (∀ (j : Nat) b, (o :: r)[j]? = some b → ∃ κ, κ < k + 1 ∧ evX F κ b (S (i + j)) = some (S (i + j + 1))) ∧
          (∀ (j : Nat) b, (o :: r)[j]? = some b → Lg S g (i + j) b) ∧ (∀ (j q : Nat) a b, j < q → (o :: r)[j]? = some a → (o :: r)[q]? = some b → Pr S (i + j) a (i + q) b) := by
      intro g' hg hsub hent
      obtain ⟨S, a1, a2, a3, a4, a5⟩ := evD_trace k (i + 1) r s1 g' s' hg
      have e0 : (fun m => if m = i then s else S m) i = s := by simp
      have e1 : ∀ m, i + 1 ≤ m → (fun m => if m = i then s else S m) m = S m := fun m hm => by simp only; rw [if_neg (by omega)]
      refine ⟨fun m => if m = i then s else S m, e0, ?_, ?_, ?_, ?_⟩
      · rw [e1 _ (by simp only [List.length_cons]; omega), ← a2]
        congr 1
        first | done | (simp only [List.length_cons]; omega)
      · intro j b hb
        cases j with
        | zero =>
          simp only [List.getElem?_cons_zero, Option.some.injEq] at hb; subst hb
          refine ⟨k, Nat.lt_succ_self k, ?_⟩
          rw [Nat.add_zero, e0, e1 _ (Nat.le_refl _), a1]; exact hx
        | succ j =>
          simp only [List.getElem?_cons_succ] at hb
          obtain ⟨κ, k1, k2⟩ := a3 j b hb
          refine ⟨κ, by omega, ?_⟩
          rw [show i + (j + 1) = i + 1 + j from by omega, e1 _ (by omega), e1 _ (by omega)]; exact k2
      · intro j b hb
        cases j with
        | zero =>
          simp only [List.getElem?_cons_zero, Option.some.injEq] at hb; subst hb
          intro hw
          rw [Nat.add_zero] at hw ⊢
          rw [e0] at hw ⊢
          rw [e1 _ (Nat.le_refl _), a1]
          obtain ⟨h1, h2⟩ := hent hw
          exact ⟨fun hh => ⟨(h1 hh).1, (h1 hh).2.1⟩, fun hh p hp => ((h2 hh).1 p hp).1⟩
        | succ j =>
          simp only [List.getElem?_cons_succ] at hb
          have := a4 j b hb
          intro hw
          rw [show i + (j + 1) = i + 1 + j from by omega, e1 _ (by omega)] at hw ⊢
          rw [e1 _ (by omega)]
          obtain ⟨h1, h2⟩ := this hw
          exact ⟨fun hh => ⟨fun p hp => (h1 hh).1 p (hsub.1 p hp), fun p hp => (h1 hh).2 p (hsub.2.2 p hp)⟩, fun hh p hp q hq => h2 hh p hp q (hsub.2.1 q hq)⟩
      · intro j q a b hjq ha hb
        obtain ⟨q, rfl⟩ : ∃ z, q = z + 1 := ⟨q - 1, by omega⟩
        simp only [List.getElem?_cons_succ] at hb
        cases j with
        | zero =>
          simp only [List.getElem?_cons_zero, Option.some.injEq] at ha; subst ha
          intro w1 w2 hbit
          have h4 := a4 q b hb
          rw [Nat.add_zero] at w1 hbit ⊢
          rw [e0] at w1 ⊢
          rw [show i + (q + 1) = i + 1 + q from by omega, e1 _ (by omega)] at w2 ⊢
          rw [e1 (i + 1 + q + 1) (by omega), e1 (i + 1) (Nat.le_refl _), a1]
          obtain ⟨l1, l2⟩ := h4 w2
          obtain ⟨h1, h2⟩ := hent w1
          have nb : ¬ b.bef.testBit i = true := by rw [hbit]; simp
          refine ⟨fun ha hb' => ⟨fun p hp => ?_, fun hn => ?_⟩, fun ha hb' p hp => ?_⟩
          · exact ((l1 hb').1 _ ((h2 ha).1 p hp).2).resolve_left nb
          · exact ((l1 hb').2 _ ((h2 ha).2 hn)).resolve_left nb
          · exact (l2 hb' p hp _ (h1 ha).2.2).resolve_left nb
        | succ j =>
          simp only [List.getElem?_cons_succ] at ha
          have := a5 j q a b (by omega) ha hb
          unfold Pr at this ⊢
          rw [show i + (j + 1) = i + 1 + j from by omega, show i + (q + 1) = i + 1 + q from by omega, e1 _ (by omega), e1 _ (by omega), e1 _ (by omega), e1 _ (by omega)]
          exact this
    cases hw : wantG s.t o.guard with
    | true =>
      rw [hw] at h
      simp only [cond_true] at h
      split at h
      · rename_i g' hg'
        obtain ⟨x1, x2, x3⟩ := logOk_spec hg'
        exact build g' h x1 (fun _ => ⟨x2, x3⟩)
      · cases h
    | false =>
      rw [hw] at h
      simp only [cond_false] at h
      exact build g h ⟨fun _ h => h, fun _ h => h, fun _ h => h⟩ (fun x => by rw [hw] at x; cases x)

end
end Go.Ri
