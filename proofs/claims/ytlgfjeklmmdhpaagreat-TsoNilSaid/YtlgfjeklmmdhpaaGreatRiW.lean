/- Ri, part W: regions that draw their order: whatever order is drawn, what comes about is what the text's order brings. -/
import Derived.Test.YtlgfjeklmmdhpaaGreatRiV
set_option linter.unusedVariables false
set_option linter.unusedSimpArgs false
namespace Go.Ri

theorem light_heap {ao : AOp} {t : Tm} {H H' : AH} {v : Value} (hl : heavy ao = false) (h : evA ao t H = some (v, H')) : H' = H ∨ ∃ k, H' = H.new k := by
  cases ao <;> simp only [heavy, Bool.true_eq_false] at hl
  all_goals simp only [evA, Bool.cond_eq_ite] at h
  all_goals (repeat' (split at h))
  all_goals first
    | (cases h; done)
    | (simp only [Option.some.injEq, Prod.mk.injEq] at h; obtain ⟨_, rfl⟩ := h; first
        | exact .inl rfl
        | exact .inr ⟨_, rfl⟩)

section
variable {P : Program} {F : Nat → Option AFun} {nt : Nat} {all : Array Oper}

theorem evX_light {κ : Nat} {b : AOper} {s s' : St} (hl : heavy b.op = false) (h : evX F κ b s = some s') :
    (wantG s.t b.guard = true ∧ ∃ v H', evA b.op s.t s.h = some (v, H') ∧ s' = ⟨putD s.t b.dst v, H'⟩) ∨ (wantG s.t b.guard = false ∧ s' = ⟨putD s.t b.dst undefV, s.h⟩) := by
  cases κ with
  | zero => simp [evX] at h
  | succ κ =>
    simp only [evX] at h
    cases hw : wantG s.t b.guard with
    | false =>
      rw [hw] at h; simp only [cond_false, Option.some.injEq] at h
      exact .inr ⟨rfl, h.symm⟩
    | true =>
      rw [hw] at h; simp only [cond_true] at h
      refine .inl ⟨rfl, ?_⟩
      generalize ha : b.op = ao at h hl
      cases ao <;> simp only [heavy, Bool.true_eq_false] at hl
      all_goals
        simp only at h
        split at h
        · rename_i v H hv
          simp only [Option.some.injEq] at h
          exact ⟨v, H, hv, h.symm⟩
        · cases h
theorem evX_off {κ : Nat} {b : AOper} {s s' : St} (hw : wantG s.t b.guard = false) (h : evX F κ b s = some s') : s' = ⟨putD s.t b.dst undefV, s.h⟩ := by
  cases κ with
  | zero => simp [evX] at h
  | succ κ =>
    simp only [evX, hw, cond_false, Option.some.injEq] at h
    exact h.symm

/-- The region's trace, in the text's order, and all that is known of it. -/
structure TC (P : Program) (F : Nat → Option AFun) (nt : Nat) (all : Array Oper) (bs : List AOper) (S : Nat → St) : Prop where
  len : bs.length = all.size
  ok : ∀ (i : Nat) o, all[i]? = some o → ∃ b, bs[i]? = some b ∧ COk P nt all o b
  edge : ∀ (i : Nat) o b, all[i]? = some o → bs[i]? = some b → ∀ m, b.bef.testBit m = true → ∃ e ∈ o.after, Region.binds .any e = true ∧ (m = e.on ∨ ∃ c, bs[e.on]? = some c ∧ c.bef.testBit m = true)
  back : ∀ (i : Nat) o, all[i]? = some o → ∀ e ∈ o.after, Region.binds .any e = true → e.on < i
  pair : ∀ (i j : Nat) a b, i < j → bs[i]? = some a → bs[j]? = some b → pairOk i a j b = true
  step : ∀ (i : Nat) b, bs[i]? = some b → ∃ κ, evX F κ b (S i) = some (S (i + 1)) ∧ XOk P F κ
  log : ∀ (i j : Nat) a b, i < j → bs[i]? = some a → bs[j]? = some b → Pr S i a j b

variable {bs : List AOper} {S : Nat → St}
theorem TC.at (T : TC P F nt all bs S) {i : Nat} (hi : i < all.size) : ∃ o b, all[i]? = some o ∧ bs[i]? = some b ∧ COk P nt all o b := by
  have ho : all[i]? = some all[i] := by simp [hi]
  obtain ⟨b, h1, h2⟩ := T.ok i _ ho
  exact ⟨_, b, ho, h1, h2⟩
theorem TC.lt (T : TC P F nt all bs S) {i : Nat} {b : AOper} (h : bs[i]? = some b) : i < all.size := by
  rw [← T.len]; exact (List.getElem?_eq_some_iff.1 h).1
theorem TC.mon1 (T : TC P F nt all bs S) {i : Nat} (hi : i < all.size) : Mon (S i).h (S (i + 1)).h := by
  obtain ⟨o, b, h1, h2, h3⟩ := T.at hi
  obtain ⟨κ, k1, k2⟩ := T.step i b h2
  exact (k2 nt all o b _ _ h3 k1).1
theorem TC.mon (T : TC P F nt all bs S) {i : Nat} : ∀ {j : Nat}, i ≤ j → j ≤ all.size → Mon (S i).h (S j).h := by
  intro j hij
  induction hij with
  | refl => intro _; exact Mon.refl _
  | @step j hj ih => intro h; exact (ih (by omega)).trans (T.mon1 (by omega))
theorem TC.put (T : TC P F nt all bs S) {i : Nat} {b : AOper} (h : bs[i]? = some b) : ∃ v, (S (i + 1)).t = putD (S i).t b.dst v := by
  obtain ⟨o, b', h1, h2, h3⟩ := T.at (T.lt h)
  rw [h] at h2; cases h2
  obtain ⟨κ, k1, k2⟩ := T.step i b h
  obtain ⟨_, v, hv, _⟩ := k2 nt all o b _ _ h3 k1
  exact ⟨v, hv⟩
/-- A temporary that nothing writes between keeps its value. -/
theorem TC.tkeep (T : TC P F nt all bs S) {d i : Nat} : ∀ {j : Nat}, i ≤ j → j ≤ all.size → (∀ m b, i ≤ m → m < j → bs[m]? = some b → b.dst ≠ some d) → (S j).t.get d = (S i).t.get d := by
  intro j hij
  induction hij with
  | refl => intro _ _; rfl
  | @step j hj0 ih =>
    have hj : i ≤ j := hj0
    intro h hk
    obtain ⟨o, b, h1, h2, h3⟩ := T.at (show j < all.size by omega)
    obtain ⟨v, hv⟩ := T.put h2
    rw [hv, ← ih (by omega) (fun m b x y => hk m b x (by omega))]
    have := hk j b hj (by omega) h2
    cases hd : b.dst with
    | none => rfl
    | some d' =>
      simp only [putD, T8.get_set]
      rw [if_neg (fun e => this (by rw [hd, e]))]
/-- A light operation's heap. -/
theorem TC.light (T : TC P F nt all bs S) {i : Nat} {b : AOper} (h : bs[i]? = some b) (hl : heavy b.op = false) : (S (i + 1)).h = (S i).h ∨ ∃ k, (S (i + 1)).h = (S i).h.new k := by
  obtain ⟨κ, k1, k2⟩ := T.step i b h
  rcases evX_light hl k1 with ⟨_, v, H', e1, e2⟩ | ⟨_, e2⟩
  · rw [e2]; exact light_heap hl e1
  · rw [e2]; exact .inl rfl
theorem TC.lget (T : TC P F nt all bs S) {i : Nat} {b : AOper} (h : bs[i]? = some b) (hl : heavy b.op = false) {x : Nat} (hx : x < (S i).h.nx) : (S (i + 1)).h.get x = (S i).h.get x := by
  rcases T.light h hl with e | ⟨k, e⟩
  · rw [e]
  · rw [e, AH.get_new, if_neg (by omega)]
/-- A block that no heavy operation changes between lies as it lay. -/
theorem TC.gkeep (T : TC P F nt all bs S) {x i : Nat} : ∀ {j : Nat}, i ≤ j → j ≤ all.size → x < (S i).h.nx → (∀ m b, i ≤ m → m < j → bs[m]? = some b → heavy b.op = true → (S (m + 1)).h.get x = (S m).h.get x) → (S j).h.get x = (S i).h.get x := by
  intro j hij
  induction hij with
  | refl => intro _ _ _; rfl
  | @step j hj0 ih =>
    have hj : i ≤ j := hj0
    intro h hx hk
    obtain ⟨o, b, h1, h2, h3⟩ := T.at (show j < all.size by omega)
    have hn := (T.mon hj (show j ≤ all.size by omega)).nx
    rw [← ih (by omega) hx (fun m b x y => hk m b x (by omega))]
    cases hb : heavy b.op with
    | true => exact hk j b hj (by omega) h2 hb
    | false => exact T.lget h2 hb (by omega)
theorem rd_get {H H' : AH} {x : Nat} (h : H'.get x = H.get x) (o n : Nat) : H'.rd x o n = H.rd x o n := by unfold AH.rd; rw [h]
theorem TC.rkeep (T : TC P F nt all bs S) {x o n i : Nat} : ∀ {j : Nat}, i ≤ j → j ≤ all.size → x < (S i).h.nx → (∀ m b, i ≤ m → m < j → bs[m]? = some b → heavy b.op = true → (S (m + 1)).h.rd x o n = (S m).h.rd x o n) → (S j).h.rd x o n = (S i).h.rd x o n := by
  intro j hij
  induction hij with
  | refl => intro _ _ _; rfl
  | @step j hj0 ih =>
    have hj : i ≤ j := hj0
    intro h hx hk
    obtain ⟨o', b, h1, h2, h3⟩ := T.at (show j < all.size by omega)
    have hn := (T.mon hj (show j ≤ all.size by omega)).nx
    rw [← ih (by omega) hx (fun m b x y => hk m b x (by omega))]
    cases hb : heavy b.op with
    | true => exact hk j b hj (by omega) h2 hb
    | false => exact rd_get (T.lget h2 hb (by omega)) o n

def Lst (l : Array Bool) (i : Nat) : Prop := l.getD i false = true

/-- What holds while a region's operations come up, in whatever order. -/
structure DI (B : Nat) (ι0 : Em) (w0 : World) (D : List Deferred) (nt : Nat) (all : Array Oper) (bs : List AOper) (S : Nat → St) (l : Array Bool) (τ : Nat) (ι : Em) (cur : Nat → Option Blk) (a : Act) (w : World) : Prop where
  size : a.tmps.size = nt
  defers : a.defers = D
  lsz : l.size = all.size
  closed : ∀ (j : Nat) b i, bs[j]? = some b → Lst l j → b.bef.testBit i = true → Lst l i
  tw : ∀ (i : Nat) b d, bs[i]? = some b → Lst l i → b.dst = some d → VR ι (((S (i + 1)).t.get d).getD undefV) (a.tmps.getD d undef)
  tn : ∀ m, m < nt → (∀ (i : Nat) b, bs[i]? = some b → Lst l i → b.dst ≠ some m) → VR ι (((S 0).t.get m).getD undefV) (a.tmps.getD m undef)
  tle : τ ≤ all.size
  hv : ∀ (j : Nat) b, bs[j]? = some b → heavy b.op = true → (Lst l j ↔ j < τ)
  hr : HR B ι cur w
  c1 : ∀ b, b < (S τ).h.nx → cur b = (S τ).h.get b
  c2 : ∀ i b, Lst l i → i < all.size → τ ≤ i → (S i).h.nx ≤ b → b < (S (i + 1)).h.nx → cur b = (S (i + 1)).h.get b
  dom : ∀ b K, ι b = some K → b < (S 0).h.nx ∨ (S all.size).h.nx ≤ b ∨ ∃ i, Lst l i ∧ i < all.size ∧ (S i).h.nx ≤ b ∧ b < (S (i + 1)).h.nx
  kd : ∀ m, m ≤ all.size → KdOk ι (S m).h
  em : ∀ b, b < (S 0).h.nx ∨ (S all.size).h.nx ≤ b → ι b = ι0 b
  fr : Fr ι0 (S 0).h.get w0 w
  nw : Nw ι0 ι (S 0).h.get w0


theorem HR.sub' {B : Nat} {ι : Em} {g cur : Nat → Option Blk} {w : World} (h : HR B ι cur w) (f : ∀ b k L, g b = some k → ι b = some L → cur b = some k) : HR B ι g w :=
  ⟨fun b k L x y => h.blk b k L (f b k L x y) y, fun b b' k k' L L' g1 g2 e1 e2 r1 hr => h.inj b b' k k' L L' (f b k L g1 e1) (f b' k' L' g2 e2) e1 e2 r1 hr, h.le⟩

theorem HR.step {B : Nat} {ι ι' : Em} {cur : Nat → Option Blk} {H H' : AH} {w w' : World} (h : HR B ι cur w) (f : ∀ b k L, H.get b = some k → ι b = some L → cur b = some k) (p : Post B ι ι' H H' w w') (m : Mon H H') (hf : Fresh ι H H') :
    HR B ι' (fun b => if b < H'.nx then H'.get b else cur b) w' := by
  have hn := m.nx
  have far : ∀ b k L, H'.nx ≤ b → cur b = some k → ι b = some L → ∀ b0 k0 L0, H.get b0 = some k0 → k0.ro = false → ι b0 = some L0 → L0.r = L.r → False := by
    intro b k L hb hg hL b0 k0 L0 g0 r0 i0 e0
    have := h.inj b0 b k0 k L0 L (f b0 k0 L0 g0 i0) hg i0 hL r0 e0
    have := AH.get_lt g0
    omega
  have back : ∀ b k L, b < H'.nx → H'.get b = some k → ι b = some L → ∃ k0, cur b = some k0 ∧ k0.ro = k.ro := by
    intro b k L hb hg hL
    by_cases hlt : b < H.nx
    · obtain ⟨k0, g0, r0, _⟩ := m.old b k hlt hg
      exact ⟨k0, f b k0 L g0 hL, r0⟩
    · have := hf b (by omega) hb
      rw [this] at hL; cases hL
  refine ⟨fun b k L hg hL => ?_, fun b1 b2 k1 k2 L1 L2 g1 g2 e1 e2 r1 hr => ?_, Nat.le_trans h.le p.fr.size⟩
  · by_cases hb : b < H'.nx
    · simp only [hb, if_true] at hg
      exact p.hr.blk b k L hg hL
    · simp only [hb, if_false] at hg
      have hι : ι b = some L := by rw [← p.em b (.inr (by omega))]; exact hL
      have hbr := h.blk b k L hg hι
      refine hbr.mono (p.sub hf) (p.fr.block L.r hbr.lt fun hi => ?_)
      obtain ⟨b0, k0, L0, g0, r0, i0, e0⟩ := hi
      exact far b k L (by omega) hg hι b0 k0 L0 g0 r0 i0 e0
  · by_cases hb1 : b1 < H'.nx
    · simp only [hb1, if_true] at g1
      by_cases hb2 : b2 < H'.nx
      · simp only [hb2, if_true] at g2
        exact p.hr.inj b1 b2 k1 k2 L1 L2 g1 g2 e1 e2 r1 hr
      · simp only [hb2, if_false] at g2
        have i2 : ι b2 = some L2 := by rw [← p.em b2 (.inr (by omega))]; exact e2
        have l2 := (h.blk b2 k2 L2 g2 i2).lt
        exfalso
        rcases p.nw b1 L1 e1 with i1 | ⟨_, i1 | ⟨b0, k0, L0, g0, r0, i0, e0⟩⟩
        · obtain ⟨k0, c0, r0⟩ := back b1 k1 L1 hb1 g1 i1
          have := h.inj b1 b2 k0 k2 L1 L2 c0 g2 i1 i2 (r0.trans r1) hr
          omega
        · omega
        · exact far b2 k2 L2 (by omega) g2 i2 b0 k0 L0 g0 r0 i0 (e0.trans hr)
    · simp only [hb1, if_false] at g1
      have i1 : ι b1 = some L1 := by rw [← p.em b1 (.inr (by omega))]; exact e1
      have l1 := (h.blk b1 k1 L1 g1 i1).lt
      by_cases hb2 : b2 < H'.nx
      · simp only [hb2, if_true] at g2
        exfalso
        rcases p.nw b2 L2 e2 with i2 | ⟨_, i2 | ⟨b0, k0, L0, g0, r0, i0, e0⟩⟩
        · obtain ⟨k0, c0, r0⟩ := back b2 k2 L2 hb2 g2 i2
          have := h.inj b1 b2 k1 k0 L1 L2 g1 c0 i1 i2 r1 hr
          omega
        · omega
        · exact far b1 k1 L1 (by omega) g1 i1 b0 k0 L0 g0 r0 i0 (e0.trans hr.symm)
      · simp only [hb2, if_false] at g2
        have i2 : ι b2 = some L2 := by rw [← p.em b2 (.inr (by omega))]; exact e2
        exact h.inj b1 b2 k1 k2 L1 L2 g1 g2 i1 i2 r1 hr

theorem lst_set {l : Array Bool} {i j : Nat} (hi : i < l.size) : Lst (l.setIfInBounds i true) j ↔ Lst l j ∨ j = i := by
  unfold Lst
  by_cases h : i = j
  · subst h
    simp [hi]
  · rw [getD_set_ne false h]
    exact ⟨.inl, fun hh => hh.resolve_right (fun e => h e.symm)⟩

section
variable {B : Nat} {ι0 : Em} {w0 : World} {D : List Deferred} {l : Array Bool} {τ : Nat} {ι : Em} {cur : Nat → Option Blk} {a : Act} {w : World}

theorem DI.tv (T : TC P F nt all bs S) (I : DI B ι0 w0 D nt all bs S l τ ι cur a w) {i : Nat} {b : AOper} (hb : bs[i]? = some b) (hni : ¬ Lst l i) (hbits : ∀ m, b.bef.testBit m = true → Lst l m)
    (htmp : ∀ n ∈ tmpsO b, n < nt) : TV ι (S i).t a (tmpsO b) := by
  intro n hn
  have hi := T.lt hb
  by_cases hw : ∃ j c, j < i ∧ bs[j]? = some c ∧ c.dst = some n
  · obtain ⟨j, c, hj, hc, hd⟩ := hw
    have hbit := (pairOk_spec (T.pair j i c b hj hc hb)).2.1 n hd hn
    have := I.tw j c n hc (hbits j hbit) hd
    rw [T.tkeep (d := n) (i := j + 1) (j := i) (by omega) (by omega) (fun m e h1 h2 h3 => (pairOk_spec (T.pair j m c e (by omega) hc h3)).2.2.2 n hd)]
    exact this
  · rw [T.tkeep (d := n) (i := 0) (j := i) (by omega) (by omega) (fun m e h1 h2 h3 h4 => hw ⟨m, e, h2, h3, h4⟩)]
    refine I.tn n (htmp n hn) (fun j c hc hL hd => ?_)
    rcases Nat.lt_trichotomy j i with h | h | h
    · exact hw ⟨j, c, h, hc, hd⟩
    · subst h; exact hni hL
    · have := (pairOk_spec (T.pair i j b c h hb hc)).2.2.1 n hd hn
      exact hni (I.closed j c i hc hL this)

theorem DI.fresh (T : TC P F nt all bs S) (I : DI B ι0 w0 D nt all bs S l τ ι cur a w) {i : Nat} (hi : i < all.size) (hni : ¬ Lst l i) : Fresh ι (S i).h (S (i + 1)).h := by
  intro b h1 h2
  cases e : ι b with
  | none => rfl
  | some K =>
    exfalso
    have m0 := (T.mon (i := 0) (j := i) (by omega) (by omega)).nx
    have mn := (T.mon (i := i + 1) (j := all.size) (by omega) (Nat.le_refl _)).nx
    rcases I.dom b K e with h | h | ⟨j, hL, hj, h3, h4⟩
    · omega
    · omega
    · rcases Nat.lt_trichotomy j i with h | h | h
      · have := (T.mon (i := j + 1) (j := i) (by omega) (by omega)).nx
        omega
      · subst h; exact hni hL
      · have := (T.mon (i := i + 1) (j := j) (by omega) (by omega)).nx
        omega

/-- Where a block lies that is stood for and has come up behind the last heavy operation. -/
theorem DI.born (T : TC P F nt all bs S) (I : DI B ι0 w0 D nt all bs S l τ ι cur a w) {i b : Nat} {K : Loc} (hi : i ≤ all.size) (hb : b < (S i).h.nx) (hτ : (S τ).h.nx ≤ b) (e : ι b = some K) :
    ∃ j, Lst l j ∧ τ ≤ j ∧ j < i ∧ (S j).h.nx ≤ b ∧ b < (S (j + 1)).h.nx ∧ cur b = (S (j + 1)).h.get b := by
  have m0 := (T.mon (i := 0) (j := τ) (by omega) I.tle).nx
  have mn := (T.mon (i := i) (j := all.size) hi (Nat.le_refl _)).nx
  rcases I.dom b K e with h | h | ⟨j, hL, hj, h3, h4⟩
  · omega
  · omega
  · have h5 : τ ≤ j := by
      rcases Nat.lt_or_ge j τ with h | h
      · have := (T.mon (i := j + 1) (j := τ) (by omega) I.tle).nx
        omega
      · exact h
    have h6 : j < i := by
      rcases Nat.lt_or_ge j i with h | h
      · exact h
      · have := (T.mon (i := i) (j := j) h (by omega)).nx
        omega
    exact ⟨j, hL, h5, h6, h3, h4, I.c2 j b hL hj h5 h3 h4⟩

/-- With no heavy operation between, what lies at a state lies now. -/
theorem DI.sub (T : TC P F nt all bs S) (I : DI B ι0 w0 D nt all bs S l τ ι cur a w) {i : Nat} (hi : i ≤ all.size) (hτ : τ ≤ i) (hno : ∀ (m : Nat) c, τ ≤ m → m < i → bs[m]? = some c → heavy c.op = true → False) :
    ∀ b k L, (S i).h.get b = some k → ι b = some L → cur b = some k := by
  intro b k L hg hL
  have hlt := AH.get_lt hg
  by_cases hb : b < (S τ).h.nx
  · rw [I.c1 b hb, ← hg]
    exact (T.gkeep hτ hi hb (fun m c h1 h2 h3 h4 => (hno m c h1 h2 h3 h4).elim)).symm
  · obtain ⟨j, h1, h2, h3, h4, h5, h6⟩ := I.born T hi hlt (by omega) hL
    rw [h6, ← hg]
    exact (T.gkeep (i := j + 1) (j := i) (by omega) hi h5 (fun m c q1 q2 q3 q4 => (hno m c (by omega) q2 q3 q4).elim)).symm

theorem DI.img (T : TC P F nt all bs S) (I : DI B ι0 w0 D nt all bs S l τ ι cur a w) (hf0 : Fresh ι0 (S 0).h (S all.size).h) {i r : Nat} (hi : i ≤ all.size) (h : Img ι (S i).h.get r) : Img ι0 (S 0).h.get r ∨ w0.heap.size ≤ r := by
  obtain ⟨b, k, L, g, ro, e, rfl⟩ := h
  rcases I.nw b L e with h | ⟨_, h | h⟩
  · by_cases hb : b < (S 0).h.nx
    · obtain ⟨k0, g0, r0, _⟩ := (T.mon (i := 0) (j := i) (by omega) hi).old b k hb g
      exact .inl ⟨b, k0, L, g0, r0.trans ro, h, rfl⟩
    · have := (T.mon (i := i) (j := all.size) hi (Nat.le_refl _)).nx
      have := hf0 b (by omega) (by have := AH.get_lt g; omega)
      rw [this] at h; cases h
  · exact .inr h
  · exact .inl h
theorem DI.none0 (I : DI B ι0 w0 D nt all bs S l τ ι cur a w) (hf0 : Fresh ι0 (S 0).h (S all.size).h) {b : Nat} (h : ι b = none) : ι0 b = none := by
  by_cases hb : b < (S 0).h.nx ∨ (S all.size).h.nx ≤ b
  · rw [← I.em b hb]; exact h
  · exact hf0 b (by omega) (by omega)

/-- What an operation's temporaries and lists come to; the heap's part is told. -/
theorem DI.next (T : TC P F nt all bs S) (I : DI B ι0 w0 D nt all bs S l τ ι cur a w) {i : Nat} {o : Oper} {b : AOper} (hb : bs[i]? = some b) (hk : COk P nt all o b) (hni : ¬ Lst l i)
    (hbits : ∀ m, b.bef.testBit m = true → Lst l m) {v v' : Value} (hv : (S (i + 1)).t = putD (S i).t b.dst v) {ι' : Em} {τ' : Nat} {cur' : Nat → Option Blk} {w' : World} (hsub : Sub ι ι') (hvv : VR ι' v v')
    (tle : τ' ≤ all.size) (hhv : ∀ (j : Nat) b, bs[j]? = some b → heavy b.op = true → (Lst (l.setIfInBounds i true) j ↔ j < τ')) (hr : HR B ι' cur' w')
    (c1 : ∀ b, b < (S τ').h.nx → cur' b = (S τ').h.get b)
    (c2 : ∀ j b, Lst (l.setIfInBounds i true) j → j < all.size → τ' ≤ j → (S j).h.nx ≤ b → b < (S (j + 1)).h.nx → cur' b = (S (j + 1)).h.get b)
    (dom : ∀ b K, ι' b = some K → b < (S 0).h.nx ∨ (S all.size).h.nx ≤ b ∨ ∃ j, Lst (l.setIfInBounds i true) j ∧ j < all.size ∧ (S j).h.nx ≤ b ∧ b < (S (j + 1)).h.nx)
    (kd : ∀ m, m ≤ all.size → KdOk ι' (S m).h) (em : ∀ b, b < (S 0).h.nx ∨ (S all.size).h.nx ≤ b → ι' b = ι0 b) (fr : Fr ι0 (S 0).h.get w0 w') (nw : Nw ι0 ι' (S 0).h.get w0) :
    DI B ι0 w0 D nt all bs S (l.setIfInBounds i true) τ' ι' cur' (a.put o.dst v') w' := by
  have hil : i < l.size := by rw [I.lsz]; exact T.lt hb
  have hset := fun j => lst_set (l := l) (j := j) hil
  have other : ∀ n, n < nt → b.dst ≠ some n → (a.put o.dst v').tmps.getD n undef = a.tmps.getD n undef := by
    intro n hn hne
    rw [← hk.dst]
    cases hd : b.dst with
    | none => rfl
    | some d =>
      simp only [Act.put]
      rw [Array.getD_eq_getD_getElem?, Array.getElem?_setIfInBounds_ne (fun e => hne (by rw [hd, e])), ← Array.getD_eq_getD_getElem?]
  have dlt : ∀ (j : Nat) c d, bs[j]? = some c → c.dst = some d → d < nt := by
    intro j c d hc hd
    obtain ⟨o', c', q1, q2, q3⟩ := T.at (T.lt hc)
    rw [hc] at q2; cases q2
    have := q3.dlt
    rw [← q3.dst, hd] at this
    simpa [cDst, Nat.blt_eq] using this
  refine { size := ?_, defers := (put_defers _ _ _).trans I.defers, lsz := by simp [I.lsz], closed := ?_, tw := ?_, tn := ?_, tle := tle, hv := hhv, hr := hr, c1 := c1, c2 := c2, dom := dom, kd := kd, em := em, fr := fr, nw := nw }
  · rw [← I.size]
    cases o.dst with
    | none => rfl
    | some d => simp [Act.put]
  · intro j c m hc hL hbit
    rw [hset] at hL ⊢
    rcases hL with hL | rfl
    · exact .inl (I.closed j c m hc hL hbit)
    · rw [hb] at hc; cases hc
      exact .inl (hbits m hbit)
  · intro j c d hc hL hd
    rw [hset] at hL
    by_cases hj : j = i
    · subst hj
      rw [hb] at hc; cases hc
      have hdl := dlt j b d hb hd
      rw [hv, hd, ← hk.dst, hd]
      simp only [putD, T8.get_set, if_true, Option.getD_some, Act.put]
      rw [Array.getD_eq_getD_getElem?, Array.getElem?_setIfInBounds_self_of_lt (by rw [I.size]; exact hdl)]
      exact hvv
    · have hL := hL.resolve_right hj
      have hne : b.dst ≠ some d := fun e => by
        rcases Nat.lt_or_gt_of_ne hj with h | h
        · exact (pairOk_spec (T.pair j i c b h hc hb)).2.2.2 d hd e
        · exact (pairOk_spec (T.pair i j b c h hb hc)).2.2.2 d e hd
      rw [other d (dlt j c d hc hd) hne]
      exact (I.tw j c d hc hL hd).mono hsub
  · intro n hn hno
    rw [other n hn (hno i b hb ((hset i).2 (.inr rfl)))]
    exact (I.tn n hn (fun j c hc hL => hno j c hc ((hset j).2 (.inl hL)))).mono hsub

end
end
end Go.Ri
