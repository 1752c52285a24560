/- Ri, part Y: regions that draw their order: each step, and the end. -/
import Derived.Test.YtlgfjeklmmdhpaaGreatRiW
set_option linter.unusedVariables false
set_option linter.unusedSimpArgs false
namespace Go.Ri

section
variable {P : Program} {F : Nat → Option AFun} {nt : Nat} {all : Array Oper} {bs : List AOper} {S : Nat → St}
variable {B : Nat} {ι0 : Em} {w0 : World} {D : List Deferred} {l : Array Bool} {τ : Nat} {ι : Em} {cur : Nat → Option Blk} {a : Act} {w : World}

/-- What a light operation reads, lies in the world as it lay in the text's order. -/
theorem DI.rd (T : TC P F nt all bs S) (I : DI B ι0 w0 D nt all bs S l τ ι cur a w) {i : Nat} {b : AOper} (hb : bs[i]? = some b) (hl : heavy b.op = false) (hni : ¬ Lst l i)
    (hbits : ∀ m, b.bef.testBit m = true → Lst l m) (hw : wantG (S i).t b.guard = true) : RdOk ι b.op (S i).t (S i).h w := by
  intro x o n lst L hre hrd hL
  have hi := T.lt hb
  have off : ∀ (m : Nat) c, bs[m]? = some c → wantG (S m).t c.guard = false → (S (m + 1)).h.rd x o n = (S m).h.rd x o n := fun m c hc hof => by
    obtain ⟨κ, k1, _⟩ := T.step m c hc
    rw [evX_off hof k1]
  have hx : x < (S i).h.nx := by
    unfold AH.rd at hrd
    split at hrd
    · rename_i k hk; exact AH.get_lt hk
    · cases hrd
  have fin : ∀ H : AH, cur x = H.get x → H.rd x o n = some lst → ∃ l', LR ι lst l' ∧ (∀ z ∈ lst, one z = true) ∧ Row w L.r (o + L.sh) l' := by
    intro H hc hr
    unfold AH.rd at hr
    split at hr
    · rename_i k hk
      exact (I.hr.blk x k L (hc.trans hk) hL).row hr
    · cases hr
  have hB : ∀ (m : Nat) c, τ ≤ m → m < i → bs[m]? = some c → heavy c.op = true → (S (m + 1)).h.rd x o n = (S m).h.rd x o n := by
    intro m c h1 h2 h3 h4
    cases hof : wantG (S m).t c.guard with
    | false => exact off m c h3 hof
    | true =>
      have hbit : b.bef.testBit m = false := by
        cases e : b.bef.testBit m with
        | false => rfl
        | true =>
          have := (I.hv m c h3 h4).1 (hbits m e)
          omega
      have := (T.log m i c b h2 h3 hb hof hw hbit).2 h4 hl (x, o, n) hre
      exact sameAt_rd this
  by_cases hτ : τ ≤ i
  · by_cases hxt : x < (S τ).h.nx
    · refine fin (S τ).h (I.c1 x hxt) ?_
      rw [← hrd]
      exact (T.rkeep hτ (by omega) hxt hB).symm
    · obtain ⟨j, h1, h2, h3, h4, h5, h6⟩ := I.born T (by omega) hx (by omega) hL
      refine fin (S (j + 1)).h h6 ?_
      rw [← hrd]
      exact (T.rkeep (i := j + 1) (j := i) (by omega) (by omega) h5 (fun m c q1 q2 => hB m c (by omega) q2)).symm
  · have hmn := (T.mon (i := i) (j := τ) (by omega) I.tle).nx
    refine fin (S τ).h (I.c1 x (by omega)) ?_
    rw [← hrd]
    refine T.rkeep (by omega) I.tle hx (fun m c h1 h2 h3 h4 => ?_)
    have hmi : i < m := by
      rcases Nat.lt_or_eq_of_le h1 with h | h
      · exact h
      · subst h; rw [hb] at h3; cases h3; rw [hl] at h4; cases h4
    cases hof : wantG (S m).t c.guard with
    | false => exact off m c h3 hof
    | true =>
      have hbit : c.bef.testBit i = false := by
        cases e : c.bef.testBit i with
        | false => rfl
        | true => exact (hni (I.closed m c i h3 ((I.hv m c h3 h4).2 h2) e)).elim
      exact sameAt_rd (((T.log i m b c hmi hb h3 hw hof hbit).1 hl h4).1 (x, o, n) hre)

/-- A light operation that changes nothing. -/
theorem DI.same (T : TC P F nt all bs S) (I : DI B ι0 w0 D nt all bs S l τ ι cur a w) {i : Nat} {o : Oper} {b : AOper} (hb : bs[i]? = some b) (hk : COk P nt all o b) (hl : heavy b.op = false) (hni : ¬ Lst l i)
    (hbits : ∀ m, b.bef.testBit m = true → Lst l m) {v v' : Value} (hv : (S (i + 1)).t = putD (S i).t b.dst v) (hh : (S (i + 1)).h = (S i).h) (hvv : VR ι v v') :
    DI B ι0 w0 D nt all bs S (l.setIfInBounds i true) τ ι cur (a.put o.dst v') w := by
  have hil : i < l.size := by rw [I.lsz]; exact T.lt hb
  refine I.next T hb hk hni hbits hv (Sub.refl ι) hvv I.tle (fun j c hc hcc => ?_) I.hr I.c1 (fun j x hL hj hτ h1 h2 => ?_) (fun x K e => ?_) I.kd I.em I.fr I.nw
  · rw [lst_set hil, ← I.hv j c hc hcc]
    refine ⟨fun h => h.resolve_right fun e => ?_, .inl⟩
    subst e
    rw [hb] at hc; cases hc; rw [hl] at hcc; cases hcc
  · rcases (lst_set hil).1 hL with hL | rfl
    · exact I.c2 j x hL hj hτ h1 h2
    · rw [hh] at h2; omega
  · rcases I.dom x K e with h | h | ⟨j, h1, h2⟩
    · exact .inl h
    · exact .inr (.inl h)
    · exact .inr (.inr ⟨j, (lst_set hil).2 (.inl h1), h2⟩)

/-- A light operation that makes a block. -/
theorem DI.made (T : TC P F nt all bs S) (I : DI B ι0 w0 D nt all bs S l τ ι cur a w) (hf0 : Fresh ι0 (S 0).h (S all.size).h) {i : Nat} {o : Oper} {b : AOper} (hb : bs[i]? = some b) (hk : COk P nt all o b) (hl : heavy b.op = false) (hni : ¬ Lst l i)
    (hbits : ∀ m, b.bef.testBit m = true → Lst l m) (hw : wantG (S i).t b.guard = true) {v v' : Value} (hv : (S (i + 1)).t = putD (S i).t b.dst v) {k : Blk} {c : Array Value} {e : TypeId} (hh : (S (i + 1)).h = (S i).h.new k)
    (hext : k.ext = false) (hro : k.ro = false) (hlr : LR ι k.cs c.toList) (hone : ∀ x ∈ k.cs, one x = true) (hvv : ∀ ι' : Em, ι' (S i).h.nx = some ⟨w.heap.size, 0, 0, 0, false⟩ → VR ι' v v') :
    ∃ ι' cur', DI B ι0 w0 D nt all bs S (l.setIfInBounds i true) τ ι' cur' (a.put o.dst v') (w.alloc (.cells c e)) := by
  have hi := T.lt hb
  have hil : i < l.size := by rw [I.lsz]; exact hi
  have hnx : (S (i + 1)).h.nx = (S i).h.nx + 1 := by rw [hh]; rfl
  have m0 := (T.mon (i := 0) (j := i) (by omega) (by omega)).nx
  have mn := (T.mon (i := i + 1) (j := all.size) (by omega) (Nat.le_refl _)).nx
  have hx : ι (S i).h.nx = none := I.fresh T hi hni _ (Nat.le_refl _) (by omega)
  have hget : (S (i + 1)).h.get (S i).h.nx = some k := by rw [hh, AH.get_new, if_pos rfl]
  refine ⟨upE ι (S i).h.nx ⟨w.heap.size, 0, 0, 0, false⟩, fun j => if j = (S i).h.nx then some k else cur j, ?_⟩
  refine I.next T hb hk hni hbits hv (upE_sub _ hx) (hvv _ (upE_same _ _ _)) I.tle (fun j c' hc hcc => ?_) ?_ (fun x hxt => ?_) (fun j x hL hj hτ h1 h2 => ?_) (fun x K e => ?_) (fun m hm x k' L hg hL => ?_) (fun x hxx => ?_) ?_ (fun x L hL => ?_)
  · rw [lst_set hil, ← I.hv j c' hc hcc]
    refine ⟨fun h => h.resolve_right fun e => ?_, .inl⟩
    subst e
    rw [hb] at hc; cases hc; rw [hl] at hcc; cases hcc
  · have := I.hr.new (S i).h.nx hx k c e 0 0 (fun q z hz => by
      obtain ⟨y, y1, y2⟩ := hlr.get hz
      exact ⟨y, by rw [← Array.getElem?_toList]; exact y1, y2⟩) hone hro (fun h => by rw [hext] at h; cases h)
    rw [hext] at this
    exact this
  · by_cases hxe : x = (S i).h.nx
    · subst hxe
      simp only [if_true]
      have hiτ : i < τ := by
        rcases Nat.lt_or_ge i τ with h | h
        · exact h
        · have := (T.mon (i := τ) (j := i) h (by omega)).nx
          omega
      rw [← hget]
      refine (T.gkeep (i := i + 1) (j := τ) (by omega) I.tle (by omega) (fun m c' h1 h2 h3 h4 => ?_)).symm
      cases hof : wantG (S m).t c'.guard with
      | false =>
        obtain ⟨κ, k1, _⟩ := T.step m c' h3
        rw [evX_off hof k1]
      | true =>
        have hbit : c'.bef.testBit i = false := by
          cases e : c'.bef.testBit i with
          | false => rfl
          | true => exact (hni (I.closed m c' i h3 ((I.hv m c' h3 h4).2 h2) e)).elim
        exact sameBlk_get (((T.log i m b c' (by omega) hb h3 hw hof hbit).1 hl h4).2 (by omega))
    · simp only [hxe, if_false]
      exact I.c1 x hxt
  · rcases (lst_set hil).1 hL with hL | rfl
    · by_cases hxe : x = (S i).h.nx
      · exfalso
        subst hxe
        have hji : j ≠ i := fun e => hni (e ▸ hL)
        rcases Nat.lt_or_gt_of_ne hji with h | h
        · have := (T.mon (i := j + 1) (j := i) (by omega) (by omega)).nx
          omega
        · have := (T.mon (i := i + 1) (j := j) (by omega) (by omega)).nx
          omega
      · simp only [hxe, if_false]
        exact I.c2 j x hL hj hτ h1 h2
    · have : x = (S j).h.nx := by omega
      subst this
      simp only [if_true]
      exact hget.symm
  · by_cases hxe : x = (S i).h.nx
    · subst hxe
      exact .inr (.inr ⟨i, (lst_set hil).2 (.inr rfl), hi, Nat.le_refl _, by omega⟩)
    · rw [upE_ne _ _ hxe] at e
      rcases I.dom x K e with h | h | ⟨j, h1, h2⟩
      · exact .inl h
      · exact .inr (.inl h)
      · exact .inr (.inr ⟨j, (lst_set hil).2 (.inl h1), h2⟩)
  · by_cases hxe : x = (S i).h.nx
    · subst hxe
      rw [upE_same] at hL; cases hL
      rcases Nat.lt_or_ge i m with h | h
      · obtain ⟨k0, g0, _, r1, r2⟩ := (T.mon (i := i + 1) (j := m) (by omega) hm).old _ k' (by omega) hg
        rw [hget] at g0; cases g0
        refine ⟨r1.symm.trans hext, fun h => ?_⟩
        rw [← r1, hext] at h; cases h
      · have := (T.mon (i := m) (j := i) h (by omega)).nx
        have := AH.get_lt hg
        omega
    · rw [upE_ne _ _ hxe] at hL
      exact I.kd m hm x k' L hg hL
  · rw [upE_ne _ _ (by omega)]
    exact I.em x hxx
  · exact ⟨I.fr.os, I.fr.tape, I.fr.output, by have := I.fr.size; simp; omega, fun r hr hn => by
      have := I.fr.size
      rw [heap_old w _ (by omega)]
      exact I.fr.block r hr hn⟩
  · by_cases hxe : x = (S i).h.nx
    · subst hxe
      rw [upE_same] at hL; cases hL
      exact .inr ⟨I.none0 hf0 hx, .inl I.fr.size⟩
    · rw [upE_ne _ _ hxe] at hL
      exact I.nw x L hL

/-- A heavy operation. -/
theorem DI.deed (T : TC P F nt all bs S) (I : DI B ι0 w0 D nt all bs S l τ ι cur a w) (hf0 : Fresh ι0 (S 0).h (S all.size).h) {i : Nat} {o : Oper} {b : AOper} (hb : bs[i]? = some b) (hk : COk P nt all o b) (hh : heavy b.op = true) (hni : ¬ Lst l i)
    (hbits : ∀ m, b.bef.testBit m = true → Lst l m) :
    (τ ≤ i ∧ HR B ι (S i).h.get w ∧ Fresh ι (S i).h (S (i + 1)).h) ∧ ∀ v v' ι' w', (S (i + 1)).t = putD (S i).t b.dst v → VR ι' v v' → Post B ι ι' (S i).h (S (i + 1)).h w w' →
      ∃ cur', DI B ι0 w0 D nt all bs S (l.setIfInBounds i true) (i + 1) ι' cur' (a.put o.dst v') w' := by
  have hi := T.lt hb
  have hil : i < l.size := by rw [I.lsz]; exact hi
  have hτ : τ ≤ i := by
    rcases Nat.lt_or_ge i τ with h | h
    · exact (hni ((I.hv i b hb hh).2 h)).elim
    · exact h
  have hprev : ∀ (m : Nat) c, m < i → bs[m]? = some c → heavy c.op = true → Lst l m := fun m c h1 h2 h3 => hbits m ((pairOk_spec (T.pair m i c b h1 h2 hb)).1 h3 hh)
  have hno : ∀ (m : Nat) c, τ ≤ m → m < i → bs[m]? = some c → heavy c.op = true → False := fun m c h1 h2 h3 h4 => by
    have := (I.hv m c h3 h4).1 (hprev m c h2 h3 h4)
    omega
  have hsubg := I.sub T (by omega) hτ hno
  have hfr := I.fresh T hi hni
  have hmon := T.mon1 hi
  refine ⟨⟨hτ, I.hr.sub' hsubg, hfr⟩, fun v v' ι' w' hv hvv p => ⟨fun x => if x < (S (i + 1)).h.nx then (S (i + 1)).h.get x else cur x, ?_⟩⟩
  have hsub := p.sub hfr
  have m0 := (T.mon (i := 0) (j := i) (by omega) (by omega)).nx
  have mn := (T.mon (i := i + 1) (j := all.size) (by omega) (Nat.le_refl _)).nx
  have mi := hmon.nx
  refine I.next T hb hk hni hbits hv hsub hvv (by omega) (fun j c hc hcc => ?_) (I.hr.step hsubg p hmon hfr) (fun x hx => by simp only [hx, if_true]) (fun j x hL hj hτj h1 h2 => ?_) (fun x K e => ?_) (fun m hm x k' L hg hL => ?_) (fun x hx => ?_) ?_ (fun x L hL => ?_)
  · rw [lst_set hil]
    constructor
    · rintro (h | rfl)
      · have := (I.hv j c hc hcc).1 h
        omega
      · omega
    · intro h
      rcases Nat.lt_or_eq_of_le (Nat.le_of_lt_succ h) with h | h
      · exact .inl (hprev j c h hc hcc)
      · exact .inr h
  · have hji : j ≠ i := by omega
    have hL := ((lst_set hil).1 hL).resolve_right hji
    have := (T.mon (i := i + 1) (j := j) hτj (by omega)).nx
    have hx : ¬ x < (S (i + 1)).h.nx := by omega
    simp only [hx, if_false]
    exact I.c2 j x hL hj (by omega) h1 h2
  · by_cases hx : x < (S i).h.nx ∨ (S (i + 1)).h.nx ≤ x
    · rw [p.em x hx] at e
      rcases I.dom x K e with h | h | ⟨j, h1, h2⟩
      · exact .inl h
      · exact .inr (.inl h)
      · exact .inr (.inr ⟨j, (lst_set hil).2 (.inl h1), h2⟩)
    · exact .inr (.inr ⟨i, (lst_set hil).2 (.inr rfl), hi, by omega, by omega⟩)
  · by_cases hx : x < (S i).h.nx ∨ (S (i + 1)).h.nx ≤ x
    · rw [p.em x hx] at hL
      exact I.kd m hm x k' L hg hL
    · rcases Nat.lt_or_ge i m with h | h
      · obtain ⟨k0, g0, _, r1, r2⟩ := (T.mon (i := i + 1) (j := m) (by omega) hm).old x k' (by omega) hg
        obtain ⟨q1, q2⟩ := p.hr.kdOk x k0 L g0 hL
        exact ⟨r1.symm.trans q1, fun h => r2.symm.trans (q2 (r1.trans h))⟩
      · have := (T.mon (i := m) (j := i) h (by omega)).nx
        have := AH.get_lt hg
        omega
  · rw [p.em x (by omega)]
    exact I.em x hx
  · exact ⟨p.fr.os.trans I.fr.os, p.fr.tape.trans I.fr.tape, p.fr.output.trans I.fr.output, Nat.le_trans I.fr.size p.fr.size, fun r hr hn => by
      have := I.fr.size
      rw [p.fr.block r (by omega) (fun hi' => by
        rcases I.img T hf0 (by omega) hi' with h | h
        · exact hn h
        · omega)]
      exact I.fr.block r hr hn⟩
  · have := I.fr.size
    rcases p.nw x L hL with h | ⟨h0, h | h⟩
    · exact I.nw x L h
    · exact .inr ⟨I.none0 hf0 h0, .inl (by omega)⟩
    · rcases I.img T hf0 (by omega) h with h | h
      · exact .inr ⟨I.none0 hf0 h0, .inr h⟩
      · exact .inr ⟨I.none0 hf0 h0, .inl h⟩

/-- The end: all have come up. -/
theorem DI.done (T : TC P F nt all bs S) (I : DI B ι0 w0 D nt all bs S l τ ι cur a w) (hall : ∀ i, i < all.size → Lst l i) : CP B ι0 nt (S 0).h w0 D .n (S all.size) .normal a w := by
  have hno : ∀ (m : Nat) c, τ ≤ m → m < all.size → bs[m]? = some c → heavy c.op = true → False := fun m c h1 h2 h3 h4 => by
    have := (I.hv m c h3 h4).1 (hall m h2)
    omega
  refine ⟨trivial, ι, ⟨I.size, fun n hn => ?_⟩, I.defers, ⟨I.em, I.hr.sub' (I.sub T (Nat.le_refl _) I.tle hno), I.fr, I.nw⟩⟩
  by_cases hw : ∃ (j : Nat) (c : AOper), bs[j]? = some c ∧ c.dst = some n
  · obtain ⟨j, c, hc, hd⟩ := hw
    have hj := T.lt hc
    rw [T.tkeep (d := n) (i := j + 1) (j := all.size) (by omega) (Nat.le_refl _) (fun m e h1 h2 h3 => (pairOk_spec (T.pair j m c e (by omega) hc h3)).2.2.2 n hd)]
    exact I.tw j c n hc (hall j hj) hd
  · rw [T.tkeep (d := n) (i := 0) (j := all.size) (by omega) (Nat.le_refl _) (fun m e h1 h2 h3 h4 => hw ⟨m, e, h3, h4⟩)]
    exact I.tn n hn (fun j c hc _ hd => hw ⟨j, c, hc, hd⟩)

/-- How many have not come up. -/
def un (l : Array Bool) : Nat → Nat
  | 0 => 0
  | m + 1 => un l m + (if l.getD m false = true then 0 else 1)
theorem un_zero {l : Array Bool} : ∀ {m : Nat}, un l m = 0 → ∀ j, j < m → Lst l j
  | 0, _, j, hj => absurd hj (Nat.not_lt_zero _)
  | m + 1, h, j, hj => by
    simp only [un] at h
    by_cases hm : l.getD m false = true
    · rcases Nat.lt_or_eq_of_le (Nat.le_of_lt_succ hj) with h' | rfl
      · exact un_zero (by omega) j h'
      · exact hm
    · rw [if_neg hm] at h; omega
theorem un_same {l : Array Bool} {i : Nat} : ∀ {m : Nat}, m ≤ i → un (l.setIfInBounds i true) m = un l m
  | 0, _ => rfl
  | m + 1, h => by
    simp only [un]
    rw [un_same (by omega), getD_set_ne false (by omega)]
theorem un_set {l : Array Bool} {i : Nat} (hi : i < l.size) (hni : ¬ Lst l i) : ∀ {m : Nat}, i < m → un (l.setIfInBounds i true) m + 1 = un l m
  | 0, h => absurd h (Nat.not_lt_zero _)
  | m + 1, h => by
    simp only [un]
    by_cases hm : m = i
    · subst hm
      have h1 : (l.setIfInBounds m true).getD m false = true := (lst_set hi).2 (.inr rfl)
      have h2 : ¬ l.getD m false = true := hni
      rw [un_same (Nat.le_refl _), if_pos h1, if_neg h2]
    · rw [getD_set_ne false (fun e => hm e.symm), ← un_set hi hni (m := m) (by omega)]
      omega

theorem DI.run (T : TC P F nt all bs S) (hf0 : Fresh ι0 (S 0).h (S all.size).h) {ρ : Option Nat} {Q : Exit → Act → World → Prop} (hQ : ∀ a' w', CP B ι0 nt (S 0).h w0 D .n (S all.size) .normal a' w' → Q .normal a' w') :
    ∀ (fuel : Nat) (l : Array Bool) (τ : Nat) (ι : Em) (cur : Nat → Option Blk) (a : Act) (w : World), DI B ι0 w0 D nt all bs S l τ ι cur a w → un l all.size ≤ fuel → wpAnyIn (FF ρ) 0 P .any all Q fuel l a w := by
  have emp : ∀ (l : Array Bool), l.size = all.size → Region.ready .any all l = [] → ∀ i, i < all.size → Lst l i := by
    intro l hl he i
    induction i using Nat.strongRecOn with
    | _ i ih =>
      intro hi
      apply Classical.byContradiction
      intro hni
      obtain ⟨o, b, h1, h2, h3⟩ := T.at hi
      have : i ∈ Region.ready .any all l := by
        refine mem_ready.2 ⟨?_, o, h1, fun e he hb => ih e.on (T.back i o h1 e he hb) (Nat.lt_trans (T.back i o h1 e he hb) hi)⟩
        have hil : i < l.size := by omega
        unfold Lst at hni
        simp [hil] at hni ⊢
        exact hni
      rw [he] at this
      cases this
  intro fuel
  induction fuel with
  | zero =>
    intro l τ ι cur a w I hu
    have hall := un_zero (l := l) (m := all.size) (by omega)
    refine ⟨?_, hQ a w (I.done T hall)⟩
    apply Classical.byContradiction
    intro hne
    obtain ⟨i, hi⟩ := List.exists_mem_of_ne_nil _ hne
    obtain ⟨h1, o, h2, _⟩ := mem_ready.1 hi
    have hlt : i < all.size := (Array.getElem?_eq_some_iff.1 h2).1
    have h3 := hall i hlt
    have hil : i < l.size := by rw [I.lsz]; exact hlt
    unfold Lst at h3
    simp [hil] at h1 h3
    rw [h1] at h3; cases h3
  | succ fuel ih =>
    intro l τ ι cur a w I hu
    refine ⟨fun he => hQ a w (I.done T (emp l I.lsz he)), fun i hi => ?_⟩
    obtain ⟨h1, o, ho, hed⟩ := mem_ready.1 hi
    have hlt : i < all.size := (Array.getElem?_eq_some_iff.1 ho).1
    have hil : i < l.size := by rw [I.lsz]; exact hlt
    have hni : ¬ Lst l i := by
      unfold Lst
      simp [hil] at h1 ⊢
      exact h1
    obtain ⟨b, hb, hk⟩ := T.ok i o ho
    have hbits : ∀ m, b.bef.testBit m = true → Lst l m := by
      intro m hm
      obtain ⟨e, he, hbd, hor⟩ := T.edge i o b ho hb m hm
      have hon : Lst l e.on := hed e he hbd
      rcases hor with rfl | ⟨c, hc, hcm⟩
      · exact hon
      · exact I.closed e.on c m hc hon hcm
    have hu' : un (l.setIfInBounds i true) all.size ≤ fuel := by
      have := un_set hil hni hlt
      omega
    unfold wpOpIn
    rw [ho]
    dsimp only
    have hTV := I.tv T hb hni hbits hk.tmp
    obtain ⟨κ, k1, k2⟩ := T.step i b hb
    cases hh : heavy b.op with
    | true =>
      obtain ⟨⟨_, hHR, hfr⟩, hK⟩ := I.deed T hf0 hb hk hh hni hbits
      obtain ⟨_, v, hv, g⟩ := k2 nt all o b _ _ hk k1
      refine g B ι w a ρ _ Q I.size hTV hHR hfr (fun v' ι' w' hvv p => ?_)
      obtain ⟨cur', I'⟩ := hK v v' ι' w' hv hvv p
      exact ih _ _ _ _ _ _ I' hu'
    | false =>
      rw [cGuard_wanted hk.guard I.size (tmpsO_guard hTV)]
      rcases evX_light hh k1 with ⟨hw, v, H', he, hs⟩ | ⟨hw, hs⟩
      · rw [hw, if_pos rfl]
        obtain ⟨v', w', hrun, hls⟩ := light_sound hk.op hh he (tmpsO_op hTV) (I.rd T hb hh hni hbits hw) (I.kd i (by omega))
        refine wpIn_value hk.op (.inl hrun) ?_
        have hv : (S (i + 1)).t = putD (S i).t b.dst v := by rw [hs]
        have hhp : (S (i + 1)).h = H' := by rw [hs]
        rcases hls with ⟨rfl, rfl, hvv⟩ | ⟨k, c, e, rfl, rfl, q1, q2, q3, q4, q5⟩
        · exact ih _ _ _ _ _ _ (I.same T hb hk hh hni hbits hv hhp hvv) hu'
        · obtain ⟨ι', cur', I'⟩ := I.made T hf0 (e := e) hb hk hh hni hbits hw hv hhp q1 q2 q3 q4 q5
          exact ih _ _ _ _ _ _ I' hu'
      · rw [hw, if_neg (by simp)]
        refine ⟨fun f _ => FF_fn ρ f, ?_⟩
        exact ih _ _ _ _ _ _ (I.same T hb hk hh hni hbits (v := undefV) (by rw [hs]) (by rw [hs]) (VR.undef ι)) hu'

theorem step_D {k : Nat} (hx : ∀ κ, κ < k → XOk P F κ) : DOk P F k := by
  intro nt all bs s s' hc hd he
  obtain ⟨g1, g2⟩ := cOps_get hc rfl
  obtain ⟨S, s0, s1, s2, s3, s4⟩ := evD_trace k 0 bs s ⟨[], [], []⟩ s' he
  simp only [Nat.zero_add] at s1 s2 s4 g2
  have hlen : bs.length = all.size := by rw [g1, Array.length_toList]
  rw [hlen] at s1
  have T : TC P F nt all bs S := by
    refine ⟨hlen, fun i o ho => ?_, fun i o b ho hb m hm => ?_, fun i o ho e hme hbd => ?_, fun i j a b hij ha hb => ?_, fun i b hb => ?_, fun i j a b hij ha hb => s4 i j a b hij ha hb⟩
    · obtain ⟨b, h1, h2, _⟩ := g2 i o (by rw [Array.getElem?_toList]; exact ho)
      exact ⟨b, h1, h2⟩
    · obtain ⟨b', h1, _, h3, h4⟩ := g2 i o (by rw [Array.getElem?_toList]; exact ho)
      rw [hb] at h1; cases h1
      rw [h4] at hm
      obtain ⟨e, he, hbd, hor⟩ := befOf_bits hm
      refine ⟨e, Array.mem_toList_iff.1 he, hbd, hor.imp_right fun h => ?_⟩
      rw [List.getD_eq_getElem?_getD] at h
      simp only [List.nil_append, List.getElem?_map] at h
      cases hq : (bs.take i)[e.on]? with
      | none => rw [hq] at h; simp at h
      | some c =>
        rw [hq] at h
        rw [List.getElem?_take] at hq
        split at hq
        · exact ⟨c, hq, by simpa using h⟩
        · cases hq
    · obtain ⟨b', h1, _, h3, h4⟩ := g2 i o (by rw [Array.getElem?_toList]; exact ho)
      simp only [befOk, List.all_eq_true, Bool.or_eq_true, Bool.not_eq_true'] at h3
      rcases h3 e (Array.mem_toList_iff.2 hme) with h | h
      · rw [hbd] at h; cases h
      · simpa [Nat.blt_eq] using h
    · have := drawOk_get hd i j a b hij ha hb
      simpa using this
    · obtain ⟨κ, h1, h2⟩ := s2 i b hb
      exact ⟨κ, h2, hx κ h1⟩
  have hm : Mon s.h s'.h := by
    have := T.mon (i := 0) (j := all.size) (Nat.zero_le _) (Nat.le_refl _)
    rw [s0, s1] at this; exact this
  refine ⟨hm, fun B ι w a ρ Q hT hH hf hQ => ?_⟩
  have hno : ∀ i, ¬ Lst (Array.replicate all.size false) i := fun i h => by
    unfold Lst at h
    rw [Array.getD_eq_getD_getElem?, Array.getElem?_replicate] at h
    split at h <;> simp at h
  have hf0 : Fresh ι (S 0).h (S all.size).h := by rw [s0, s1]; exact hf
  refine DI.run (B := B) (ι0 := ι) (w0 := w) (D := a.defers) T hf0 (fun a' w' h => hQ a' w' (by rw [s0, s1] at h; exact h)) all.size _ 0 ι (S 0).h.get a w ?_ ?_
  · refine { size := hT.size, defers := rfl, lsz := by simp, closed := fun j b i _ h => (hno j h).elim, tw := fun i b d _ h => (hno i h).elim, tn := fun m hm _ => (by rw [s0]; exact hT.val m hm), tle := Nat.zero_le _, hv := fun j b _ _ => ⟨fun h => (hno j h).elim, fun h => absurd h (Nat.not_lt_zero _)⟩, hr := (by rw [s0]; exact hH), c1 := fun _ _ => rfl, c2 := fun i b h => (hno i h).elim, dom := fun b K e => ?_, kd := fun m hm b k L hg hL => ?_, em := fun _ _ => rfl, fr := Fr.refl _ _ _, nw := Nw.refl _ _ _ }
    · by_cases h : b < (S 0).h.nx ∨ (S all.size).h.nx ≤ b
      · rcases h with h | h
        · exact .inl h
        · exact .inr (.inl h)
      · have := hf0 b (by omega) (by omega)
        rw [this] at e; cases e
    · have hlt := AH.get_lt hg
      by_cases hb : b < (S 0).h.nx
      · obtain ⟨k0, q1, _, q2, q3⟩ := (T.mon (i := 0) (j := m) (Nat.zero_le _) hm).old b k hb hg
        obtain ⟨r1, r2⟩ := hH.kdOk b k0 L (by rw [← s0]; exact q1) hL
        exact ⟨q2.symm.trans r1, fun h => q3.symm.trans (r2 (q2.trans h))⟩
      · have := (T.mon (i := m) (j := all.size) hm (Nat.le_refl _)).nx
        have := hf0 b (by omega) (by omega)
        rw [this] at hL; cases hL
  · have : ∀ m, un (Array.replicate all.size false) m ≤ m := by
      intro m
      induction m with
      | zero => exact Nat.le_refl _
      | succ m ih =>
        simp only [un]
        split <;> omega
    exact this _

end
end Go.Ri
