/- Ri, part M: writing cells; appending. -/
import Derived.Test.YtlgfjeklmmdhpaaGreatRiL
set_option linter.unusedVariables false
set_option linter.unusedSimpArgs false
namespace Go.Ri

section
variable {P : Program} {w : World} {ι : Em} {B : Nat}

def putRow (w : World) (r : Nat) (c : Array Value) (e : TypeId) (fz : Nat × Nat) : World := { w with heap := w.heap.setIfInBounds r (.cells c e fz) }
theorem putRow_same {r : Nat} {c : Array Value} {e : TypeId} {fz : Nat × Nat} (h : w.heap[r]? = some (.cells c e fz)) (c' : Array Value) : (putRow w r c' e fz).heap[r]? = some (.cells c' e fz) := by
  have := (Array.getElem?_eq_some_iff.1 h).1
  simp [putRow, this]
theorem putRow_ne {r q : Nat} (h : q ≠ r) (c : Array Value) (e : TypeId) (fz : Nat × Nat) : (putRow w r c e fz).heap[q]? = w.heap[q]? := by
  simp [putRow, Array.getElem?_setIfInBounds, Ne.symm h]
theorem putRow_size (r : Nat) (c : Array Value) (e : TypeId) (fz : Nat × Nat) : (putRow w r c e fz).heap.size = w.heap.size := by simp [putRow]
theorem putRow_self {r : Nat} {c : Array Value} {e : TypeId} {fz : Nat × Nat} (h : w.heap[r]? = some (.cells c e fz)) : putRow w r c e fz = w := by
  unfold putRow
  have : w.heap.setIfInBounds r (.cells c e fz) = w.heap := by
    apply Array.ext_getElem?
    intro i
    rw [Array.getElem?_setIfInBounds]
    by_cases hi : r = i
    · subst hi
      have := (Array.getElem?_eq_some_iff.1 h).1
      simp [this, h]
      have h2 := (Array.getElem?_eq_some_iff.1 h).2
      exact h2.symm
    · simp [hi]
  rw [this]
theorem putRow_putRow (r : Nat) (c c' : Array Value) (e : TypeId) (fz : Nat × Nat) : putRow (putRow w r c e fz) r c' e fz = putRow w r c' e fz := by
  simp [putRow]
theorem setCell_put {r o : Nat} {c : Array Value} {e : TypeId} {fz : Nat × Nat} (h : w.heap[r]? = some (.cells c e fz)) (v : Value) : w.setCell ⟨r, o, none⟩ v = putRow w r (c.setIfInBounds o v) e fz := by
  unfold World.setCell putRow
  congr 1
  apply Array.ext_getElem?
  intro i
  rw [Array.getElem?_modify, Array.getElem?_setIfInBounds]
  by_cases hi : r = i
  · subst hi
    have := (Array.getElem?_eq_some_iff.1 h).1
    simp only [if_true, h, Option.map_some, this]
    rfl
  · simp [hi]

theorem one_oneCell {v : Value} (h : one v = true) : v.oneCell' = true := by cases v <;> first | rfl | cases h

theorem run_storeCells (r o : Nat) (e : TypeId) (fz : Nat × Nat) : ∀ (vs : List Value) (i : Nat) (c : Array Value) (w : World), w.heap[r]? = some (.cells c e fz) → (∀ x ∈ vs, one x = true) →
    (vs ≠ [] → o + i + vs.length ≤ c.size) → (∀ q, q < c.size → ¬(fz.1 ≤ q ∧ q < fz.2)) → (storeCells ⟨r, o, none⟩ vs i).run P w = .ok () (putRow w r ⟨setL c.toList (o + i) vs⟩ e fz)
  | [], i, c, w, h, _, _, _ => by
    rw [storeCells]
    simp only [setL, Sem.run_pure]
    rw [show (⟨c.toList⟩ : Array Value) = c from rfl, putRow_self h]
  | v :: vs, i, c, w, h, ho, hl, hz => by
    have hlen := hl (by simp)
    simp only [List.length_cons] at hlen
    have hc : w.cell? ⟨r, o + i, none⟩ = some (c[o + i]'(by omega)) := by
      unfold World.cell?
      simp only [h]
      simp
    have hfz : w.frozen? ⟨r, o + i, none⟩ = false := by
      unfold World.frozen?
      simp only [h]
      have := hz (o + i) (by omega)
      simpa using this
    simp only [storeCells, addr_add, Sem.run_bind]
    rw [run_store P w _ _ _ (one_oneCell (ho v (by simp))), hc]
    simp only [hfz, Bool.false_eq_true, if_false, Result.andThen_ok]
    rw [setCell_put h, run_storeCells r o e fz vs (i + 1) (c.setIfInBounds (o + i) v) _ (putRow_same h _) (fun x hx => ho x (by simp [hx])) (fun _ => by simp; omega) (fun q hq => hz q (by simpa using hq))]
    rw [putRow_putRow]
    simp only [setL, Array.toList_setIfInBounds]
    rfl

theorem wr_spec {H H' : AH} {b o : Nat} {vs : List Value} (h : H.wr b o vs = some H') : ∃ k, H.get b = some k ∧ k.ro = false ∧ o + vs.length ≤ k.cs.length ∧ H' = H.put b { k with cs := setL k.cs o vs } := by
  unfold AH.wr at h
  split at h
  · rename_i k hk
    cases hb : (!k.ro && Nat.ble (o + vs.length) k.cs.length) with
    | false => rw [hb] at h; cases h
    | true =>
      rw [hb] at h; simp only [cond_true, Option.some.injEq] at h
      simp only [Bool.and_eq_true, Bool.not_eq_true'] at hb
      exact ⟨k, hk, hb.1, Nat.le_of_ble_eq_true hb.2, h.symm⟩
  · cases h
theorem get_put_fun (H : AH) (b : Nat) (k : Blk) (hb : b < H.nx) : (H.put b k).get = fun j => if j = b then some k else H.get j := funext fun j => AH.get_put H b k hb j

theorem BR.size {k : Blk} {L : Loc} (h : BR B ι k L w) {c : Array Value} {e : TypeId} {fz : Nat × Nat} (hc : w.heap[L.r]? = some (.cells c e fz)) (hn : k.cs ≠ []) : L.sh + k.cs.length ≤ c.size := by
  obtain ⟨c1, e1, fz1, h1, h2, _⟩ := h
  rw [hc] at h1; cases h1
  have hl : 0 < k.cs.length := List.length_pos_iff.2 hn
  obtain ⟨v', hv, _⟩ := h2 (k.cs.length - 1) (k.cs[k.cs.length - 1]'(by omega)) (List.getElem?_eq_getElem (by omega))
  have := (Array.getElem?_eq_some_iff.1 hv).1
  omega

/-- A row's turn, in both. -/
theorem HR.put {g : Nat → Option Blk} (h : HR B ι g w) {b : Nat} {k : Blk} {L : Loc} (hg : g b = some k) (hro : k.ro = false) (hL : ι b = some L) {c : Array Value} {e : TypeId} {fz : Nat × Nat} (hc : w.heap[L.r]? = some (.cells c e fz))
    (cs' : List Value) (c' : Array Value) (hsz : c'.size = c.size) (ho : ∀ x ∈ cs', one x = true) (hv : ∀ (i : Nat) v, cs'[i]? = some v → ∃ v', c'[L.sh + i]? = some v' ∧ VR ι v v') :
    HR B ι (fun j => if j = b then some { k with cs := cs' } else g j) (putRow w L.r c' e fz) := by
  refine ⟨fun b2 k2 L2 g2 e2 => ?_, fun b1 b2 k1 k2 L1 L2 g1 g2 e1 e2 r1 hr => ?_, by rw [putRow_size]; exact h.le⟩
  · by_cases hb : b2 = b
    · subst hb
      simp only [if_true] at g2; cases g2
      rw [hL] at e2; cases e2
      obtain ⟨c0, e0, fz0, h1, h2, h3, h4, h5, h6, h7⟩ := h.blk b2 k L hg hL
      rw [hc] at h1; cases h1
      exact ⟨c', e, fz, putRow_same hc c', hv, ho, fun hr => ⟨(h4 hr).1, fun q hq => (h4 hr).2 q (by omega)⟩, h5, h6, fun hx => ⟨(h7 hx).1, by have := (h7 hx).2; omega⟩⟩
    · simp only [hb, if_false] at g2
      refine (h.blk b2 k2 L2 g2 e2).mono (Sub.refl ι) (putRow_ne (fun e => ?_) _ _ _)
      exact hb (h.inj b b2 k k2 L L2 hg g2 hL e2 hro e.symm).symm
  · have f : ∀ j kj, (if j = b then some { k with cs := cs' } else g j) = some kj → ∃ kj', g j = some kj' ∧ kj'.ro = kj.ro := by
      intro j kj hj
      by_cases hb : j = b
      · subst hb
        simp only [if_true] at hj; cases hj
        exact ⟨k, hg, rfl⟩
      · simp only [hb, if_false] at hj
        exact ⟨kj, hj, rfl⟩
    obtain ⟨k1', g1', s1⟩ := f b1 k1 g1
    obtain ⟨k2', g2', s2⟩ := f b2 k2 g2
    exact h.inj b1 b2 k1' k2' L1 L2 g1' g2' e1 e2 (s1.trans r1) hr

theorem Post.put {H : AH} (h : HR B ι H.get w) {b : Nat} {k : Blk} {L : Loc} (hg : H.get b = some k) (hro : k.ro = false) (hL : ι b = some L) {c : Array Value} {e : TypeId} {fz : Nat × Nat} (hc : w.heap[L.r]? = some (.cells c e fz))
    (cs' : List Value) (c' : Array Value) (hsz : c'.size = c.size) (ho : ∀ x ∈ cs', one x = true) (hv : ∀ (i : Nat) v, cs'[i]? = some v → ∃ v', c'[L.sh + i]? = some v' ∧ VR ι v v') :
    Post B ι ι H (H.put b { k with cs := cs' }) w (putRow w L.r c' e fz) ∧ Mon H (H.put b { k with cs := cs' }) := by
  have hlt := AH.get_lt hg
  refine ⟨⟨fun _ _ => rfl, ?_, ⟨rfl, rfl, rfl, by rw [putRow_size]; exact Nat.le_refl _, fun r hr hn => putRow_ne (fun e => hn ⟨b, k, L, hg, hro, hL, e.symm⟩) _ _ _⟩, Nw.refl _ _ _⟩, ⟨Nat.le_refl _, fun j kj hj hgj => ?_⟩⟩
  · rw [get_put_fun H b _ hlt]; exact h.put hg hro hL hc cs' c' hsz ho hv
  · rw [AH.get_put H b _ hlt] at hgj
    by_cases hb : j = b
    · subst hb
      simp only [if_true] at hgj; cases hgj
      exact ⟨k, hg, rfl, rfl, rfl⟩
    · simp only [hb, if_false] at hgj
      exact ⟨kj, hgj, rfl, rfl, rfl⟩

theorem write_sound {H H' : AH} {b o : Nat} {vs vs' : List Value} (hw : H.wr b o vs = some H') {L : Loc} (hL : ι b = some L) (hv : LR ι vs vs') (ho : ∀ x ∈ vs, one x = true) (h : HR B ι H.get w) :
    ∃ w', (storeCells ⟨L.r, o + L.sh, none⟩ vs').run P w = .ok () w' ∧ Post B ι ι H H' w w' ∧ Mon H H' := by
  obtain ⟨k, hk, hro, hle, rfl⟩ := wr_spec hw
  have hbr := h.blk b k L hk hL
  obtain ⟨c, e, fz, h1, h2, h3, h4, h5, h6, h7⟩ := hbr
  have hsz : k.cs ≠ [] → L.sh + k.cs.length ≤ c.size := fun hn => (h.blk b k L hk hL).size h1 hn
  have hone' : ∀ x ∈ vs', one x = true := fun x hx => by
    obtain ⟨i, hi⟩ := List.mem_iff_getElem?.1 hx
    have hlt : i < vs.length := by rw [hv.1]; exact (List.getElem?_eq_some_iff.1 hi).1
    have := hv.2 i _ x (List.getElem?_eq_getElem hlt) hi
    rw [← this.one]; exact ho _ (List.getElem_mem hlt)
  have hfit : vs' ≠ [] → o + L.sh + 0 + vs'.length ≤ c.size := fun hn => by
    have : k.cs ≠ [] := fun e => by
      rw [e] at hle
      have : vs.length = 0 := by simp only [List.length_nil] at hle; omega
      apply hn; apply List.eq_nil_of_length_eq_zero; rw [← hv.1]; exact this
    have := hsz this
    rw [← hv.1]; omega
  refine ⟨_, run_storeCells L.r (o + L.sh) e fz vs' 0 c w h1 hone' hfit (h4 hro).2, Post.put h hk hro hL h1 _ _ (by simp [setL_length]) (all_setL vs k.cs o h3 ho) (fun i v hi => ?_)⟩
  rw [setL_get vs k.cs o i hle] at hi
  have hg : ∀ j, (Array.mk (setL c.toList (o + L.sh + 0) vs'))[L.sh + j]? = if o ≤ j ∧ j < o + vs.length then vs'[j - o]? else c[L.sh + j]? := by
    intro j
    by_cases hn : vs' = []
    · subst hn
      have : vs.length = 0 := hv.1
      rw [if_neg (by omega)]
      simp [setL]
    · have := hfit hn
      rw [← Array.getElem?_toList]
      rw [setL_get vs' c.toList _ _ (by simpa using this)]
      by_cases hj : o ≤ j ∧ j < o + vs.length
      · rw [if_pos hj, if_pos (by rw [← hv.1]; omega)]
        congr 1; omega
      · rw [if_neg hj, if_neg (by rw [← hv.1]; omega)]
        simp
  rw [hg i]
  by_cases hj : o ≤ i ∧ i < o + vs.length
  · rw [if_pos hj] at hi ⊢
    obtain ⟨y, hy, hvy⟩ := hv.get hi
    exact ⟨y, hy, hvy⟩
  · rw [if_neg hj] at hi ⊢
    exact h2 i v hi

end
end Go.Ri
