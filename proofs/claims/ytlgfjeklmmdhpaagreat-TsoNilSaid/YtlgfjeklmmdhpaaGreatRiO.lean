/- Ri, part O: append, whole. -/
import Derived.Test.YtlgfjeklmmdhpaaGreatRiN
set_option linter.unusedVariables false
set_option linter.unusedSimpArgs false
namespace Go.Ri

section
variable {P : Program} {w : World} {ι : Em} {B : Nat}

theorem HR.subset {g g' : Nat → Option Blk} (h : HR B ι g w) (hs : ∀ b k, g' b = some k → g b = some k) : HR B ι g' w :=
  ⟨fun b k L hg hL => h.blk b k L (hs _ _ hg) hL, fun b b' k k' L L' g1 g2 e1 e2 r hr => h.inj b b' k k' L L' (hs _ _ g1) (hs _ _ g2) e1 e2 r hr, h.le⟩
theorem del_sub (H : AH) (b : Nat) : ∀ j k, (H.del b).get j = some k → H.get j = some k := fun j k h => by
  rw [AH.get_del] at h
  by_cases e : j = b
  · rw [if_pos e] at h; cases h
  · rw [if_neg e] at h; exact h
theorem Mon.del (H : AH) (b : Nat) : Mon H (H.del b) := ⟨Nat.le_refl _, fun j k _ h => ⟨k, del_sub H b j k h, rfl, rfl, rfl⟩⟩
theorem Mon.delnew (H : AH) (b : Nat) (d : Bool) (k : Blk) : Mon H ((cond d (H.del b) H).new k) := by
  cases d with
  | true => exact (Mon.del H b).trans (Mon.new _ _)
  | false => exact Mon.new _ _

/-- What an append does in the model: in its own room, or anew. -/
structure RA (P : Program) (w : World) (a : Option Addr) (n c m sz bytes : Nat) (new : List Value) (z : Value) (e : TypeId) (S : Sem Value) : Prop where
  fit0 : n + m ≤ c → a = none → S.run P w = .ok (.slice none (n + m) c) w
  fit1 : n + m ≤ c → ∀ ad w', a = some ad → (storeCells (ad.add (n * sz)) new).run P w = .ok () w' → S.run P w = .ok (.slice (some ad) (n + m) c) w'
  more : ¬ n + m ≤ c → (n + m) * bytes ≤ 70368744177664 → 1 ≤ bytes → ∀ old, (Builtin.firstCells sz n (.slice a n c)).run P w.drew = .ok old w.drew →
    ∃ nc, n + m ≤ nc ∧ S.run P w = .ok (.slice (some ⟨w.heap.size, 0, none⟩) (n + m) nc) (w.drew.alloc (.cells (old ++ new.toArray ++ Builtin.zeroCells z.cells (nc - (n + m))) e))

theorem row_drew {r o : Nat} {l : List Value} (h : Row w r o l) : Row w.drew r o l := fun i v hv => by rw [World.cell?_drew]; exact h i v hv

theorem Post.drewnew {H H0 : AH} (h : HR B ι H.get w) (hs : ∀ j k, H0.get j = some k → H.get j = some k) (hnx : H0.nx = H.nx) (hb : ι H.nx = none) (k : Blk) (c : Array Value) (e : TypeId) (lim es : Nat)
    (hc : ∀ (i : Nat) v, k.cs[i]? = some v → ∃ v', c[i]? = some v' ∧ VR ι v v') (ho : ∀ v ∈ k.cs, one v = true) (hro : k.ro = false) (hx : k.ext = true → k.es = es ∧ lim ≤ c.size) :
    Post B ι (upE ι H.nx ⟨w.heap.size, 0, lim, es, k.ext⟩) H (H0.new k) w (w.drew.alloc (.cells c e)) := by
  have h0 : HR B ι H0.get w.drew := (h.subset hs).drew
  have hb0 : ι H0.nx = none := by rw [hnx]; exact hb
  refine ⟨fun b hx => ?_, ?_, ⟨rfl, rfl, rfl, by simp, fun r hr _ => heap_old w.drew _ hr⟩, fun b L hL => ?_⟩
  · simp only [AH.new, hnx] at hx
    exact upE_ne _ _ (by omega)
  · rw [get_new_fun, hnx]
    have := h0.new H.nx hb k c e lim es hc ho hro hx
    simpa using this
  · by_cases hbb : b = H.nx
    · subst hbb
      rw [upE_same] at hL; cases hL
      exact .inr ⟨hb, .inl (Nat.le_refl _)⟩
    · rw [upE_ne _ _ hbb] at hL; exact .inl hL

theorem app_sound {H H' : AH} {a a' : Option Addr} {n c c' m sz bytes : Nat} {new new' : List Value} {z : Value} {zs : List Value} {e : TypeId} {S : Sem Value} {v : Value} (hz : z.cells.toList = zs) (hzs : zs.length = sz)
    (hA : evA.appA sz bytes H a n c m new = some (v, H')) (hv : VR ι (.slice a n c) (.slice a' n c')) (hn : LR ι new new') (ho : ∀ x ∈ new, one x = true) (hlen : new.length = m * sz) (hR : RA P w a' n c' m sz bytes new' z e S)
    (h : HR B ι H.get w) (hf : ∀ b, H.nx ≤ b → b < H'.nx → ι b = none) : Mon H H' ∧ ∃ v' w' ι', S.run P w = .ok v' w' ∧ Post B ι ι' H H' w w' ∧ VR ι' v v' := by
  unfold evA.appA at hA
  cases hb : Nat.ble (n + m) c with
  | true =>
    rw [hb] at hA; simp only [cond_true] at hA
    have hfit := Nat.le_of_ble_eq_true hb
    cases hv with
    | sl0 =>
      simp only at hA
      cases hm : Nat.beq m 0 with
      | false => rw [hm] at hA; cases hA
      | true =>
        rw [hm] at hA; simp only [cond_true, Option.some.injEq, Prod.mk.injEq] at hA
        obtain ⟨rfl, rfl⟩ := hA
        have hm0 := Nat.eq_of_beq_eq_true hm
        subst hm0
        exact ⟨Mon.refl _, _, w, ι, hR.fit0 hfit rfl, Post.refl h, .sl0⟩
    | sl b o _ _ o' _ L hL hnc hcc hx hl hoo =>
      simp only at hA
      cases hm : Nat.beq m 0 with
      | true =>
        rw [hm] at hA; simp only [cond_true, Option.some.injEq, Prod.mk.injEq] at hA
        obtain ⟨rfl, rfl⟩ := hA
        have hm0 := Nat.eq_of_beq_eq_true hm
        subst hm0
        have : new = [] := List.eq_nil_of_length_eq_zero (by rw [hlen, Nat.zero_mul])
        subst this
        have := hn.nil_inv
        subst this
        exact ⟨Mon.refl _, _, w, ι, hR.fit1 (by omega) _ w rfl (by simp [storeCells]), Post.refl h, .sl b o n c o' c' L hL hnc hcc hx hl hoo⟩
      | false =>
        rw [hm] at hA; simp only [cond_false] at hA
        split at hA
        · rename_i H1 hw
          simp only [Option.some.injEq, Prod.mk.injEq] at hA
          obtain ⟨rfl, rfl⟩ := hA
          have hm1 : m ≠ 0 := fun e => by rw [beqT e] at hm; cases hm
          have ho' := hoo (by omega)
          obtain ⟨w', g1, g2, g3⟩ := write_sound (P := P) hw hL hn ho h
          refine ⟨g3, _, w', ι, hR.fit1 (by omega) _ w' rfl (by rw [addr_add, ho', show o + L.sh + n * sz = o + n * sz + L.sh from by omega]; exact g1), g2, .sl b o (n + m) c o' c' L hL hfit hcc hx hl hoo⟩
        · cases hA
  | false =>
    rw [hb] at hA; simp only [cond_false] at hA
    have hnf : ¬ n + m ≤ c := fun hh => by rw [Nat.ble_eq_true_of_le hh] at hb; cases hb
    cases hq : (Nat.ble ((n + m) * bytes) 70368744177664 && Nat.ble 1 bytes && Nat.ble 1 sz) with
    | false => rw [hq] at hA; cases hA
    | true =>
      rw [hq] at hA; simp only [cond_true] at hA
      simp only [Bool.and_eq_true] at hq
      have q1 := Nat.le_of_ble_eq_true hq.1.1
      have q2 := Nat.le_of_ble_eq_true hq.1.2
      have q3 := Nat.le_of_ble_eq_true hq.2
      cases hv with
      | sl0 =>
        simp only [Nat.beq_refl, cond_true, Option.some.injEq, Prod.mk.injEq] at hA
        obtain ⟨rfl, rfl⟩ := hA
        obtain ⟨nc, hnc, hrun⟩ := hR.more hnf q1 q2 #[] (by simp [Builtin.firstCells])
        have hbn : ι H.nx = none := hf H.nx (Nat.le_refl _) (by simp [AH.new])
        refine ⟨Mon.new _ _, _, _, upE ι H.nx ⟨w.heap.size, 0, nc * sz, sz, true⟩, hrun, Post.drewnew h (fun _ _ h => h) rfl hbn { cs := new, ext := true, es := sz } _ e (nc * sz) sz (fun i v hi => ?_) ho rfl (fun _ => ⟨rfl, ?_⟩), ?_⟩
        · obtain ⟨y, hy, hvy⟩ := hn.get hi
          refine ⟨y, ?_, hvy⟩
          have : i < new'.length := (List.getElem?_eq_some_iff.1 hy).1
          rw [← Array.getElem?_toList]
          simp only [Array.toList_append, List.nil_append]
          rw [List.getElem?_append_left this]; exact hy
        · simp only [Array.size_append, size_zeroCells, List.size_toArray, Array.size_empty, Nat.zero_add]
          have hzc : z.cells.size = sz := by rw [← Array.length_toList, hz, hzs]
          rw [hzc, ← hn.1, hlen, List.length_nil, Nat.zero_add, ← Nat.add_mul]
          exact Nat.mul_le_mul_right _ (by omega)
        · rw [Nat.zero_add]
          rw [Nat.zero_add] at hnc
          exact .sl H.nx 0 m m 0 nc ⟨w.heap.size, 0, nc * sz, sz, true⟩ (upE_same _ _ _) (Nat.le_refl _) (by omega) (fun h => by cases h) (fun _ => by simp) (fun _ => rfl)
      | sl b o _ _ o' _ L hL hnc hcc hx hl hoo =>
        simp only at hA
        split at hA
        · rename_i k hk
          split at hA
          · rename_i old hold
            cases hxx : (!k.ext || (Nat.beq k.es sz && !k.ro)) with
            | false => rw [hxx] at hA; cases hA
            | true =>
              rw [hxx] at hA; simp only [cond_true, Option.some.injEq, Prod.mk.injEq] at hA
              obtain ⟨rfl, rfl⟩ := hA
              have hbr := h.blk b k L hk hL
              obtain ⟨l', g1, g2, g3⟩ := hbr.row hold
              obtain ⟨ca, ea, fz, b1, b2, b3, b4, b5, b6, b7⟩ := hbr
              have holdlen := (rdL_spec hold).2.1
              have hbn : ι H.nx = none := hf H.nx (Nat.le_refl _) (by cases k.ext <;> simp [AH.new, AH.del])
              have hone : ∀ x ∈ old ++ new, one x = true := fun x hx => by
                rcases List.mem_append.1 hx with hx | hx
                · exact g2 x hx
                · exact ho x hx
              have hrow : Row w L.r o' l' := by
                by_cases hn0 : n = 0
                · have : old = [] := List.eq_nil_of_length_eq_zero (by rw [holdlen, hn0, Nat.zero_mul])
                  subst this
                  rw [g1.nil_inv]
                  intro i v hv; simp at hv
                · rw [hoo (by omega)]; exact g3
              have hfirst : (Builtin.firstCells sz n (.slice (some ⟨L.r, o', none⟩) n c')).run P w.drew = .ok l'.toArray w.drew := by
                have := run_loadCells (P := P) (w := w.drew) L.r o' l' (row_drew hrow)
                rw [← g1.1, holdlen] at this
                simpa [Builtin.firstCells] using this
              by_cases hrf : n + m ≤ c'
              · have hLe : L.ext = true := by
                  cases he : L.ext with
                  | true => rfl
                  | false => have := hx he; omega
                have hke : k.ext = true := by rw [b6]; exact hLe
                rw [hke] at hxx
                simp only [Bool.not_true, Bool.false_or, Bool.and_eq_true, Bool.not_eq_true'] at hxx
                have hes := Nat.eq_of_beq_eq_true hxx.1
                have hro := hxx.2
                obtain ⟨b7a, b7b⟩ := b7 hke
                have hLes : L.es = sz := by rw [← b7a]; exact hes
                have hlim := hl hLe
                rw [hLes] at hlim
                have hroom : o' + n * sz + m * sz ≤ ca.size := by
                  have : (n + m) * sz ≤ c' * sz := Nat.mul_le_mul_right _ hrf
                  rw [Nat.add_mul] at this; omega
                have hone' : ∀ x ∈ new', one x = true := fun x hx => by
                  obtain ⟨i, hi⟩ := List.mem_iff_getElem?.1 hx
                  have hlt : i < new.length := by rw [hn.1]; exact (List.getElem?_eq_some_iff.1 hi).1
                  have := hn.2 i _ x (List.getElem?_eq_getElem hlt) hi
                  rw [← this.one]; exact ho _ (List.getElem_mem hlt)
                have hst := run_storeCells (P := P) L.r (o' + n * sz) ea fz new' 0 ca w b1 hone' (fun _ => by rw [← hn.1, hlen]; omega) (b4 hro).2
                have hrun := hR.fit1 hrf _ _ rfl (by rw [addr_add]; exact hst)
                rw [hke]
                simp only [cond_true]
                have hL' : (b : Nat) ≠ H.nx := fun e => by have := AH.get_lt hk; omega
                refine ⟨(Mon.del H b).trans (Mon.new _ _), _, _, upE ι H.nx ⟨L.r, o', L.lim, sz, true⟩, hrun, ⟨fun j hj => ?_, ?_, ⟨rfl, rfl, rfl, by rw [putRow_size]; exact Nat.le_refl _, fun r hr hnI => putRow_ne (fun e => hnI ⟨b, k, L, hk, hro, hL, e.symm⟩) _ _ _⟩, fun j M hM => ?_⟩, ?_⟩
                · simp only [AH.new, AH.del] at hj
                  exact upE_ne _ _ (by omega)
                · have hsub : Sub ι (upE ι H.nx ⟨L.r, o', L.lim, sz, true⟩) := upE_sub _ hbn
                  have hget : ∀ j, ((H.del b).new { cs := old ++ new, ext := true, es := sz }).get j = if j = H.nx then some { cs := old ++ new, ext := true, es := sz } else if j = b then none else H.get j := fun j => by
                    rw [AH.get_new, AH.get_del]; rfl
                  refine ⟨fun j kj M hgj hM => ?_, fun j1 j2 k1 k2 M1 M2 e1 e2 m1 m2 r1 hr => ?_, by rw [putRow_size]; exact h.le⟩
                  · rw [hget] at hgj
                    by_cases hj : j = H.nx
                    · subst hj
                      rw [upE_same] at hM; cases hM
                      simp only [if_true] at hgj; cases hgj
                      refine ⟨_, ea, fz, putRow_same b1 _, fun i v hi => ?_, hone, fun _ => ⟨(b4 hro).1, fun q hq => (b4 hro).2 q (by simpa [setL_length] using hq)⟩, fun hr => (by simp at hr), rfl, fun _ => ⟨rfl, by simpa [setL_length] using b7b⟩⟩
                      dsimp only
                      rw [← Array.getElem?_toList, setL_get _ _ _ _ (by rw [← hn.1, hlen]; simp; omega)]
                      by_cases hi2 : i < n * sz
                      · rw [List.getElem?_append_left (by rw [holdlen]; exact hi2)] at hi
                        rw [if_neg (by omega)]
                        obtain ⟨y, hy, hvy⟩ := g1.get hi
                        have hc := hrow i y hy
                        unfold World.cell? at hc
                        simp only [b1] at hc
                        exact ⟨y, by simpa using hc, hvy.mono hsub⟩
                      · rw [List.getElem?_append_right (by rw [holdlen]; omega), holdlen] at hi
                        obtain ⟨y, hy, hvy⟩ := hn.get hi
                        have hlt := (List.getElem?_eq_some_iff.1 hy).1
                        rw [if_pos (by omega)]
                        refine ⟨y, ?_, hvy.mono hsub⟩
                        rw [← hy]; congr 1; omega
                    · rw [if_neg hj] at hgj
                      rw [upE_ne _ _ hj] at hM
                      by_cases hjb : j = b
                      · rw [if_pos hjb] at hgj; cases hgj
                      · rw [if_neg hjb] at hgj
                        refine (h.blk j kj M hgj hM).mono hsub (putRow_ne (fun e => ?_) _ _ _)
                        exact hjb (h.inj b j k kj L M hk hgj hL hM hro e.symm).symm
                  · rw [hget] at e1 e2
                    by_cases h1 : j1 = H.nx
                    · by_cases h2 : j2 = H.nx
                      · rw [h1, h2]
                      · subst h1
                        rw [upE_same] at m1; cases m1
                        rw [if_neg h2] at e2
                        rw [upE_ne _ _ h2] at m2
                        by_cases h2b : j2 = b
                        · rw [if_pos h2b] at e2; cases e2
                        · rw [if_neg h2b] at e2
                          exact absurd (h.inj b j2 k k2 L M2 hk e2 hL m2 hro hr).symm h2b
                    · rw [if_neg h1] at e1
                      rw [upE_ne _ _ h1] at m1
                      by_cases h1b : j1 = b
                      · rw [if_pos h1b] at e1; cases e1
                      · rw [if_neg h1b] at e1
                        by_cases h2 : j2 = H.nx
                        · subst h2
                          rw [upE_same] at m2; cases m2
                          exact absurd (h.inj j1 b k1 k M1 L e1 hk m1 hL r1 hr) h1b
                        · rw [if_neg h2] at e2
                          rw [upE_ne _ _ h2] at m2
                          by_cases h2b : j2 = b
                          · rw [if_pos h2b] at e2; cases e2
                          · rw [if_neg h2b] at e2
                            exact h.inj j1 j2 k1 k2 M1 M2 e1 e2 m1 m2 r1 hr
                · by_cases hj : j = H.nx
                  · subst hj
                    rw [upE_same] at hM; cases hM
                    exact .inr ⟨hbn, .inr ⟨b, k, L, hk, hro, hL, rfl⟩⟩
                  · rw [upE_ne _ _ hj] at hM; exact .inl hM
                · exact .sl H.nx 0 (n + m) (n + m) o' c' ⟨L.r, o', L.lim, sz, true⟩ (upE_same _ _ _) (Nat.le_refl _) hrf (fun h => by cases h) (fun _ => by simpa using hlim) (fun _ => by simp)
              · obtain ⟨nc, hnc2, hrun⟩ := hR.more hrf q1 q2 l'.toArray hfirst
                refine ⟨Mon.delnew H b k.ext _, _, _, upE ι H.nx ⟨w.heap.size, 0, nc * sz, sz, true⟩, hrun, Post.drewnew h (H0 := cond k.ext (H.del b) H) (fun j kj hj => ?_) (by cases k.ext <;> rfl) hbn { cs := old ++ new, ext := true, es := sz } _ e (nc * sz) sz (fun i v hi => ?_) hone rfl (fun _ => ⟨rfl, ?_⟩), ?_⟩
                · cases hke : k.ext with
                  | true => rw [hke] at hj; exact del_sub H b j kj hj
                  | false => rw [hke] at hj; exact hj
                · obtain ⟨y, hy, hvy⟩ := (g1.append hn).get hi
                  refine ⟨y, ?_, hvy⟩
                  have : i < (l' ++ new').length := (List.getElem?_eq_some_iff.1 hy).1
                  rw [← Array.getElem?_toList]
                  simp only [Array.toList_append]
                  rw [List.getElem?_append_left this]; exact hy
                · simp only [Array.size_append, size_zeroCells, List.size_toArray]
                  have hzc : z.cells.size = sz := by rw [← Array.length_toList, hz, hzs]
                  rw [hzc, ← hn.1, hlen, ← g1.1, holdlen, ← Nat.add_mul, ← Nat.add_mul]
                  exact Nat.mul_le_mul_right _ (by omega)
                · exact .sl H.nx 0 (n + m) (n + m) 0 nc ⟨w.heap.size, 0, nc * sz, sz, true⟩ (upE_same _ _ _) (Nat.le_refl _) hnc2 (fun h => by cases h) (fun _ => by simp) (fun _ => rfl)
          · cases hA
        · cases hA

end
end Go.Ri
