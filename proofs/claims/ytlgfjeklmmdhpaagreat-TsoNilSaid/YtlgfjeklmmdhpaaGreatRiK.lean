/- Ri, part K: the other light operations; all of them together. -/
import Derived.Test.YtlgfjeklmmdhpaaGreatRiJ
set_option linter.unusedVariables false
set_option linter.unusedSimpArgs false
namespace Go.Ri

section
variable {P : Program} {w : World} {ι : Em} {nt : Nat} {t : Tm} {a : Act} {H H' : AH} {v : Value}

theorem mkZeros (z : Value) (zs : List Value) (h : z.cells.toList = zs) (n sz : Nat) (hs : zs.length = sz) :
    (Array.range (n * sz)).map (fun i => z.cells[i % z.cells.size]!) = ⟨(List.replicate n zs).flatten⟩ := by
  apply Array.ext'; rw [rep_cells z.cells zs h n sz hs]
theorem wrap_ofNat {c : Nat} (h : c ≤ 9223372036854775807) : IntKind.i64.wrap (Int.ofNat c) = Int.ofNat c := by
  have : IntKind.i64.wrap (Int.ofNat c) = (if decide (Int.ofNat c % 18446744073709551616 ≥ 9223372036854775808) = true then Int.ofNat c % 18446744073709551616 - 18446744073709551616 else Int.ofNat c % 18446744073709551616) := rfl
  rw [this]
  have h1 : Int.ofNat c % 18446744073709551616 = Int.ofNat c := by simp; omega
  rw [h1, if_neg (by simp; omega)]

theorem run_makeSlice {ty e : TypeId} {i : TypeInfo} {z : Value} {zs : List Value} (hu : P.underlying ty = some (.slice e)) (hi : P.info? e = some i) (hz : i.zero = some z) (hzs : z.cells.toList = zs) (hs : zs.length = i.size)
    {k k' : IntKind} {l c : Nat} (h1 : l ≤ c) (h2 : c * i.bytes ≤ 281474976710656) (h3 : c ≤ 9223372036854775807) :
    (Instr.makeSlice ty (.int k (Int.ofNat l)) (.int k' (Int.ofNat c))).run P w = .ok (.slice (some ⟨w.heap.size, 0, none⟩) l c) (w.alloc (.cells ⟨(List.replicate c zs).flatten⟩ e)) := by
  have w1 := wrap_ofNat h3
  have w2 : IntKind.i64.wrap (Int.ofNat l) = Int.ofNat l := wrap_ofNat (by omega)
  have e1 : (decide (Int.ofNat c < 0) || decide ((i.bytes : Int) * Int.ofNat c > 2 ^ 48)) = false := by
    have : (i.bytes : Int) * Int.ofNat c ≤ 2 ^ 48 := by
      have : (i.bytes : Int) * Int.ofNat c = ((c * i.bytes : Nat) : Int) := by simp [Int.mul_comm]
      rw [this]; omega
    simp at this ⊢; exact this
  have e2 : decide (Int.ofNat l < 0) = false := by simp
  have e3 : decide (Int.ofNat l > Int.ofNat c) = false := by simp; omega
  simp only [Instr.makeSlice, Sem.run_bind, run_under hu, Result.andThen_ok, asInt, asIntOf, Sem.run_pure, run_info hi, w1, w2, e1, e2, e3, Bool.false_or, Bool.or_self, Bool.false_eq_true, if_false, Sem.run_ite, run_askRoom, run_size hi]
  have e4 : (Int.ofNat c).toNat = c := rfl
  have e5 : (Int.ofNat l).toNat = l := rfl
  rw [e4, e5]
  by_cases h0 : c * i.size = 0
  · simp only [h0, if_true, Result.andThen_ok, run_newRow, Sem.run_pure]
    have : (List.replicate c zs).flatten = [] := by
      apply List.eq_nil_of_length_eq_zero
      simp [List.length_flatten, hs, h0]
    rw [this]
    have h9 : (Array.map (fun (x : Nat) => (#[] : Array Value)[x % (#[] : Array Value).size]!) (Array.range 0)) = ⟨[]⟩ := by apply Array.ext'; simp
    rw [h9]
  · simp only [h0, if_false, Sem.run_bind, run_zero hi hz, Result.andThen_ok, Sem.run_pure, run_newRow]
    rw [mkZeros z zs hzs c i.size hs]

theorem light_makeSlice {o : Oper} {ty : TypeId} {x y : Operand} {ao : AOp} (ho : o.op = .makeSlice ty x y) (hc : cOp P nt (.makeSlice ty x y) = some ao) (he : evA ao t H = some (v, H')) (hT : TV ι t a (tmpsA ao)) : LightOk P ι a t H H' v w o := by
  simp only [cOp] at hc
  split at hc
  · rename_i e hu
    split at hc
    · rename_i i zs x' y' hi hz hx hy
      simp only [Option.some.injEq] at hc; subst hc
      have v1 := opd_VR hx hT.left
      have v2 := opd_VR hy hT.right
      obtain ⟨i', z, h1, h2, h3, h4, h5⟩ := cZero_spec hz
      rw [hi] at h1; cases h1
      simp only [evA] at he
      generalize ev t x' = p at *
      generalize ev t y' = q at *
      generalize hax : a.eval x = p' at v1
      generalize hay : a.eval y = q' at v2
      split at he
      · rename_i k l k' c
        cases hb : (Nat.ble l c && Nat.ble (c * i.bytes) 281474976710656 && Nat.ble c 9223372036854775807 && Nat.beq zs.length i.size) with
        | false => rw [hb] at he; cases he
        | true =>
          rw [hb] at he; simp only [cond_true, Option.some.injEq, Prod.mk.injEq] at he
          obtain ⟨rfl, rfl⟩ := he
          simp only [Bool.and_eq_true] at hb
          have b1 := Nat.le_of_ble_eq_true hb.1.1.1
          have b2 := Nat.le_of_ble_eq_true hb.1.1.2
          have b3 := Nat.le_of_ble_eq_true hb.1.2
          cases v1; cases v2
          have hfl : ∀ x ∈ (List.replicate c zs).flatten, flat x = true := by
            intro x hx
            obtain ⟨l, hl, hx⟩ := List.mem_flatten.1 hx
            rw [(List.mem_replicate.1 hl).2] at hx
            exact h4 x hx
          refine ⟨.slice (some ⟨w.heap.size, 0, none⟩) l c, _, ?_, .inr ⟨{ cs := (List.replicate c zs).flatten }, ⟨(List.replicate c zs).flatten⟩, e, rfl, rfl, rfl, rfl, flat_LR hfl, fun x hx => flat_one (hfl x hx), fun ι' hi' => ?_⟩⟩
          · simp only [execOp, ho, hax, hay]
            exact run_v (run_makeSlice hu hi h2 h3 h5 b1 b2 b3)
          · exact .sl H.nx 0 l c 0 c _ hi' b1 (Nat.le_refl _) (fun _ => rfl) (fun h => by cases h) (fun _ => rfl)
      · cases he
    · cases hc
  · cases hc

theorem light_slice {o : Oper} {ty : TypeId} {x : Operand} {lo hi mx : Option Operand} {ao : AOp} (ho : o.op = .slice ty x lo hi mx) (hc : cOp P nt (.slice ty x lo hi mx) = some ao) (he : evA ao t H = some (v, H')) (hT : TV ι t a (tmpsA ao))
    (hk : KdOk ι H) : LightOk P ι a t H H' v w o := by
  simp only [cOp] at hc
  split at hc
  · rename_i e x' lo' hi' mx' hu hx hlo hhi hmx
    split at hc
    · rename_i i hii
      simp only [Option.some.injEq] at hc; subst hc
      have v1 := opd_VR hx hT.left
      simp only [evA] at he
      split at he
      · rename_i l1 h1 m1 e1 e2 e3
        have r1 := opdO_IR hlo e1 hT.right.left
        have r2 := opdO_IR hhi e2 hT.right.right.left
        have r3 := opdO_IR hmx e3 hT.right.right.right
        generalize ev t x' = p at *
        generalize hax : a.eval x = p' at v1
        split at he
        · rename_i ad n c
          split at he
          · rename_i l h m hb
            split at he
            · simp only [Option.some.injEq, Prod.mk.injEq] at he
              obtain ⟨rfl, rfl⟩ := he
              cases v1
              obtain ⟨m', g1, g2, g3, g4, g5, g6, g7⟩ := run_bounds (P := P) (w := w) true hb r1 r2 r3 (Nat.le_refl _) (Nat.le_refl _)
              have : m' = m := g7 rfl
              subst this
              refine ⟨.slice (if m' = l then (none : Option Addr) else Option.map (fun (q : Addr) => q.add (l * i.size)) none) (h - l) (m' - l), w, ?_, LS.pure ?_⟩
              · simp only [execOp, ho, hax]
                exact run_v (run_slice_slice hu hii g1)
              · have e1 : h - l = 0 := by omega
                have e2 : m' - l = 0 := by omega
                rw [e1, e2]
                have e3 : (if m' = l then (none : Option Addr) else Option.map (fun (q : Addr) => q.add (l * i.size)) none) = none := by split <;> rfl
                rw [e3]; exact .sl0
            · rename_i b q
              split at he
              · rename_i k hkk
                cases hx2 : (!k.ext || Nat.beq k.es i.size) with
                | false => rw [hx2] at he; cases he
                | true =>
                  rw [hx2] at he; simp only [cond_true, Option.some.injEq, Prod.mk.injEq] at he
                  obtain ⟨rfl, rfl⟩ := he
                  cases v1 with
                  | sl _ _ _ _ o' c' L hL hn hcc hxx hll hoo =>
                    obtain ⟨k1, k2⟩ := hk b k L hkk hL
                    obtain ⟨m', g1, g2, g3, g4, g5, g6, g7⟩ := run_bounds (P := P) (w := w) true hb r1 r2 r3 hcc hn
                    refine ⟨_, w, ?_, LS.pure (slice_VR hL hn hcc hxx hll hoo (fun hle => ?_) g2 g3 g4 g5 g6 g7)⟩
                    · simp only [execOp, ho, hax]
                      refine run_v ?_
                      rw [run_slice_slice hu hii g1]
                      congr 2
                      split <;> rfl
                    · have hke : k.ext = true := by rw [k1]; exact hle
                      rw [hke] at hx2
                      simp only [Bool.not_true, Bool.false_or] at hx2
                      rw [← k2 hke]; exact Nat.eq_of_beq_eq_true hx2
              · cases he
            · cases he
          · cases he
        · cases he
      · cases he
    · cases hc
  · rename_i x' lo' hi' hu hx hlo hhi hmx
    simp only [Option.some.injEq] at hc; subst hc
    have v1 := opd_VR hx hT.left
    simp only [evA] at he
    have hmx' : mx = none := by
      cases mx with
      | none => rfl
      | some z =>
        simp only [cOpdO] at hmx
        split at hmx <;> cases hmx
    subst hmx'
    split at he
    · rename_i l1 h1 e1 e2
      have r1 := opdO_IR hlo e1 hT.right.left
      have r2 := opdO_IR hhi e2 hT.right.right
      generalize ev t x' = p at *
      generalize hax : a.eval x = p' at v1
      split at he
      · split at he
        · rename_i l h m hb
          simp only [Option.some.injEq, Prod.mk.injEq] at he
          obtain ⟨rfl, rfl⟩ := he
          cases v1
          obtain ⟨m', g1, _⟩ := run_bounds (P := P) (w := w) (mx' := none) false hb r1 r2 trivial (Nat.le_refl _) (Nat.le_refl _)
          exact ⟨_, w, by simp only [execOp, ho, hax]; exact run_v (run_slice_string hu g1), LS.pure (.string _)⟩
        · cases he
      · cases he
    · cases he
  · rename_i n e x' lo' hi' mx' hu hx hlo hhi hmx
    split at hc
    · rename_i i hii
      simp only [Option.some.injEq] at hc; subst hc
      have v1 := opd_VR hx hT.left
      simp only [evA] at he
      split at he
      · rename_i l1 h1 m1 e1 e2 e3
        have r1 := opdO_IR hlo e1 hT.right.left
        have r2 := opdO_IR hhi e2 hT.right.right.left
        have r3 := opdO_IR hmx e3 hT.right.right.right
        generalize ev t x' = p at *
        generalize hax : a.eval x = p' at v1
        split at he
        · rename_i b q
          split at he
          · rename_i l h m hb
            split at he
            · rename_i k hkk
              cases hx2 : (!k.ext) with
              | false => rw [hx2] at he; cases he
              | true =>
                rw [hx2] at he; simp only [cond_true, Option.some.injEq, Prod.mk.injEq] at he
                obtain ⟨rfl, rfl⟩ := he
                cases v1 with
                | ptr _ _ L hL =>
                  obtain ⟨k1, k2⟩ := hk b k L hkk hL
                  have hLe : L.ext = false := by rw [← k1]; simpa using hx2
                  obtain ⟨m', g1, g2, g3, g4, g5, g6, g7⟩ := run_bounds (P := P) (w := w) false hb r1 r2 r3 (Nat.le_refl _) (Nat.le_refl _)
                  refine ⟨_, w, ?_, LS.pure (slice_VR (n := n) (c := n) (c' := n) (o' := q + L.sh) hL (Nat.le_refl _) (Nat.le_refl _) (fun _ => rfl) (fun h => by rw [hLe] at h; cases h) (fun _ => rfl)
                    (fun h => by rw [hLe] at h; cases h) g2 g3 g4 g5 g6 g7)⟩
                  simp only [execOp, ho, hax]
                  exact run_v (run_slice_array hu hii g1)
            · cases he
          · cases he
        · cases he
      · cases he
    · cases hc
  · cases hc

end
end Go.Ri
