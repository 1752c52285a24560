/- Ri, part N: append and copy, run. -/
import Derived.Test.YtlgfjeklmmdhpaaGreatRiM
import Derived.Laws.Append
import Derived.Laws.AppendOwn
set_option linter.unusedVariables false
set_option linter.unusedSimpArgs false
namespace Go.Ri

section
variable {P : Program} {w : World} {ι : Em} {B : Nat}

theorem run_append_fit {t u e ty : TypeId} {i : TypeInfo} {d : TypeDesc} (hu : P.underlying t = some (.slice e)) (hi : P.info? e = some i) (hu2 : P.underlying u = some d) (hd : (∃ q, d = .slice q) ∨ d = .string) {n c m : Nat} {x : Value} {new : Array Value} {base : Option Addr}
    (hl : (Builtin.lenOf x).run P w = .ok m w) (hf : (Builtin.firstCells i.size m x).run P w = .ok new w) (hfit : n + m ≤ c) {w' : World} (hs : match base with | none => w' = w | some a => (storeCells (a.add (n * i.size)) new.toList).run P w = .ok () w') :
    (Builtin.append_ #[t, u] ty #[.slice base n c, x]).run P w = .ok (.slice base (n + m) c) w' := by
  cases base with
  | none =>
    subst hs
    rcases hd with ⟨q, rfl⟩ | rfl <;> simp [Builtin.append_, run_underlying hu, run_underlying hu2, sizeOf, typeInfo, hi, hl, hf, hfit]
  | some a =>
    simp only at hs
    rcases hd with ⟨q, rfl⟩ | rfl <;> simp [Builtin.append_, run_underlying hu, run_underlying hu2, sizeOf, typeInfo, hi, hl, hf, hfit, hs]

theorem run_append_more {t u e ty : TypeId} {i : TypeInfo} {z : Value} {d : TypeDesc} (hu : P.underlying t = some (.slice e)) (hi : P.info? e = some i) (hz : i.zero = some z) (hu2 : P.underlying u = some d) (hd : (∃ q, d = .slice q) ∨ d = .string) {n c m : Nat} {x : Value} {new old : Array Value} {base : Option Addr}
    (hl : (Builtin.lenOf x).run P w = .ok m w) (hf : (Builtin.firstCells i.size m x).run P w.drew = .ok new w.drew) (ho : (Builtin.firstCells i.size n (.slice base n c)).run P w.drew = .ok old w.drew)
    (hfit : ¬ n + m ≤ c) (hb : (n + m) * i.bytes ≤ 70368744177664) (hb1 : 1 ≤ i.bytes) :
    ∃ nc, n + m ≤ nc ∧ (Builtin.append_ #[t, u] ty #[.slice base n c, x]).run P w = .ok (.slice (some ⟨w.heap.size, 0, none⟩) (n + m) nc) (w.drew.alloc (.cells (old ++ new ++ Builtin.zeroCells z.cells (nc - (n + m))) e)) := by
  have h1 : n + m ≤ 70368744177664 := Nat.le_trans (Nat.le_mul_of_pos_right _ hb1) hb
  have h63' : ¬ (9223372036854775807 < ((n : Int) + (m : Int))) := by omega
  have h48' : ¬ (281474976710656 < Builtin.nextslicecap (n + m) c * i.bytes) := by
    have := growslice_fits (need := n + m) (old := c) (bytes := i.bytes) (by omega) (by omega)
    omega
  refine ⟨grownCap w (n + m) c e, grownCap_ge w (n + m) c e, ?_⟩
  rcases hd with ⟨q, rfl⟩ | rfl
  · simp [Builtin.append_, run_underlying hu, run_underlying hu2, sizeOf, typeInfo, zeroValue, hi, hz, hl, hfit, h63', h48', Question.forced, hf, ho, newRow, grownCap]
  · simp [Builtin.append_, run_underlying hu, run_underlying hu2, sizeOf, typeInfo, zeroValue, hi, hz, hl, hfit, h63', h48', Question.forced, hf, ho, newRow, grownCap]

theorem run_appendz_fit {t u e ty : TypeId} {i : TypeInfo} {z : Value} {k k' : IntKind} (hu : P.underlying t = some (.slice e)) (hi : P.info? e = some i) (hz : i.zero = some z) (hu2 : P.underlying u = some (.int k)) {n c m : Nat} {base : Option Addr}
    (hm : m ≤ 9223372036854775807) (hmb : m * i.bytes ≤ 281474976710656) (hfit : n + m ≤ c) {w' : World} (hs : match base with | none => w' = w | some a => (storeCells (a.add (n * i.size)) (if m * i.size = 0 then #[] else Builtin.zeroCells z.cells m).toList).run P w = .ok () w') :
    (Builtin.append_ #[t, u] ty #[.slice base n c, .int k' (Int.ofNat m)]).run P w = .ok (.slice base (n + m) c) w' := by
  have w1 := wrap_ofNat hm
  have e1 : ¬ (281474976710656 < (m : Int) * (i.bytes : Int)) := by
    have : (m : Int) * (i.bytes : Int) = ((m * i.bytes : Nat) : Int) := by simp
    rw [this]; omega
  have w2 : IntKind.i64.wrap (m : Int) = (m : Int) := w1
  have e0 : ¬ ((m : Int) < 0) := by omega
  by_cases h0 : m * i.size = 0
  · rw [if_pos h0] at hs
    have h0' : m = 0 ∨ i.size = 0 := Nat.mul_eq_zero.1 h0
    cases base with
    | none =>
      subst hs
      simp [Builtin.append_, run_underlying hu, run_underlying hu2, sizeOf, typeInfo, zeroValue, hi, hz, asInt, asIntOf, w2, e1, e0, hfit, h0, h0']
    | some a =>
      simp only at hs
      simp [Builtin.append_, run_underlying hu, run_underlying hu2, sizeOf, typeInfo, zeroValue, hi, hz, asInt, asIntOf, w2, e1, e0, hfit, h0, h0', hs]
  · rw [if_neg h0] at hs
    have h0' : ¬ (m = 0 ∨ i.size = 0) := fun h => h0 (Nat.mul_eq_zero.2 h)
    cases base with
    | none =>
      subst hs
      simp [Builtin.append_, run_underlying hu, run_underlying hu2, sizeOf, typeInfo, zeroValue, hi, hz, asInt, asIntOf, w2, e1, e0, hfit, h0, h0']
    | some a =>
      simp only at hs
      simp [Builtin.append_, run_underlying hu, run_underlying hu2, sizeOf, typeInfo, zeroValue, hi, hz, asInt, asIntOf, w2, e1, e0, hfit, h0, h0', hs]

theorem run_appendz_more {t u e ty : TypeId} {i : TypeInfo} {z : Value} {k k' : IntKind} (hu : P.underlying t = some (.slice e)) (hi : P.info? e = some i) (hz : i.zero = some z) (hu2 : P.underlying u = some (.int k)) {n c m : Nat} {base : Option Addr} {old : Array Value}
    (hm : m ≤ 9223372036854775807) (hmb : m * i.bytes ≤ 281474976710656) (ho : (Builtin.firstCells i.size n (.slice base n c)).run P w.drew = .ok old w.drew)
    (hfit : ¬ n + m ≤ c) (hb : (n + m) * i.bytes ≤ 70368744177664) (hb1 : 1 ≤ i.bytes) :
    ∃ nc, n + m ≤ nc ∧ (Builtin.append_ #[t, u] ty #[.slice base n c, .int k' (Int.ofNat m)]).run P w = .ok (.slice (some ⟨w.heap.size, 0, none⟩) (n + m) nc)
      (w.drew.alloc (.cells (old ++ (if m * i.size = 0 then #[] else Builtin.zeroCells z.cells m) ++ Builtin.zeroCells z.cells (nc - (n + m))) e)) := by
  have w1 := wrap_ofNat hm
  have e1 : ¬ (281474976710656 < (m : Int) * (i.bytes : Int)) := by
    have : (m : Int) * (i.bytes : Int) = ((m * i.bytes : Nat) : Int) := by simp
    rw [this]; omega
  have w2 : IntKind.i64.wrap (m : Int) = (m : Int) := w1
  have e0 : ¬ ((m : Int) < 0) := by omega
  have h1 : n + m ≤ 70368744177664 := Nat.le_trans (Nat.le_mul_of_pos_right _ hb1) hb
  have h63' : ¬ (9223372036854775807 < ((n : Int) + (m : Int))) := by omega
  have h48' : ¬ (281474976710656 < Builtin.nextslicecap (n + m) c * i.bytes) := by
    have := growslice_fits (need := n + m) (old := c) (bytes := i.bytes) (by omega) (by omega)
    omega
  refine ⟨grownCap w (n + m) c e, grownCap_ge w (n + m) c e, ?_⟩
  by_cases h0 : m * i.size = 0
  · rw [if_pos h0]
    have h0' : m = 0 ∨ i.size = 0 := Nat.mul_eq_zero.1 h0
    simp [Builtin.append_, run_underlying hu, run_underlying hu2, sizeOf, typeInfo, zeroValue, hi, hz, asInt, asIntOf, w2, e1, e0, hfit, h0, h0', h63', h48', Question.forced, ho, newRow, grownCap]
  · rw [if_neg h0]
    have h0' : ¬ (m = 0 ∨ i.size = 0) := fun h => h0 (Nat.mul_eq_zero.2 h)
    simp [Builtin.append_, run_underlying hu, run_underlying hu2, sizeOf, typeInfo, zeroValue, hi, hz, asInt, asIntOf, w2, e1, e0, hfit, h0, h0', h63', h48', Question.forced, ho, newRow, grownCap]

theorem zeroCells_list (z : Value) (zs : List Value) (h : z.cells.toList = zs) (n sz : Nat) (hs : zs.length = sz) : (Builtin.zeroCells z.cells n).toList = (List.replicate n zs).flatten := by
  have hz : z.cells.size = sz := by rw [← Array.length_toList, h, hs]
  unfold Builtin.zeroCells
  rw [hz, ← rep_cells z.cells zs h n sz hs, hz]

theorem run_copy {t u e ty : TypeId} {i : TypeInfo} (hu : P.underlying t = some (.slice e)) (hi : P.info? e = some i) {n c m : Nat} {x : Value} {new : Array Value} {base : Option Addr}
    (hl : (Builtin.lenOf x).run P w = .ok m w) (hf : (Builtin.firstCells i.size (min m n) x).run P w = .ok new w) {w' : World} (hs : match base with | none => w' = w | some a => (storeCells a new.toList).run P w = .ok () w') :
    (Builtin.copy_ #[t, u] ty #[.slice base n c, x]).run P w = .ok (.int .i64 (min m n : Nat)) w' := by
  have hf' : (Builtin.firstCells i.size (Nat.min m n) x).run P w = .ok new w := hf
  cases base with
  | none =>
    subst hs
    simp [Builtin.copy_, run_underlying hu, sizeOf, typeInfo, hi, hl, hf, goInt]
  | some a =>
    simp only at hs
    simp [Builtin.copy_, run_underlying hu, sizeOf, typeInfo, hi, hl, hf, goInt, hs]

end
end Go.Ri
