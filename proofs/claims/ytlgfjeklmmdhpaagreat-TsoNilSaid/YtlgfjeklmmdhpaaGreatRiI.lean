/- Ri, part I: every light operation (one that writes and calls nothing), from the machine of part A to the model. -/
import Derived.Test.YtlgfjeklmmdhpaaGreatRiH
set_option linter.unusedVariables false
set_option linter.unusedSimpArgs false
namespace Go.Ri

section
variable {P : Program} {w : World} {ι : Em}

/-- Related temporaries, of those that are named. -/
def TV (ι : Em) (t : Tm) (a : Act) (ns : List Nat) : Prop := ∀ n ∈ ns, VR ι ((t.get n).getD undefV) (a.tmps.getD n undef)
theorem TV.left {t : Tm} {a : Act} {x y : List Nat} (h : TV ι t a (x ++ y)) : TV ι t a x := fun n hn => h n (List.mem_append_left _ hn)
theorem TV.right {t : Tm} {a : Act} {x y : List Nat} (h : TV ι t a (x ++ y)) : TV ι t a y := fun n hn => h n (List.mem_append_right _ hn)

theorem opd_VR {nt : Nat} {t : Tm} {a : Act} {x : Operand} {y : Opd} (hc : cOpd nt x = some y) (hT : TV ι t a (opT y)) : VR ι (ev t y) (a.eval x) := by
  cases x with
  | tmp q =>
    simp only [cOpd] at hc
    cases hb : Nat.blt q nt with
    | false => rw [hb] at hc; cases hc
    | true =>
      rw [hb] at hc; simp only [cond_true, Option.some.injEq] at hc; subst hc
      exact hT q (by simp [opT])
  | const v =>
    simp only [cOpd] at hc
    cases hb : konst v with
    | false => rw [hb] at hc; cases hc
    | true =>
      rw [hb] at hc; simp only [cond_true, Option.some.injEq] at hc; subst hc
      exact konst_VR hb
  | global g => cases hc
  | func f =>
    simp only [cOpd, Option.some.injEq] at hc; subst hc
    exact .fn f [] [] [] [] rfl (fun i x z h => by simp at h) rfl (fun i x z h => by simp at h)
theorem opds_LR {nt : Nat} {t : Tm} {a : Act} : ∀ {xs : List Operand} {ys : List Opd}, cOpds nt xs = some ys → TV ι t a (opTs ys) → LR ι (evL t ys) (xs.map a.eval)
  | [], ys, hc, hT => by simp only [cOpds, Option.some.injEq] at hc; subst hc; exact LR.nil _
  | x :: xs, ys, hc, hT => by
    simp only [cOpds] at hc
    split at hc
    · rename_i y ys' h1 h2
      simp only [Option.some.injEq] at hc; subst hc
      exact LR.cons (opd_VR h1 hT.left) (opds_LR h2 hT.right)
    · cases hc
theorem opdO_IR {nt : Nat} {t : Tm} {a : Act} {x : Option Operand} {y : Option Opd} {o : Option Int} (hc : cOpdO nt x = some y) (he : evI t y = some o) (hT : TV ι t a (opTo y)) : IR o (x.map a.eval) :=
  evI_IR (ι := ι) (nt := nt) hc he fun z z' e e' => by
    subst e
    simp only [cOpdO, e', Option.some.injEq] at hc
    subst hc
    exact opd_VR e' hT
theorem parts_PRel {nt : Nat} {t : Tm} {a : Act} {place : Nat → Option (Nat × Nat)} : ∀ {ps : List (Nat × Operand)} {qs : List (Nat × Nat × Opd)}, cParts nt place ps = some qs → TV ι t a (opTp qs) →
    PRel ι place (evP t qs) (ps.map fun (i, x) => (i, a.eval x))
  | [], qs, hc, hT => by simp only [cParts, Option.some.injEq] at hc; subst hc; trivial
  | (i, x) :: r, qs, hc, hT => by
    simp only [cParts] at hc
    split at hc
    · rename_i o n y l h1 h2 h3
      simp only [Option.some.injEq] at hc; subst hc
      exact ⟨h1, opd_VR h2 hT.left, parts_PRel h3 hT.right⟩
    · cases hc

/-- What a light operation comes to. -/
def LS (ι : Em) (H H' : AH) (v v' : Value) (w w' : World) : Prop :=
  (H' = H ∧ w' = w ∧ VR ι v v') ∨
  (∃ (k : Blk) (c : Array Value) (e : TypeId), H' = H.new k ∧ w' = w.alloc (.cells c e) ∧ k.ext = false ∧ k.ro = false ∧ LR ι k.cs c.toList ∧ (∀ x ∈ k.cs, one x = true) ∧
    ∀ ι' : Em, ι' H.nx = some ⟨w.heap.size, 0, 0, 0, false⟩ → VR ι' v v')

theorem LS.pure {H : AH} {v v' : Value} (h : VR ι v v') : LS ι H H v v' w w := .inl ⟨rfl, rfl, h⟩
theorem run_v {s : Sem Value} {v : Value} {w' : World} (h : s.run P w = .ok v w') : (do pure (Next.value (← s)) : Sem Next).run P w = .ok (.value v) w' := by simp [h]

/-- What is asked of the heaps: what an operation reads stands in the world; the blocks' kinds are told. -/
def RdOk (ι : Em) (ao : AOp) (t : Tm) (H : AH) (w : World) : Prop :=
  ∀ b o n l L, reads ao t = some (b, o, n) → H.rd b o n = some l → ι b = some L → ∃ l', LR ι l l' ∧ (∀ x ∈ l, one x = true) ∧ Row w L.r (o + L.sh) l'
def KdOk (ι : Em) (H : AH) : Prop := ∀ b k L, H.get b = some k → ι b = some L → k.ext = L.ext ∧ (k.ext = true → k.es = L.es)

theorem bytesOf_spec : ∀ {cs : List Value} {l : List UInt8}, bytesOf cs = some l → ∃ ns : List Int, cs = ns.map (Value.int .u8) ∧ l = ns.map fun n => UInt8.ofNat n.toNat
  | [], l, h => by simp only [bytesOf, Option.some.injEq] at h; subst h; exact ⟨[], rfl, rfl⟩
  | v :: r, l, h => by
    cases v with
    | int k n =>
      cases k <;> simp only [bytesOf] at h <;> first | (cases h; done) | skip
      split at h
      · rename_i l' hl
        simp only [Option.some.injEq] at h; subst h
        obtain ⟨ns, rfl, rfl⟩ := bytesOf_spec hl
        exact ⟨n :: ns, rfl, rfl⟩
      · cases h
    | _ => simp [bytesOf] at h
theorem foldl_push (ns : List Int) : ∀ (s : ByteArray), (ns.foldl (fun r n => r.push (UInt8.ofNat n.toNat)) s).data.toList = s.data.toList ++ ns.map fun n => UInt8.ofNat n.toNat := by
  induction ns with
  | nil => intro s; simp
  | cons n ns ih =>
    intro s
    rw [List.foldl_cons, ih]
    simp [ByteArray.push]
theorem LR.ints {l l' : List Value} {k : IntKind} {ns : List Int} (h : LR ι l l') (e : l = ns.map (Value.int k)) : l' = l := by
  apply List.ext_getElem?
  intro i
  cases hi : l[i]? with
  | none =>
    rw [List.getElem?_eq_none_iff] at hi ⊢
    rw [← h.1]; exact hi
  | some x =>
    obtain ⟨y, hy, hv⟩ := h.get hi
    rw [hy]
    have hx : x ∈ l := List.mem_of_getElem? hi
    rw [e] at hx
    obtain ⟨n, _, rfl⟩ := List.mem_map.1 hx
    cases hv; rfl

theorem minG_run (m : Bool) (k : IntKind) : ∀ (xs : List Value) (x : Int) (v : Value), minG m k x xs = some v →
    (xs.foldlM (if m then Builtin.min2 else Builtin.max2) (.int k x)).run P w = .ok v w ∧ ∃ z, v = .int k z
  | [], x, v, h => by simp only [minG, Option.some.injEq] at h; subst h; exact ⟨rfl, _, rfl⟩
  | u :: xs, x, v, h => by
    cases u with
    | int k' y =>
      simp only [minG] at h
      obtain ⟨h1, h2⟩ := minG_run m k xs _ v h
      refine ⟨?_, h2⟩
      rw [List.foldlM_cons]
      cases m with
      | true =>
        simp only [if_true, cond_true] at h1 ⊢
        simp only [Builtin.min2, Sem.run_bind, Sem.run_pure, Result.andThen_ok]
        exact h1
      | false =>
        simp only [Bool.false_eq_true, if_false, cond_false] at h1 ⊢
        simp only [Builtin.max2, Sem.run_bind, Sem.run_pure, Result.andThen_ok]
        exact h1
    | _ => simp [minG] at h
theorem LR.minG {m : Bool} {k : IntKind} : ∀ {xs xs' : List Value} {x : Int} {v : Value}, LR ι xs xs' → Ri.minG m k x xs = some v → Ri.minG m k x xs' = some v
  | [], xs', x, v, h, e => by rw [h.nil_inv]; exact e
  | u :: xs, xs', x, v, h, e => by
    obtain ⟨u', ys, rfl, h1, h2⟩ := h.cons_inv
    cases h1 <;> simp only [Ri.minG] at e ⊢ <;> first | (cases e; done) | skip
    exact LR.minG h2 e

end
end Go.Ri
