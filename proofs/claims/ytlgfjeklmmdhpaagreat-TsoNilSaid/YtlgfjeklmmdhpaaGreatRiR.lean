/- Ri, part R: copying, clearing; any operation that calls nothing. -/
import Derived.Test.YtlgfjeklmmdhpaaGreatRiQ
set_option linter.unusedVariables false
set_option linter.unusedSimpArgs false
namespace Go.Ri

section
variable {P : Program} {w : World} {ι : Em} {B : Nat} {nt : Nat} {t : Tm} {a : Act} {H H' : AH} {v : Value}

theorem op_copy {o : Oper} {args : Array Operand} {tys : Array TypeId} {ao : AOp} (ho : o.op = .call { callee := .builtin .copy, args, argTypes := tys }) (hc : cOp P nt (.call { callee := .builtin .copy, args, argTypes := tys }) = some ao)
    (he : evA ao t H = some (v, H')) (hT : TV ι t a (tmpsA ao)) (h : HR B ι H.get w) : OpOk P B ι a H H' v w o := by
  simp only [cOp] at hc
  split at hc
  · rename_i ty u x' y' hty hx
    have etys : tys = #[ty, u] := by apply Array.ext'; rw [hty]
    split at hc
    · rename_i e hu
      split at hc
      · rename_i i hi
        simp only [Option.some.injEq] at hc; subst hc
        obtain ⟨x, y, ex, hx1, hy1⟩ := opds_two hx
        have eargs : args = #[x, y] := by apply Array.ext'; rw [ex]
        subst etys; subst eargs
        have v1 := opd_VR hx1 hT.left
        have v2 := opd_VR hy1 hT.right
        change (match ev t x' with
          | .slice ad n _ => (match apLen (ev t y') with
            | none => none
            | some m => cond (Nat.beq (min m n) 0) (some (.int .i64 0, H))
              (match (match ev t y' with
                | .slice (some ⟨b, o, none⟩) _ _ => H.rd b o (min m n * i.size)
                | .string s => cond (Nat.beq i.size 1) (some ((s.data.toList.take (min m n)).map fun q => Value.int .u8 q.toNat)) none
                | _ => none), ad with
              | some new, some ⟨b, o, none⟩ => (match H.wr b o new with
                | some H' => some (.int .i64 (min m n : Nat), H')
                | none => none)
              | _, _ => none))
          | _ => none) = some (v, H') at he
        generalize ev t x' = p at *
        generalize ev t y' = q at *
        generalize hax : a.eval x = p' at v1
        generalize hay : a.eval y = q' at v2
        split at he
        · rename_i ad n c
          split at he
          · cases he
          · rename_i m hm
            have hp : ∃ ad' c', p' = .slice ad' n c' := by cases v1 <;> exact ⟨_, _, rfl⟩
            obtain ⟨ad', c', rfl⟩ := hp
            have hm2 : apLen q = some m := hm
            by_cases h0 : min m n = 0
            · rw [beqT h0] at he; simp only [cond_true, Option.some.injEq, Prod.mk.injEq] at he
              obtain ⟨rfl, rfl⟩ := he
              refine ⟨Mon.refl _, .int .i64 0, w, ι, .inl (run_call_builtin ho ?_), Post.refl h, .int _ _⟩
              simp only [builtin, List.map_toArray, List.map_cons, List.map_nil, hax, hay]
              have hl : (Builtin.lenOf q').run P w = .ok m w := by
                cases v2 <;> simp only [apLen, Option.some.injEq] at hm2 <;> first | (subst hm2; rfl) | (cases hm2; done)
              have hf : (Builtin.firstCells i.size (min m n) q').run P w = .ok #[] w := by
                rw [h0]
                cases v2 <;> simp [apLen] at hm2 <;> simp [Builtin.firstCells, loadCells, loadCellsFrom]
              have := run_copy (u := u) (ty := o.type) (c := c') (base := ad') hu hi hl hf (w' := w) (by cases ad' <;> simp [storeCells])
              rw [h0] at this
              exact run_v this
            · rw [beqF h0] at he; simp only [cond_false] at he
              split at he
              · rename_i new b oo hn
                split at he
                · rename_i H1 hw
                  simp only [Option.some.injEq, Prod.mk.injEq] at he
                  obtain ⟨rfl, rfl⟩ := he
                  obtain ⟨s1, new', s2, s3, s4, s5, s6⟩ := src_ok (P := P) (sz := i.size) (k := min m n) h v2 hm2 (Nat.min_le_left _ _) (by
                    cases v2 with
                    | sl0 => simp [apLen] at hm; omega
                    | sl => rw [← hn]; simp [kNew, beqF h0]
                    | string => rw [← hn]; rfl
                    | _ => simp [apLen] at hm)
                  cases v1 with
                  | sl _ _ _ _ o' _ L hL hnc hcc hxx hll hoo =>
                    obtain ⟨w', g1, g2, g3⟩ := write_sound (P := P) hw hL s2 s3 h
                    have hpos : 0 < c := by omega
                    refine ⟨g3, _, w', ι, .inl (run_call_builtin ho ?_), g2, .int _ _⟩
                    simp only [builtin, List.map_toArray, List.map_cons, List.map_nil, hax, hay]
                    exact run_v (run_copy hu hi s1 s5 (base := some ⟨L.r, o', none⟩) (by rw [hoo hpos]; simpa using g1))
                · cases he
              · cases he
        · cases he
      · cases hc
    · cases hc
  · cases hc

theorem op_clear {o : Oper} {args : Array Operand} {tys : Array TypeId} {ao : AOp} (ho : o.op = .call { callee := .builtin .clear, args, argTypes := tys }) (hc : cOp P nt (.call { callee := .builtin .clear, args, argTypes := tys }) = some ao)
    (he : evA ao t H = some (v, H')) (hT : TV ι t a (tmpsA ao)) (h : HR B ι H.get w) : OpOk P B ι a H H' v w o := by
  simp only [cOp] at hc
  split at hc
  · rename_i ty x' hty hx
    have etys : tys = #[ty] := by apply Array.ext'; rw [hty]
    obtain ⟨x, ex, hx1⟩ := opds_one hx
    have eargs : args = #[x] := by apply Array.ext'; rw [ex]
    subst etys; subst eargs
    split at hc
    · rename_i e hu
      split at hc
      · rename_i zs hz
        simp only [Option.some.injEq] at hc; subst hc
        obtain ⟨i, z, z1, z2, z3, z4, z5⟩ := cZero_spec hz
        have v1 := opd_VR hx1 hT
        simp only [evA] at he
        generalize ev t x' = p at *
        generalize hax : a.eval x = p' at v1
        split at he
        · simp only [Option.some.injEq, Prod.mk.injEq] at he
          obtain ⟨rfl, rfl⟩ := he
          cases v1
          exact ⟨Mon.refl _, undef, w, ι, .inl (run_call_builtin ho (by simp [builtin, Builtin.clear_, hax, run_under hu]; rfl)), Post.refl h, VR.undef ι⟩
        · rename_i b oo n c
          cases hb : Nat.beq n 0 with
          | true =>
            rw [hb] at he; simp only [cond_true, Option.some.injEq, Prod.mk.injEq] at he
            obtain ⟨rfl, rfl⟩ := he
            have hn0 := Nat.eq_of_beq_eq_true hb
            subst hn0
            cases v1
            exact ⟨Mon.refl _, undef, w, ι, .inl (run_call_builtin ho (by simp [builtin, Builtin.clear_, hax, run_under hu]; rfl)), Post.refl h, VR.undef ι⟩
          | false =>
            rw [hb] at he; simp only [cond_false] at he
            have hn0 : n ≠ 0 := fun e => by rw [beqT e] at hb; cases hb
            split at he
            · rename_i H1 hw
              simp only [Option.some.injEq, Prod.mk.injEq] at he
              obtain ⟨rfl, rfl⟩ := he
              have hfl : ∀ x ∈ (List.replicate n zs).flatten, flat x = true := by
                intro x hx
                obtain ⟨l, hl, hx⟩ := List.mem_flatten.1 hx
                rw [(List.mem_replicate.1 hl).2] at hx
                exact z4 x hx
              cases v1 with
              | sl _ _ _ _ o' c' L hL hnc hcc hxx hll hoo =>
                obtain ⟨w', g1, g2, g3⟩ := write_sound (P := P) hw hL (flat_LR hfl) (fun x hx => flat_one (hfl x hx)) h
                refine ⟨g3, undef, w', ι, .inl (run_call_builtin ho ?_), g2, VR.undef ι⟩
                rw [← hoo (by omega)] at g1
                obtain ⟨n, rfl⟩ : ∃ k, n = k + 1 := ⟨n - 1, by omega⟩
                have hzl := zeroCells_list z zs z3 (n + 1) i.size z5
                simp [builtin, Builtin.clear_, hax, run_under hu, run_zero z1 z2, hzl, g1]
                rfl
            · cases he
        · cases he
      · cases hc
    · cases hc
  · cases hc

/-- Any operation that calls nothing. -/
theorem evA_sound {o : Oper} {ao : AOp} (hc : cOp P nt o.op = some ao) (he : evA ao t H = some (v, H')) (hT : TV ι t a (tmpsA ao)) (h : HR B ι H.get w) (hf : ∀ b, H.nx ≤ b → b < H'.nx → ι b = none) : OpOk P B ι a H H' v w o := by
  cases hh : heavy ao with
  | false => exact LS.op (light_sound hc hh he hT (h.rdOk ao) h.kdOk) h hf
  | true =>
    cases ho : o.op with
    | store ty x y =>
      rw [ho] at hc; simp only [cOp] at hc
      split at hc
      · rename_i i x' y' hi hx hy
        simp only [Option.some.injEq] at hc; subst hc
        exact op_store ho hi hx hy he hT h
      · cases hc
    | call c =>
      rw [ho] at hc
      obtain ⟨callee, args, tys⟩ := c
      cases callee with
      | value f =>
        cases f with
        | func f =>
          simp only [cOp] at hc
          split at hc
          · rename_i fn hf'
            cases hb : (fn.name != "runtime.NumGoroutine" && fn.body.isSome) with
            | false => rw [hb] at hc; cases hc
            | true =>
              rw [hb] at hc; simp only [cond_true] at hc
              split at hc
              · simp only [Option.some.injEq] at hc; subst hc; cases he
              · cases hc
          · cases hc
        | tmp q =>
          simp only [cOp] at hc
          split at hc
          · simp only [Option.some.injEq] at hc; subst hc; cases he
          · cases hc
        | _ => simp [cOp] at hc
      | invoke r m => simp [cOp] at hc
      | builtin b =>
        cases b with
        | append => exact op_append ho hc he hT h hf
        | copy => exact op_copy ho hc he hT h
        | clear => exact op_clear ho hc he hT h
        | _ => exact LS.op (light_sound (by rw [ho]; exact hc) (by
            simp only [cOp] at hc
            repeat' (split at hc)
            all_goals first
              | (cases hc; done)
              | (simp only [Option.some.injEq] at hc; subst hc; cases hh; done)) he hT (h.rdOk ao) h.kdOk) h hf
    | makeFunc fn first captured =>
      rw [ho] at hc
      cases fn with
      | func f =>
        simp only [cOp] at hc
        split at hc
        · simp only [Option.some.injEq] at hc; subst hc; cases hh
        · cases hc
      | _ => simp [cOp] at hc
    | buildSlice ty n ps =>
      rw [ho] at hc; simp only [cOp] at hc
      split at hc
      · split at hc
        · rename_i i zs h1 h2
          cases hb : Nat.ble (n * i.size) 16777216 with
          | false => rw [hb] at hc; cases hc
          | true =>
            rw [hb] at hc; simp only [cond_true] at hc
            split at hc
            · simp only [Option.some.injEq] at hc; subst hc; cases hh
            · cases hc
        · cases hc
      · cases hc
    | fieldAddr s x f =>
      rw [ho] at hc; simp only [cOp] at hc
      split at hc
      · split at hc
        · split at hc
          · rename_i i h1
            cases hb : Nat.beq i.size 0 with
            | true => rw [hb] at hc; cases hc
            | false => rw [hb] at hc; simp only [cond_false, Option.some.injEq] at hc; subst hc; cases hh
          · cases hc
        · cases hc
      · cases hc
    | _ =>
      rw [ho] at hc
      exfalso
      simp only [cOp] at hc
      (repeat' (split at hc)) <;> first
        | (cases hc; done)
        | (simp only [Option.some.injEq] at hc; subst hc; cases hh; done)

end
end Go.Ri
