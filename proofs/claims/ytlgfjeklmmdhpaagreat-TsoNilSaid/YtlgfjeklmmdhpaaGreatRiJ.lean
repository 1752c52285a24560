/- Ri, part J: a light operation, whole. -/
import Derived.Test.YtlgfjeklmmdhpaaGreatRiI
set_option linter.unusedVariables false
set_option linter.unusedSimpArgs false
namespace Go.Ri

section
variable {P : Program} {w : World} {ι : Em} {nt : Nat} {t : Tm} {a : Act} {H H' : AH} {v : Value}

/-- The claim for one operation. -/
def LightOk (P : Program) (ι : Em) (a : Act) (t : Tm) (H H' : AH) (v : Value) (w : World) (o : Oper) : Prop :=
  ∃ v' w', (execOp a.eval o).run P w = .ok (.value v') w' ∧ LS ι H H' v v' w w'

theorem light_alloc {o : Oper} {e : TypeId} {zs : List Value} (ho : o.op = .alloc e) (hc : cZero P e = some zs) (he : evA (.nw e zs) t H = some (v, H')) : LightOk P ι a t H H' v w o := by
  obtain ⟨i, z, h1, h2, h3, h4, h5⟩ := cZero_spec hc
  simp only [evA, Option.some.injEq, Prod.mk.injEq] at he
  obtain ⟨rfl, rfl⟩ := he
  refine ⟨_, _, by simp only [execOp, ho]; exact run_v (run_alloc h1 h2), .inr ⟨{ cs := zs }, z.cells, e, rfl, rfl, rfl, rfl, by rw [h3]; exact flat_LR h4, fun x hx => flat_one (h4 x hx), fun ι' hi => ?_⟩⟩
  exact .ptr H.nx 0 _ hi
theorem light_box {o : Oper} {e : TypeId} {x : Operand} {y : Opd} (ho : o.op = .box e x) (hc : cOpd nt x = some y) (he : evA (.bx e y) t H = some (v, H')) (hT : TV ι t a (opT y)) : LightOk P ι a t H H' v w o := by
  have hv := opd_VR hc hT
  simp only [evA] at he
  cases hl : cellsO (ev t y) with
  | none => rw [hl] at he; cases he
  | some l =>
    rw [hl] at he; simp only [Option.some.injEq, Prod.mk.injEq] at he
    obtain ⟨rfl, rfl⟩ := he
    obtain ⟨h1, h2⟩ := cells_VR hv hl
    exact ⟨_, _, by simp only [execOp, ho]; exact run_v (run_box _ _), .inr ⟨{ cs := l }, _, e, rfl, rfl, rfl, rfl, h1, h2, fun ι' hi => .ptr H.nx 0 _ hi⟩⟩
theorem light_build {o : Oper} {ty : TypeId} {parts : Array (Nat × Operand)} {ao : AOp} (ho : o.op = .build ty parts) (hc : cOp P nt (.build ty parts) = some ao) (he : evA ao t H = some (v, H')) (hT : TV ι t a (tmpsA ao)) :
    LightOk P ι a t H H' v w o := by
  simp only [cOp] at hc
  split at hc
  · rename_i fs zs hu hz
    split at hc
    · rename_i ls hp
      split at hc
      · rename_i ps hps
        simp only [Option.some.injEq] at hc; subst hc
        simp only [evA] at he
        split at he
        · rename_i cs hf
          simp only [Option.some.injEq, Prod.mk.injEq] at he
          obtain ⟨rfl, rfl⟩ := he
          obtain ⟨i, z, h1, h2, h3, h4, h5⟩ := cZero_spec hz
          obtain ⟨c', g1, g2, g3⟩ := fill_ok (ls[·]?) _ _ zs z.cells cs (parts_PRel hps hT) (by rw [h3]; exact flat_LR h4) (fun x hx => flat_one (h4 x hx)) hf
          refine ⟨.agg c', w, ?_, LS.pure ?_⟩
          · simp only [execOp, ho]
            exact run_v (run_build_struct hu h1 h2 hp _ c' (by rw [← g1]; simp))
          · exact .agg cs c'.toList g2.1 g2.2 g3
        · cases he
      · cases hc
    · cases hc
  · rename_i n e zs hu hz
    split at hc
    · rename_i q hq
      split at hc
      · rename_i ps hps
        simp only [Option.some.injEq] at hc; subst hc
        simp only [evA] at he
        split at he
        · rename_i cs hf
          simp only [Option.some.injEq, Prod.mk.injEq] at he
          obtain ⟨rfl, rfl⟩ := he
          obtain ⟨i, z, h1, h2, h3, h4, h5⟩ := cZero_spec hz
          obtain ⟨c', g1, g2, g3⟩ := fill_ok (fun k => some (k * q.size, q.size)) _ _ zs z.cells cs (parts_PRel hps hT) (by rw [h3]; exact flat_LR h4) (fun x hx => flat_one (h4 x hx)) hf
          refine ⟨.agg c', w, ?_, LS.pure ?_⟩
          · simp only [execOp, ho]
            exact run_v (run_build_array hu h1 h2 hq _ c' (by rw [← g1]; simp))
          · exact .agg cs c'.toList g2.1 g2.2 g3
        · cases he
      · cases hc
    · cases hc
  · cases hc
theorem light_buildSlice {o : Oper} {ty : TypeId} {n : Nat} {parts : Array (Nat × Operand)} {ao : AOp} (ho : o.op = .buildSlice ty n parts) (hc : cOp P nt (.buildSlice ty n parts) = some ao) (he : evA ao t H = some (v, H')) (hT : TV ι t a (tmpsA ao)) :
    LightOk P ι a t H H' v w o := by
  simp only [cOp] at hc
  split at hc
  · rename_i e hu
    split at hc
    · rename_i i zs hi hz
      cases hb : Nat.ble (n * i.size) 16777216 with
      | false => rw [hb] at hc; cases hc
      | true =>
        rw [hb] at hc; simp only [cond_true] at hc
        split at hc
        · rename_i ps hps
          simp only [Option.some.injEq] at hc; subst hc
          simp only [evA] at he
          split at he
          · rename_i cs hf
            simp only [Option.some.injEq, Prod.mk.injEq] at he
            obtain ⟨rfl, rfl⟩ := he
            obtain ⟨i', z, h1, h2, h3, h4, h5⟩ := cZero_spec hz
            rw [hi] at h1; cases h1
            have hfl : ∀ x ∈ (List.replicate n zs).flatten, flat x = true := by
              intro x hx
              obtain ⟨l, hl, hx⟩ := List.mem_flatten.1 hx
              rw [(List.mem_replicate.1 hl).2] at hx
              exact h4 x hx
            obtain ⟨c', g1, g2, g3⟩ := fill_ok (fun k => some (k * i.size, i.size)) _ _ _ ⟨(List.replicate n zs).flatten⟩ cs (parts_PRel hps hT) (flat_LR hfl) (fun x hx => flat_one (hfl x hx)) hf
            refine ⟨.slice (some ⟨w.heap.size, 0, none⟩) n n, _, ?_, .inr ⟨{ cs := cs }, c', e, rfl, rfl, rfl, rfl, g2, g3, fun ι' hi' => ?_⟩⟩
            · simp only [execOp, ho]
              exact run_v (run_buildSlice hu hi h2 h3 h5 (Nat.le_of_ble_eq_true hb) _ ⟨(List.replicate n zs).flatten⟩ rfl c' (by rw [← g1]; simp))
            · exact .sl H.nx 0 n n 0 n _ hi' (Nat.le_refl _) (Nat.le_refl _) (fun _ => rfl) (fun h => by cases h) (fun _ => rfl)
          · cases he
        · cases hc
    · cases hc
  · cases hc
theorem light_load {o : Oper} {ty : TypeId} {x : Operand} {y : Opd} {g : Bool} {n : Nat} (ho : o.op = .load ty x) (h1 : cType P ty = some (g, n)) (hc : cOpd nt x = some y) (he : evA (.ld g n y) t H = some (v, H')) (hT : TV ι t a (opT y))
    (hrd : RdOk ι (.ld g n y) t H w) : LightOk P ι a t H H' v w o := by
  have hv := opd_VR hc hT
  simp only [evA] at he
  simp only [RdOk, reads] at hrd
  generalize ev t y = p at *
  split at he
  · rename_i b q
    split at he
    · rename_i cs hcs
      split at he
      · rename_i u hu
        simp only [Option.some.injEq, Prod.mk.injEq] at he
        obtain ⟨rfl, rfl⟩ := he
        generalize hae : a.eval x = p' at hv
        cases hv with
        | ptr b' o' L hL =>
          obtain ⟨l', g1, g2, g3⟩ := hrd _ _ _ cs L rfl hcs hL
          obtain ⟨v', m1, m2⟩ := mkV_VR g1 g2 hu
          refine ⟨v', w, ?_, LS.pure m2⟩
          simp only [execOp, ho, hae]
          have hlen : l'.length = n := by
            rw [← g1.1]
            unfold AH.rd at hcs
            split at hcs
            · exact (rdL_spec hcs).2.1
            · cases hcs
          exact run_v (by simp only [Instr.loadAt, Instr.sureAddr, Sem.run_bind, Sem.run_pure, Result.andThen_ok]; exact run_loadVar h1 L.r _ hlen g3 m1)
      · cases he
    · cases he
  · cases he
theorem light_nilCheck {o : Oper} {x : Operand} {y : Opd} (ho : o.op = .nilCheck x) (hc : cOpd nt x = some y) (he : evA (.nc y) t H = some (v, H')) (hT : TV ι t a (opT y)) : LightOk P ι a t H H' v w o := by
  have hv := opd_VR hc hT
  simp only [evA] at he
  generalize ev t y = p at *
  generalize hae : a.eval x = p' at hv
  split at he
  · simp only [Option.some.injEq, Prod.mk.injEq] at he
    obtain ⟨rfl, rfl⟩ := he
    cases hv with
    | ptr b o' L hL => exact ⟨_, w, by simp only [execOp, ho, hae]; rfl, LS.pure (.ptr _ _ _ hL)⟩
  · simp only [Option.some.injEq, Prod.mk.injEq] at he
    obtain ⟨rfl, rfl⟩ := he
    cases hv with
    | fn f xs ys zs ws h1 h2 h3 h4 => exact ⟨_, w, by simp only [execOp, ho, hae]; rfl, LS.pure (.fn _ _ _ _ _ h1 h2 h3 h4)⟩
  · cases he
theorem light_pick {o : Oper} {c x y : Operand} {c' x' y' : Opd} (ho : o.op = .pick c x y) (h1 : cOpd nt c = some c') (h2 : cOpd nt x = some x') (h3 : cOpd nt y = some y') (he : evA (.pk c' x' y') t H = some (v, H'))
    (hT : TV ι t a (opT c' ++ (opT x' ++ opT y'))) : LightOk P ι a t H H' v w o := by
  have v1 := opd_VR h1 hT.left
  have v2 := opd_VR h2 hT.right.left
  have v3 := opd_VR h3 hT.right.right
  simp only [evA] at he
  generalize ev t c' = p at *
  generalize hae : a.eval c = p' at v1
  split at he
  · simp only [Option.some.injEq, Prod.mk.injEq] at he
    obtain ⟨rfl, rfl⟩ := he
    cases v1
    exact ⟨_, w, by simp only [execOp, ho, hae]; rfl, LS.pure v2⟩
  · simp only [Option.some.injEq, Prod.mk.injEq] at he
    obtain ⟨rfl, rfl⟩ := he
    cases v1
    exact ⟨_, w, by simp only [execOp, ho, hae]; rfl, LS.pure v3⟩
  · cases he
theorem light_binOp {o : Oper} {op : BinOp} {ty ty2 : TypeId} {x y : Operand} {x' y' : Opd} (ho : o.op = .binOp op ty x y ty2) (h1 : cOpd nt x = some x') (h2 : cOpd nt y = some y') (he : evA (.bo op (cEK P ty) x' y') t H = some (v, H'))
    (hT : TV ι t a (opT x' ++ opT y')) : LightOk P ι a t H H' v w o := by
  have v1 := opd_VR h1 hT.left
  have v2 := opd_VR h2 hT.right
  simp only [evA] at he
  split at he
  · rename_i u hu
    simp only [Option.some.injEq, Prod.mk.injEq] at he
    obtain ⟨rfl, rfl⟩ := he
    obtain ⟨r1, r2⟩ := run_binV (P := P) (w := w) (ox := x) (oy := y) hu v1 v2
    exact ⟨u, w, by simp only [execOp, ho]; exact run_v r1, LS.pure (r2.mono (Sub.refl ι))⟩
  · cases he
theorem light_unOp {o : Oper} {op : UnOp} {ty : TypeId} {x : Operand} {x' : Opd} (ho : o.op = .unOp op ty x) (h1 : cOpd nt x = some x') (he : evA (.uo op x') t H = some (v, H')) (hT : TV ι t a (opT x')) : LightOk P ι a t H H' v w o := by
  have v1 := opd_VR h1 hT
  simp only [evA] at he
  split at he
  · rename_i u hu
    simp only [Option.some.injEq, Prod.mk.injEq] at he
    obtain ⟨rfl, rfl⟩ := he
    obtain ⟨r1, r2⟩ := run_unV (P := P) (w := w) hu v1
    exact ⟨u, w, by simp only [execOp, ho]; exact run_v r1, LS.pure r2⟩
  · cases he
theorem light_convert {o : Oper} {s d : TypeId} {x : Operand} {ao : AOp} (ho : o.op = .convert s d x) (hc : cOp P nt (.convert s d x) = some ao) (he : evA ao t H = some (v, H')) (hT : TV ι t a (tmpsA ao)) (hrd : RdOk ι ao t H w) :
    LightOk P ι a t H H' v w o := by
  simp only [cOp] at hc
  split at hc
  · rename_i k0 k x' hs hd hx
    simp only [Option.some.injEq] at hc; subst hc
    have v1 := opd_VR hx hT
    simp only [evA] at he
    generalize ev t x' = p at *
    generalize hae : a.eval x = p' at v1
    split at he
    · simp only [Option.some.injEq, Prod.mk.injEq] at he
      obtain ⟨rfl, rfl⟩ := he
      cases v1
      refine ⟨_, w, ?_, LS.pure (.int _ _)⟩
      simp only [execOp, ho, hae]
      exact run_v (by simp [convert, run_under hs, run_under hd, Conv.intToInt])
    · cases he
  · rename_i x' hs hd hx
    simp only [Option.some.injEq] at hc; subst hc
    have v1 := opd_VR hx hT
    simp only [evA] at he
    generalize ev t x' = p at *
    generalize hae : a.eval x = p' at v1
    split at he
    · simp only [Option.some.injEq, Prod.mk.injEq] at he
      obtain ⟨rfl, rfl⟩ := he
      cases v1
      refine ⟨_, w, ?_, LS.pure (.string _)⟩
      simp only [execOp, ho, hae]
      exact run_v (by simp [convert, run_under hs, run_under hd])
    · cases he
  · rename_i e x' hs hd hx
    split at hc
    · rename_i hu
      simp only [Option.some.injEq] at hc; subst hc
      have v1 := opd_VR hx hT
      simp only [evA] at he
      simp only [RdOk, reads] at hrd
      generalize ev t x' = p at *
      generalize hae : a.eval x = p' at v1
      split at he
      · simp only [Option.some.injEq, Prod.mk.injEq] at he
        obtain ⟨rfl, rfl⟩ := he
        cases v1
        refine ⟨_, w, ?_, LS.pure (.string _)⟩
        simp only [execOp, ho, hae]
        exact run_v (by rw [run_convert_bytes_string w s d e none 0 0 hs hu hd]; simp [Conv.bytesToString])
      · rename_i b q n c
        cases v1 with
        | sl b' o' n' c' o2 c2 L hL hn hcc hx2 hl2 ho2 =>
          cases hz : Nat.beq n 0 with
          | true =>
            rw [hz] at he; simp only [cond_true, Option.some.injEq, Prod.mk.injEq] at he
            obtain ⟨rfl, rfl⟩ := he
            have hn0 := Nat.eq_of_beq_eq_true hz
            subst hn0
            refine ⟨_, w, ?_, LS.pure (.string _)⟩
            simp only [execOp, ho, hae]
            refine run_v ?_
            rw [run_convert_bytes_string w s d e _ _ _ hs hu hd, run_bytesToString w _ _ _ [] (by simp [loadCells, loadCellsFrom])]
            rfl
          | false =>
            rw [hz] at he; simp only [cond_false] at he
            split at he
            · rename_i cs hcs
              split at he
              · rename_i l hl
                simp only [Option.some.injEq, Prod.mk.injEq] at he
                obtain ⟨rfl, rfl⟩ := he
                have hn1 : n ≠ 0 := fun e => by rw [beqT e] at hz; cases hz
                obtain ⟨l', g1, g2, g3⟩ := hrd _ _ _ cs L rfl hcs hL
                obtain ⟨ns, e1, e2⟩ := bytesOf_spec hl
                have e3 := g1.ints e1
                have hlen : l'.length = n := by
                  rw [← g1.1]
                  unfold AH.rd at hcs
                  split at hcs
                  · exact (rdL_spec hcs).2.1
                  · cases hcs
                refine ⟨_, w, ?_, LS.pure (.string _)⟩
                simp only [execOp, ho, hae]
                refine run_v ?_
                rw [run_convert_bytes_string w s d e _ _ _ hs hu hd]
                have hrow : Row w L.r o2 l' := by rw [ho2 (by omega)]; exact g3
                have hload := run_loadCells (P := P) L.r o2 l' hrow
                rw [hlen] at hload
                rw [run_bytesToString w _ _ _ ns (by rw [hload, e3, e1])]
                congr 2
                have := foldl_push ns ByteArray.empty
                rw [← e2] at this
                have h9 : (ns.foldl (fun r n => r.push (UInt8.ofNat n.toNat)) ByteArray.empty).data = ⟨l⟩ := by
                  apply Array.ext'
                  simpa using this
                generalize ns.foldl (fun r n => r.push (UInt8.ofNat n.toNat)) ByteArray.empty = bb at h9
                obtain ⟨bd⟩ := bb
                simp only at h9
                rw [h9]
              · cases he
            · cases he
      · cases he
    · cases hc
  · cases hc

end
end Go.Ri
