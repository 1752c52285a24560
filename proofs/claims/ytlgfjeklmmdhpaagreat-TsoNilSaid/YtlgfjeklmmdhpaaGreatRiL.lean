/- Ri, part L: the last light operations; a light operation, whichever it is. -/
import Derived.Test.YtlgfjeklmmdhpaaGreatRiK
set_option linter.unusedVariables false
set_option linter.unusedSimpArgs false
namespace Go.Ri

section
variable {P : Program} {w : World} {ι : Em} {nt : Nat} {t : Tm} {a : Act} {H H' : AH} {v : Value}

theorem light_fieldAddr {o : Oper} {s : TypeId} {x : Operand} {f : Nat} {ao : AOp} (ho : o.op = .fieldAddr s x f) (hc : cOp P nt (.fieldAddr s x f) = some ao) (he : evA ao t H = some (v, H')) (hT : TV ι t a (tmpsA ao)) : LightOk P ι a t H H' v w o := by
  simp only [cOp] at hc
  split at hc
  · rename_i fs x' hu hx
    split at hc
    · rename_i q hq
      split at hc
      · rename_i i hi
        cases hb : Nat.beq i.size 0 with
        | true => rw [hb] at hc; cases hc
        | false =>
          rw [hb] at hc; simp only [cond_false, Option.some.injEq] at hc; subst hc
          have v1 := opd_VR hx hT
          simp only [evA] at he
          generalize ev t x' = p at *
          generalize hax : a.eval x = p' at v1
          split at he
          · rename_i b o'
            simp only [Option.some.injEq, Prod.mk.injEq] at he
            obtain ⟨rfl, rfl⟩ := he
            cases v1 with
            | ptr _ _ L hL =>
              have h0 : i.size ≠ 0 := fun e => by rw [beqT e] at hb; cases hb
              refine ⟨_, w, by simp only [execOp, ho, hax]; exact run_v (run_fieldAt hu hq hi h0 _ _), LS.pure ?_⟩
              rw [show o' + L.sh + q.offset = o' + q.offset + L.sh from by omega]
              exact .ptr _ _ _ hL
          · cases he
      · cases hc
    · cases hc
  · cases hc

theorem light_indexAddr {o : Oper} {ty : TypeId} {x y : Operand} {ao : AOp} (ho : o.op = .indexAddr ty x y) (hc : cOp P nt (.indexAddr ty x y) = some ao) (he : evA ao t H = some (v, H')) (hT : TV ι t a (tmpsA ao)) : LightOk P ι a t H H' v w o := by
  simp only [cOp] at hc
  split at hc
  · rename_i e x' y' hu hx hy
    split at hc
    · rename_i i hi
      simp only [Option.some.injEq] at hc; subst hc
      have v1 := opd_VR hx hT.left
      have v2 := opd_VR hy hT.right
      simp only [evA] at he
      generalize ev t x' = p at *
      generalize ev t y' = p2 at *
      generalize hax : a.eval x = p' at v1
      generalize hay : a.eval y = p2' at v2
      split at he
      · rename_i b q n c k j
        split at he
        · rename_i q2 hq
          simp only [Option.some.injEq, Prod.mk.injEq] at he
          obtain ⟨rfl, rfl⟩ := he
          cases v2
          obtain ⟨_, hlt⟩ := ltI_spec hq
          cases v1 with
          | sl _ _ _ _ o' c' L hL hn hcc hxx hll hoo =>
            refine ⟨_, w, by simp only [execOp, ho, hax, hay]; exact run_v (run_index_slice hu hi hq), LS.pure ?_⟩
            rw [hoo (by omega), show q + L.sh + q2 * i.size = q + q2 * i.size + L.sh from by omega]
            exact .ptr _ _ _ hL
        · cases he
      · cases he
    · cases hc
  · rename_i n e x' y' hu hx hy
    split at hc
    · rename_i i hi
      simp only [Option.some.injEq] at hc; subst hc
      have v1 := opd_VR hx hT.left
      have v2 := opd_VR hy hT.right
      simp only [evA] at he
      generalize ev t x' = p at *
      generalize ev t y' = p2 at *
      generalize hax : a.eval x = p' at v1
      generalize hay : a.eval y = p2' at v2
      split at he
      · rename_i b q k j
        split at he
        · rename_i q2 hq
          simp only [Option.some.injEq, Prod.mk.injEq] at he
          obtain ⟨rfl, rfl⟩ := he
          cases v2
          cases v1 with
          | ptr _ _ L hL =>
            refine ⟨_, w, by simp only [execOp, ho, hax, hay]; exact run_v (run_index_array hu hi hq), LS.pure ?_⟩
            rw [show q + L.sh + q2 * i.size = q + q2 * i.size + L.sh from by omega]
            exact .ptr _ _ _ hL
        · cases he
      · cases he
    · cases hc
  · cases hc

theorem light_field {o : Oper} {ty : TypeId} {x : Operand} {f : Nat} {ao : AOp} (ho : o.op = .field ty x f) (hc : cOp P nt (.field ty x f) = some ao) (he : evA ao t H = some (v, H')) (hT : TV ι t a (tmpsA ao)) : LightOk P ι a t H H' v w o := by
  simp only [cOp] at hc
  split at hc
  · rename_i fs x' hu hx
    split at hc
    · rename_i q hq
      split at hc
      · rename_i g n hty
        simp only [Option.some.injEq] at hc; subst hc
        have v1 := opd_VR hx hT
        simp only [evA] at he
        generalize ev t x' = p at *
        generalize hax : a.eval x = p' at v1
        split at he
        · rename_i cs
          split at he
          · rename_i l hl
            split at he
            · rename_i u hu2
              simp only [Option.some.injEq, Prod.mk.injEq] at he
              obtain ⟨rfl, rfl⟩ := he
              cases v1 with
              | agg xs ys h1 h2 h3 =>
                obtain ⟨l', g1, g2⟩ := LR.rdL (ι := ι) hl ⟨h1, h2⟩
                obtain ⟨v', m1, m2⟩ := mkV_VR g2 (fun x hx => h3 x (mem_rdL hl hx)) hu2
                exact ⟨v', w, by simp only [execOp, ho, hax]; exact run_v (run_field hu hq _ (run_part hty ys q.offset g1 m1)), LS.pure m2⟩
            · cases he
          · cases he
        · cases he
      · cases hc
    · cases hc
  · cases hc

theorem light_index {o : Oper} {ty : TypeId} {x y : Operand} {ao : AOp} (ho : o.op = .index ty x y) (hc : cOp P nt (.index ty x y) = some ao) (he : evA ao t H = some (v, H')) (hT : TV ι t a (tmpsA ao)) : LightOk P ι a t H H' v w o := by
  simp only [cOp] at hc
  split at hc
  · rename_i n e x' y' hu hx hy
    split at hc
    · rename_i g k i hty hi
      simp only [Option.some.injEq] at hc; subst hc
      have v1 := opd_VR hx hT.left
      have v2 := opd_VR hy hT.right
      simp only [evA] at he
      generalize ev t x' = p at *
      generalize ev t y' = p2 at *
      generalize hax : a.eval x = p' at v1
      generalize hay : a.eval y = p2' at v2
      split at he
      · rename_i cs kk j
        split at he
        · rename_i q2 hq
          split at he
          · rename_i l hl
            split at he
            · rename_i u hu2
              simp only [Option.some.injEq, Prod.mk.injEq] at he
              obtain ⟨rfl, rfl⟩ := he
              cases v2
              cases v1 with
              | agg xs ys h1 h2 h3 =>
                obtain ⟨l', g1, g2⟩ := LR.rdL (ι := ι) hl ⟨h1, h2⟩
                obtain ⟨v', m1, m2⟩ := mkV_VR g2 (fun x hx => h3 x (mem_rdL hl hx)) hu2
                exact ⟨v', w, by simp only [execOp, ho, hax, hay]; exact run_v (run_index_agg hu hi hq _ (run_part hty ys _ g1 m1)), LS.pure m2⟩
            · cases he
          · cases he
        · cases he
      · cases he
    · cases hc
  · rename_i x' y' hu hx hy
    simp only [Option.some.injEq] at hc; subst hc
    have v1 := opd_VR hx hT.left
    have v2 := opd_VR hy hT.right
    simp only [evA] at he
    generalize ev t x' = p at *
    generalize ev t y' = p2 at *
    generalize hax : a.eval x = p' at v1
    generalize hay : a.eval y = p2' at v2
    split at he
    · split at he
      · rename_i b hb
        simp only [Option.some.injEq, Prod.mk.injEq] at he
        obtain ⟨rfl, rfl⟩ := he
        cases v1; cases v2
        exact ⟨_, w, by simp only [execOp, ho, hax, hay]; exact run_v (run_index_string hu hb), LS.pure (.int _ _)⟩
      · cases he
    · cases he
  · cases hc

theorem light_extract {o : Oper} {x : Operand} {i : Nat} {y : Opd} (ho : o.op = .extract x i) (hc : cOpd nt x = some y) (he : evA (.ex y i) t H = some (v, H')) (hT : TV ι t a (opT y)) : LightOk P ι a t H H' v w o := by
  have v1 := opd_VR hc hT
  simp only [evA] at he
  generalize ev t y = p at *
  generalize hax : a.eval x = p' at v1
  split at he
  · rename_i vs
    split at he
    · rename_i u hu
      simp only [Option.some.injEq, Prod.mk.injEq] at he
      obtain ⟨rfl, rfl⟩ := he
      cases v1 with
      | tup xs ys h1 h2 =>
        obtain ⟨u', g1, g2⟩ := LR.get (ι := ι) ⟨h1, h2⟩ hu
        have g1' : (Array.mk ys)[i]? = some u' := by simpa using g1
        exact ⟨u', w, by simp only [execOp, ho, hax]; exact run_v (by simp only [Instr.extract, g1', Sem.run_pure]), LS.pure g2⟩
    · cases he
  · cases he

theorem light_makeFunc {o : Oper} {f : Nat} {first captured : Array Operand} {xs ys : List Opd} (ho : o.op = .makeFunc (.func f) first captured) (h1 : cOpds nt first.toList = some xs) (h2 : cOpds nt captured.toList = some ys)
    (he : evA (.mf f xs ys) t H = some (v, H')) (hT : TV ι t a (opTs xs ++ opTs ys)) : LightOk P ι a t H H' v w o := by
  have v1 := opds_LR h1 hT.left
  have v2 := opds_LR h2 hT.right
  simp only [evA, Option.some.injEq, Prod.mk.injEq] at he
  obtain ⟨rfl, rfl⟩ := he
  refine ⟨.func (.func f) (first.map a.eval) (captured.map a.eval), w, by simp only [execOp, ho]; exact run_v (by simp [Instr.makeFunc]), LS.pure ?_⟩
  have e1 : first.map a.eval = ⟨first.toList.map a.eval⟩ := by apply Array.ext'; simp
  have e2 : captured.map a.eval = ⟨captured.toList.map a.eval⟩ := by apply Array.ext'; simp
  rw [e1, e2]
  exact .fn f _ _ _ _ v1.1 v1.2 v2.1 v2.2

theorem run_call_builtin {o : Oper} {b : Builtin} {args : Array Operand} {tys : Array TypeId} (ho : o.op = .call { callee := .builtin b, args, argTypes := tys }) {v : Value} {w' : World}
    (h : (builtin b tys o.type (args.map fun | .const _ => true | _ => false) (args.map a.eval)).run P w = .ok (.value v) w') : (execOp a.eval o).run P w = .ok (.value v) w' := by
  simp only [execOp, ho, resolve, Sem.run_bind, Sem.run_pure, Result.andThen_ok, invoke]
  exact h

theorem opds_one {xs : List Operand} {y : Opd} (h : cOpds nt xs = some [y]) : ∃ x, xs = [x] ∧ cOpd nt x = some y := by
  cases xs with
  | nil => simp [cOpds] at h
  | cons x r =>
    simp only [cOpds] at h
    split at h
    · rename_i y' ys h1 h2
      simp only [Option.some.injEq, List.cons.injEq] at h
      obtain ⟨rfl, rfl⟩ := h
      cases r with
      | nil => exact ⟨x, rfl, h1⟩
      | cons _ _ =>
        simp only [cOpds] at h2
        split at h2 <;> cases h2
    · cases h
theorem opds_two {xs : List Operand} {y z : Opd} (h : cOpds nt xs = some [y, z]) : ∃ x x2, xs = [x, x2] ∧ cOpd nt x = some y ∧ cOpd nt x2 = some z := by
  cases xs with
  | nil => simp [cOpds] at h
  | cons x r =>
    simp only [cOpds] at h
    split at h
    · rename_i y' ys h1 h2
      simp only [Option.some.injEq, List.cons.injEq] at h
      obtain ⟨rfl, rfl⟩ := h
      obtain ⟨x2, rfl, h3⟩ := opds_one h2
      exact ⟨x, x2, rfl, h1, h3⟩
    · cases h

theorem light_len {o : Oper} {args : Array Operand} {tys : Array TypeId} {ao : AOp} (ho : o.op = .call { callee := .builtin .len, args, argTypes := tys }) (hc : cOp P nt (.call { callee := .builtin .len, args, argTypes := tys }) = some ao)
    (he : evA ao t H = some (v, H')) (hT : TV ι t a (tmpsA ao)) : LightOk P ι a t H H' v w o := by
  simp only [cOp] at hc
  split at hc
  · rename_i ty x' hty hx
    have etys : tys = #[ty] := by apply Array.ext'; rw [hty]
    obtain ⟨x, ex, hx1⟩ := opds_one hx
    have eargs : args = #[x] := by apply Array.ext'; rw [ex]
    subst etys; subst eargs
    split at hc
    · rename_i e hu
      simp only [Option.some.injEq] at hc; subst hc
      have v1 := opd_VR hx1 hT
      simp only [evA] at he
      generalize ev t x' = p at *
      generalize hax : a.eval x = p' at v1
      split at he
      · simp only [Option.some.injEq, Prod.mk.injEq] at he
        obtain ⟨rfl, rfl⟩ := he
        cases v1 with
        | sl0 => exact ⟨_, w, run_call_builtin ho (by simp [builtin, Builtin.len_, hax, run_under hu, goInt]), LS.pure (.int _ _)⟩
        | sl b o' n c o2 c2 L hL => exact ⟨_, w, run_call_builtin ho (by simp [builtin, Builtin.len_, hax, run_under hu, goInt]), LS.pure (.int _ _)⟩
      · cases he
    · rename_i hu
      simp only [Option.some.injEq] at hc; subst hc
      have v1 := opd_VR hx1 hT
      simp only [evA] at he
      generalize ev t x' = p at *
      generalize hax : a.eval x = p' at v1
      split at he
      · simp only [Option.some.injEq, Prod.mk.injEq] at he
        obtain ⟨rfl, rfl⟩ := he
        cases v1
        exact ⟨_, w, run_call_builtin ho (by simp [builtin, Builtin.len_, hax, run_under hu, goInt]), LS.pure (.int _ _)⟩
      · cases he
    · rename_i n e hu
      simp only [Option.some.injEq] at hc; subst hc
      simp only [evA, Option.some.injEq, Prod.mk.injEq] at he
      obtain ⟨rfl, rfl⟩ := he
      exact ⟨_, w, run_call_builtin ho (by simp [builtin, Builtin.len_, run_under hu, goInt]), LS.pure (.int _ _)⟩
    · cases hc
  · cases hc

theorem minI_run {m : Bool} {xs xs' : List Value} {u : Value} (h : minI m xs = some u) (hl : LR ι xs xs') :
    ∃ x r, xs' = x :: r ∧ (r.foldlM (if m then Builtin.min2 else Builtin.max2) x).run P w = .ok u w ∧ VR ι u u := by
  cases xs with
  | nil => cases h
  | cons x r =>
    obtain ⟨x', r', rfl, h1, h2⟩ := hl.cons_inv
    cases x with
    | int k n =>
      cases h1
      simp only [minI] at h
      obtain ⟨g1, z, rfl⟩ := minG_run (P := P) (w := w) m k r' n u (LR.minG h2 h)
      exact ⟨_, _, rfl, g1, .int _ _⟩
    | _ => simp [minI] at h

theorem light_min {o : Oper} {args : Array Operand} {tys : Array TypeId} {xs : List Opd} (ho : o.op = .call { callee := .builtin .min, args, argTypes := tys }) (hc : cOpds nt args.toList = some xs)
    (he : evA (.mn xs) t H = some (v, H')) (hT : TV ι t a (opTs xs)) : LightOk P ι a t H H' v w o := by
  have v1 := opds_LR hc hT
  simp only [evA] at he
  split at he
  · rename_i u hu
    simp only [Option.some.injEq, Prod.mk.injEq] at he
    obtain ⟨rfl, rfl⟩ := he
    obtain ⟨x, r, e1, g1, g2⟩ := minI_run (P := P) (w := w) hu v1
    simp only [if_true] at g1
    exact ⟨_, w, run_call_builtin ho (by simp [builtin, Builtin.min_, e1, g1]), LS.pure g2⟩
  · cases he
theorem light_max {o : Oper} {args : Array Operand} {tys : Array TypeId} {xs : List Opd} (ho : o.op = .call { callee := .builtin .max, args, argTypes := tys }) (hc : cOpds nt args.toList = some xs)
    (he : evA (.mx xs) t H = some (v, H')) (hT : TV ι t a (opTs xs)) : LightOk P ι a t H H' v w o := by
  have v1 := opds_LR hc hT
  simp only [evA] at he
  split at he
  · rename_i u hu
    simp only [Option.some.injEq, Prod.mk.injEq] at he
    obtain ⟨rfl, rfl⟩ := he
    obtain ⟨x, r, e1, g1, g2⟩ := minI_run (P := P) (w := w) hu v1
    simp only [Bool.false_eq_true, if_false] at g1
    exact ⟨_, w, run_call_builtin ho (by simp [builtin, Builtin.max_, e1, g1]), LS.pure g2⟩
  · cases he

/-- A light operation, whichever it is. -/
theorem light_sound {o : Oper} {ao : AOp} (hc : cOp P nt o.op = some ao) (hl : heavy ao = false) (he : evA ao t H = some (v, H')) (hT : TV ι t a (tmpsA ao)) (hrd : RdOk ι ao t H w) (hk : KdOk ι H) : LightOk P ι a t H H' v w o := by
  cases ho : o.op with
  | move x =>
    rw [ho] at hc; simp only [cOp] at hc
    split at hc
    · rename_i y hy
      simp only [Option.some.injEq] at hc; subst hc
      simp only [evA, Option.some.injEq, Prod.mk.injEq] at he
      obtain ⟨rfl, rfl⟩ := he
      exact ⟨_, w, by simp only [execOp, ho]; rfl, LS.pure (opd_VR hy hT)⟩
    · cases hc
  | assign x =>
    rw [ho] at hc; simp only [cOp] at hc
    split at hc
    · rename_i y hy
      simp only [Option.some.injEq] at hc; subst hc
      simp only [evA, Option.some.injEq, Prod.mk.injEq] at he
      obtain ⟨rfl, rfl⟩ := he
      exact ⟨_, w, by simp only [execOp, ho]; rfl, LS.pure (opd_VR hy hT)⟩
    · cases hc
  | pick c x y =>
    rw [ho] at hc; simp only [cOp] at hc
    split at hc
    · rename_i c' x' y' h1 h2 h3
      simp only [Option.some.injEq] at hc; subst hc
      exact light_pick ho h1 h2 h3 he hT
    · cases hc
  | alloc e =>
    rw [ho] at hc; simp only [cOp] at hc
    split at hc
    · rename_i zs hz
      simp only [Option.some.injEq] at hc; subst hc
      exact light_alloc ho hz he
    · cases hc
  | box e x =>
    rw [ho] at hc; simp only [cOp] at hc
    split at hc
    · rename_i y hy
      simp only [Option.some.injEq] at hc; subst hc
      exact light_box ho hy he hT
    · cases hc
  | build ty ps => rw [ho] at hc; exact light_build ho hc he hT
  | buildSlice ty n ps => rw [ho] at hc; exact light_buildSlice ho hc he hT
  | load ty x =>
    rw [ho] at hc; simp only [cOp] at hc
    split at hc
    · rename_i g n y h1 h2
      simp only [Option.some.injEq] at hc; subst hc
      exact light_load ho h1 h2 he hT hrd
    · cases hc
  | nilCheck x =>
    rw [ho] at hc; simp only [cOp] at hc
    split at hc
    · rename_i y hy
      simp only [Option.some.injEq] at hc; subst hc
      exact light_nilCheck ho hy he hT
    · cases hc
  | binOp op ty x y ty2 =>
    rw [ho] at hc; simp only [cOp] at hc
    split at hc
    · rename_i x' y' h1 h2
      simp only [Option.some.injEq] at hc; subst hc
      exact light_binOp ho h1 h2 he hT
    · cases hc
  | unOp op ty x =>
    rw [ho] at hc; simp only [cOp] at hc
    split at hc
    · rename_i y hy
      simp only [Option.some.injEq] at hc; subst hc
      exact light_unOp ho hy he hT
    · cases hc
  | convert s d x => rw [ho] at hc; exact light_convert ho hc he hT hrd
  | makeSlice ty x y => rw [ho] at hc; exact light_makeSlice ho hc he hT
  | slice ty x lo hi mx => rw [ho] at hc; exact light_slice ho hc he hT hk
  | fieldAddr s x f => rw [ho] at hc; exact light_fieldAddr ho hc he hT
  | indexAddr ty x y => rw [ho] at hc; exact light_indexAddr ho hc he hT
  | field ty x f => rw [ho] at hc; exact light_field ho hc he hT
  | index ty x y => rw [ho] at hc; exact light_index ho hc he hT
  | extract x i =>
    rw [ho] at hc; simp only [cOp] at hc
    split at hc
    · rename_i y hy
      simp only [Option.some.injEq] at hc; subst hc
      exact light_extract ho hy he hT
    · cases hc
  | makeFunc fn first captured =>
    rw [ho] at hc
    cases fn with
    | func f =>
      simp only [cOp] at hc
      split at hc
      · rename_i xs ys h1 h2
        simp only [Option.some.injEq] at hc; subst hc
        exact light_makeFunc ho h1 h2 he hT
      · cases hc
    | _ => simp [cOp] at hc
  | store ty x y =>
    rw [ho] at hc; simp only [cOp] at hc
    split at hc
    · simp only [Option.some.injEq] at hc; subst hc; cases hl
    · cases hc
  | call c =>
    rw [ho] at hc
    obtain ⟨callee, args, tys⟩ := c
    cases callee with
    | value f =>
      cases f with
      | func f =>
        simp only [cOp] at hc
        split at hc
        · rename_i fn hf
          cases hb : (fn.name != "runtime.NumGoroutine" && fn.body.isSome) with
          | false => rw [hb] at hc; cases hc
          | true =>
            rw [hb] at hc; simp only [cond_true] at hc
            split at hc
            · simp only [Option.some.injEq] at hc; subst hc; cases hl
            · cases hc
        · cases hc
      | tmp q =>
        simp only [cOp] at hc
        split at hc
        · simp only [Option.some.injEq] at hc; subst hc; cases hl
        · cases hc
      | _ => simp [cOp] at hc
    | invoke r m => simp [cOp] at hc
    | builtin b =>
      cases b with
      | len => exact light_len ho hc he hT
      | min =>
        simp only [cOp] at hc
        split at hc
        · rename_i xs hx
          simp only [Option.some.injEq] at hc; subst hc
          exact light_min ho hx he hT
        · cases hc
      | max =>
        simp only [cOp] at hc
        split at hc
        · rename_i xs hx
          simp only [Option.some.injEq] at hc; subst hc
          exact light_max ho hx he hT
        · cases hc
      | append =>
        simp only [cOp] at hc
        split at hc
        · split at hc
          · split at hc
            · simp only [Option.some.injEq] at hc; subst hc; cases hl
            · cases hc
          · split at hc
            · simp only [Option.some.injEq] at hc; subst hc; cases hl
            · cases hc
          · split at hc
            · simp only [Option.some.injEq] at hc; subst hc; cases hl
            · cases hc
          · cases hc
        · cases hc
      | clear =>
        simp only [cOp] at hc
        split at hc
        · split at hc
          · split at hc
            · simp only [Option.some.injEq] at hc; subst hc; cases hl
            · cases hc
          · cases hc
        · cases hc
      | copy =>
        simp only [cOp] at hc
        split at hc
        · split at hc
          · split at hc
            · simp only [Option.some.injEq] at hc; subst hc; cases hl
            · cases hc
          · cases hc
        · cases hc
      | _ => simp [cOp] at hc
  | _ => rw [ho] at hc; simp [cOp] at hc

end
end Go.Ri
