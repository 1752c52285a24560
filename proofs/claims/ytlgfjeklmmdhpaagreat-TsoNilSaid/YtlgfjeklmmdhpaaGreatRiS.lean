/- Ri, part S: frames: temporaries, guards, results, calls. -/
import Derived.Test.YtlgfjeklmmdhpaaGreatRiR
set_option linter.unusedVariables false
set_option linter.unusedSimpArgs false
namespace Go.Ri

section
variable {P : Program} {w : World} {ι : Em} {B : Nat} {nt : Nat}

/-- The fence that lets everything in. -/
def FF (ρ : Option Nat) : Fence := { Fence.wide with round := ρ }
theorem FF_fn (ρ : Option Nat) (f : FuncId) : (FF ρ).fn f := trivial
theorem FF_depth (ρ : Option Nat) : ((FF ρ).depth.isSome = true → 1 ≤ 0) := fun h => by simp [FF, Fence.wide] at h
theorem callsIn_FF {ρ : Option Nat} {f : FuncId} {args : Array Value} {w : World} {R : Ending → World → Prop} (h : CallsIn (FF none) 0 P f args w R) : CallsIn (FF ρ) 0 P f args w R := h
theorem callsIn_FF_calls {ρ : Option Nat} {f : FuncId} {args : Array Value} {w : World} {R : Ending → World → Prop} (h : CallsIn (FF ρ) 0 P f args w R) : Calls P f args w R :=
  CallsIn.calls h (fun k d hd => by simp [FF, Fence.wide] at hd)

structure TR (ι : Em) (nt : Nat) (t : Tm) (a : Act) : Prop where
  size : a.tmps.size = nt
  val : ∀ n, n < nt → VR ι ((t.get n).getD undefV) (a.tmps.getD n undef)
theorem TR.tv {t : Tm} {a : Act} (h : TR ι nt t a) {ns : List Nat} (hn : ∀ n ∈ ns, n < nt) : TV ι t a ns := fun n hm => h.val n (hn n hm)
theorem TR.mono {ι' : Em} {t : Tm} {a : Act} (h : TR ι nt t a) (hs : Sub ι ι') : TR ι' nt t a := ⟨h.size, fun n hn => (h.val n hn).mono hs⟩
theorem TR.put {t : Tm} {a : Act} (h : TR ι nt t a) {d : Option Nat} (hd : cDst nt d = true) {v v' : Value} (hv : VR ι v v') : TR ι nt (putD t d v) (a.put d v') := by
  cases d with
  | none => exact h
  | some d =>
    have hd' : d < nt := by simpa [cDst, Nat.blt_eq] using hd
    refine ⟨by simp [Act.put, h.size], fun n hn => ?_⟩
    simp only [putD, T8.get_set, Act.put]
    by_cases e : n = d
    · subst e
      simp only [if_true, Option.getD_some]
      rw [Array.getD_eq_getD_getElem?, Array.getElem?_setIfInBounds_self_of_lt (by rw [h.size]; exact hn)]
      exact hv
    · rw [if_neg e, Array.getD_eq_getD_getElem?, Array.getElem?_setIfInBounds_ne (Ne.symm e), ← Array.getD_eq_getD_getElem?]
      exact h.val n hn
theorem put_defers (a : Act) (d : Option Nat) (v : Value) : (a.put d v).defers = a.defers := by cases d <;> rfl

/-! ### Compiled operations name temporaries that are there -/
theorem cOpd_lt {x : Operand} {y : Opd} (h : cOpd nt x = some y) : ∀ n ∈ opT y, n < nt := by
  intro n hn
  cases x with
  | tmp q =>
    simp only [cOpd] at h
    cases hb : Nat.blt q nt with
    | false => rw [hb] at h; cases h
    | true =>
      rw [hb] at h; simp only [cond_true, Option.some.injEq] at h; subst h
      simp only [opT, List.mem_singleton] at hn; subst hn
      simpa [Nat.blt_eq] using hb
  | const v =>
    simp only [cOpd] at h
    cases hb : konst v with
    | false => rw [hb] at h; cases h
    | true => rw [hb] at h; simp only [cond_true, Option.some.injEq] at h; subst h; simp [opT] at hn
  | global g => cases h
  | func f => simp only [cOpd, Option.some.injEq] at h; subst h; simp [opT] at hn

/-! ### One operation, compiled -/
/-- What it means that an operation of part A's was made of one of the model's. -/
structure COk (P : Program) (nt : Nat) (all : Array Oper) (o : Oper) (b : AOper) : Prop where
  op : cOp P nt o.op = some b.op
  dst : b.dst = o.dst
  dlt : cDst nt o.dst = true
  guard : cGuard nt all o.guard = some b.guard
  tmp : ∀ n ∈ tmpsO b, n < nt

theorem cGuard_wanted {all : Array Oper} {o : Oper} {g : Option (Nat × Bool)} {t : Tm} {a : Act} (h : cGuard nt all o.guard = some g) (hs : a.tmps.size = nt)
    (hT : ∀ q w, g = some (q, w) → VR ι ((t.get q).getD undefV) (a.tmps.getD q undef)) : Region.wanted o (yielded all a.tmps) = wantG t g := by
  unfold Region.wanted
  cases hg : o.guard with
  | none =>
    rw [hg] at h
    simp only [cGuard, Option.some.injEq] at h; subst h
    rfl
  | some p =>
    obtain ⟨j, want⟩ := p
    rw [hg] at h
    simp only [cGuard] at h
    split at h
    · rename_i q hq
      cases hb : Nat.blt q nt with
      | false => rw [hb] at h; cases h
      | true =>
        rw [hb] at h; simp only [cond_true, Option.some.injEq] at h; subst h
        have hlt : q < a.tmps.size := by rw [hs]; simpa [Nat.blt_eq] using hb
        have hv := hT q want rfl
        have hget : a.tmps[q]? = some (a.tmps.getD q undef) := by simp [hlt]
        simp only [yielded, hq, Option.bind_some, hget, wantG]
        generalize a.tmps.getD q undef = u at hv
        cases hgt : t.get q with
        | none =>
          rw [hgt] at hv
          simp only [Option.getD_none] at hv
          cases hv <;> rfl
        | some z =>
          rw [hgt] at hv
          simp only [Option.getD_some] at hv
          cases hv <;> first | rfl | (rename_i b; cases b <;> cases want <;> rfl)
    · cases h

theorem cOp_defer {o : Oper} {ao : AOp} (h : cOp P nt o.op = some ao) : ∀ c, o.op ≠ .defer c := fun c e => by rw [e] at h; simp [cOp] at h
theorem semAt_FF {o : Oper} {ao : AOp} (h : cOp P nt o.op = some ao) (ρ : Option Nat) (e : Operand → Value) : Oper.semAt (FF ρ).round e o = execOp e o := Oper.semAt_eq _ _ _ (cOp_defer h)

/-- An operation that calls nothing, in the walk's words. -/
theorem wpIn_value {o : Oper} {ao : AOp} (hc : cOp P nt o.op = some ao) {ρ : Option Nat} {a : Act} {K : Act → World → Prop} {Q : Exit → Act → World → Prop} {v' : Value} {w' : World}
    (hr : (execOp a.eval o).run P w = .ok (.value v') w' ∨ ((execOp a.eval o).run P w = .ok .skip w' ∧ v' = undef)) (hK : K (a.put o.dst v') w') : o.wpIn (FF ρ) 0 P a w K Q := by
  refine ⟨fun f _ => trivial, ?_⟩
  rw [semAt_FF hc]
  rcases hr with hr | ⟨hr, rfl⟩
  · rw [hr]; exact hK
  · rw [hr]; exact hK

/-- A call of a function by its name. -/
theorem wpIn_call {o : Oper} {f : FuncId} {args : Array Operand} {tys : Array TypeId} (ho : o.op = .call { callee := .value (.func f), args, argTypes := tys }) {fn : Func} (hf : P.funcs[f]? = some fn) (hn : (fn.name != "runtime.NumGoroutine") = true) (hb : fn.body.isSome = true)
    {ρ : Option Nat} {a : Act} {K : Act → World → Prop} {Q : Exit → Act → World → Prop} {R : Ending → World → Prop} (hC : CallsIn (FF ρ) 0 P f (args.map a.eval) w R) (hK : ∀ e w', R e w' → ∃ v, e = .returned v ∧ K (a.put o.dst v) w') : o.wpIn (FF ρ) 0 P a w K Q := by
  refine ⟨fun f _ => trivial, ?_⟩
  rw [Oper.semAt_eq _ _ _ (fun c e => by rw [ho] at e; cases e)]
  have hrun : (execOp a.eval o).run P w = .ok (.enter f (args.map a.eval)) w := by
    have hn' : fn.name ≠ "runtime.NumGoroutine" := by simpa using hn
    have hb' : ¬ fn.body = none := fun e => by rw [e] at hb; cases hb
    simp [execOp, ho, resolve, Deferred.ofValue, Act.eval, invoke, callFunc, hf, hn', hb']
  rw [hrun]
  refine ⟨FF_depth ρ, hC.mono fun e w' hR => ?_⟩
  obtain ⟨v, rfl, hk⟩ := hK e w' hR
  exact hk

/-- A call of a function value. -/
theorem wpIn_callV {o : Oper} {q : Tmp} {args : Array Operand} {tys : Array TypeId} (ho : o.op = .call { callee := .value (.tmp q), args, argTypes := tys }) {a : Act} {f : FuncId} {first captured : Array Value} (hv : a.eval (.tmp q) = .func (.func f) first captured)
    {fn : Func} (hf : P.funcs[f]? = some fn) (hn : (fn.name != "runtime.NumGoroutine") = true) (hb : fn.body.isSome = true)
    {ρ : Option Nat} {K : Act → World → Prop} {Q : Exit → Act → World → Prop} {R : Ending → World → Prop} (hC : CallsIn (FF ρ) 0 P f (first ++ args.map a.eval ++ captured) w R) (hK : ∀ e w', R e w' → ∃ v, e = .returned v ∧ K (a.put o.dst v) w') : o.wpIn (FF ρ) 0 P a w K Q := by
  refine ⟨fun f _ => trivial, ?_⟩
  rw [Oper.semAt_eq _ _ _ (fun c e => by rw [ho] at e; cases e)]
  have hrun : (execOp a.eval o).run P w = .ok (.enter f (first ++ args.map a.eval ++ captured)) w := by
    have hn' : fn.name ≠ "runtime.NumGoroutine" := by simpa using hn
    have hb' : ¬ fn.body = none := fun e => by rw [e] at hb; cases hb
    simp [execOp, ho, resolve, hv, Deferred.ofValue, invoke, callFunc, hf, hn', hb']
  rw [hrun]
  refine ⟨FF_depth ρ, hC.mono fun e w' hR => ?_⟩
  obtain ⟨v, rfl, hk⟩ := hK e w' hR
  exact hk

/-! ### Results -/
def resStep (tmps : Array Value) : ResultVar → Sem Value
  | .tmp t => pure (tmps.getD t undef)
  | .cell a t => do loadVar t (← asAddr (tmps.getD a undef))
theorem results_eq (fn : Func) (tmps : Array Value) : results fn tmps = (do
    let vs ← fn.results.mapM (resStep tmps)
    pure (if h : vs.size = 1 then vs[0] else .tuple vs)) := rfl
theorem run_results {H : AH} {t : Tm} {a : Act} (h : HR B ι H.get w) (hT : TR ι nt t a) : ∀ {rs : List ResultVar} {as : List ARes} {l : List Value}, cRes P nt rs = some as → resL t H as = some l →
    ∃ l', LR ι l l' ∧ (rs.mapM (resStep a.tmps)).run P w = .ok l' w
  | [], as, l, hc, hr => by
    simp only [cRes, Option.some.injEq] at hc; subst hc
    simp only [resL, Option.some.injEq] at hr; subst hr
    exact ⟨[], LR.nil _, rfl⟩
  | .tmp q :: r, as, l, hc, hr => by
    simp only [cRes] at hc
    split at hc
    · rename_i l0 h0
      cases hb : Nat.blt q nt with
      | false => rw [hb] at hc; cases hc
      | true =>
        rw [hb] at hc; simp only [cond_true, Option.some.injEq] at hc; subst hc
        simp only [resL] at hr
        split at hr
        · rename_i l1 h1
          simp only [Option.some.injEq] at hr; subst hr
          obtain ⟨l', g1, g2⟩ := run_results h hT h0 h1
          refine ⟨a.tmps.getD q undef :: l', LR.cons (hT.val q (by simpa [Nat.blt_eq] using hb)) g1, ?_⟩
          rw [List.mapM_cons]
          simp only [resStep, Sem.run_bind, Sem.run_pure, Result.andThen_ok, g2]
        · cases hr
    · cases hc
  | .cell q ty :: r, as, l, hc, hr => by
    simp only [cRes] at hc
    split at hc
    · rename_i g n l0 hty h0
      cases hb : Nat.blt q nt with
      | false => rw [hb] at hc; cases hc
      | true =>
        rw [hb] at hc; simp only [cond_true, Option.some.injEq] at hc; subst hc
        simp only [resL] at hr
        have hv := hT.val q (by simpa [Nat.blt_eq] using hb)
        generalize (t.get q).getD undefV = p at hv hr
        generalize hau : a.tmps.getD q undef = p' at hv
        split at hr
        · rename_i b oo
          split at hr
          · rename_i cs hcs
            split at hr
            · rename_i u l1 hm h1
              simp only [Option.some.injEq] at hr; subst hr
              obtain ⟨l', g1, g2⟩ := run_results h hT h0 h1
              cases hv with
              | ptr _ _ L hL =>
                unfold AH.rd at hcs
                split at hcs
                · rename_i k hk
                  obtain ⟨c', r1, r2, r3⟩ := (h.blk b k L hk hL).row hcs
                  obtain ⟨v', m1, m2⟩ := mkV_VR r1 r2 hm
                  have hlen : c'.length = n := by rw [← r1.1]; exact (rdL_spec hcs).2.1
                  refine ⟨v' :: l', LR.cons m2 g1, ?_⟩
                  rw [List.mapM_cons]
                  simp only [resStep, Sem.run_bind, hau, asAddr, Sem.run_pure, Result.andThen_ok, run_loadVar hty L.r _ hlen r3 m1, g2]
                · cases hcs
            · cases hr
          · cases hr
        · cases hr
    · cases hc

theorem run_results_fn {H : AH} {t : Tm} {a : Act} {fn : Func} {as : List ARes} {l : List Value} (h : HR B ι H.get w) (hT : TR ι nt t a) (hc : cRes P nt fn.results.toList = some as) (hr : resL t H as = some l) :
    ∃ v', (results fn a.tmps).run P w = .ok v' w ∧ VR ι (resV l) v' := by
  obtain ⟨l', g1, g2⟩ := run_results h hT hc hr
  have hm : (fn.results.mapM (resStep a.tmps)).run P w = .ok l'.toArray w := by
    rw [Array.mapM_eq_mapM_toList, Sem.run_map, g2]; rfl
  refine ⟨resV l', ?_, ?_⟩
  · rw [results_eq, Sem.run_bind, hm]
    simp only [Result.andThen_ok, Sem.run_pure]
    congr 1
    cases l' with
    | nil => rfl
    | cons x r => cases r with
      | nil => rfl
      | cons y r => simp [resV]
  · cases l with
    | nil => rw [g1.nil_inv]; exact .tup [] [] rfl (fun i x y hx => by simp at hx)
    | cons x r =>
      obtain ⟨x', r', rfl, h1, h2⟩ := g1.cons_inv
      cases r with
      | nil => rw [h2.nil_inv]; exact h1
      | cons y r =>
        obtain ⟨y', r2, rfl, h3, h4⟩ := h2.cons_inv
        exact .tup _ _ g1.1 g1.2

theorem initT_get : ∀ (args : List Value) (i : Nat) (t : Tm) (n : Nat), (initT i args t).get n = if i ≤ n ∧ n < i + args.length then args[n - i]? else t.get n
  | [], i, t, n => by rw [initT, if_neg (by simp only [List.length_nil]; omega)]
  | v :: r, i, t, n => by
    rw [initT, initT_get r (i + 1) _ n, T8.get_set]
    by_cases h1 : i + 1 ≤ n ∧ n < i + 1 + r.length
    · rw [if_pos h1, if_pos (by simp; omega)]
      rw [show n - i = (n - (i + 1)) + 1 from by omega]; simp
    · rw [if_neg h1]
      by_cases h2 : n = i
      · subst h2
        rw [if_pos rfl, if_pos (by simp), Nat.sub_self]; rfl
      · rw [if_neg h2, if_neg (by simp; omega)]

theorem TR.init {args : List Value} {args' : Array Value} (h : LR ι args args'.toList) (hl : args.length ≤ nt) : TR ι nt (initT 0 args .nil) { tmps := args' ++ Array.replicate (nt - args'.size) undef, defers := [] } := by
  have hs : args'.size = args.length := by rw [← Array.length_toList, ← h.1]
  refine ⟨by simp [hs]; omega, fun n hn => ?_⟩
  rw [initT_get]
  by_cases hlt : n < args.length
  · rw [if_pos (by omega)]
    have h1 : args[n - 0]? = some (args[n]) := by simp [hlt]
    have h2 : (args' ++ Array.replicate (nt - args'.size) undef).getD n undef = args'[n]'(by omega) := by
      rw [Array.getD_eq_getD_getElem?, Array.getElem?_append_left (by omega)]
      simp [hs, hlt]
    rw [h1, h2]
    exact h.2 n _ _ (by simp [hlt]) (by simp [hs, hlt])
  · rw [if_neg (by omega)]
    have h2 : (args' ++ Array.replicate (nt - args'.size) undef).getD n undef = undef := by
      rw [Array.getD_eq_getD_getElem?, Array.getElem?_append_right (by omega)]
      simp [Array.getElem?_replicate]
      split <;> rfl
    rw [h2, T8.get_nil]
    exact VR.undef ι

end
end Go.Ri
