/- Ri, part Q: appending, copying, clearing; any operation that calls nothing. -/
import Derived.Test.YtlgfjeklmmdhpaaGreatRiP
set_option linter.unusedVariables false
set_option linter.unusedSimpArgs false
namespace Go.Ri

section
variable {P : Program} {w : World} {ι : Em} {B : Nat} {nt : Nat} {t : Tm} {a : Act} {H H' : AH} {v : Value}

/-- An append's source, as part A takes it. -/
def apNew (H : AH) (sz : Nat) (q : Value) : Option (List Value) := match q with
  | .slice none m _ => cond (Nat.beq m 0) (some []) none
  | .slice (some ⟨b, o, none⟩) m _ => cond (Nat.beq m 0) (some []) (H.rd b o (m * sz))
  | .string s => cond (Nat.beq sz 1) (some (s.data.toList.map fun q => Value.int .u8 q.toNat)) none
  | _ => none
theorem ap_src {q q' : Value} {sz m : Nat} {new : List Value} (h : HR B ι H.get w) (hv : VR ι q q') (hn : apNew H sz q = some new) (hm : apLen q = some m) :
    (Builtin.lenOf q').run P w = .ok m w ∧ ∃ new', LR ι new new' ∧ (∀ x ∈ new, one x = true) ∧ new.length = m * sz ∧ (Builtin.firstCells sz m q').run P w = .ok new'.toArray w ∧ (Builtin.firstCells sz m q').run P w.drew = .ok new'.toArray w.drew := by
  cases hv with
  | sl0 =>
    simp only [apLen, Option.some.injEq] at hm; subst hm
    exact src_ok h .sl0 rfl (Nat.le_refl _) (by simpa [apNew, kNew] using hn)
  | sl b o n c o' c' L hL hnc hcc hx hl hoo =>
    simp only [apLen, Option.some.injEq] at hm; subst hm
    exact src_ok h (.sl b o n c o' c' L hL hnc hcc hx hl hoo) rfl (Nat.le_refl _) (by simpa [apNew, kNew] using hn)
  | string s =>
    simp only [apLen, Option.some.injEq] at hm; subst hm
    refine src_ok h (.string s) rfl (Nat.le_refl _) ?_
    simp only [apNew, kNew] at hn ⊢
    have : s.data.toList.take s.size = s.data.toList := List.take_of_length_le (by exact Nat.le_refl _)
    rw [this]; exact hn
  | _ => simp [apLen] at hm

theorem op_append {o : Oper} {args : Array Operand} {tys : Array TypeId} {ao : AOp} (ho : o.op = .call { callee := .builtin .append, args, argTypes := tys }) (hc : cOp P nt (.call { callee := .builtin .append, args, argTypes := tys }) = some ao)
    (he : evA ao t H = some (v, H')) (hT : TV ι t a (tmpsA ao)) (h : HR B ι H.get w) (hf : ∀ b, H.nx ≤ b → b < H'.nx → ι b = none) : OpOk P B ι a H H' v w o := by
  have plain : ∀ {ty u e : TypeId} {d : TypeDesc} {x' y' : Opd} {i : TypeInfo} {zs : List Value}, tys = #[ty, u] → cOpds nt args.toList = some [x', y'] → P.underlying ty = some (.slice e) → P.underlying u = some d → ((∃ q, d = .slice q) ∨ d = .string) →
      P.info? e = some i → cZero P e = some zs → ao = .ap e i.size i.bytes x' y' → OpOk P B ι a H H' v w o := by
    intro ty u e d x' y' i zs etys hx hu hu2 hd hi hz hao
    subst hao
    obtain ⟨x, y, ex, hx1, hy1⟩ := opds_two hx
    have eargs : args = #[x, y] := by apply Array.ext'; rw [ex]
    subst etys; subst eargs
    obtain ⟨i', z, z1, z2, z3, z4, z5⟩ := cZero_spec hz
    rw [hi] at z1; cases z1
    have v1 := opd_VR hx1 hT.left
    have v2 := opd_VR hy1 hT.right
    change (match ev t x' with
      | .slice ad n c => (match apNew H i.size (ev t y'), apLen (ev t y') with
        | some new, some m => evA.appA i.size i.bytes H ad n c m new
        | _, _ => none)
      | _ => none) = some (v, H') at he
    generalize ev t x' = p at *
    generalize ev t y' = q at *
    generalize hax : a.eval x = p' at v1
    generalize hay : a.eval y = q' at v2
    split at he
    · rename_i ad n c
      split at he
      · rename_i new m hn hm
        obtain ⟨s1, new', s2, s3, s4, s5, s6⟩ := ap_src (P := P) h v2 hn hm
        have hp : ∃ ad' c', p' = .slice ad' n c' := by cases v1 <;> exact ⟨_, _, rfl⟩
        obtain ⟨ad', c', rfl⟩ := hp
        have hRA : RA P w ad' n c' m i.size i.bytes new' z e (Builtin.append_ #[ty, u] o.type #[.slice ad' n c', q']) := by
          refine ⟨fun h1 h2 => ?_, fun h1 ad2 w' h2 h3 => ?_, fun h1 h2 h3 old h4 => ?_⟩
          · subst h2
            exact run_append_fit hu hi hu2 hd s1 s5 h1 (base := none) rfl
          · subst h2
            exact run_append_fit hu hi hu2 hd s1 s5 h1 (base := some ad2) (by simpa using h3)
          · exact run_append_more hu hi z2 hu2 hd s1 s6 h4 h1 h2 h3
        obtain ⟨g1, v', w', ι', g2, g3, g4⟩ := app_sound z3 z5 he v1 s2 s3 s4 hRA h hf
        refine ⟨g1, v', w', ι', .inl (run_call_builtin ho ?_), g3, g4⟩
        simp only [builtin, List.map_toArray, List.map_cons, List.map_nil, hax, hay]
        exact run_v g2
      · cases he
    · cases he
  have hc0 := hc
  simp only [cOp] at hc
  split at hc
  · rename_i ty u x' y' hty hx
    have etys : tys = #[ty, u] := by apply Array.ext'; rw [hty]
    split at hc
    · rename_i e k hu hu2
      split at hc
      · rename_i i zs hi hz
        simp only [Option.some.injEq] at hc; subst hc
        obtain ⟨x, y, ex, hx1, hy1⟩ := opds_two hx
        have eargs : args = #[x, y] := by apply Array.ext'; rw [ex]
        subst etys; subst eargs
        obtain ⟨i', z, z1, z2, z3, z4, z5⟩ := cZero_spec hz
        rw [hi] at z1; cases z1
        have v1 := opd_VR hx1 hT.left
        have v2 := opd_VR hy1 hT.right
        simp only [evA] at he
        generalize ev t x' = p at *
        generalize ev t y' = q at *
        generalize hax : a.eval x = p' at v1
        generalize hay : a.eval y = q' at v2
        split at he
        · rename_i ad n c k' m
          cases hb : (Nat.ble (m * i.bytes) 281474976710656 && Nat.ble m 9223372036854775807 && Nat.beq zs.length i.size) with
          | false => rw [hb] at he; cases he
          | true =>
            rw [hb] at he; simp only [cond_true] at he
            simp only [Bool.and_eq_true] at hb
            have b1 := Nat.le_of_ble_eq_true hb.1.1
            have b2 := Nat.le_of_ble_eq_true hb.1.2
            cases v2
            have hp : ∃ ad' c', p' = .slice ad' n c' := by cases v1 <;> exact ⟨_, _, rfl⟩
            obtain ⟨ad', c', rfl⟩ := hp
            have hfl : ∀ x ∈ (List.replicate m zs).flatten, flat x = true := by
              intro x hx
              obtain ⟨l, hl, hx⟩ := List.mem_flatten.1 hx
              rw [(List.mem_replicate.1 hl).2] at hx
              exact z4 x hx
            have hnew : (if m * i.size = 0 then #[] else Builtin.zeroCells z.cells m) = ((List.replicate m zs).flatten).toArray := by
              apply Array.ext'
              split
              · rename_i h0
                have : (List.replicate m zs).flatten = [] := List.eq_nil_of_length_eq_zero (by simp [List.length_flatten, z5, h0])
                rw [this]
              · rw [zeroCells_list z zs z3 m i.size z5]
            have hRA : RA P w ad' n c' m i.size i.bytes (List.replicate m zs).flatten z e (Builtin.append_ #[ty, u] o.type #[.slice ad' n c', .int k' (Int.ofNat m)]) := by
              refine ⟨fun h1 h2 => ?_, fun h1 ad2 w' h2 h3 => ?_, fun h1 h2 h3 old h4 => ?_⟩
              · subst h2
                exact run_appendz_fit hu hi z2 hu2 b2 b1 h1 (base := none) rfl
              · subst h2
                exact run_appendz_fit hu hi z2 hu2 b2 b1 h1 (base := some ad2) (by rw [hnew]; simpa using h3)
              · have := run_appendz_more (ty := o.type) (k' := k') hu hi z2 hu2 b2 b1 h4 h1 h2 h3
                rw [hnew] at this
                exact this
            obtain ⟨g1, v', w', ι', g2, g3, g4⟩ := app_sound z3 z5 he v1 (flat_LR hfl) (fun x hx => flat_one (hfl x hx)) (by simp [List.length_flatten, z5]) hRA h hf
            refine ⟨g1, v', w', ι', .inl (run_call_builtin ho ?_), g3, g4⟩
            simp only [builtin, List.map_toArray, List.map_cons, List.map_nil, hax, hay]
            exact run_v g2
        · cases he
      · cases hc
    · rename_i e q hu hu2
      split at hc
      · rename_i i zs hi hz
        simp only [Option.some.injEq] at hc
        exact plain etys hx hu hu2 (.inl ⟨_, rfl⟩) hi hz hc.symm
      · cases hc
    · rename_i e hu hu2
      split at hc
      · rename_i i zs hi hz
        simp only [Option.some.injEq] at hc
        exact plain etys hx hu hu2 (.inr rfl) hi hz hc.symm
      · cases hc
    · cases hc
  · cases hc

end
end Go.Ri
