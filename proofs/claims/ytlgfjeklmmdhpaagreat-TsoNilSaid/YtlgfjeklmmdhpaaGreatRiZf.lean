/- Ri, part Zf: the fast machine comes to what the machine comes to. -/
import Derived.Test.YtlgfjeklmmdhpaaGreatRiZ
import Derived.Test.YtlgfjeklmmdhpaaGreatRiX
set_option linter.unusedVariables false
set_option linter.unusedSimpArgs false
namespace Go.Ri
noncomputable section

theorem ltF_eq (x y : Int) : ltF x y = decide (x < y) := by
  rw [Bool.eq_iff_iff, decide_eq_true_iff]
  cases x <;> cases y <;> simp only [ltF, Nat.blt_eq, Bool.false_eq_true, Int.ofNat_eq_natCast, true_iff, false_iff] <;> omega
theorem eqF_eq (x y : Int) : eqF x y = (x == y) := by
  rw [Bool.eq_iff_iff, beq_iff_eq]
  cases x <;> cases y <;> simp only [eqF, Nat.beq_eq, Bool.false_eq_true, Int.ofNat_eq_natCast, false_iff] <;> omega
theorem wS_eq {k : IntKind} {h : Nat} (hs : ∀ m : Nat, m < h → k.wrap (m : Int) = (m : Int)) (hn : ∀ m : Nat, m < h → k.wrap (.negSucc m) = .negSucc m) (n : Int) : wS k h n = k.wrap n := by
  cases n with
  | ofNat m =>
    simp only [wS, Bool.cond_eq_ite, Nat.blt_eq]
    split
    · rename_i hm; exact (hs m hm).symm
    · rfl
  | negSucc m =>
    simp only [wS, Bool.cond_eq_ite, Nat.blt_eq]
    split
    · rename_i hm; exact (hn m hm).symm
    · rfl
theorem wU_eq {k : IntKind} {h : Nat} (hs : ∀ m : Nat, m < h → k.wrap (m : Int) = (m : Int)) (n : Int) : wU k h n = k.wrap n := by
  cases n with
  | ofNat m =>
    simp only [wU, Bool.cond_eq_ite, Nat.blt_eq]
    split
    · rename_i hm; exact (hs m hm).symm
    · rfl
  | negSucc m => rfl
theorem wrap_pos (k : IntKind) (m : Nat) (M h : Int) (hM : (2 ^ k.bits : Int) = M) (hh : (2 ^ (k.bits - 1) : Int) = h) (h1 : (m : Int) < M) (h2 : k.signed = true → (m : Int) < h) : k.wrap (m : Int) = (m : Int) := by
  unfold IntKind.wrap
  rw [hM, hh]
  have e : (m : Int) % M = m := Int.emod_eq_of_lt (by omega) h1
  simp only [e]
  rw [if_neg]
  intro hc
  simp only [Bool.and_eq_true, decide_eq_true_eq] at hc
  have := h2 hc.1
  omega
theorem wrap_neg (k : IntKind) (m : Nat) (M h : Int) (hM : (2 ^ k.bits : Int) = M) (hh : (2 ^ (k.bits - 1) : Int) = h) (h1 : M = 2 * h) (h2 : (m : Int) < h) (hs : k.signed = true) : k.wrap (.negSucc m) = .negSucc m := by
  unfold IntKind.wrap
  rw [hM, hh]
  have e : (Int.negSucc m) % M = Int.negSucc m + M := by
    rw [← Int.add_emod_right]
    exact Int.emod_eq_of_lt (by omega) (by omega)
  simp only [e]
  rw [if_pos]
  · omega
  · simp only [hs, Bool.true_and, decide_eq_true_eq]
    omega
theorem wrapF_eq (k : IntKind) (n : Int) : wrapF k n = k.wrap n := by
  cases k
  · exact wS_eq (fun m hm => wrap_pos .i8 m 256 128 rfl rfl (by omega) (fun _ => by omega)) (fun m hm => wrap_neg .i8 m 256 128 rfl rfl rfl (by omega) rfl) n
  · exact wS_eq (fun m hm => wrap_pos .i16 m 65536 32768 rfl rfl (by omega) (fun _ => by omega)) (fun m hm => wrap_neg .i16 m 65536 32768 rfl rfl rfl (by omega) rfl) n
  · exact wS_eq (fun m hm => wrap_pos .i32 m 4294967296 2147483648 rfl rfl (by omega) (fun _ => by omega)) (fun m hm => wrap_neg .i32 m 4294967296 2147483648 rfl rfl rfl (by omega) rfl) n
  · exact wS_eq (fun m hm => wrap_pos .i64 m 18446744073709551616 9223372036854775808 rfl rfl (by omega) (fun _ => by omega)) (fun m hm => wrap_neg .i64 m 18446744073709551616 9223372036854775808 rfl rfl rfl (by omega) rfl) n
  · exact wU_eq (fun m hm => wrap_pos .u8 m 256 128 rfl rfl (by omega) (fun h => by cases h)) n
  · exact wU_eq (fun m hm => wrap_pos .u16 m 65536 32768 rfl rfl (by omega) (fun h => by cases h)) n
  · exact wU_eq (fun m hm => wrap_pos .u32 m 4294967296 2147483648 rfl rfl (by omega) (fun h => by cases h)) n
  · exact wU_eq (fun m hm => wrap_pos .u64 m 18446744073709551616 9223372036854775808 rfl rfl (by omega) (fun h => by cases h)) n
theorem kn_inj {a b : IntKind} : Nat.beq (kn a) (kn b) = decide (a = b) := by cases a <;> cases b <;> rfl
theorem eqBs_eq : ∀ (xs ys : List UInt8), eqBs xs ys = (xs == ys)
  | [], [] => rfl
  | [], _ :: _ => rfl
  | _ :: _, [] => rfl
  | x :: xs, y :: ys => by
    simp only [eqBs, Bool.cond_eq_ite, eqBs_eq xs ys, List.cons_beq_cons]
    by_cases h : x = y
    · subst h; simp [Nat.beq_refl]
    · have hn : x.toNat ≠ y.toNat := fun e => h (UInt8.toNat_inj.1 e)
      rw [beqF hn]
      simp [h]

theorem i2_eq {f : IntKind → Int → Int → Option Value} {g : ByteArray → ByteArray → Option Value} {h d : Value → Value → Option Value}
    (hf : ∀ k k' a b, d (.int k a) (.int k' b) = if k = k' then f k a b else none) (hfn : ∀ k a y, (∀ k' b, y ≠ .int k' b) → d (.int k a) y = none)
    (hg : ∀ a b, d (.string a) (.string b) = g a b) (hgn : ∀ a y, (∀ b, y ≠ .string b) → d (.string a) y = none)
    (hh : ∀ x y, (∀ k a, x ≠ .int k a) → (∀ a, x ≠ .string a) → d x y = h x y) (x y : Value) : i2 f g h x y = d x y := by
  unfold i2
  split
  · rename_i k a
    split
    · rename_i k' b
      rw [hf, kn_inj, Bool.cond_eq_ite]
      simp
    · rename_i hne
      exact (hfn k a y (fun k' b e => hne k' b e)).symm
  · rename_i a
    split
    · rename_i b; exact (hg a b).symm
    · rename_i hne
      exact (hgn a y (fun b e => hne b e)).symm
  · rename_i h1 h2
    exact (hh x y (fun k a e => h1 k a e) (fun a e => h2 a e)).symm


theorem binBox_f (op : BinOp) (ek : EK) (x y : Value) : (binBox op ek).f x y = binV op ek x y := by
  cases op
  case shl => rfl
  case shr => rfl
  case eql =>
    refine i2_eq (d := binV .eql ek) (fun k k' a b => by simp only [iEq, eqF_eq]; rfl) (fun k a y hy => ?_) (fun a b => by simp only [seqK, eqBs_eq, ← ByteArray.toList_eq]; rfl) (fun a y hy => ?_) (fun x y h1 h2 => ?_) x y
    · cases y <;> first | exact absurd rfl (hy _ _) | (cases ek <;> rfl)
    · cases y <;> first | exact absurd rfl (hy _) | (cases ek <;> rfl)
    · cases x <;> first | exact absurd rfl (h1 _ _) | exact absurd rfl (h2 _) | rfl
  case neq =>
    refine i2_eq (d := binV .neq ek) (fun k k' a b => by simp only [iNe, eqF_eq]; rfl) (fun k a y hy => ?_) (fun a b => by simp only [sneK, eqBs_eq, ← ByteArray.toList_eq]; rfl) (fun a y hy => ?_) (fun x y h1 h2 => ?_) x y
    · cases y <;> first | exact absurd rfl (hy _ _) | (cases ek <;> rfl)
    · cases y <;> first | exact absurd rfl (hy _) | (cases ek <;> rfl)
    · cases x <;> first | exact absurd rfl (h1 _ _) | exact absurd rfl (h2 _) | rfl
  all_goals
    refine i2_eq (d := binV _ ek) (fun k k' a b => ?_) (fun k a y hy => ?_) (fun a b => ?_) (fun a y hy => ?_) (fun x y h1 h2 => ?_) x y
    · first
        | rfl
        | (simp only [iAdd, iSub, iMul, wrapF_eq]; rfl)
        | (simp only [iLt, iGt, ltF_eq]; rfl)
        | (simp only [iLe, iGe, ltF_eq]; simp only [binV, binI, cmpI]; congr 3; rw [Bool.eq_iff_iff]; simp [Int.not_lt])
    · cases y <;> first | exact absurd rfl (hy _ _) | rfl
    · rfl
    · cases y <;> first | exact absurd rfl (hy _) | rfl
    · cases x <;> first | exact absurd rfl (h1 _ _) | exact absurd rfl (h2 _) | rfl

theorem opBox_g (x : Opd) (t : Tm) : (opBox x).g t = ev t x := by
  cases x with
  | t n =>
    show Option.rec (motive := fun _ => Value) undefV (fun v => v) (getP (pathN n) t) = (getP (pathN n) t).getD undefV
    cases getP (pathN n) t <;> rfl
  | c v => rfl
  | f id => rfl

theorem fillQ_eq (t : Tm) : ∀ (cs : List Value) (b : Nat) (ps : List (Nat × Nat × Opd)) (l pre : List Value), pre.length = b → fillQ t cs b ps = some l → fillL (pre ++ cs) (evP t ps) = some (pre ++ l)
  | [], b, ps, l, pre, hb, h => by
    cases ps with
    | nil =>
      have h : some [] = some l := h
      cases h; rfl
    | cons p r =>
      have h : none = some l := h
      cases h
  | c :: cs, b, ps, l, pre, hb, h => by
    replace h : fillC t c cs (fillQ t cs) b ps = some l := h
    cases ps with
    | nil =>
      simp only [fillC] at h
      cases h; rfl
    | cons p r =>
      obtain ⟨o, n, x⟩ := p
      simp only [fillC] at h
      cases hc : (Nat.beq o b && Nat.beq n 1) with
      | true =>
        rw [hc] at h
        simp only [cond_true] at h
        simp only [Bool.and_eq_true] at hc
        have ho := Nat.eq_of_beq_eq_true hc.1
        have hn := Nat.eq_of_beq_eq_true hc.2
        subst ho; subst hn
        unfold oneQ at h
        split at h
        · rename_i v' hv
          split at h
          · rename_i l' hl
            cases h
            rw [opBox_g] at hv
            have ih := fillQ_eq t cs (Nat.succ o) r l' (pre ++ [v']) (by simp [hb]) hl
            simp only [evP, fillL, hv, List.length_cons, List.length_nil, Nat.zero_add]
            have h1 : (Nat.beq 1 1 && Nat.ble (o + 1) (pre ++ c :: cs).length) = true := by
              simp only [Nat.beq_refl, Bool.true_and, Nat.ble_eq, List.length_append, List.length_cons]
              omega
            rw [h1]
            simp only [cond_true, setL]
            have h2 : (pre ++ c :: cs).set o v' = (pre ++ [v']) ++ cs := by
              subst hb
              simp
            rw [h2, ih]
            simp
          · cases h
        · cases h
      | false =>
        rw [hc] at h
        simp only [cond_false] at h
        unfold consQ at h
        split at h
        · rename_i l' hl
          cases h
          have ih := fillQ_eq t cs (Nat.succ b) ((o, n, x) :: r) l' (pre ++ [c]) (by simp [hb]) hl
          simpa using ih
        · cases h
theorem fillF_eq (t : Tm) (zs : List Value) (ps : List (Nat × Nat × Opd)) : fillF t zs ps = fillL zs (evP t ps) := by
  unfold fillF
  split
  · rename_i l h
    have := fillQ_eq t zs 0 ps l [] rfl h
    simpa using this.symm
  · rfl
theorem extract_eq (s : ByteArray) (l h : Nat) : s.extract l h = ⟨⟨(s.data.toList.drop l).take (h - l)⟩⟩ := by
  apply ByteArray.ext
  apply Array.toList_inj.1
  simp [ByteArray.data_extract, Array.toList_extract, List.extract_eq_take_drop]

theorem actBox_a (cf : CF) (ao : AOp) (t : Tm) (H : AH) (h1 : ∀ f xs, ao ≠ .ca f xs) (h2 : ∀ x xs, ao ≠ .cv x xs) : (actBox ao).a cf t H = evA ao t H := by
  cases ao
  case ca f xs => exact absurd rfl (h1 f xs)
  case cv x xs => exact absurd rfl (h2 x xs)
  case mv x => show some ((opBox x).g t, H) = _; rw [opBox_g]; rfl
  case bo op ek x y => first | (simp only [actBox, e_bo, opBox_g, binBox_f, evA]; done) | (simp only [actBox, e_bo, opBox_g, binBox_f, evA]; rfl)
  case ss x lo hi => first | (simp only [actBox, e_ss, opBox_g, evA, extract_eq]; done) | (simp only [actBox, e_ss, opBox_g, evA, extract_eq]; rfl)
  case pk  => first | (simp only [actBox, e_pk, opBox_g, fillF_eq, evA]; done) | (simp only [actBox, e_pk, opBox_g, fillF_eq, evA]; rfl)
  case nw  => first | (simp only [actBox, e_nw, opBox_g, fillF_eq, evA]; done) | (simp only [actBox, e_nw, opBox_g, fillF_eq, evA]; rfl)
  case bx  => first | (simp only [actBox, e_bx, opBox_g, fillF_eq, evA]; done) | (simp only [actBox, e_bx, opBox_g, fillF_eq, evA]; rfl)
  case bd  => first | (simp only [actBox, e_bd, opBox_g, fillF_eq, evA]; done) | (simp only [actBox, e_bd, opBox_g, fillF_eq, evA]; rfl)
  case bs  => first | (simp only [actBox, e_bs, opBox_g, fillF_eq, evA]; done) | (simp only [actBox, e_bs, opBox_g, fillF_eq, evA]; rfl)
  case ld  => first | (simp only [actBox, e_ld, opBox_g, fillF_eq, evA]; done) | (simp only [actBox, e_ld, opBox_g, fillF_eq, evA]; rfl)
  case st  => first | (simp only [actBox, e_st, opBox_g, fillF_eq, evA]; done) | (simp only [actBox, e_st, opBox_g, fillF_eq, evA]; rfl)
  case nc  => first | (simp only [actBox, e_nc, opBox_g, fillF_eq, evA]; done) | (simp only [actBox, e_nc, opBox_g, fillF_eq, evA]; rfl)
  case uo  => first | (simp only [actBox, e_uo, opBox_g, fillF_eq, evA]; done) | (simp only [actBox, e_uo, opBox_g, fillF_eq, evA]; rfl)
  case ci  => first | (simp only [actBox, e_ci, opBox_g, fillF_eq, evA]; done) | (simp only [actBox, e_ci, opBox_g, fillF_eq, evA]; rfl)
  case cs  => first | (simp only [actBox, e_cs, opBox_g, fillF_eq, evA]; done) | (simp only [actBox, e_cs, opBox_g, fillF_eq, evA]; rfl)
  case cb  => first | (simp only [actBox, e_cb, opBox_g, fillF_eq, evA]; done) | (simp only [actBox, e_cb, opBox_g, fillF_eq, evA]; rfl)
  case ms  => first | (simp only [actBox, e_ms, opBox_g, fillF_eq, evA]; done) | (simp only [actBox, e_ms, opBox_g, fillF_eq, evA]; rfl)
  case sl  => first | (simp only [actBox, e_sl, opBox_g, fillF_eq, evA]; done) | (simp only [actBox, e_sl, opBox_g, fillF_eq, evA]; rfl)
  case sa  => first | (simp only [actBox, e_sa, opBox_g, fillF_eq, evA]; done) | (simp only [actBox, e_sa, opBox_g, fillF_eq, evA]; rfl)
  case fa  => first | (simp only [actBox, e_fa, opBox_g, fillF_eq, evA]; done) | (simp only [actBox, e_fa, opBox_g, fillF_eq, evA]; rfl)
  case is  => first | (simp only [actBox, e_is, opBox_g, fillF_eq, evA]; done) | (simp only [actBox, e_is, opBox_g, fillF_eq, evA]; rfl)
  case ia  => first | (simp only [actBox, e_ia, opBox_g, fillF_eq, evA]; done) | (simp only [actBox, e_ia, opBox_g, fillF_eq, evA]; rfl)
  case fd  => first | (simp only [actBox, e_fd, opBox_g, fillF_eq, evA]; done) | (simp only [actBox, e_fd, opBox_g, fillF_eq, evA]; rfl)
  case ix  => first | (simp only [actBox, e_ix, opBox_g, fillF_eq, evA]; done) | (simp only [actBox, e_ix, opBox_g, fillF_eq, evA]; rfl)
  case ib  => first | (simp only [actBox, e_ib, opBox_g, fillF_eq, evA]; done) | (simp only [actBox, e_ib, opBox_g, fillF_eq, evA]; rfl)
  case ex  => first | (simp only [actBox, e_ex, opBox_g, fillF_eq, evA]; done) | (simp only [actBox, e_ex, opBox_g, fillF_eq, evA]; rfl)
  case mf  => first | (simp only [actBox, e_mf, opBox_g, fillF_eq, evA]; done) | (simp only [actBox, e_mf, opBox_g, fillF_eq, evA]; rfl)
  case ln  => first | (simp only [actBox, e_ln, opBox_g, fillF_eq, evA]; done) | (simp only [actBox, e_ln, opBox_g, fillF_eq, evA]; rfl)
  case ls  => first | (simp only [actBox, e_ls, opBox_g, fillF_eq, evA]; done) | (simp only [actBox, e_ls, opBox_g, fillF_eq, evA]; rfl)
  case lc  => first | (simp only [actBox, e_lc, opBox_g, fillF_eq, evA]; done) | (simp only [actBox, e_lc, opBox_g, fillF_eq, evA]; rfl)
  case ap  => first | (simp only [actBox, e_ap, opBox_g, fillF_eq, evA]; done) | (simp only [actBox, e_ap, opBox_g, fillF_eq, evA]; rfl)
  case az  => first | (simp only [actBox, e_az, opBox_g, fillF_eq, evA]; done) | (simp only [actBox, e_az, opBox_g, fillF_eq, evA]; rfl)
  case cp  => first | (simp only [actBox, e_cp, opBox_g, fillF_eq, evA]; done) | (simp only [actBox, e_cp, opBox_g, fillF_eq, evA]; rfl)
  case mn  => first | (simp only [actBox, e_mn, opBox_g, fillF_eq, evA]; done) | (simp only [actBox, e_mn, opBox_g, fillF_eq, evA]; rfl)
  case mx  => first | (simp only [actBox, e_mx, opBox_g, fillF_eq, evA]; done) | (simp only [actBox, e_mx, opBox_g, fillF_eq, evA]; rfl)
  case cl  => first | (simp only [actBox, e_cl, opBox_g, fillF_eq, evA]; done) | (simp only [actBox, e_cl, opBox_g, fillF_eq, evA]; rfl)

end
end Go.Ri
