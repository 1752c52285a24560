/- Ri, part P: every operation that calls nothing. -/
import Derived.Test.YtlgfjeklmmdhpaaGreatRiO
set_option linter.unusedVariables false
set_option linter.unusedSimpArgs false
namespace Go.Ri

section
variable {P : Program} {w : World} {ι : Em} {B : Nat} {nt : Nat} {t : Tm} {a : Act} {H H' : AH} {v : Value}

/-- The claim for one operation, heavy or light. -/
def OpOk (P : Program) (B : Nat) (ι : Em) (a : Act) (H H' : AH) (v : Value) (w : World) (o : Oper) : Prop :=
  Mon H H' ∧ ∃ v' w' ι', ((execOp a.eval o).run P w = .ok (.value v') w' ∨ ((execOp a.eval o).run P w = .ok .skip w' ∧ v' = undef)) ∧ Post B ι ι' H H' w w' ∧ VR ι' v v'

theorem LS.op {o : Oper} (hl : LightOk P ι a t H H' v w o) (h : HR B ι H.get w) (hf : ∀ b, H.nx ≤ b → b < H'.nx → ι b = none) : OpOk P B ι a H H' v w o := by
  obtain ⟨v', w', hr, hs⟩ := hl
  rcases hs with ⟨rfl, rfl, hv⟩ | ⟨k, c, e, rfl, rfl, hx, hro, hc, ho, hv⟩
  · exact ⟨Mon.refl _, v', w', ι, .inl hr, Post.refl h, hv⟩
  · have hb : ι H.nx = none := hf H.nx (Nat.le_refl _) (by simp [AH.new])
    refine ⟨Mon.new _ _, v', _, upE ι H.nx ⟨w.heap.size, 0, 0, 0, false⟩, .inl hr, ?_, hv _ (upE_same _ _ _)⟩
    have := Post.new h hb k c e 0 0 (fun i x hi => by obtain ⟨y, h1, h2⟩ := hc.get hi; exact ⟨y, by simpa using h1, h2⟩) ho hro (fun h => by rw [hx] at h; cases h)
    rw [hx] at this
    exact this

theorem HR.rdOk (h : HR B ι H.get w) (ao : AOp) : RdOk ι ao t H w := fun b o n l L _ hr hL => by
  unfold AH.rd at hr
  split at hr
  · rename_i k hk
    exact (h.blk b k L hk hL).row hr
  · cases hr
theorem HR.kdOk (h : HR B ι H.get w) : KdOk ι H := fun b k L hk hL => by
  obtain ⟨c, e, fz, h1, h2, h3, h4, h5, h6, h7⟩ := h.blk b k L hk hL
  exact ⟨h6, fun hx => (h7 hx).1⟩

theorem run_u {s : Sem Unit} {w' : World} (h : s.run P w = .ok () w') : (do s; pure Next.skip : Sem Next).run P w = .ok .skip w' := by simp [h]

theorem op_store {o : Oper} {ty : TypeId} {x y : Operand} {i : TypeInfo} {x' y' : Opd} (ho : o.op = .store ty x y) (hi : P.info? ty = some i) (hx : cOpd nt x = some x') (hy : cOpd nt y = some y') (he : evA (.st i.size x' y') t H = some (v, H'))
    (hT : TV ι t a (opT x' ++ opT y')) (h : HR B ι H.get w) : OpOk P B ι a H H' v w o := by
  have v1 := opd_VR hx hT.left
  have v2 := opd_VR hy hT.right
  simp only [evA] at he
  generalize ev t x' = p at *
  generalize ev t y' = q at *
  generalize hax : a.eval x = p' at v1
  generalize hay : a.eval y = q' at v2
  split at he
  · rename_i b oo
    split at he
    · rename_i l hl
      cases hb : Nat.beq l.length i.size with
      | false => rw [hb] at he; cases he
      | true =>
        rw [hb] at he; simp only [cond_true] at he
        split at he
        · rename_i H1 hw
          simp only [Option.some.injEq, Prod.mk.injEq] at he
          obtain ⟨rfl, rfl⟩ := he
          cases v1 with
          | ptr _ _ L hL =>
            obtain ⟨h1, h2⟩ := cells_VR v2 hl
            obtain ⟨w', g1, g2, g3⟩ := write_sound (P := P) hw hL h1 h2 h
            refine ⟨g3, undef, w', ι, .inr ⟨?_, rfl⟩, g2, VR.undef ι⟩
            simp only [execOp, ho, hax, hay]
            refine run_u ?_
            have hsz : q'.cells.size = i.size := by rw [← Array.length_toList, ← h1.1]; exact Nat.eq_of_beq_eq_true hb
            simp [Instr.storeAt, Instr.sureAddr, storeVar, run_size hi, hsz, g1]
        · cases he
    · cases he
  · cases he

theorem opds_fun {xs : List Operand} {ys zs : List Opd} (h1 : cOpds nt xs = some ys) (h2 : cOpds nt xs = some zs) : ys = zs := by rw [h1] at h2; cases h2; rfl

theorem run_first_slice {r o m c sz : Nat} {l : List Value} (hl : l.length = m * sz) (h : Row w r o l) : (Builtin.firstCells sz m (.slice (some ⟨r, o, none⟩) m c)).run P w = .ok l.toArray w := by
  have := run_loadCells (P := P) r o l h
  rw [hl] at this
  simpa [Builtin.firstCells] using this
theorem run_first_slice' {r o m n c sz : Nat} {l : List Value} (hl : l.length = m * sz) (h : Row w r o l) : (Builtin.firstCells sz m (.slice (some ⟨r, o, none⟩) n c)).run P w = .ok l.toArray w := by
  have := run_loadCells (P := P) r o l h
  rw [hl] at this
  simpa [Builtin.firstCells] using this
theorem string_cells (s : ByteArray) (m : Nat) : ((s.extract 0 m).data.map fun b => Value.int .u8 b.toNat) = ((s.data.toList.take m).map fun q => Value.int .u8 q.toNat).toArray := by
  apply Array.ext'
  simp [ByteArray.data_extract, List.extract_eq_take_drop]
theorem ints_LR (l : List UInt8) : LR ι (l.map fun q => Value.int .u8 q.toNat) (l.map fun q => Value.int .u8 q.toNat) ∧ ∀ x ∈ l.map (fun q => Value.int .u8 q.toNat), one x = true :=
  ⟨⟨rfl, fun i x y hx hy => by
    rw [hx] at hy; cases hy
    obtain ⟨q, _, rfl⟩ := List.mem_map.1 (List.mem_of_getElem? hx)
    exact .int _ _⟩, fun x hx => by
    obtain ⟨q, _, rfl⟩ := List.mem_map.1 hx
    rfl⟩

def apLen (q : Value) : Option Nat := match q with
  | .slice _ m _ => some m
  | .string s => some s.size
  | _ => none
/-- The first k elements of a source. -/
def kNew (H : AH) (sz k : Nat) (q : Value) : Option (List Value) := match q with
  | .slice (some ⟨b, o, none⟩) _ _ => cond (Nat.beq k 0) (some []) (H.rd b o (k * sz))
  | .slice none _ _ => cond (Nat.beq k 0) (some []) none
  | .string s => cond (Nat.beq sz 1) (some ((s.data.toList.take k).map fun q => Value.int .u8 q.toNat)) none
  | _ => none
/-- What is appended or copied, related: how many, and the cells. -/
theorem src_ok {q q' : Value} {sz m k : Nat} {new : List Value} (h : HR B ι H.get w) (hv : VR ι q q') (hm : apLen q = some m) (hk : k ≤ m) (hn : kNew H sz k q = some new) :
    (Builtin.lenOf q').run P w = .ok m w ∧ ∃ new', LR ι new new' ∧ (∀ x ∈ new, one x = true) ∧ new.length = k * sz ∧ (Builtin.firstCells sz k q').run P w = .ok new'.toArray w ∧ (Builtin.firstCells sz k q').run P w.drew = .ok new'.toArray w.drew := by
  cases hv with
  | sl0 =>
    simp only [apLen, Option.some.injEq] at hm; subst hm
    have hk0 : k = 0 := by omega
    subst hk0
    simp only [kNew, Nat.beq_refl, cond_true, Option.some.injEq] at hn; subst hn
    exact ⟨rfl, [], LR.nil _, by simp, by simp, by simp [Builtin.firstCells], by simp [Builtin.firstCells]⟩
  | sl b o n c o' c' L hL hnc hcc hx hl hoo =>
    simp only [apLen, Option.some.injEq] at hm; subst hm
    simp only [kNew] at hn
    by_cases hk0 : k = 0
    · subst hk0
      simp only [Nat.beq_refl, cond_true, Option.some.injEq] at hn; subst hn
      exact ⟨rfl, [], LR.nil _, by simp, by simp, by simp [Builtin.firstCells, loadCells, loadCellsFrom], by simp [Builtin.firstCells, loadCells, loadCellsFrom]⟩
    · rw [beqF hk0] at hn; simp only [cond_false] at hn
      have hr := hn
      unfold AH.rd at hr
      split at hr
      · rename_i kk hkk
        obtain ⟨l', g1, g2, g3⟩ := (h.blk b kk L hkk hL).row hr
        have hlen := (rdL_spec hr).2.1
        have hrow : Row w L.r o' l' := by rw [hoo (by omega)]; exact g3
        exact ⟨rfl, l', g1, g2, hlen, run_first_slice' (by rw [← g1.1]; exact hlen) hrow, run_first_slice' (by rw [← g1.1]; exact hlen) (row_drew hrow)⟩
      · cases hr
  | string s =>
    simp only [apLen, Option.some.injEq] at hm; subst hm
    simp only [kNew] at hn
    cases hb : Nat.beq sz 1 with
    | false => rw [hb] at hn; cases hn
    | true =>
      rw [hb] at hn; simp only [cond_true, Option.some.injEq] at hn; subst hn
      have h1 := Nat.eq_of_beq_eq_true hb
      subst h1
      obtain ⟨g1, g2⟩ := ints_LR (ι := ι) (s.data.toList.take k)
      have hsz : s.size = s.data.toList.length := rfl
      exact ⟨rfl, _, g1, g2, by rw [List.length_map, List.length_take]; omega, by simp only [Builtin.firstCells, Sem.run_pure, string_cells], by simp only [Builtin.firstCells, Sem.run_pure, string_cells]⟩
  | _ => simp [apLen] at hm

end
end Go.Ri
