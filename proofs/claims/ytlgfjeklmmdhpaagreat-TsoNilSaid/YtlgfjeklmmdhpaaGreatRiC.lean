/- Ri, part C: what it means that a heap of part A's stands for the model's world; the small laws of that. -/
import Derived.Test.YtlgfjeklmmdhpaaGreatRiB
import Derived.OrdersIn
import Derived.RangeFuncIn
import Derived.Laws.Entries
import Derived.Below
set_option linter.unusedVariables false
set_option linter.unusedSimpArgs false
namespace Go.Ri

/-- Where a block lies: the world's block; at which cell it begins; where its room ends; cells an element; is there more room than is known. -/
structure Loc where
  r : Nat
  sh : Nat
  lim : Nat
  es : Nat
  ext : Bool
abbrev Em := Nat → Option Loc

inductive VR (ι : Em) : Value → Value → Prop where
  | bool (b : Bool) : VR ι (.bool b) (.bool b)
  | int (k : IntKind) (n : Int) : VR ι (.int k n) (.int k n)
  | float (k : FloatKind) (n : Nat) : VR ι (.float k n) (.float k n)
  | string (s : ByteArray) : VR ι (.string s) (.string s)
  | ptr0 : VR ι (.pointer none) (.pointer none)
  | ptr (b o : Nat) (L : Loc) (h : ι b = some L) : VR ι (.pointer (some ⟨b, o, none⟩)) (.pointer (some ⟨L.r, o + L.sh, none⟩))
  | sl0 : VR ι (.slice none 0 0) (.slice none 0 0)
  | sl (b o n c o' c' : Nat) (L : Loc) (h : ι b = some L) (hn : n ≤ c) (hc : c ≤ c') (hx : L.ext = false → c' = c) (hl : L.ext = true → o' + c' * L.es ≤ L.lim) (ho : 0 < c → o' = o + L.sh) :
      VR ι (.slice (some ⟨b, o, none⟩) n c) (.slice (some ⟨L.r, o', none⟩) n c')
  | mp0 : VR ι (.map none) (.map none)
  | fn0 : VR ι .nilFunc .nilFunc
  | if0 : VR ι .nilIface .nilIface
  | fn (f : Nat) (xs ys zs ws : List Value) (h1 : xs.length = zs.length) (h2 : ∀ (i : Nat) x z, xs[i]? = some x → zs[i]? = some z → VR ι x z)
      (h3 : ys.length = ws.length) (h4 : ∀ (i : Nat) x z, ys[i]? = some x → ws[i]? = some z → VR ι x z) : VR ι (.func (.func f) ⟨xs⟩ ⟨ys⟩) (.func (.func f) ⟨zs⟩ ⟨ws⟩)
  | agg (xs ys : List Value) (h1 : xs.length = ys.length) (h2 : ∀ (i : Nat) x y, xs[i]? = some x → ys[i]? = some y → VR ι x y) (h3 : ∀ x ∈ xs, one x = true) : VR ι (.agg ⟨xs⟩) (.agg ⟨ys⟩)
  | tup (xs ys : List Value) (h1 : xs.length = ys.length) (h2 : ∀ (i : Nat) x y, xs[i]? = some x → ys[i]? = some y → VR ι x y) : VR ι (.tuple ⟨xs⟩) (.tuple ⟨ys⟩)

def LR (ι : Em) (xs ys : List Value) : Prop := xs.length = ys.length ∧ ∀ (i : Nat) x y, xs[i]? = some x → ys[i]? = some y → VR ι x y
def Sub (ι ι' : Em) : Prop := ∀ b L, ι b = some L → ι' b = some L
theorem Sub.refl (ι : Em) : Sub ι ι := fun _ _ h => h
theorem Sub.trans {a b c : Em} (h : Sub a b) (k : Sub b c) : Sub a c := fun _ _ e => k _ _ (h _ _ e)

theorem VR.mono {ι ι' : Em} (hs : Sub ι ι') {v v' : Value} (h : VR ι v v') : VR ι' v v' := by
  induction h with
  | bool b => exact .bool b
  | int k n => exact .int k n
  | float k n => exact .float k n
  | string s => exact .string s
  | ptr0 => exact .ptr0
  | ptr b o L h => exact .ptr b o L (hs _ _ h)
  | sl0 => exact .sl0
  | sl b o n c o' c' L h hn hc hx hl ho => exact .sl b o n c o' c' L (hs _ _ h) hn hc hx hl ho
  | mp0 => exact .mp0
  | fn0 => exact .fn0
  | if0 => exact .if0
  | fn f xs ys zs ws h1 h2 h3 h4 i2 i4 => exact .fn f xs ys zs ws h1 i2 h3 i4
  | agg xs ys h1 h2 h3 i2 => exact .agg xs ys h1 i2 h3
  | tup xs ys h1 h2 i2 => exact .tup xs ys h1 i2

theorem LR.mono {ι ι' : Em} (hs : Sub ι ι') {xs ys : List Value} (h : LR ι xs ys) : LR ι' xs ys := ⟨h.1, fun i x y a b => (h.2 i x y a b).mono hs⟩
theorem LR.nil (ι : Em) : LR ι [] [] := ⟨rfl, fun i x y h => by simp at h⟩
theorem LR.cons {ι : Em} {x y : Value} {xs ys : List Value} (h : VR ι x y) (t : LR ι xs ys) : LR ι (x :: xs) (y :: ys) :=
  ⟨by simp [t.1], fun i a b ha hb => by
    cases i with
    | zero => simp at ha hb; subst ha; subst hb; exact h
    | succ i => simp at ha hb; exact t.2 i a b ha hb⟩
theorem LR.head {ι : Em} {x y : Value} {xs ys : List Value} (h : LR ι (x :: xs) (y :: ys)) : VR ι x y := h.2 0 x y rfl rfl
theorem LR.tail {ι : Em} {x y : Value} {xs ys : List Value} (h : LR ι (x :: xs) (y :: ys)) : LR ι xs ys :=
  ⟨by simpa using h.1, fun i a b ha hb => h.2 (i + 1) a b (by simpa using ha) (by simpa using hb)⟩
theorem LR.cons_inv {ι : Em} {x : Value} {xs ys : List Value} (h : LR ι (x :: xs) ys) : ∃ y ys', ys = y :: ys' ∧ VR ι x y ∧ LR ι xs ys' := by
  cases ys with
  | nil => have := h.1; simp at this
  | cons y ys => exact ⟨y, ys, rfl, h.head, h.tail⟩
theorem LR.nil_inv {ι : Em} {ys : List Value} (h : LR ι [] ys) : ys = [] := by
  have := h.1
  cases ys with
  | nil => rfl
  | cons y ys => simp at this
theorem LR.get {ι : Em} {xs ys : List Value} (h : LR ι xs ys) {i : Nat} {x : Value} (hx : xs[i]? = some x) : ∃ y, ys[i]? = some y ∧ VR ι x y := by
  have hi : i < xs.length := (List.getElem?_eq_some_iff.1 hx).1
  have hj : i < ys.length := by rw [← h.1]; exact hi
  exact ⟨ys[i], by simp [hj], h.2 i x _ hx (by simp [hj])⟩
theorem LR.append {ι : Em} {a b c d : List Value} (h : LR ι a b) (k : LR ι c d) : LR ι (a ++ c) (b ++ d) :=
  ⟨by simp [h.1, k.1], fun i x y hx hy => by
    by_cases hi : i < a.length
    · rw [List.getElem?_append_left hi] at hx
      rw [List.getElem?_append_left (by rw [← h.1]; exact hi)] at hy
      exact h.2 i x y hx hy
    · rw [List.getElem?_append_right (by omega)] at hx
      rw [List.getElem?_append_right (by rw [← h.1]; omega)] at hy
      rw [← h.1] at hy
      exact k.2 _ x y hx hy⟩
theorem LR.set {ι : Em} {xs ys : List Value} (h : LR ι xs ys) (o : Nat) {v v' : Value} (hv : VR ι v v') : LR ι (xs.set o v) (ys.set o v') :=
  ⟨by simp [h.1], fun i x y hx hy => by
    rw [List.getElem?_set] at hx hy
    by_cases e : o = i
    · subst e
      simp only [if_true] at hx hy
      split at hx
      · split at hy
        · cases hx; cases hy; exact hv
        · cases hy
      · cases hx
    · rw [if_neg e] at hx hy
      exact h.2 i x y hx hy⟩
theorem LR.setL {ι : Em} : ∀ {vs vs' xs ys : List Value} (o : Nat), LR ι xs ys → LR ι vs vs' → LR ι (setL xs o vs) (Ri.setL ys o vs')
  | [], vs', xs, ys, o, h, hv => by rw [hv.nil_inv]; exact h
  | v :: vs, vs', xs, ys, o, h, hv => by
    obtain ⟨v', ws, rfl, h1, h2⟩ := hv.cons_inv
    exact LR.setL (o + 1) (h.set o h1) h2
theorem setL_length : ∀ (vs xs : List Value) (o : Nat), (setL xs o vs).length = xs.length
  | [], xs, o => rfl
  | v :: vs, xs, o => by rw [setL, setL_length vs]; simp
theorem setL_get : ∀ (vs xs : List Value) (o i : Nat), o + vs.length ≤ xs.length → (setL xs o vs)[i]? = if o ≤ i ∧ i < o + vs.length then vs[i - o]? else xs[i]?
  | [], xs, o, i, h => by
    rw [setL, if_neg (by simp)]
  | v :: vs, xs, o, i, h => by
    simp only [List.length_cons] at h
    rw [setL, setL_get vs _ _ _ (by simp; omega)]
    by_cases h1 : o + 1 ≤ i ∧ i < o + 1 + vs.length
    · rw [if_pos h1, if_pos (by simp; omega)]
      have : i - o = (i - (o + 1)) + 1 := by omega
      rw [this]; simp
    · rw [if_neg h1, List.getElem?_set]
      by_cases e : o = i
      · subst e
        rw [if_pos rfl, if_pos (by omega), if_pos (by simp)]; simp only [Nat.sub_self, List.getElem?_cons_zero]
      · rw [if_neg e, if_neg (by simp; omega)]
theorem all_setL {p : Value → Bool} : ∀ (vs xs : List Value) (o : Nat), (∀ x ∈ xs, p x = true) → (∀ x ∈ vs, p x = true) → ∀ x ∈ setL xs o vs, p x = true
  | [], xs, o, h, _ => h
  | v :: vs, xs, o, h, hv => all_setL vs _ _ (fun x hx => by
      rcases List.mem_or_eq_of_mem_set hx with hx | rfl
      · exact h x hx
      · exact hv _ (by simp)) (fun x hx => hv x (by simp [hx]))

theorem VR.one {ι : Em} {v v' : Value} (h : VR ι v v') : Ri.one v = Ri.one v' := by cases h <;> rfl
theorem flat_one {v : Value} (h : flat v = true) : one v = true := by cases v <;> first | rfl | simp [flat] at h
theorem flat_VR {ι : Em} {v : Value} (h : flat v = true) : VR ι v v := by
  cases v with
  | bool b => exact .bool b
  | int k n => exact .int k n
  | float k n => exact .float k n
  | string s => exact .string s
  | pointer a => cases a with
    | none => exact .ptr0
    | some a => simp [flat] at h
  | slice a n c =>
    cases a with
    | some a => simp [flat] at h
    | none =>
      match n, c, h with
      | 0, 0, _ => exact .sl0
  | map r => cases r with
    | none => exact .mp0
    | some r => simp [flat] at h
  | nilFunc => exact .fn0
  | nilIface => exact .if0
  | complex k a b => simp [flat] at h
  | chan r => simp [flat] at h
  | func f a b => simp [flat] at h
  | iface t v => simp [flat] at h
  | agg cs => simp [flat] at h
  | tuple vs => simp [flat] at h
theorem flat_LR {ι : Em} {xs : List Value} (h : ∀ x ∈ xs, flat x = true) : LR ι xs xs :=
  ⟨rfl, fun i x y hx hy => by
    rw [hx] at hy; cases hy
    exact flat_VR (h x (List.mem_of_getElem? hx))⟩
theorem konst_VR {ι : Em} {v : Value} (h : konst v = true) : VR ι v v := by
  cases v with
  | agg cs =>
    obtain ⟨cs⟩ := cs
    have h' : ∀ x ∈ cs, flat x = true := by simpa [konst] using h
    exact .agg cs cs rfl (flat_LR h').2 (fun x hx => flat_one (h' x hx))
  | tuple cs =>
    obtain ⟨cs⟩ := cs
    have h' : cs = [] := by simpa [konst] using h
    subst h'
    exact .tup [] [] rfl (fun i x y hx => by simp at hx)
  | _ => exact flat_VR h
theorem VR.undef (ι : Em) : VR ι undefV undefV := .tup [] [] rfl (fun i x y hx => by simp at hx)

/-! ### Blocks -/
def BR (B : Nat) (ι : Em) (k : Blk) (L : Loc) (w : World) : Prop :=
  ∃ c e fz, w.heap[L.r]? = some (.cells c e fz) ∧ (∀ (i : Nat) v, k.cs[i]? = some v → ∃ v', c[L.sh + i]? = some v' ∧ VR ι v v') ∧ (∀ v ∈ k.cs, one v = true) ∧
    (k.ro = false → B ≤ L.r ∧ ∀ o, o < c.size → ¬(fz.1 ≤ o ∧ o < fz.2)) ∧ (k.ro = true → L.r < B ∧ k.ext = false) ∧ k.ext = L.ext ∧ (k.ext = true → k.es = L.es ∧ L.lim ≤ c.size)

structure HR (B : Nat) (ι : Em) (g : Nat → Option Blk) (w : World) : Prop where
  blk : ∀ b k L, g b = some k → ι b = some L → BR B ι k L w
  inj : ∀ b b' k k' L L', g b = some k → g b' = some k' → ι b = some L → ι b' = some L' → k.ro = false → L.r = L'.r → b = b'
  le : B ≤ w.heap.size

/-- Is a world's block one that a block stands for that may be written? -/
def Img (ι : Em) (g : Nat → Option Blk) (r : Nat) : Prop := ∃ b k L, g b = some k ∧ k.ro = false ∧ ι b = some L ∧ L.r = r
/-- What is not stood for lies as it lay. -/
structure Fr (ι : Em) (g : Nat → Option Blk) (w w' : World) : Prop where
  os : w'.os = w.os
  tape : w'.tape = w.tape
  output : w'.output = w.output
  size : w.heap.size ≤ w'.heap.size
  block : ∀ r, r < w.heap.size → ¬ Img ι g r → w'.heap[r]? = w.heap[r]?
/-- What newly stands for something lies in new blocks, or where something stood that could be written. -/
def Nw (ι ι' : Em) (g : Nat → Option Blk) (w : World) : Prop :=
  ∀ b L, ι' b = some L → ι b = some L ∨ (ι b = none ∧ (w.heap.size ≤ L.r ∨ Img ι g L.r))
/-- A heap's change: numbers rise; what is there behind was there before, or is new. -/
structure Mon (H H' : AH) : Prop where
  nx : H.nx ≤ H'.nx
  old : ∀ b k', b < H.nx → H'.get b = some k' → ∃ k, H.get b = some k ∧ k.ro = k'.ro ∧ k.ext = k'.ext ∧ k.es = k'.es

structure Post (B : Nat) (ι ι' : Em) (H H' : AH) (w w' : World) : Prop where
  em : ∀ b, b < H.nx ∨ H'.nx ≤ b → ι' b = ι b
  hr : HR B ι' H'.get w'
  fr : Fr ι H.get w w'
  nw : Nw ι ι' H.get w

theorem Mon.refl (H : AH) : Mon H H := ⟨Nat.le_refl _, fun b k' _ h => ⟨k', h, rfl, rfl, rfl⟩⟩
theorem Mon.trans {a b c : AH} (h : Mon a b) (k : Mon b c) : Mon a c :=
  ⟨Nat.le_trans h.nx k.nx, fun i k' hi he => by
    obtain ⟨k1, h1, r1⟩ := k.old i k' (Nat.lt_of_lt_of_le hi h.nx) he
    obtain ⟨k0, h0, r0⟩ := h.old i k1 hi h1
    exact ⟨k0, h0, r0.1.trans r1.1, r0.2.1.trans r1.2.1, r0.2.2.trans r1.2.2⟩⟩
theorem Mon.new (H : AH) (k : Blk) : Mon H (H.new k) :=
  ⟨by simp [AH.new], fun b k' hb he => by rw [AH.get_new, if_neg (by omega)] at he; exact ⟨k', he, rfl, rfl, rfl⟩⟩

theorem Fr.refl (ι : Em) (g : Nat → Option Blk) (w : World) : Fr ι g w w := ⟨rfl, rfl, rfl, Nat.le_refl _, fun _ _ _ => rfl⟩
theorem Nw.refl (ι : Em) (g : Nat → Option Blk) (w : World) : Nw ι ι g w := fun _ _ h => .inl h
theorem Post.refl {B : Nat} {ι : Em} {H : AH} {w : World} (h : HR B ι H.get w) : Post B ι ι H H w w := ⟨fun _ _ => rfl, h, Fr.refl _ _ _, Nw.refl _ _ _⟩
theorem Post.sub {B : Nat} {ι ι' : Em} {H H' : AH} {w w' : World} (h : Post B ι ι' H H' w w') (hf : ∀ b, H.nx ≤ b → b < H'.nx → ι b = none) : Sub ι ι' := fun b L e => by
  by_cases hb : b < H.nx ∨ H'.nx ≤ b
  · rw [h.em b hb]; exact e
  · have := hf b (by omega) (by omega); rw [this] at e; cases e

/-- An image behind a step, of the old blocks or new. -/
theorem img_back {B : Nat} {ι ι1 : Em} {H H1 : AH} {w w1 : World} (h : Post B ι ι1 H H1 w w1) (hm : Mon H H1) (hf : ∀ b, H.nx ≤ b → b < H1.nx → ι b = none) {r : Nat} (hi : Img ι1 H1.get r) :
    Img ι H.get r ∨ w.heap.size ≤ r := by
  obtain ⟨b, k, L, hg, hro, hL, rfl⟩ := hi
  rcases h.nw b L hL with h0 | ⟨h0, h1 | h1⟩
  · by_cases hb : b < H.nx
    · obtain ⟨k0, hg0, r0⟩ := hm.old b k hb hg
      exact .inl ⟨b, k0, L, hg0, r0.1.trans hro, h0, rfl⟩
    · have := hf b (by omega) (AH.get_lt hg)
      rw [this] at h0; cases h0
  · exact .inr h1
  · exact .inl h1

theorem Fr.trans' {B : Nat} {ι ι1 ι2 : Em} {H H1 H2 : AH} {w w1 w2 : World} (h : Post B ι ι1 H H1 w w1) (hm : Mon H H1) (hf : ∀ b, H.nx ≤ b → b < H1.nx → ι b = none)
    (k : Fr ι1 H1.get w1 w2) : Fr ι H.get w w2 :=
  ⟨k.os.trans h.fr.os, k.tape.trans h.fr.tape, k.output.trans h.fr.output, Nat.le_trans h.fr.size k.size, fun r hr hn => by
    rw [k.block r (Nat.lt_of_lt_of_le hr h.fr.size) (fun hi => by
      rcases img_back h hm hf hi with h1 | h1
      · exact hn h1
      · omega)]
    exact h.fr.block r hr hn⟩

theorem Post.trans {B : Nat} {ι ι1 ι2 : Em} {H H1 H2 : AH} {w w1 w2 : World} (h : Post B ι ι1 H H1 w w1) (hm : Mon H H1) (hm2 : Mon H1 H2) (hf : ∀ b, H.nx ≤ b → b < H2.nx → ι b = none)
    (k : Post B ι1 ι2 H1 H2 w1 w2) : Post B ι ι2 H H2 w w2 := by
  have h1 := hm.nx
  have h2 := hm2.nx
  have hf1 : ∀ b, H.nx ≤ b → b < H1.nx → ι b = none := fun b x y => hf b x (by omega)
  refine ⟨fun b hb => (k.em b (by omega)).trans (h.em b (by omega)), k.hr, Fr.trans' (H2 := H2) (ι2 := ι2) h hm hf1 k.fr, fun b L e => ?_⟩
  rcases k.nw b L e with e1 | ⟨e0, e1 | e1⟩
  · exact h.nw b L e1
  · have hb : ι b = none := by
      by_cases c : b < H.nx ∨ H1.nx ≤ b
      · exact (h.em b c).symm.trans e0
      · exact hf1 b (by omega) (by omega)
    exact .inr ⟨hb, .inl (Nat.le_trans h.fr.size e1)⟩
  · have hb : ι b = none := by
      by_cases c : b < H.nx ∨ H1.nx ≤ b
      · exact (h.em b c).symm.trans e0
      · exact hf1 b (by omega) (by omega)
    rcases img_back h hm hf1 e1 with x | x
    · exact .inr ⟨hb, .inr x⟩
    · exact .inr ⟨hb, .inl x⟩

/-! ### Steps on the heap -/
def upE (ι : Em) (b : Nat) (L : Loc) : Em := fun c => if c = b then some L else ι c
theorem upE_same (ι : Em) (b : Nat) (L : Loc) : upE ι b L b = some L := by simp [upE]
theorem upE_ne (ι : Em) {b c : Nat} (L : Loc) (h : c ≠ b) : upE ι b L c = ι c := by simp [upE, h]
theorem upE_sub {ι : Em} {b : Nat} (L : Loc) (h : ι b = none) : Sub ι (upE ι b L) := fun c M e => by
  by_cases hc : c = b
  · subst hc; rw [h] at e; cases e
  · rw [upE_ne _ _ hc]; exact e

theorem BR.mono {B : Nat} {ι ι' : Em} (hs : Sub ι ι') {k : Blk} {L : Loc} {w w' : World} (h : BR B ι k L w) (hw : w'.heap[L.r]? = w.heap[L.r]?) : BR B ι' k L w' := by
  obtain ⟨c, e, fz, h1, h2, h3, h4, h5, h6, h7⟩ := h
  exact ⟨c, e, fz, hw.trans h1, fun i v hv => by obtain ⟨v', a, b⟩ := h2 i v hv; exact ⟨v', a, b.mono hs⟩, h3, h4, h5, h6, h7⟩
theorem BR.lt {B : Nat} {ι : Em} {k : Blk} {L : Loc} {w : World} (h : BR B ι k L w) : L.r < w.heap.size := by
  obtain ⟨c, e, fz, h1, _⟩ := h
  exact (Array.getElem?_eq_some_iff.1 h1).1

/-- A draw. -/
theorem HR.drew {B : Nat} {ι : Em} {g : Nat → Option Blk} {w : World} (h : HR B ι g w) : HR B ι g w.drew :=
  ⟨fun b k L hg hL => (h.blk b k L hg hL).mono (Sub.refl ι) rfl, h.inj, h.le⟩
theorem Fr.drew (ι : Em) (g : Nat → Option Blk) (w : World) : Fr ι g w w.drew := ⟨rfl, rfl, rfl, Nat.le_refl _, fun _ _ _ => rfl⟩

theorem heap_new (w : World) (o : Obj) : (w.alloc o).heap[w.heap.size]? = some o := by
  unfold World.alloc; simp only [Array.getElem?_push, if_true]
theorem heap_old (w : World) (o : Obj) {r : Nat} (h : r < w.heap.size) : (w.alloc o).heap[r]? = w.heap[r]? := by
  unfold World.alloc; simp only [Array.getElem?_push]; rw [if_neg (by omega)]
/-- A new block. -/
theorem HR.new {B : Nat} {ι : Em} {g : Nat → Option Blk} {w : World} (h : HR B ι g w) (b : Nat) (hb : ι b = none) (k : Blk) (c : Array Value) (e : TypeId) (lim es : Nat)
    (hc : ∀ (i : Nat) v, k.cs[i]? = some v → ∃ v', c[i]? = some v' ∧ VR ι v v') (ho : ∀ v ∈ k.cs, one v = true) (hro : k.ro = false) (hx : k.ext = true → k.es = es ∧ lim ≤ c.size) :
    HR B (upE ι b ⟨w.heap.size, 0, lim, es, k.ext⟩) (fun j => if j = b then some k else g j) (w.alloc (.cells c e)) := by
  have hsub : Sub ι (upE ι b ⟨w.heap.size, 0, lim, es, k.ext⟩) := upE_sub _ hb
  have hle := h.le
  refine ⟨fun b' k' L hg hL => ?_, fun b1 b2 k1 k2 L1 L2 g1 g2 e1 e2 r1 hr => ?_, by simp; omega⟩
  · by_cases hbb : b' = b
    · subst hbb
      rw [upE_same] at hL; cases hL
      simp only [if_true] at hg; cases hg
      refine ⟨c, e, (0, 0), heap_new w _, fun i v hv => ?_, ho, fun _ => ⟨hle, fun o _ => by simp⟩, ?_, rfl, hx⟩
      case refine_2 => intro hr; rw [hro] at hr; cases hr
      obtain ⟨v', h1, h2⟩ := hc i v hv
      exact ⟨v', by simpa using h1, h2.mono hsub⟩
    · simp only [hbb, if_false] at hg
      rw [upE_ne _ _ hbb] at hL
      have := h.blk b' k' L hg hL
      exact this.mono hsub (heap_old w _ this.lt)
  · by_cases h1 : b1 = b
    · by_cases h2 : b2 = b
      · rw [h1, h2]
      · subst h1
        simp only [h2, if_false] at g2
        rw [upE_ne _ _ h2] at e2
        rw [upE_same] at e1; cases e1
        have := (h.blk b2 k2 L2 g2 e2).lt
        simp at hr; omega
    · simp only [h1, if_false] at g1
      rw [upE_ne _ _ h1] at e1
      have l1 := (h.blk b1 k1 L1 g1 e1).lt
      by_cases h2 : b2 = b
      · subst h2
        rw [upE_same] at e2; cases e2
        simp at hr; omega
      · simp only [h2, if_false] at g2
        rw [upE_ne _ _ h2] at e2
        exact h.inj b1 b2 k1 k2 L1 L2 g1 g2 e1 e2 r1 hr

theorem get_new_fun (H : AH) (k : Blk) : (H.new k).get = fun j => if j = H.nx then some k else H.get j := funext fun j => AH.get_new H k j
theorem Post.new {B : Nat} {ι : Em} {H : AH} {w : World} (h : HR B ι H.get w) (hb : ι H.nx = none) (k : Blk) (c : Array Value) (e : TypeId) (lim es : Nat)
    (hc : ∀ (i : Nat) v, k.cs[i]? = some v → ∃ v', c[i]? = some v' ∧ VR ι v v') (ho : ∀ v ∈ k.cs, one v = true) (hro : k.ro = false) (hx : k.ext = true → k.es = es ∧ lim ≤ c.size) :
    Post B ι (upE ι H.nx ⟨w.heap.size, 0, lim, es, k.ext⟩) H (H.new k) w (w.alloc (.cells c e)) := by
  refine ⟨fun b hx => ?_, ?_, ⟨rfl, rfl, rfl, by simp, fun r hr _ => ?_⟩, fun b L hL => ?_⟩
  · simp only [AH.new] at hx
    exact upE_ne _ _ (by omega)
  · rw [get_new_fun]; exact h.new H.nx hb k c e lim es hc ho hro hx
  · exact heap_old w _ hr
  · by_cases hbb : b = H.nx
    · subst hbb
      rw [upE_same] at hL; cases hL
      exact .inr ⟨hb, .inl (Nat.le_refl _)⟩
    · rw [upE_ne _ _ hbb] at hL; exact .inl hL

end Go.Ri
