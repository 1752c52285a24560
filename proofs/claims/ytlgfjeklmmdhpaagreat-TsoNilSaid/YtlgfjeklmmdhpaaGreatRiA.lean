/- Ri, part A: a machine of our own over the model's programs: a heap of numbered blocks, no tape, no order of evaluation; code made of the model's code by a checker. -/
import GoSem.Dispatch
import GoSem.Core.Region
set_option linter.unusedVariables false
namespace Go.Ri
noncomputable section

/-! ### A map from numbers, as a tree by their bits -/
inductive Tr (α : Type) where
  | nil : Tr α
  | node (l : Tr α) (v : Option α) (r : Tr α) : Tr α

def Tr.get {α : Type} : Tr α → Nat → Option α
  | .nil, _ => none
  | .node l v r, n => cond (Nat.beq n 0) v (cond (Nat.beq (n % 2) 1) (l.get (n / 2)) (r.get (n / 2 - 1)))

def Tr.left {α : Type} : Tr α → Tr α
  | .nil => .nil
  | .node l _ _ => l
def Tr.right {α : Type} : Tr α → Tr α
  | .nil => .nil
  | .node _ _ r => r
def Tr.top {α : Type} : Tr α → Option α
  | .nil => none
  | .node _ v _ => v
def Tr.upd {α : Type} : Nat → Tr α → Nat → Option α → Tr α
  | 0, t, _, _ => t
  | f + 1, t, n, x => cond (Nat.beq n 0) (.node t.left x t.right)
      (cond (Nat.beq (n % 2) 1) (.node (Tr.upd f t.left (n / 2) x) t.top t.right) (.node t.left t.top (Tr.upd f t.right (n / 2 - 1) x)))
def Tr.set {α : Type} (t : Tr α) (n : Nat) (x : Option α) : Tr α := Tr.upd (n + 1) t n x

theorem beqF {a b : Nat} (h : a ≠ b) : Nat.beq a b = false := by
  cases e : Nat.beq a b with
  | false => rfl
  | true => exact absurd (Nat.eq_of_beq_eq_true e) h
theorem beqT {a b : Nat} (h : a = b) : Nat.beq a b = true := by subst h; exact Nat.beq_refl a

theorem Tr.get_eq {α : Type} (t : Tr α) (n : Nat) : t.get n = cond (Nat.beq n 0) t.top (cond (Nat.beq (n % 2) 1) (t.left.get (n / 2)) (t.right.get (n / 2 - 1))) := by
  cases t with
  | nil => simp [Tr.get, Tr.top, Tr.left, Tr.right, cond]; split <;> (try split) <;> rfl
  | node l v r => rfl

theorem Tr.get_upd {α : Type} : ∀ (f : Nat) (t : Tr α) (n : Nat) (x : Option α) (m : Nat), n < f → (Tr.upd f t n x).get m = if m = n then x else t.get m
  | 0, t, n, x, m, h => absurd h (Nat.not_lt_zero _)
  | f + 1, t, n, x, m, h => by
    unfold Tr.upd
    by_cases h0 : n = 0
    · subst h0
      simp only [Nat.beq_refl, cond_true]
      by_cases hm : m = 0
      · subst hm; simp [Tr.get]
      · rw [if_neg hm, Tr.get_eq t m]
        have : Nat.beq m 0 = false := beqF hm
        simp [Tr.get, this]
    · have hb : Nat.beq n 0 = false := beqF h0
      rw [hb]
      simp only [cond_false]
      by_cases h1 : n % 2 = 1
      · have hb1 : Nat.beq (n % 2) 1 = true := beqT h1
        rw [hb1]
        simp only [cond_true]
        by_cases hm : m = 0
        · subst hm
          rw [if_neg (by omega), Tr.get_eq t 0]; simp [Tr.get]
        · have hbm : Nat.beq m 0 = false := beqF hm
          rw [Tr.get_eq t m]
          simp only [Tr.get, hbm, cond_false]
          by_cases hm1 : m % 2 = 1
          · have : Nat.beq (m % 2) 1 = true := beqT hm1
            simp only [this, cond_true]
            rw [Tr.get_upd f t.left (n / 2) x (m / 2) (by omega)]
            by_cases e : m = n
            · subst e; simp
            · rw [if_neg e, if_neg (by omega)]
          · have : Nat.beq (m % 2) 1 = false := beqF hm1
            simp only [this, cond_false]
            rw [if_neg (by omega)]
      · have hb1 : Nat.beq (n % 2) 1 = false := beqF h1
        rw [hb1]
        simp only [cond_false]
        by_cases hm : m = 0
        · subst hm
          rw [if_neg (by omega), Tr.get_eq t 0]; simp [Tr.get]
        · have hbm : Nat.beq m 0 = false := beqF hm
          rw [Tr.get_eq t m]
          simp only [Tr.get, hbm, cond_false]
          by_cases hm1 : m % 2 = 1
          · have : Nat.beq (m % 2) 1 = true := beqT hm1
            simp only [this, cond_true]
            rw [if_neg (by omega)]
          · have : Nat.beq (m % 2) 1 = false := beqF hm1
            simp only [this, cond_false]
            rw [Tr.get_upd f t.right (n / 2 - 1) x (m / 2 - 1) (by omega)]
            by_cases e : m = n
            · subst e; simp
            · rw [if_neg e, if_neg (by omega)]

theorem Tr.get_set {α : Type} (t : Tr α) (n : Nat) (x : Option α) (m : Nat) : (t.set n x).get m = if m = n then x else t.get m :=
  Tr.get_upd _ t n x m (Nat.lt_succ_self n)
theorem Tr.get_nil {α : Type} (m : Nat) : (Tr.nil : Tr α).get m = none := rfl

/-! ### A map from numbers, as a tree of eight branches a node: what the temporaries lie in -/
inductive D8 where
  | d0 | d1 | d2 | d3 | d4 | d5 | d6 | d7
inductive T8 (α : Type) where
  | nil : T8 α
  | node (v : Option α) (c0 c1 c2 c3 c4 c5 c6 c7 : T8 α) : T8 α
def D8.of (n : Nat) : D8 := cond (Nat.beq n 0) .d0 (cond (Nat.beq n 1) .d1 (cond (Nat.beq n 2) .d2 (cond (Nat.beq n 3) .d3 (cond (Nat.beq n 4) .d4 (cond (Nat.beq n 5) .d5 (cond (Nat.beq n 6) .d6 .d7))))))
def D8.num : D8 → Nat
  | .d0 => 0
  | .d1 => 1
  | .d2 => 2
  | .d3 => 3
  | .d4 => 4
  | .d5 => 5
  | .d6 => 6
  | .d7 => 7
noncomputable def pathF (f : Nat) : Nat → List D8 :=
  Nat.rec (motive := fun _ => Nat → List D8) (fun _ => []) (fun _ ih n => cond (Nat.beq n 0) [] (D8.of (Nat.mod (Nat.sub n 1) 8) :: ih (Nat.div (Nat.sub n 1) 8))) f
noncomputable def pathN (n : Nat) : List D8 := pathF (Nat.succ n) n
def pathV : List D8 → Nat
  | [] => 0
  | d :: p => 8 * pathV p + d.num + 1
theorem D8.num_of {n : Nat} (h : n < 8) : (D8.of n).num = n := by
  match n, h with
  | 0, _ => rfl
  | 1, _ => rfl
  | 2, _ => rfl
  | 3, _ => rfl
  | 4, _ => rfl
  | 5, _ => rfl
  | 6, _ => rfl
  | 7, _ => rfl
theorem pathF_val : ∀ (f n : Nat), n < f → pathV (pathF f n) = n
  | 0, n, h => absurd h (Nat.not_lt_zero _)
  | f + 1, n, h => by
    show pathV (cond (Nat.beq n 0) [] (D8.of (Nat.mod (Nat.sub n 1) 8) :: pathF f (Nat.div (Nat.sub n 1) 8))) = n
    by_cases h0 : n = 0
    · subst h0; rfl
    · have hb : Nat.beq n 0 = false := by
        cases e : Nat.beq n 0 with
        | false => rfl
        | true => exact absurd (Nat.eq_of_beq_eq_true e) h0
      rw [hb]
      simp only [cond_false, pathV]
      have h1 : Nat.mod (Nat.sub n 1) 8 = (n - 1) % 8 := rfl
      have h2 : Nat.div (Nat.sub n 1) 8 = (n - 1) / 8 := rfl
      rw [h1, h2, pathF_val f _ (by omega), D8.num_of (by omega)]
      omega
theorem pathN_inj {n m : Nat} (h : pathN n = pathN m) : n = m := by
  rw [← pathF_val (n + 1) n (Nat.lt_succ_self n), ← pathF_val (m + 1) m (Nat.lt_succ_self m)]
  exact congrArg pathV h
noncomputable def getP {α : Type} (p : List D8) : T8 α → Option α :=
  List.rec (motive := fun _ => T8 α → Option α) (fun t => T8.rec (motive := fun _ => Option α) none (fun v _ _ _ _ _ _ _ _ _ _ _ _ _ _ _ _ => v) t)
    (fun d _ ih t => T8.rec (motive := fun _ => Option α) none (fun _ c0 c1 c2 c3 c4 c5 c6 c7 _ _ _ _ _ _ _ _ => D8.rec (motive := fun _ => Option α) (ih c0) (ih c1) (ih c2) (ih c3) (ih c4) (ih c5) (ih c6) (ih c7) d) t) p
noncomputable def setP {α : Type} (x : Option α) (p : List D8) : T8 α → T8 α :=
  List.rec (motive := fun _ => T8 α → T8 α) (fun t => T8.rec (motive := fun _ => T8 α) (.node x .nil .nil .nil .nil .nil .nil .nil .nil) (fun _ c0 c1 c2 c3 c4 c5 c6 c7 _ _ _ _ _ _ _ _ => .node x c0 c1 c2 c3 c4 c5 c6 c7) t)
    (fun d _ ih t => T8.rec (motive := fun _ => T8 α)
      (D8.rec (motive := fun _ => T8 α) (.node none (ih .nil) .nil .nil .nil .nil .nil .nil .nil) (.node none .nil (ih .nil) .nil .nil .nil .nil .nil .nil) (.node none .nil .nil (ih .nil) .nil .nil .nil .nil .nil) (.node none .nil .nil .nil (ih .nil) .nil .nil .nil .nil)
        (.node none .nil .nil .nil .nil (ih .nil) .nil .nil .nil) (.node none .nil .nil .nil .nil .nil (ih .nil) .nil .nil) (.node none .nil .nil .nil .nil .nil .nil (ih .nil) .nil) (.node none .nil .nil .nil .nil .nil .nil .nil (ih .nil)) d)
      (fun v c0 c1 c2 c3 c4 c5 c6 c7 _ _ _ _ _ _ _ _ => D8.rec (motive := fun _ => T8 α) (.node v (ih c0) c1 c2 c3 c4 c5 c6 c7) (.node v c0 (ih c1) c2 c3 c4 c5 c6 c7) (.node v c0 c1 (ih c2) c3 c4 c5 c6 c7) (.node v c0 c1 c2 (ih c3) c4 c5 c6 c7)
        (.node v c0 c1 c2 c3 (ih c4) c5 c6 c7) (.node v c0 c1 c2 c3 c4 (ih c5) c6 c7) (.node v c0 c1 c2 c3 c4 c5 (ih c6) c7) (.node v c0 c1 c2 c3 c4 c5 c6 (ih c7)) d) t) p
theorem getP_nil {α : Type} (p : List D8) : getP p (T8.nil : T8 α) = none := by cases p <;> rfl
theorem getP_setP {α : Type} (x : Option α) : ∀ (p q : List D8) (t : T8 α), (q = p → getP q (setP x p t) = x) ∧ (q ≠ p → getP q (setP x p t) = getP q t)
  | [], [], t => ⟨fun _ => by cases t <;> rfl, fun h => absurd rfl h⟩
  | [], e :: q, t => ⟨fun h => (by cases h), fun _ => by cases t <;> first | (cases e <;> exact getP_nil q) | rfl⟩
  | d :: p, [], t => ⟨fun h => (by cases h), fun _ => by cases t <;> cases d <;> rfl⟩
  | d :: p, e :: q, t => by
    have ih := fun t => getP_setP x p q t
    cases t with
    | nil =>
      constructor
      · intro h
        cases h
        cases d <;> exact (ih .nil).1 rfl
      · intro h
        cases d <;> cases e <;> first
          | exact (getP_nil q).trans rfl
          | exact ((ih .nil).2 fun h' => h (by rw [h'])).trans (getP_nil q)
    | node v c0 c1 c2 c3 c4 c5 c6 c7 =>
      constructor
      · intro h
        cases h
        cases d <;> exact (ih _).1 rfl
      · intro h
        cases d <;> cases e <;> first
          | exact (ih _).2 fun h' => h (by rw [h'])
          | rfl
noncomputable def T8.get {α : Type} (t : T8 α) (n : Nat) : Option α := getP (pathN n) t
noncomputable def T8.set {α : Type} (t : T8 α) (n : Nat) (x : Option α) : T8 α := setP x (pathN n) t
theorem T8.get_set {α : Type} (t : T8 α) (n : Nat) (x : Option α) (m : Nat) : (t.set n x).get m = if m = n then x else t.get m := by
  by_cases h : m = n
  · subst h
    rw [if_pos rfl]
    exact (getP_setP x (pathN m) (pathN m) t).1 rfl
  · rw [if_neg h]
    exact (getP_setP x (pathN n) (pathN m) t).2 fun e => h (pathN_inj e)
theorem T8.get_nil {α : Type} (m : Nat) : (T8.nil : T8 α).get m = none := getP_nil _

/-! ### The code -/
inductive Opd where
  | t (n : Nat)
  | c (v : Value)
  | f (id : Nat)

/-- What '==' compares: nothing that is asked by type; bools; pointers, slices, maps, functions against nil; rows of cells. -/
inductive EK where
  | no
  | bo
  | pt
  | sl
  | mp
  | fn
  | ag (ks : List Nat)

inductive AOp where
  | mv (x : Opd)
  | pk (c a b : Opd)
  | nw (e : Nat) (zs : List Value)
  | bx (e : Nat) (x : Opd)
  | bd (zs : List Value) (ps : List (Nat × Nat × Opd))
  | bs (e n : Nat) (zs : List Value) (ps : List (Nat × Nat × Opd))
  | ld (agg : Bool) (n : Nat) (x : Opd)
  | st (n : Nat) (x y : Opd)
  | nc (x : Opd)
  | bo (op : BinOp) (ek : EK) (x y : Opd)
  | uo (op : UnOp) (x : Opd)
  | ci (k : IntKind) (x : Opd)
  | cs (x : Opd)
  | cb (x : Opd)
  | ms (e sz bytes : Nat) (zs : List Value) (x y : Opd)
  | sl (sz : Nat) (x : Opd) (lo hi mx : Option Opd)
  | ss (x : Opd) (lo hi : Option Opd)
  | sa (n sz : Nat) (x : Opd) (lo hi mx : Option Opd)
  | fa (off : Nat) (x : Opd)
  | is (sz : Nat) (x i : Opd)
  | ia (len sz : Nat) (x i : Opd)
  | fd (off n : Nat) (agg : Bool) (x : Opd)
  | ix (len sz n : Nat) (agg : Bool) (x i : Opd)
  | ib (x i : Opd)
  | ex (x : Opd) (i : Nat)
  | mf (f : Nat) (first captured : List Opd)
  | ca (f : Nat) (xs : List Opd)
  | cv (x : Opd) (xs : List Opd)
  | ln (x : Opd)
  | ls (x : Opd)
  | lc (n : Nat)
  | ap (e sz bytes : Nat) (x y : Opd)
  | az (e sz bytes : Nat) (zs : List Value) (x y : Opd)
  | cp (sz : Nat) (x y : Opd)
  | mn (xs : List Opd)
  | mx (xs : List Opd)
  | cl (zs : List Value) (x : Opd)

/-- An operation: where its value goes, what it does, under which temporary's truth; the operations ahead of it, as bits. -/
structure AOper where
  dst : Option Nat
  op : AOp
  guard : Option (Nat × Bool)
  bef : Nat

inductive ACode where
  | skip
  | rg (ops : List AOper) (draw : Bool)
  | sq (a b : ACode)
  | cd (c : Opd) (a b : ACode)
  | bk (id : Nat) (a : ACode)
  | lp (a : ACode)
  | xt (id : Nat)
  | rt

/-- A result: a temporary, or cells that one points at. -/
inductive ARes where
  | t (n : Nat)
  | c (n : Nat) (agg : Bool) (k : Nat)

structure AFun where
  nt : Nat
  body : ACode
  res : List ARes

/-! ### The heap -/
/-- A block: its cells; 'ext': more room may lie behind them (an append made it); 'ro': it came in and is only read; 'es': cells an element, where 'ext' is. -/
structure Blk where
  cs : List Value
  ext : Bool := false
  ro : Bool := false
  es : Nat := 0

structure AH where
  m : Tr Blk
  nx : Nat

def AH.get (H : AH) (b : Nat) : Option Blk := cond (Nat.blt b H.nx) (H.m.get b) none
def AH.new (H : AH) (k : Blk) : AH := { m := H.m.set H.nx (some k), nx := H.nx + 1 }
def AH.put (H : AH) (b : Nat) (k : Blk) : AH := { m := H.m.set b (some k), nx := H.nx }
def AH.del (H : AH) (b : Nat) : AH := { m := H.m.set b none, nx := H.nx }

theorem AH.get_lt {H : AH} {b : Nat} {k : Blk} (h : H.get b = some k) : b < H.nx := by
  unfold AH.get at h
  cases hb : Nat.blt b H.nx with
  | true => simpa [Nat.blt_eq] using hb
  | false => rw [hb] at h; cases h
theorem AH.get_new (H : AH) (k : Blk) (b : Nat) : (H.new k).get b = if b = H.nx then some k else H.get b := by
  unfold AH.get AH.new
  simp only [Tr.get_set]
  by_cases e : b = H.nx
  · subst e
    have : Nat.blt H.nx (H.nx + 1) = true := by simp [Nat.blt_eq]
    simp [this]
  · rw [if_neg e, if_neg e]
    by_cases hb : b < H.nx
    · have h1 : Nat.blt b (H.nx + 1) = true := by rw [Nat.blt_eq]; omega
      have h2 : Nat.blt b H.nx = true := by rw [Nat.blt_eq]; omega
      rw [h1, h2]
    · have h1 : Nat.blt b (H.nx + 1) = false := by
        cases h : Nat.blt b (H.nx + 1)
        · rfl
        · rw [Nat.blt_eq] at h; omega
      have h2 : Nat.blt b H.nx = false := by
        cases h : Nat.blt b H.nx
        · rfl
        · rw [Nat.blt_eq] at h; omega
      rw [h1, h2]
theorem AH.get_put (H : AH) (b : Nat) (k : Blk) (hb : b < H.nx) (c : Nat) : (H.put b k).get c = if c = b then some k else H.get c := by
  unfold AH.get AH.put
  simp only [Tr.get_set]
  by_cases e : c = b
  · subst e
    have : Nat.blt c H.nx = true := by rw [Nat.blt_eq]; exact hb
    simp [this]
  · simp [e]
theorem AH.get_del (H : AH) (b c : Nat) : (H.del b).get c = if c = b then none else H.get c := by
  unfold AH.get AH.del
  simp only [Tr.get_set]
  by_cases e : c = b
  · subst e; simp only [if_true]; cases Nat.blt c H.nx <;> rfl
  · simp [e]

/-- Some cells from a place on. -/
def rdL (cs : List Value) (o n : Nat) : Option (List Value) :=
  cond (Nat.ble (o + n) cs.length) (some ((cs.drop o).take n)) none
def AH.rd (H : AH) (b o n : Nat) : Option (List Value) :=
  match H.get b with
  | some k => rdL k.cs o n
  | none => none
def setL : List Value → Nat → List Value → List Value
  | cs, _, [] => cs
  | cs, o, v :: vs => setL (cs.set o v) (o + 1) vs
def AH.wr (H : AH) (b o : Nat) (vs : List Value) : Option AH :=
  match H.get b with
  | some k => cond (!k.ro && Nat.ble (o + vs.length) k.cs.length) (some (H.put b { k with cs := setL k.cs o vs })) none
  | none => none

/-! ### Values -/
def undefV : Value := .tuple #[]
/-- Values without an address, of one cell. -/
def flat : Value → Bool
  | .bool _ | .int _ _ | .float _ _ | .string _ | .pointer none | .slice none 0 0 | .map none | .nilFunc | .nilIface => true
  | _ => false
/-- A value that may be kept in a cell. -/
def one : Value → Bool
  | .agg _ | .tuple _ => false
  | _ => true
/-- Constants: flat ones, structs of flat ones, no value. -/
def konst : Value → Bool
  | .agg cs => cs.toList.all flat
  | .tuple cs => cs.toList.isEmpty
  | v => flat v

abbrev Tm := T8 Value
def ev (t : Tm) : Opd → Value
  | .t n => (t.get n).getD undefV
  | .c v => v
  | .f id => .func (.func id) #[] #[]
def evL (t : Tm) : List Opd → List Value
  | [] => []
  | x :: xs => ev t x :: evL t xs
/-- A value's cells; a tuple has none. -/
def cellsO (v : Value) : Option (List Value) := match v with
  | .agg cs => some cs.toList
  | .tuple _ => none
  | v => some [v]
def mkV (agg : Bool) (cs : List Value) : Option Value :=
  cond agg (some (.agg ⟨cs⟩)) (match cs with | [v] => some v | _ => none)

def fillL : List Value → List (Nat × Nat × Value) → Option (List Value)
  | cs, [] => some cs
  | cs, (off, n, v) :: r => match cellsO v with
    | some l => cond (Nat.beq l.length n && Nat.ble (off + n) cs.length) (fillL (setL cs off l) r) none
    | none => none
def evP (t : Tm) : List (Nat × Nat × Opd) → List (Nat × Nat × Value)
  | [] => []
  | (o, n, x) :: r => (o, n, ev t x) :: evP t r

def asI : Value → Option Int
  | .int _ n => some n
  | _ => none
def okI (i : Int) (n : Nat) : Option Nat := match i with
  | .ofNat k => cond (Nat.ble k n) (some k) none
  | .negSucc _ => none
def ltI (i : Int) (n : Nat) : Option Nat := match i with
  | .ofNat k => cond (Nat.blt k n) (some k) none
  | .negSucc _ => none
/-- A slice's bounds: low, high, max, out of the length and the capacity. -/
def bnds (len cap : Nat) (lo hi mx : Option Int) : Option (Nat × Nat × Nat) :=
  match (match mx with | some m => okI m cap | none => some cap) with
  | none => none
  | some m =>
    match (match hi with | some h => okI h m | none => match mx with | none => some len | some _ => none) with
    | none => none
    | some h =>
      match (match lo with | some l => okI l h | none => some 0) with
      | none => none
      | some l => some (l, h, m)
def evI (t : Tm) : Option Opd → Option (Option Int)
  | none => some none
  | some x => match ev t x with
    | .int _ n => some (some n)
    | _ => none

/-- Two cells' equality: bools (1), whole numbers of one kind (2), strings (3). -/
def eq1 : Nat → Value → Value → Option Bool
  | 1, .bool a, .bool b => some (a == b)
  | 2, .int k a, .int k' b => if k = k' then some (a == b) else none
  | 3, .string a, .string b => some (a == b)
  | _, _, _ => none
/-- Two rows' equality, cell by cell. -/
def eqAll : List Nat → List Value → List Value → Option Bool
  | [], _, _ => some true
  | k :: ks, x :: xs, y :: ys => match eq1 k x y with
    | some true => eqAll ks xs ys
    | some false => some false
    | none => none
  | _ :: _, _, _ => none

def cmpI : BinOp → Int → Int → Option Value
  | .eql, x, y => some (.bool (x == y))
  | .neq, x, y => some (.bool (x != y))
  | .lss, x, y => some (.bool (decide (x < y)))
  | .leq, x, y => some (.bool (decide (x ≤ y)))
  | .gtr, x, y => some (.bool (decide (x > y)))
  | .geq, x, y => some (.bool (decide (x ≥ y)))
  | _, _, _ => none
def binI (op : BinOp) (k : IntKind) (x y : Int) : Option Value :=
  match op with
  | .add => some (.int k (k.wrap (x + y)))
  | .sub => some (.int k (k.wrap (x - y)))
  | .mul => some (.int k (k.wrap (x * y)))
  | .quo => if y = 0 then none else some (.int k (k.wrap (x.tdiv y)))
  | .rem => if y = 0 then none else some (.int k (x.tmod y))
  | .and => some (.int k (k.wrap (BitVec.ofInt k.bits x &&& BitVec.ofInt k.bits y).toNat))
  | .or => some (.int k (k.wrap (BitVec.ofInt k.bits x ||| BitVec.ofInt k.bits y).toNat))
  | .xor => some (.int k (k.wrap (BitVec.ofInt k.bits x ^^^ BitVec.ofInt k.bits y).toNat))
  | .andNot => some (.int k (k.wrap (BitVec.ofInt k.bits x &&& ~~~(BitVec.ofInt k.bits y)).toNat))
  | op => cmpI op x y
def strB (op : BinOp) (x y : ByteArray) : Option Value :=
  match op with
  | .add => if ((x.size + y.size : Nat) : Int) > IntKind.i64.max then none else some (.string (x ++ y))
  | .eql => some (.bool (x.toList == y.toList))
  | .neq => some (.bool (!(x.toList == y.toList)))
  | _ => none
def eqV (k : EK) (x y : Value) : Option Bool :=
  match k, x, y with
  | .bo, .bool a, .bool b => some (a == b)
  | .pt, .pointer none, .pointer b => some b.isNone
  | .pt, .pointer (some _), .pointer none => some false
  | .sl, .slice none _ _, .slice b _ _ => some b.isNone
  | .sl, .slice (some _) _ _, .slice none _ _ => some false
  | .mp, .map none, .map b => some b.isNone
  | .mp, .map (some _), .map none => some false
  | .fn, .nilFunc, .nilFunc => some true
  | .fn, .nilFunc, .func _ _ _ => some false
  | .fn, .func _ _ _, .nilFunc => some false
  | .ag ks, .agg xs, .agg ys => cond (Nat.beq xs.toList.length ks.length && Nat.beq ys.toList.length ks.length) (eqAll ks xs.toList ys.toList) none
  | _, _, _ => none
def binV (op : BinOp) (ek : EK) (x y : Value) : Option Value :=
  match op, x, y with
  | .shl, .int k a, .int _ b => if b < 0 then none else some (.int k (k.wrap (a * 2 ^ (min b.toNat k.bits))))
  | .shr, .int k a, .int _ b => if b < 0 then none else some (.int k (a.fdiv (2 ^ (min b.toNat k.bits))))
  | op, .int k a, .int k' b => if k = k' then binI op k a b else none
  | op, .string a, .string b => strB op a b
  | .eql, x, y => (eqV ek x y).map Value.bool
  | .neq, x, y => (eqV ek x y).map fun b => Value.bool (!b)
  | _, _, _ => none
def unV (op : UnOp) (x : Value) : Option Value :=
  match op, x with
  | .neg, .int k n => binI .sub k 0 n
  | .xor, .int k n => binI .xor k (if k.signed then -1 else k.max) n
  | .not, .bool b => some (.bool (!b))
  | _, _ => none

def bytesOf : List Value → Option (List UInt8)
  | [] => some []
  | .int .u8 n :: r => match bytesOf r with
    | some l => some (UInt8.ofNat n.toNat :: l)
    | none => none
  | _ :: _ => none
def minG (m : Bool) (k : IntKind) : Int → List Value → Option Value
  | x, [] => some (.int k x)
  | x, .int _ y :: r => minG m k (cond m (if y < x then y else x) (if y > x then y else x)) r
  | _, _ => none
def minI (m : Bool) : List Value → Option Value
  | .int k x :: r => minG m k x r
  | _ => none

/-- An operation that calls nothing. -/
def evA (ao : AOp) (t : Tm) (H : AH) : Option (Value × AH) :=
  match ao with
  | .mv x => some (ev t x, H)
  | .pk c a b => match ev t c with
    | .bool true => some (ev t a, H)
    | .bool false => some (ev t b, H)
    | _ => none
  | .nw _ zs => some (.pointer (some ⟨H.nx, 0, none⟩), H.new { cs := zs })
  | .bx _ x => match cellsO (ev t x) with
    | some l => some (.pointer (some ⟨H.nx, 0, none⟩), H.new { cs := l })
    | none => none
  | .bd zs ps => match fillL zs (evP t ps) with
    | some cs => some (.agg ⟨cs⟩, H)
    | none => none
  | .bs _ n zs ps => match fillL zs (evP t ps) with
    | some cs => some (.slice (some ⟨H.nx, 0, none⟩) n n, H.new { cs := cs })
    | none => none
  | .ld agg n x => match ev t x with
    | .pointer (some ⟨b, o, none⟩) => match H.rd b o n with
      | some cs => match mkV agg cs with
        | some v => some (v, H)
        | none => none
      | none => none
    | _ => none
  | .st n x y => match ev t x with
    | .pointer (some ⟨b, o, none⟩) => match cellsO (ev t y) with
      | some l => cond (Nat.beq l.length n)
        (match H.wr b o l with
          | some H' => some (undefV, H')
          | none => none) none
      | none => none
    | _ => none
  | .nc x => match ev t x with
    | .pointer (some a) => some (.pointer (some a), H)
    | .func (.func f) first captured => some (.func (.func f) first captured, H)
    | _ => none
  | .bo op ek x y => match binV op ek (ev t x) (ev t y) with
    | some v => some (v, H)
    | none => none
  | .uo op x => match unV op (ev t x) with
    | some v => some (v, H)
    | none => none
  | .ci k x => match ev t x with
    | .int _ n => some (.int k (k.wrap n), H)
    | _ => none
  | .cs x => match ev t x with
    | .string s => some (.string s, H)
    | _ => none
  | .cb x => match ev t x with
    | .slice none _ _ => some (.string .empty, H)
    | .slice (some ⟨b, o, none⟩) n c => cond (Nat.beq n 0) (some (.string .empty, H)) (match H.rd b o n with
      | some cs => match bytesOf cs with
        | some l => some (.string ⟨⟨l⟩⟩, H)
        | none => none
      | none => none)
    | _ => none
  | .ms _ sz bytes zs x y => match ev t x, ev t y with
    | .int _ (.ofNat l), .int _ (.ofNat c) => cond (Nat.ble l c && Nat.ble (c * bytes) 281474976710656 && Nat.ble c 9223372036854775807 && Nat.beq zs.length sz)
        (some (.slice (some ⟨H.nx, 0, none⟩) l c, H.new { cs := (List.replicate c zs).flatten })) none
    | _, _ => none
  | .sl sz x lo hi mx => match evI t lo, evI t hi, evI t mx with
    | some lo, some hi, some mx => match ev t x with
      | .slice a n c => match bnds n c lo hi mx with
        | some (l, h, m) => match a with
          | none => some (.slice none (h - l) (m - l), H)
          | some ⟨b, o, none⟩ => match H.get b with
            | some k => cond (!k.ext || Nat.beq k.es sz) (some (.slice (some (cond (Nat.beq m l) ⟨b, o, none⟩ ⟨b, o + l * sz, none⟩)) (h - l) (m - l), H)) none
            | none => none
          | _ => none
        | none => none
      | _ => none
    | _, _, _ => none
  | .ss x lo hi => match evI t lo, evI t hi with
    | some lo, some hi => match ev t x with
      | .string s => match bnds s.size s.size lo hi none with
        | some (l, h, _) => some (.string (s.extract l h), H)
        | none => none
      | _ => none
    | _, _ => none
  | .sa n sz x lo hi mx => match evI t lo, evI t hi, evI t mx with
    | some lo, some hi, some mx => match ev t x with
      | .pointer (some ⟨b, o, none⟩) => match bnds n n lo hi mx with
        | some (l, h, m) => match H.get b with
          | some k => cond (!k.ext) (some (.slice (some (cond (Nat.beq m l) ⟨b, o, none⟩ ⟨b, o + l * sz, none⟩)) (h - l) (m - l), H)) none
          | none => none
        | none => none
      | _ => none
    | _, _, _ => none
  | .fa off x => match ev t x with
    | .pointer (some ⟨b, o, none⟩) => some (.pointer (some ⟨b, o + off, none⟩), H)
    | _ => none
  | .is sz x i => match ev t x, ev t i with
    | .slice (some ⟨b, o, none⟩) n c, .int _ j => match ltI j n with
      | some q => some (.pointer (some ⟨b, o + q * sz, none⟩), H)
      | none => none
    | _, _ => none
  | .ia len sz x i => match ev t x, ev t i with
    | .pointer (some ⟨b, o, none⟩), .int _ j => match ltI j len with
      | some q => some (.pointer (some ⟨b, o + q * sz, none⟩), H)
      | none => none
    | _, _ => none
  | .fd off n agg x => match ev t x with
    | .agg cs => match rdL cs.toList off n with
      | some l => match mkV agg l with
        | some v => some (v, H)
        | none => none
      | none => none
    | _ => none
  | .ix len sz n agg x i => match ev t x, ev t i with
    | .agg cs, .int _ j => match ltI j len with
      | some q => match rdL cs.toList (q * sz) n with
        | some l => match mkV agg l with
          | some v => some (v, H)
          | none => none
        | none => none
      | none => none
    | _, _ => none
  | .ib x i => match ev t x, ev t i with
    | .string s, .int _ (.ofNat j) => match s[j]? with
      | some b => some (.int .u8 b.toNat, H)
      | none => none
    | _, _ => none
  | .ex x i => match ev t x with
    | .tuple vs => match vs.toList[i]? with
      | some v => some (v, H)
      | none => none
    | _ => none
  | .mf f first captured => some (.func (.func f) ⟨evL t first⟩ ⟨evL t captured⟩, H)
  | .ln x => match ev t x with
    | .slice _ n _ => some (.int .i64 n, H)
    | _ => none
  | .ls x => match ev t x with
    | .string s => some (.int .i64 s.size, H)
    | _ => none
  | .lc n => some (.int .i64 n, H)
  | .ap _ sz bytes x y => match ev t x with
    | .slice a n c =>
      match (match ev t y with
        | .slice none m _ => cond (Nat.beq m 0) (some []) none
        | .slice (some ⟨b, o, none⟩) m _ => cond (Nat.beq m 0) (some []) (H.rd b o (m * sz))
        | .string s => cond (Nat.beq sz 1) (some (s.data.toList.map fun q => Value.int .u8 q.toNat)) none
        | _ => none), (match ev t y with
        | .slice _ m _ => some m
        | .string s => some s.size
        | _ => none) with
      | some new, some m => appA sz bytes H a n c m new
      | _, _ => none
    | _ => none
  | .az _ sz bytes zs x y => match ev t x, ev t y with
    | .slice a n c, .int _ (.ofNat m) => cond (Nat.ble (m * bytes) 281474976710656 && Nat.ble m 9223372036854775807 && Nat.beq zs.length sz) (appA sz bytes H a n c m (List.replicate m zs).flatten) none
    | _, _ => none
  | .cp sz x y => match ev t x with
    | .slice a n _ =>
      match (match ev t y with
        | .slice _ m _ => some m
        | .string s => some s.size
        | _ => none) with
      | none => none
      | some m => cond (Nat.beq (min m n) 0) (some (.int .i64 0, H))
        (match (match ev t y with
          | .slice (some ⟨b, o, none⟩) _ _ => H.rd b o (min m n * sz)
          | .string s => cond (Nat.beq sz 1) (some ((s.data.toList.take (min m n)).map fun q => Value.int .u8 q.toNat)) none
          | _ => none), a with
        | some new, some ⟨b, o, none⟩ => match H.wr b o new with
          | some H' => some (.int .i64 (min m n : Nat), H')
          | none => none
        | _, _ => none)
    | _ => none
  | .mn xs => match minI true (evL t xs) with
    | some v => some (v, H)
    | none => none
  | .mx xs => match minI false (evL t xs) with
    | some v => some (v, H)
    | none => none
  | .cl zs x => match ev t x with
    | .slice none _ _ => some (undefV, H)
    | .slice (some ⟨b, o, none⟩) n _ => cond (Nat.beq n 0) (some (undefV, H)) (match H.wr b o (List.replicate n zs).flatten with
      | some H' => some (undefV, H')
      | none => none)
    | _ => none
  | .ca _ _ => none
  | .cv _ _ => none
where
  /-- append of cells to a slice: in its own room, or a new block (and the old one is no more, where there may have been room behind it). -/
  appA (sz bytes : Nat) (H : AH) (a : Option Addr) (n c m : Nat) (new : List Value) : Option (Value × AH) :=
    cond (Nat.ble (n + m) c)
      (match a with
        | none => cond (Nat.beq m 0) (some (.slice none n c, H)) none
        | some ⟨b, o, none⟩ => cond (Nat.beq m 0) (some (.slice (some ⟨b, o, none⟩) n c, H)) (match H.wr b (o + n * sz) new with
          | some H' => some (.slice (some ⟨b, o, none⟩) (n + m) c, H')
          | none => none)
        | _ => none)
      (cond (Nat.ble ((n + m) * bytes) 70368744177664 && Nat.ble 1 bytes && Nat.ble 1 sz)
        (match a with
          | none => cond (Nat.beq n 0) (some (.slice (some ⟨H.nx, 0, none⟩) m m, H.new { cs := new, ext := true, es := sz })) none
          | some ⟨b, o, none⟩ => match H.get b with
            | some k => match rdL k.cs o (n * sz) with
              | some old => cond (!k.ext || (Nat.beq k.es sz && !k.ro))
                  (some (.slice (some ⟨H.nx, 0, none⟩) (n + m) (n + m), (cond k.ext (H.del b) H).new { cs := old ++ new, ext := true, es := sz })) none
              | none => none
            | none => none
          | _ => none) none)

def wantG (t : Tm) : Option (Nat × Bool) → Bool
  | none => true
  | some (g, want) => match t.get g with
    | some (.bool b) => b == want
    | _ => false
def putD (t : Tm) (d : Option Nat) (v : Value) : Tm := match d with
  | some d => t.set d (some v)
  | none => t

inductive X where
  | n
  | e (id : Nat)
  | r

structure St where
  t : Tm
  h : AH

def resL (t : Tm) (H : AH) : List ARes → Option (List Value)
  | [] => some []
  | .t n :: r => match resL t H r with
    | some l => some ((t.get n).getD undefV :: l)
    | none => none
  | .c n agg k :: r => match (t.get n).getD undefV with
    | .pointer (some ⟨b, o, none⟩) => match H.rd b o k with
      | some cs => match mkV agg cs, resL t H r with
        | some v, some l => some (v :: l)
        | _, _ => none
      | none => none
    | _ => none
def resV : List Value → Value
  | [v] => v
  | l => .tuple ⟨l⟩
def initT : Nat → List Value → Tm → Tm
  | _, [], t => t
  | i, v :: r, t => initT (i + 1) r (t.set i (some v))

/-! ### Orders -/
def heavy : AOp → Bool
  | .st _ _ _ | .ca _ _ | .cv _ _ | .ap _ _ _ _ _ | .az _ _ _ _ _ _ | .cp _ _ _ | .cl _ _ => true
  | _ => false
/-- What a light operation reads. -/
def reads (ao : AOp) (t : Tm) : Option (Nat × Nat × Nat) :=
  match ao with
  | .ld _ n x => match ev t x with
    | .pointer (some ⟨b, o, none⟩) => some (b, o, n)
    | _ => none
  | .cb x => match ev t x with
    | .slice (some ⟨b, o, none⟩) n _ => some (b, o, n)
    | _ => none
  | _ => none
def veq0 : Value → Value → Bool
  | .bool a, .bool b => a == b
  | .int k a, .int k' b => k == k' && a == b
  | .string a, .string b => a.data.toList == b.data.toList
  | .pointer a, .pointer b => a == b
  | .slice a n c, .slice b m d => a == b && Nat.beq n m && Nat.beq c d
  | .map a, .map b => a == b
  | .nilFunc, .nilFunc => true
  | .nilIface, .nilIface => true
  | _, _ => false
def veqL0 : List Value → List Value → Bool
  | [], [] => true
  | x :: xs, y :: ys => veq0 x y && veqL0 xs ys
  | _, _ => false
def veq : Value → Value → Bool
  | .func (.func f) xs ys, .func (.func g) zs ws => Nat.beq f g && veqL0 xs.toList zs.toList && veqL0 ys.toList ws.toList
  | x, y => veq0 x y
def veqL : List Value → List Value → Bool
  | [], [] => true
  | x :: xs, y :: ys => veq x y && veqL xs ys
  | _, _ => false
/-- A place holds the same in two heaps; or is in neither. -/
def sameAt (H H' : AH) (p : Nat × Nat × Nat) : Bool :=
  match H.rd p.1 p.2.1 p.2.2, H'.rd p.1 p.2.1 p.2.2 with
  | some l, some l' => veqL l l'
  | none, none => true
  | _, _ => false

/-- A block is the same in two heaps. -/
def sameBlk (H H' : AH) (b : Nat) : Bool :=
  match H.get b, H'.get b with
  | some k, some k' => veqL k.cs k'.cs && k.ext == k'.ext && k.ro == k'.ro && Nat.beq k.es k'.es
  | _, _ => false

/-- What has been done of a region: loads (number, place), heavy operations (number, heap ahead, heap behind), new blocks of light ones. -/
structure Log where
  lds : List (Nat × (Nat × Nat × Nat))
  hvs : List (Nat × AH × AH)
  als : List (Nat × Nat)
def logOk (i : Nat) (o : AOper) (t : Tm) (H H' : AH) (g : Log) : Option Log :=
  cond (heavy o.op)
    (cond ((g.lds.all fun p => o.bef.testBit p.1 || sameAt H H' p.2) && (g.als.all fun p => o.bef.testBit p.1 || sameBlk H H' p.2)) (some ⟨g.lds, (i, H, H') :: g.hvs, g.als⟩) none)
    (match reads o.op t with
      | none => some ⟨g.lds, g.hvs, cond (Nat.beq H'.nx H.nx) g.als ((i, H.nx) :: g.als)⟩
      | some p => cond (g.hvs.all fun q => o.bef.testBit q.1 || sameAt q.2.1 q.2.2 p) (some ⟨(i, p) :: g.lds, g.hvs, cond (Nat.beq H'.nx H.nx) g.als ((i, H.nx) :: g.als)⟩) none)

mutual
/-- A region's operations, in the text's order. -/
def evO (F : Nat → Option AFun) : Nat → List AOper → St → Option St
  | 0, _, _ => none
  | _ + 1, [], s => some s
  | k + 1, o :: r, s => match evX F k o s with
    | some s' => evO F k r s'
    | none => none
def evX (F : Nat → Option AFun) : Nat → AOper → St → Option St
  | 0, _, _ => none
  | k + 1, o, s => cond (wantG s.t o.guard)
      (match o.op with
        | .ca f xs => match evF F k f (evL s.t xs) s.h with
          | some (v, H) => some ⟨putD s.t o.dst v, H⟩
          | none => none
        | .cv x xs => match ev s.t x with
          | .func (.func f) first captured => match evF F k f (first.toList ++ evL s.t xs ++ captured.toList) s.h with
            | some (v, H) => some ⟨putD s.t o.dst v, H⟩
            | none => none
          | _ => none
        | ao => match evA ao s.t s.h with
          | some (v, H) => some ⟨putD s.t o.dst v, H⟩
          | none => none)
      (some ⟨putD s.t o.dst undefV, s.h⟩)
/-- The same, with a book of what was read and changed: every order that the edges allow comes to the same. -/
def evD (F : Nat → Option AFun) : Nat → Nat → List AOper → St → Log → Option St
  | 0, _, _, _, _ => none
  | _ + 1, _, [], s, _ => some s
  | k + 1, i, o :: r, s, g => match evX F k o s with
    | some s' => cond (wantG s.t o.guard)
        (match logOk i o s.t s.h s'.h g with
          | some g' => evD F k (i + 1) r s' g'
          | none => none)
        (evD F k (i + 1) r s' g)
    | none => none
def evC (F : Nat → Option AFun) : Nat → ACode → St → Option (X × St)
  | 0, _, _ => none
  | k + 1, c, s => match c with
    | .skip => some (.n, s)
    | .rg ops draw => match (cond draw (evD F k 0 ops s ⟨[], [], []⟩) (evO F k ops s)) with
      | some s' => some (.n, s')
      | none => none
    | .sq a b => match evC F k a s with
      | some (.n, s') => evC F k b s'
      | r => r
    | .cd c a b => match ev s.t c with
      | .bool true => evC F k a s
      | .bool false => evC F k b s
      | _ => none
    | .bk id a => match evC F k a s with
      | some (.e j, s') => cond (Nat.beq j id) (some (.n, s')) (some (.e j, s'))
      | r => r
    | .lp a => match evC F k a s with
      | some (.n, s') => evC F k (.lp a) s'
      | r => r
    | .xt id => some (.e id, s)
    | .rt => some (.r, s)
def evF (F : Nat → Option AFun) : Nat → Nat → List Value → AH → Option (Value × AH)
  | 0, _, _, _ => none
  | k + 1, f, args, H => match F f with
    | none => none
    | some fn => cond (Nat.ble args.length fn.nt)
      (match evC F k fn.body ⟨initT 0 args .nil, H⟩ with
        | some (.n, s) => match resL s.t s.h fn.res with
          | some l => some (resV l, s.h)
          | none => none
        | some (.r, s) => match resL s.t s.h fn.res with
          | some l => some (resV l, s.h)
          | none => none
        | _ => none) none
end

end
end Go.Ri
