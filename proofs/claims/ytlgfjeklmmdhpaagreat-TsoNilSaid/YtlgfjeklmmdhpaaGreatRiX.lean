/- Ri, part X: the machine once more, so cut that the kernel runs it fast: each operation alone; code and loops by recursion on themselves. -/
import Derived.Test.YtlgfjeklmmdhpaaGreatRiA
set_option linter.unusedVariables false
namespace Go.Ri
noncomputable section


/-! ### Whole numbers, strings -/
def ltF : Int → Int → Bool
  | .ofNat a, .ofNat b => Nat.blt a b
  | .negSucc a, .negSucc b => Nat.blt b a
  | .negSucc _, .ofNat _ => true
  | .ofNat _, .negSucc _ => false
def eqF : Int → Int → Bool
  | .ofNat a, .ofNat b => Nat.beq a b
  | .negSucc a, .negSucc b => Nat.beq a b
  | _, _ => false
def wS (k : IntKind) (h : Nat) (n : Int) : Int := match n with
  | .ofNat m => cond (Nat.blt m h) (.ofNat m) (k.wrap (.ofNat m))
  | .negSucc m => cond (Nat.blt m h) (.negSucc m) (k.wrap (.negSucc m))
def wU (k : IntKind) (h : Nat) (n : Int) : Int := match n with
  | .ofNat m => cond (Nat.blt m h) (.ofNat m) (k.wrap (.ofNat m))
  | .negSucc m => k.wrap (.negSucc m)
def wrapF (k : IntKind) : Int → Int := match k with
  | .i8 => wS .i8 128
  | .i16 => wS .i16 32768
  | .i32 => wS .i32 2147483648
  | .i64 => wS .i64 9223372036854775808
  | .u8 => wU .u8 256
  | .u16 => wU .u16 65536
  | .u32 => wU .u32 4294967296
  | .u64 => wU .u64 18446744073709551616
def kn : IntKind → Nat
  | .i8 => 0
  | .i16 => 1
  | .i32 => 2
  | .i64 => 3
  | .u8 => 4
  | .u16 => 5
  | .u32 => 6
  | .u64 => 7
def eqBs : List UInt8 → List UInt8 → Bool
  | [], [] => true
  | x :: xs, y :: ys => cond (Nat.beq x.toNat y.toNat) (eqBs xs ys) false
  | _, _ => false
def i2 (f : IntKind → Int → Int → Option Value) (g : ByteArray → ByteArray → Option Value) (h : Value → Value → Option Value) (x y : Value) : Option Value := match x with
  | .int k a => match y with
    | .int k' b => cond (Nat.beq (kn k) (kn k')) (f k a b) none
    | _ => none
  | .string a => match y with
    | .string b => g a b
    | _ => none
  | x => h x y
def none2 (_ _ : Value) : Option Value := none
def eqK (ek : EK) (x y : Value) : Option Value := (eqV ek x y).map Value.bool
def neK (ek : EK) (x y : Value) : Option Value := (eqV ek x y).map fun b => Value.bool (!b)
def seqK (x y : ByteArray) : Option Value := some (.bool (eqBs x.data.toList y.data.toList))
def sneK (x y : ByteArray) : Option Value := some (.bool (!eqBs x.data.toList y.data.toList))
def iAdd (k : IntKind) (x y : Int) : Option Value := some (.int k (wrapF k (x + y)))
def iSub (k : IntKind) (x y : Int) : Option Value := some (.int k (wrapF k (x - y)))
def iMul (k : IntKind) (x y : Int) : Option Value := some (.int k (wrapF k (x * y)))
def iEq (_ : IntKind) (x y : Int) : Option Value := some (.bool (eqF x y))
def iNe (_ : IntKind) (x y : Int) : Option Value := some (.bool (!eqF x y))
def iLt (_ : IntKind) (x y : Int) : Option Value := some (.bool (ltF x y))
def iLe (_ : IntKind) (x y : Int) : Option Value := some (.bool (!ltF y x))
def iGt (_ : IntKind) (x y : Int) : Option Value := some (.bool (ltF y x))
def iGe (_ : IntKind) (x y : Int) : Option Value := some (.bool (!ltF x y))
/-! ### Boxes: what is told once of an operation and kept -/
structure BB where
  f : Value → Value → Option Value
structure OB where
  g : Tm → Value
structure DB where
  d : Value → Tm → Tm
abbrev CF := Nat → List Value → AH → Option (Value × AH)
structure AB where
  a : CF → Tm → AH → Option (Value × AH)
structure RB where
  r : CF → St → Option St
def binBox (op : BinOp) (ek : EK) : BB := match op with
  | .eql => ⟨i2 iEq seqK (eqK ek)⟩
  | .neq => ⟨i2 iNe sneK (neK ek)⟩
  | .add => ⟨i2 iAdd (strB .add) none2⟩
  | .sub => ⟨i2 iSub (strB .sub) none2⟩
  | .mul => ⟨i2 iMul (strB .mul) none2⟩
  | .lss => ⟨i2 iLt (strB .lss) none2⟩
  | .leq => ⟨i2 iLe (strB .leq) none2⟩
  | .gtr => ⟨i2 iGt (strB .gtr) none2⟩
  | .geq => ⟨i2 iGe (strB .geq) none2⟩
  | .shl => ⟨binV .shl ek⟩
  | .shr => ⟨binV .shr ek⟩
  | op => ⟨i2 (binI op) (strB op) none2⟩
def tmpV (n : Nat) (t : Tm) : Value := Option.rec (motive := fun _ => Value) undefV (fun v => v) (getP (pathN n) t)
def cstV (v : Value) (_ : Tm) : Value := v
def opBox (x : Opd) : OB := match x with
  | .t n => ⟨tmpV n⟩
  | .c v => ⟨cstV v⟩
  | .f id => ⟨cstV (.func (.func id) #[] #[])⟩
def e_bo (b : BB) (x y : OB) (_ : CF) (t : Tm) (H : AH) : Option (Value × AH) := match b.f (x.g t) (y.g t) with
  | some v => some (v, H)
  | none => none
def e_mv (x : OB) (_ : CF) (t : Tm) (H : AH) : Option (Value × AH) := some (x.g t, H)
def e_ss (x : Opd) (lo hi : Option Opd) (_ : CF) (t : Tm) (H : AH) : Option (Value × AH) := match evI t lo, evI t hi with
  | some lo, some hi => match ev t x with
    | .string s => match bnds s.size s.size lo hi none with
      | some (l, h, _) => some (.string ⟨⟨(s.data.toList.drop l).take (h - l)⟩⟩, H)
      | none => none
    | _ => none
  | _, _ => none
def oneQ (v : Value) (r : Option (List Value)) : Option (List Value) := match cellsO v with
  | some [v'] => match r with
    | some l => some (v' :: l)
    | none => none
  | _ => none
def consQ (c : Value) (r : Option (List Value)) : Option (List Value) := match r with
  | some l => some (c :: l)
  | none => none
def fillN (b : Nat) (ps : List (Nat × Nat × Opd)) : Option (List Value) := match ps with
  | [] => some []
  | _ => none
def fillC (t : Tm) (c : Value) (cs : List Value) (ih : Nat → List (Nat × Nat × Opd) → Option (List Value)) (b : Nat) (ps : List (Nat × Nat × Opd)) : Option (List Value) := match ps with
  | [] => some (c :: cs)
  | (o, n, x) :: r => cond (Nat.beq o b && Nat.beq n 1) (oneQ ((opBox x).g t) (ih (Nat.succ b) r)) (consQ c (ih (Nat.succ b) ps))
def fillQ (t : Tm) (cs : List Value) : Nat → List (Nat × Nat × Opd) → Option (List Value) :=
  List.rec (motive := fun _ => Nat → List (Nat × Nat × Opd) → Option (List Value)) fillN (fun c cs ih => fillC t c cs ih) cs
def fillF (t : Tm) (zs : List Value) (ps : List (Nat × Nat × Opd)) : Option (List Value) := match fillQ t zs 0 ps with
  | some l => some l
  | none => fillL zs (evP t ps)
def setV (d : Nat) (v : Value) (t : Tm) : Tm := setP (some v) (pathN d) t
def noV (_ : Value) (t : Tm) : Tm := t
def dBox (d : Option Nat) : DB := match d with
  | some d => ⟨setV d⟩
  | none => ⟨noV⟩

def e_pk (c : Opd) (a : Opd) (b : Opd) (_ : CF) (t : Tm) (H : AH) : Option (Value × AH) := match (opBox c).g t with
    | .bool true => some ((opBox a).g t, H)
    | .bool false => some ((opBox b).g t, H)
    | _ => none
def e_nw (u0 : Nat) (zs : List Value) (_ : CF) (t : Tm) (H : AH) : Option (Value × AH) := some (.pointer (some ⟨H.nx, 0, none⟩), H.new { cs := zs })
def e_bx (u0 : Nat) (x : Opd) (_ : CF) (t : Tm) (H : AH) : Option (Value × AH) := match cellsO ((opBox x).g t) with
    | some l => some (.pointer (some ⟨H.nx, 0, none⟩), H.new { cs := l })
    | none => none
def e_bd (zs : List Value) (ps : List (Nat × Nat × Opd)) (_ : CF) (t : Tm) (H : AH) : Option (Value × AH) := match fillF t zs ps with
    | some cs => some (.agg ⟨cs⟩, H)
    | none => none
def e_bs (u0 : Nat) (n : Nat) (zs : List Value) (ps : List (Nat × Nat × Opd)) (_ : CF) (t : Tm) (H : AH) : Option (Value × AH) := match fillF t zs ps with
    | some cs => some (.slice (some ⟨H.nx, 0, none⟩) n n, H.new { cs := cs })
    | none => none
def e_ld (agg : Bool) (n : Nat) (x : Opd) (_ : CF) (t : Tm) (H : AH) : Option (Value × AH) := match (opBox x).g t with
    | .pointer (some ⟨b, o, none⟩) => match H.rd b o n with
      | some cs => match mkV agg cs with
        | some v => some (v, H)
        | none => none
      | none => none
    | _ => none
def e_st (n : Nat) (x : Opd) (y : Opd) (_ : CF) (t : Tm) (H : AH) : Option (Value × AH) := match (opBox x).g t with
    | .pointer (some ⟨b, o, none⟩) => match cellsO ((opBox y).g t) with
      | some l => cond (Nat.beq l.length n)
        (match H.wr b o l with
          | some H' => some (undefV, H')
          | none => none) none
      | none => none
    | _ => none
def e_nc (x : Opd) (_ : CF) (t : Tm) (H : AH) : Option (Value × AH) := match (opBox x).g t with
    | .pointer (some a) => some (.pointer (some a), H)
    | .func (.func f) first captured => some (.func (.func f) first captured, H)
    | _ => none
def e_uo (op : UnOp) (x : Opd) (_ : CF) (t : Tm) (H : AH) : Option (Value × AH) := match unV op ((opBox x).g t) with
    | some v => some (v, H)
    | none => none
def e_ci (k : IntKind) (x : Opd) (_ : CF) (t : Tm) (H : AH) : Option (Value × AH) := match (opBox x).g t with
    | .int _ n => some (.int k (k.wrap n), H)
    | _ => none
def e_cs (x : Opd) (_ : CF) (t : Tm) (H : AH) : Option (Value × AH) := match (opBox x).g t with
    | .string s => some (.string s, H)
    | _ => none
def e_cb (x : Opd) (_ : CF) (t : Tm) (H : AH) : Option (Value × AH) := match (opBox x).g t with
    | .slice none _ _ => some (.string .empty, H)
    | .slice (some ⟨b, o, none⟩) n c => cond (Nat.beq n 0) (some (.string .empty, H)) (match H.rd b o n with
      | some cs => match bytesOf cs with
        | some l => some (.string ⟨⟨l⟩⟩, H)
        | none => none
      | none => none)
    | _ => none
def e_ms (u0 : Nat) (sz : Nat) (bytes : Nat) (zs : List Value) (x : Opd) (y : Opd) (_ : CF) (t : Tm) (H : AH) : Option (Value × AH) := match (opBox x).g t, (opBox y).g t with
    | .int _ (.ofNat l), .int _ (.ofNat c) => cond (Nat.ble l c && Nat.ble (c * bytes) 281474976710656 && Nat.ble c 9223372036854775807 && Nat.beq zs.length sz)
        (some (.slice (some ⟨H.nx, 0, none⟩) l c, H.new { cs := (List.replicate c zs).flatten })) none
    | _, _ => none
def e_sl (sz : Nat) (x : Opd) (lo : Option Opd) (hi : Option Opd) (mx : Option Opd) (_ : CF) (t : Tm) (H : AH) : Option (Value × AH) := match evI t lo, evI t hi, evI t mx with
    | some lo, some hi, some mx => match (opBox x).g t with
      | .slice a n c => match bnds n c lo hi mx with
        | some (l, h, m) => match a with
          | none => some (.slice none (h - l) (m - l), H)
          | some ⟨b, o, none⟩ => match H.get b with
            | some k => cond (!k.ext || Nat.beq k.es sz) (some (.slice (some (cond (Nat.beq m l) ⟨b, o, none⟩ ⟨b, o + l * sz, none⟩)) (h - l) (m - l), H)) none
            | none => none
          | _ => none
        | none => none
      | _ => none
    | _, _, _ => none
def e_sa (n : Nat) (sz : Nat) (x : Opd) (lo : Option Opd) (hi : Option Opd) (mx : Option Opd) (_ : CF) (t : Tm) (H : AH) : Option (Value × AH) := match evI t lo, evI t hi, evI t mx with
    | some lo, some hi, some mx => match (opBox x).g t with
      | .pointer (some ⟨b, o, none⟩) => match bnds n n lo hi mx with
        | some (l, h, m) => match H.get b with
          | some k => cond (!k.ext) (some (.slice (some (cond (Nat.beq m l) ⟨b, o, none⟩ ⟨b, o + l * sz, none⟩)) (h - l) (m - l), H)) none
          | none => none
        | none => none
      | _ => none
    | _, _, _ => none
def e_fa (off : Nat) (x : Opd) (_ : CF) (t : Tm) (H : AH) : Option (Value × AH) := match (opBox x).g t with
    | .pointer (some ⟨b, o, none⟩) => some (.pointer (some ⟨b, o + off, none⟩), H)
    | _ => none
def e_is (sz : Nat) (x : Opd) (i : Opd) (_ : CF) (t : Tm) (H : AH) : Option (Value × AH) := match (opBox x).g t, (opBox i).g t with
    | .slice (some ⟨b, o, none⟩) n c, .int _ j => match ltI j n with
      | some q => some (.pointer (some ⟨b, o + q * sz, none⟩), H)
      | none => none
    | _, _ => none
def e_ia (len : Nat) (sz : Nat) (x : Opd) (i : Opd) (_ : CF) (t : Tm) (H : AH) : Option (Value × AH) := match (opBox x).g t, (opBox i).g t with
    | .pointer (some ⟨b, o, none⟩), .int _ j => match ltI j len with
      | some q => some (.pointer (some ⟨b, o + q * sz, none⟩), H)
      | none => none
    | _, _ => none
def e_fd (off : Nat) (n : Nat) (agg : Bool) (x : Opd) (_ : CF) (t : Tm) (H : AH) : Option (Value × AH) := match (opBox x).g t with
    | .agg cs => match rdL cs.toList off n with
      | some l => match mkV agg l with
        | some v => some (v, H)
        | none => none
      | none => none
    | _ => none
def e_ix (len : Nat) (sz : Nat) (n : Nat) (agg : Bool) (x : Opd) (i : Opd) (_ : CF) (t : Tm) (H : AH) : Option (Value × AH) := match (opBox x).g t, (opBox i).g t with
    | .agg cs, .int _ j => match ltI j len with
      | some q => match rdL cs.toList (q * sz) n with
        | some l => match mkV agg l with
          | some v => some (v, H)
          | none => none
        | none => none
      | none => none
    | _, _ => none
def e_ib (x : Opd) (i : Opd) (_ : CF) (t : Tm) (H : AH) : Option (Value × AH) := match (opBox x).g t, (opBox i).g t with
    | .string s, .int _ (.ofNat j) => match s[j]? with
      | some b => some (.int .u8 b.toNat, H)
      | none => none
    | _, _ => none
def e_ex (x : Opd) (i : Nat) (_ : CF) (t : Tm) (H : AH) : Option (Value × AH) := match (opBox x).g t with
    | .tuple vs => match vs.toList[i]? with
      | some v => some (v, H)
      | none => none
    | _ => none
def e_mf (f : Nat) (first : List Opd) (captured : List Opd) (_ : CF) (t : Tm) (H : AH) : Option (Value × AH) := some (.func (.func f) ⟨evL t first⟩ ⟨evL t captured⟩, H)
def e_ln (x : Opd) (_ : CF) (t : Tm) (H : AH) : Option (Value × AH) := match (opBox x).g t with
    | .slice _ n _ => some (.int .i64 n, H)
    | _ => none
def e_ls (x : Opd) (_ : CF) (t : Tm) (H : AH) : Option (Value × AH) := match (opBox x).g t with
    | .string s => some (.int .i64 s.size, H)
    | _ => none
def e_lc (n : Nat) (_ : CF) (t : Tm) (H : AH) : Option (Value × AH) := some (.int .i64 n, H)
def e_ap (u0 : Nat) (sz : Nat) (bytes : Nat) (x : Opd) (y : Opd) (_ : CF) (t : Tm) (H : AH) : Option (Value × AH) := match (opBox x).g t with
    | .slice a n c =>
      match (match (opBox y).g t with
        | .slice none m _ => cond (Nat.beq m 0) (some []) none
        | .slice (some ⟨b, o, none⟩) m _ => cond (Nat.beq m 0) (some []) (H.rd b o (m * sz))
        | .string s => cond (Nat.beq sz 1) (some (s.data.toList.map fun q => Value.int .u8 q.toNat)) none
        | _ => none), (match (opBox y).g t with
        | .slice _ m _ => some m
        | .string s => some s.size
        | _ => none) with
      | some new, some m => evA.appA sz bytes H a n c m new
      | _, _ => none
    | _ => none
def e_az (u0 : Nat) (sz : Nat) (bytes : Nat) (zs : List Value) (x : Opd) (y : Opd) (_ : CF) (t : Tm) (H : AH) : Option (Value × AH) := match (opBox x).g t, (opBox y).g t with
    | .slice a n c, .int _ (.ofNat m) => cond (Nat.ble (m * bytes) 281474976710656 && Nat.ble m 9223372036854775807 && Nat.beq zs.length sz) (evA.appA sz bytes H a n c m (List.replicate m zs).flatten) none
    | _, _ => none
def e_cp (sz : Nat) (x : Opd) (y : Opd) (_ : CF) (t : Tm) (H : AH) : Option (Value × AH) := match (opBox x).g t with
    | .slice a n _ =>
      match (match (opBox y).g t with
        | .slice _ m _ => some m
        | .string s => some s.size
        | _ => none) with
      | none => none
      | some m => cond (Nat.beq (min m n) 0) (some (.int .i64 0, H))
        (match (match (opBox y).g t with
          | .slice (some ⟨b, o, none⟩) _ _ => H.rd b o (min m n * sz)
          | .string s => cond (Nat.beq sz 1) (some ((s.data.toList.take (min m n)).map fun q => Value.int .u8 q.toNat)) none
          | _ => none), a with
        | some new, some ⟨b, o, none⟩ => match H.wr b o new with
          | some H' => some (.int .i64 (min m n : Nat), H')
          | none => none
        | _, _ => none)
    | _ => none
def e_mn (xs : List Opd) (_ : CF) (t : Tm) (H : AH) : Option (Value × AH) := match minI true (evL t xs) with
    | some v => some (v, H)
    | none => none
def e_mx (xs : List Opd) (_ : CF) (t : Tm) (H : AH) : Option (Value × AH) := match minI false (evL t xs) with
    | some v => some (v, H)
    | none => none
def e_cl (zs : List Value) (x : Opd) (_ : CF) (t : Tm) (H : AH) : Option (Value × AH) := match (opBox x).g t with
    | .slice none _ _ => some (undefV, H)
    | .slice (some ⟨b, o, none⟩) n _ => cond (Nat.beq n 0) (some (undefV, H)) (match H.wr b o (List.replicate n zs).flatten with
      | some H' => some (undefV, H')
      | none => none)
    | _ => none
def e_ca (f : Nat) (xs : List Opd) (cf : CF) (t : Tm) (H : AH) : Option (Value × AH) := cf f (evL t xs) H
def e_cv (x : Opd) (xs : List Opd) (cf : CF) (t : Tm) (H : AH) : Option (Value × AH) := match ev t x with
  | .func (.func f) first captured => cf f (first.toList ++ evL t xs ++ captured.toList) H
  | _ => none
def actBox (ao : AOp) : AB := match ao with
  | .mv a0 => ⟨e_mv (opBox a0)⟩
  | .pk a0 a1 a2 => ⟨e_pk a0 a1 a2⟩
  | .nw a0 a1 => ⟨e_nw a0 a1⟩
  | .bx a0 a1 => ⟨e_bx a0 a1⟩
  | .bd a0 a1 => ⟨e_bd a0 a1⟩
  | .bs a0 a1 a2 a3 => ⟨e_bs a0 a1 a2 a3⟩
  | .ld a0 a1 a2 => ⟨e_ld a0 a1 a2⟩
  | .st a0 a1 a2 => ⟨e_st a0 a1 a2⟩
  | .nc a0 => ⟨e_nc a0⟩
  | .bo a0 a1 a2 a3 => ⟨e_bo (binBox a0 a1) (opBox a2) (opBox a3)⟩
  | .uo a0 a1 => ⟨e_uo a0 a1⟩
  | .ci a0 a1 => ⟨e_ci a0 a1⟩
  | .cs a0 => ⟨e_cs a0⟩
  | .cb a0 => ⟨e_cb a0⟩
  | .ms a0 a1 a2 a3 a4 a5 => ⟨e_ms a0 a1 a2 a3 a4 a5⟩
  | .sl a0 a1 a2 a3 a4 => ⟨e_sl a0 a1 a2 a3 a4⟩
  | .ss a0 a1 a2 => ⟨e_ss a0 a1 a2⟩
  | .sa a0 a1 a2 a3 a4 a5 => ⟨e_sa a0 a1 a2 a3 a4 a5⟩
  | .fa a0 a1 => ⟨e_fa a0 a1⟩
  | .is a0 a1 a2 => ⟨e_is a0 a1 a2⟩
  | .ia a0 a1 a2 a3 => ⟨e_ia a0 a1 a2 a3⟩
  | .fd a0 a1 a2 a3 => ⟨e_fd a0 a1 a2 a3⟩
  | .ix a0 a1 a2 a3 a4 a5 => ⟨e_ix a0 a1 a2 a3 a4 a5⟩
  | .ib a0 a1 => ⟨e_ib a0 a1⟩
  | .ex a0 a1 => ⟨e_ex a0 a1⟩
  | .mf a0 a1 a2 => ⟨e_mf a0 a1 a2⟩
  | .ca a0 a1 => ⟨e_ca a0 a1⟩
  | .cv a0 a1 => ⟨e_cv a0 a1⟩
  | .ln a0 => ⟨e_ln a0⟩
  | .ls a0 => ⟨e_ls a0⟩
  | .lc a0 => ⟨e_lc a0⟩
  | .ap a0 a1 a2 a3 a4 => ⟨e_ap a0 a1 a2 a3 a4⟩
  | .az a0 a1 a2 a3 a4 a5 => ⟨e_az a0 a1 a2 a3 a4 a5⟩
  | .cp a0 a1 a2 => ⟨e_cp a0 a1 a2⟩
  | .mn a0 => ⟨e_mn a0⟩
  | .mx a0 => ⟨e_mx a0⟩
  | .cl a0 a1 => ⟨e_cl a0 a1⟩

def put1 (D : DB) (t : Tm) (r : Option (Value × AH)) : Option St := Option.rec (motive := fun _ => Option St) none (fun p => some ⟨D.d p.1 t, p.2⟩) r
def beqQ (b w : Bool) : Bool := Bool.rec (motive := fun _ => Bool) (!w) w b
def wantQ (g : Nat × Bool) (t : Tm) : Bool := match getP (pathN g.1) t with
  | some (.bool b) => beqQ b g.2
  | _ => false
def cnd {α : Type} (c : Bool) (x y : α) : α := Bool.rec (motive := fun _ => α) y x c
def run0 (D : DB) (A : AB) (cf : CF) (s : St) : Option St := put1 D s.t (A.a cf s.t s.h)
def run1 (g : Nat × Bool) (D : DB) (A : AB) (cf : CF) (s : St) : Option St := cnd (wantQ g s.t) (put1 D s.t (A.a cf s.t s.h)) (some ⟨D.d undefV s.t, s.h⟩)
def gBox (o : AOper) : RB := match o.guard with
  | none => ⟨run0 (dBox o.dst) (actBox o.op)⟩
  | some g => ⟨run1 g (dBox o.dst) (actBox o.op)⟩
def gX (cf : CF) (o : AOper) (s : St) : Option St := (gBox o).r cf s
def thenS (g : St → Option St) (r : Option St) : Option St := Option.rec (motive := fun _ => Option St) none g r
noncomputable def gO (cf : CF) (l : List AOper) : St → Option St :=
  List.rec (motive := fun _ => St → Option St) (fun s => some s) (fun o _ ih s => thenS ih ((gBox o).r cf s)) l
def thenD (i : Nat) (o : AOper) (s : St) (g : Log) (ih : Nat → St → Log → Option St) (r : Option St) : Option St := match r with
  | some s' => cond (wantG s.t o.guard)
      (match logOk i o s.t s.h s'.h g with
        | some g' => ih (i + 1) s' g'
        | none => none) (ih (i + 1) s' g)
  | none => none
noncomputable def gD (cf : CF) (l : List AOper) : Nat → St → Log → Option St :=
  List.rec (motive := fun _ => Nat → St → Log → Option St) (fun _ s _ => some s) (fun o _ ih i s g => thenD i o s g ih ((gBox o).r cf s)) l
def rgK (r : Option St) : Option (X × St) := match r with
  | some s => some (.n, s)
  | none => none
def sqK (g : St → Option (X × St)) (r : Option (X × St)) : Option (X × St) := match r with
  | some (.n, s) => g s
  | some (.e i, s) => some (.e i, s)
  | some (.r, s) => some (.r, s)
  | none => none
def cdK (f g : St → Option (X × St)) (s : St) (v : Value) : Option (X × St) := match v with
  | .bool true => f s
  | .bool false => g s
  | _ => none
def bkK (id : Nat) (r : Option (X × St)) : Option (X × St) := match r with
  | some (.e j, s') => cond (Nat.beq j id) (some (.n, s')) (some (.e j, s'))
  | some (.n, s) => some (.n, s)
  | some (.r, s) => some (.r, s)
  | none => none
noncomputable def lpK (L : Nat) (f : St → Option (X × St)) : St → Option (X × St) :=
  Nat.rec (motive := fun _ => St → Option (X × St)) (fun _ => none) (fun _ ih s => sqK ih (f s)) L
noncomputable def gC (cf : CF) (L : Nat) (c : ACode) : St → Option (X × St) :=
  ACode.rec (motive := fun _ => St → Option (X × St)) (fun s => some (.n, s))
    (fun ops draw s => rgK (cond draw (gD cf ops 0 s ⟨[], [], []⟩) (gO cf ops s)))
    (fun _ _ iha ihb s => sqK ihb (iha s))
    (fun c _ _ iha ihb s => cdK iha ihb s (ev s.t c))
    (fun id _ iha s => bkK id (iha s))
    (fun _ iha s => lpK L iha s)
    (fun id s => some (.e id, s))
    (fun s => some (.r, s)) c
def retK (res : List ARes) (r : Option (X × St)) : Option (Value × AH) := match r with
  | some (.n, s) => match resL s.t s.h res with
    | some l => some (resV l, s.h)
    | none => none
  | some (.r, s) => match resL s.t s.h res with
    | some l => some (resV l, s.h)
    | none => none
  | _ => none
noncomputable def gB (cf : CF) (L : Nat) (args : List Value) (H : AH) (fn : Option AFun) : Option (Value × AH) := match fn with
  | some fn => cond (Nat.ble args.length fn.nt) (retK fn.res (gC cf L fn.body ⟨initT 0 args .nil, H⟩)) none
  | none => none
noncomputable def gF (F : Nat → Option AFun) (L : Nat) (n : Nat) : CF :=
  Nat.rec (motive := fun _ => CF) (fun _ _ _ => none) (fun _ cf f args H => gB cf L args H (F f)) n

end
end Go.Ri
