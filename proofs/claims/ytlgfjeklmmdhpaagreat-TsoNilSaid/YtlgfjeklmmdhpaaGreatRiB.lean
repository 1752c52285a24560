/- Ri, part B: how the model's code is made into part A's: a checker; whatever it lets by, it has looked up in the program's tables. -/
import Derived.Test.YtlgfjeklmmdhpaaGreatRiA
set_option linter.unusedVariables false
namespace Go.Ri

def cOpd (nt : Nat) : Operand → Option Opd
  | .tmp t => cond (Nat.blt t nt) (some (.t t)) none
  | .const v => cond (konst v) (some (.c v)) none
  | .global _ => none
  | .func f => some (.f f)
def cOpds (nt : Nat) : List Operand → Option (List Opd)
  | [] => some []
  | x :: xs => match cOpd nt x, cOpds nt xs with
    | some y, some ys => some (y :: ys)
    | _, _ => none
def cOpdO (nt : Nat) : Option Operand → Option (Option Opd)
  | none => some none
  | some x => match cOpd nt x with
    | some y => some (some y)
    | none => none
def cParts (nt : Nat) (place : Nat → Option (Nat × Nat)) : List (Nat × Operand) → Option (List (Nat × Nat × Opd))
  | [] => some []
  | (i, x) :: r => match place i, cOpd nt x, cParts nt place r with
    | some (o, n), some y, some l => some ((o, n, y) :: l)
    | _, _, _ => none
/-- The fields' places. -/
def cPlaces (P : Program) : List Field → Option (List (Nat × Nat))
  | [] => some []
  | f :: r => match P.info? f.type, cPlaces P r with
    | some i, some l => some ((f.offset, i.size) :: l)
    | _, _ => none
def isAggD : TypeDesc → Bool
  | .struct _ => true
  | .array _ _ => true
  | _ => false
/-- Of a type: is it a row of cells, how many cells. -/
def cType (P : Program) (t : TypeId) : Option (Bool × Nat) :=
  match P.underlying t with
  | none => none
  | some d => cond (isAggD d)
    (match P.info? t with
      | some i => some (true, i.size)
      | none => none)
    (some (false, 1))
/-- A type's zero value, in cells, all flat; and how many they are. -/
def cZero (P : Program) (t : TypeId) : Option (List Value) :=
  match P.info? t with
  | some i => match i.zero with
    | some z => match cellsO z with
      | some zs => cond (zs.all flat && Nat.beq zs.length i.size) (some zs) none
      | none => none
    | none => none
  | none => none
/-- Which cells of a type '==' compares, where all are whole numbers, bools or strings. -/
def leaves (P : Program) : Nat → TypeId → Option (List Nat)
  | 0, _ => none
  | d + 1, t => match P.underlying t, P.info? t with
    | some .bool, some i => cond (Nat.beq i.size 1) (some [1]) none
    | some (.int _), some i => cond (Nat.beq i.size 1) (some [2]) none
    | some .string, some i => cond (Nat.beq i.size 1) (some [3]) none
    | some (.array n e), some i => match leaves P d e, P.info? e with
      | some l, some q => cond (Nat.beq l.length q.size && Nat.beq i.size (n * q.size)) (some (List.replicate n l).flatten) none
      | _, _ => none
    | some (.struct fs), some i => cond (P.stoodInHeld t) none (match leavesF fs.toList 0 (fun u => leaves P d u) with
      | some l => cond (Nat.beq l.length i.size) (some l) none
      | none => none)
    | _, _ => none
where
  leavesF : List Field → Nat → (TypeId → Option (List Nat)) → Option (List Nat)
    | [], _, _ => some []
    | f :: r, off, g => match g f.type, P.info? f.type with
      | some l, some q => cond (Nat.beq f.offset off && Nat.beq l.length q.size && f.name != "_")
        (match leavesF r (off + q.size) g with
          | some m => some (l ++ m)
          | none => none) none
      | _, _ => none
def cEK (P : Program) (t : TypeId) : EK :=
  match P.underlying t with
  | some (.struct _) => match leaves P 6 t with
    | some ks => cond (P.eqGuardType P.depth t) .no (.ag ks)
    | none => .no
  | some (.array _ _) => match leaves P 6 t with
    | some ks => cond (P.eqGuardType P.depth t) .no (.ag ks)
    | none => .no
  | some .bool => .bo
  | some (.pointer _) => .pt
  | some (.slice _) => .sl
  | some (.map _ _) => .mp
  | some (.func _ _ _) => .fn
  | _ => .no

def cOp (P : Program) (nt : Nat) (o : Op) : Option AOp :=
  match o with
  | .move x => match cOpd nt x with
    | some x => some (.mv x)
    | none => none
  | .assign x => match cOpd nt x with
    | some x => some (.mv x)
    | none => none
  | .pick c a b => match cOpd nt c, cOpd nt a, cOpd nt b with
    | some c, some a, some b => some (.pk c a b)
    | _, _, _ => none
  | .alloc e => match cZero P e with
    | some zs => some (.nw e zs)
    | none => none
  | .box e x => match cOpd nt x with
    | some x => some (.bx e x)
    | none => none
  | .build t parts => match P.underlying t, cZero P t with
    | some (.struct fs), some zs => match cPlaces P fs.toList with
      | some ls => match cParts nt (ls[·]?) parts.toList with
        | some ps => some (.bd zs ps)
        | none => none
      | none => none
    | some (.array _ e), some zs => match P.info? e with
      | some i => match cParts nt (fun k => some (k * i.size, i.size)) parts.toList with
        | some ps => some (.bd zs ps)
        | none => none
      | none => none
    | _, _ => none
  | .buildSlice t n parts => match P.underlying t with
    | some (.slice e) => match P.info? e, cZero P e with
      | some i, some zs => cond (Nat.ble (n * i.size) 16777216) (match cParts nt (fun k => some (k * i.size, i.size)) parts.toList with
        | some ps => some (.bs e n (List.replicate n zs).flatten ps)
        | none => none) none
      | _, _ => none
    | _ => none
  | .load t x => match cType P t, cOpd nt x with
    | some (g, n), some x => some (.ld g n x)
    | _, _ => none
  | .store t x y => match P.info? t, cOpd nt x, cOpd nt y with
    | some i, some x, some y => some (.st i.size x y)
    | _, _, _ => none
  | .nilCheck x => match cOpd nt x with
    | some x => some (.nc x)
    | none => none
  | .binOp op t x y _ => match cOpd nt x, cOpd nt y with
    | some x, some y => some (.bo op (cEK P t) x y)
    | _, _ => none
  | .unOp op _ x => match cOpd nt x with
    | some x => some (.uo op x)
    | none => none
  | .convert s d x => match P.underlying s, P.underlying d, cOpd nt x with
    | some (.int _), some (.int k), some x => some (.ci k x)
    | some .string, some .string, some x => some (.cs x)
    | some (.slice e), some .string, some x => match P.underlying e with
      | some (.int .u8) => some (.cb x)
      | _ => none
    | _, _, _ => none
  | .makeSlice t x y => match P.underlying t with
    | some (.slice e) => match P.info? e, cZero P e, cOpd nt x, cOpd nt y with
      | some i, some zs, some x, some y => some (.ms e i.size i.bytes zs x y)
      | _, _, _, _ => none
    | _ => none
  | .slice t x lo hi mx => match P.underlying t, cOpd nt x, cOpdO nt lo, cOpdO nt hi, cOpdO nt mx with
    | some (.slice e), some x, some lo, some hi, some mx => match P.info? e with
      | some i => some (.sl i.size x lo hi mx)
      | none => none
    | some .string, some x, some lo, some hi, some none => some (.ss x lo hi)
    | some (.array n e), some x, some lo, some hi, some mx => match P.info? e with
      | some i => some (.sa n i.size x lo hi mx)
      | none => none
    | _, _, _, _, _ => none
  | .fieldAddr s x f => match P.underlying s, cOpd nt x with
    | some (.struct fs), some x => match fs[f]? with
      | some q => match P.info? q.type with
        | some i => cond (Nat.beq i.size 0) none (some (.fa q.offset x))
        | none => none
      | none => none
    | _, _ => none
  | .indexAddr t x i => match P.underlying t, cOpd nt x, cOpd nt i with
    | some (.slice e), some x, some i => match P.info? e with
      | some q => some (.is q.size x i)
      | none => none
    | some (.array n e), some x, some i => match P.info? e with
      | some q => some (.ia n q.size x i)
      | none => none
    | _, _, _ => none
  | .field t x f => match P.underlying t, cOpd nt x with
    | some (.struct fs), some x => match fs[f]? with
      | some q => match cType P q.type with
        | some (g, n) => some (.fd q.offset n g x)
        | none => none
      | none => none
    | _, _ => none
  | .index t x i => match P.underlying t, cOpd nt x, cOpd nt i with
    | some (.array n e), some x, some i => match cType P e, P.info? e with
      | some (g, k), some q => some (.ix n q.size k g x i)
      | _, _ => none
    | some .string, some x, some i => some (.ib x i)
    | _, _, _ => none
  | .extract x i => match cOpd nt x with
    | some x => some (.ex x i)
    | none => none
  | .makeFunc (.func f) first captured => match cOpds nt first.toList, cOpds nt captured.toList with
    | some xs, some ys => some (.mf f xs ys)
    | _, _ => none
  | .call { callee := .value (.func f), args, .. } => match P.funcs[f]? with
    | some fn => cond (fn.name != "runtime.NumGoroutine" && fn.body.isSome) (match cOpds nt args.toList with
      | some xs => some (.ca f xs)
      | none => none) none
    | none => none
  | .call { callee := .value (.tmp q), args, .. } => match cOpd nt (.tmp q), cOpds nt args.toList with
    | some x, some xs => some (.cv x xs)
    | _, _ => none
  | .call { callee := .builtin .len, args, argTypes } => match argTypes.toList, cOpds nt args.toList with
    | [t], some [x] => match P.underlying t with
      | some (.slice _) => some (.ln x)
      | some .string => some (.ls x)
      | some (.array n _) => some (.lc n)
      | _ => none
    | _, _ => none
  | .call { callee := .builtin .append, args, argTypes } => match argTypes.toList, cOpds nt args.toList with
    | [t, u], some [x, y] => match P.underlying t, P.underlying u with
      | some (.slice e), some (.int _) => match P.info? e, cZero P e with
        | some i, some zs => some (.az e i.size i.bytes zs x y)
        | _, _ => none
      | some (.slice e), some (.slice _) => match P.info? e, cZero P e with
        | some i, some _ => some (.ap e i.size i.bytes x y)
        | _, _ => none
      | some (.slice e), some .string => match P.info? e, cZero P e with
        | some i, some _ => some (.ap e i.size i.bytes x y)
        | _, _ => none
      | _, _ => none
    | _, _ => none
  | .call { callee := .builtin .copy, args, argTypes } => match argTypes.toList, cOpds nt args.toList with
    | [t, _], some [x, y] => match P.underlying t with
      | some (.slice e) => match P.info? e with
        | some i => some (.cp i.size x y)
        | none => none
      | _ => none
    | _, _ => none
  | .call { callee := .builtin .clear, args, argTypes } => match argTypes.toList, cOpds nt args.toList with
    | [t], some [x] => match P.underlying t with
      | some (.slice e) => match cZero P e with
        | some zs => some (.cl zs x)
        | none => none
      | _ => none
    | _, _ => none
  | .call { callee := .builtin .min, args, .. } => match cOpds nt args.toList with
    | some xs => some (.mn xs)
    | none => none
  | .call { callee := .builtin .max, args, .. } => match cOpds nt args.toList with
    | some xs => some (.mx xs)
    | none => none
  | _ => none

/-! ### Operations, with what is ahead of each -/
def befOf (o : Oper) (acc : List Nat) : Nat :=
  o.after.toList.foldl (fun s e => cond (Region.binds .any e) (s ||| 2 ^ e.on ||| acc.getD e.on 0) s) 0
/-- All that is bound lies ahead in the text. -/
def befOk (o : Oper) (i : Nat) : Bool := o.after.toList.all fun e => !Region.binds .any e || Nat.blt e.on i
def cGuard (nt : Nat) (ops : Array Oper) : Option (Nat × Bool) → Option (Option (Nat × Bool))
  | none => some none
  | some (j, want) => match (ops[j]?).bind (·.dst) with
    | some t => cond (Nat.blt t nt) (some (some (t, want))) none
    | none => none
def cDst (nt : Nat) : Option Tmp → Bool
  | none => true
  | some d => Nat.blt d nt
/-! ### What a region that draws its order must be -/
def opT : Opd → List Nat
  | .t n => [n]
  | _ => []
def opTs : List Opd → List Nat
  | [] => []
  | x :: xs => opT x ++ opTs xs
def opTo : Option Opd → List Nat
  | some x => opT x
  | none => []
def opTp : List (Nat × Nat × Opd) → List Nat
  | [] => []
  | (_, _, x) :: r => opT x ++ opTp r
/-- The temporaries that an operation looks at. -/
def tmpsA : AOp → List Nat
  | .mv x | .bx _ x | .ld _ _ x | .nc x | .uo _ x | .ci _ x | .cs x | .cb x | .fa _ x | .fd _ _ _ x | .ex x _ | .ln x | .ls x | .cl _ x => opT x
  | .pk c a b => opT c ++ (opT a ++ opT b)
  | .nw _ _ | .lc _ => []
  | .bd _ ps | .bs _ _ _ ps => opTp ps
  | .st _ x y | .bo _ _ x y | .ms _ _ _ _ x y | .is _ x y | .ia _ _ x y | .ix _ _ _ _ x y | .ib x y | .ap _ _ _ x y | .az _ _ _ _ x y | .cp _ x y => opT x ++ opT y
  | .sl _ x lo hi mx | .sa _ _ x lo hi mx => opT x ++ (opTo lo ++ (opTo hi ++ opTo mx))
  | .ss x lo hi => opT x ++ (opTo lo ++ opTo hi)
  | .mf _ xs ys => opTs xs ++ opTs ys
  | .ca _ xs | .mn xs | .mx xs => opTs xs
  | .cv x xs => opT x ++ opTs xs
def tmpsO (o : AOper) : List Nat := (match o.guard with | some (g, _) => [g] | none => []) ++ tmpsA o.op
/-- Every two operations: heavy ones in a row; what one looks at and another one writes in a row; no two write one temporary. -/
def pairOk (i : Nat) (a : AOper) (j : Nat) (b : AOper) : Bool :=
  (!(heavy a.op && heavy b.op) || b.bef.testBit i) &&
  (match a.dst with
    | some d => b.bef.testBit i || !(tmpsO b).contains d
    | none => true) &&
  (match b.dst with
    | some d => b.bef.testBit i || !(tmpsO a).contains d
    | none => true) &&
  (match a.dst, b.dst with
    | some d, some d' => !Nat.beq d d'
    | _, _ => true)
def pairsOk (i : Nat) (a : AOper) : Nat → List AOper → Bool
  | _, [] => true
  | j, b :: r => pairOk i a j b && pairsOk i a (j + 1) r
def drawOk : Nat → List AOper → Bool
  | _, [] => true
  | i, a :: r => pairsOk i a (i + 1) r && drawOk (i + 1) r

def cOps (P : Program) (nt : Nat) (all : Array Oper) : Nat → List Nat → List Oper → Option (List AOper)
  | _, _, [] => some []
  | i, acc, o :: r => match cOp P nt o.op, cGuard nt all o.guard with
    | some op, some g => cond (cDst nt o.dst && befOk o i && (tmpsO { dst := o.dst, op, guard := g, bef := 0 }).all fun n => Nat.blt n nt)
      (match cOps P nt all (i + 1) (acc ++ [befOf o acc]) r with
        | some l => some ({ dst := o.dst, op, guard := g, bef := befOf o acc } :: l)
        | none => none) none
    | _, _ => none

def cC (P : Program) (nt : Nat) : Code → Option ACode
  | .skip => some .skip
  | .region _ ops draw => match cOps P nt ops 0 [] ops.toList with
    | some l => cond (!draw || drawOk 0 l) (some (.rg l draw)) none
    | none => none
  | .seq a b => match cC P nt a, cC P nt b with
    | some x, some y => some (.sq x y)
    | _, _ => none
  | .cond c a b => match cOpd nt c, cC P nt a, cC P nt b with
    | some c, some x, some y => some (.cd c x y)
    | _, _, _ => none
  | .block id a => match cC P nt a with
    | some x => some (.bk id x)
    | none => none
  | .loop a => match cC P nt a with
    | some x => some (.lp x)
    | none => none
  | .exit id => some (.xt id)
  | .ret => some .rt
  | _ => none

def cRes (P : Program) (nt : Nat) : List ResultVar → Option (List ARes)
  | [] => some []
  | .tmp t :: r => match cRes P nt r with
    | some l => cond (Nat.blt t nt) (some (.t t :: l)) none
    | none => none
  | .cell a t :: r => match cType P t, cRes P nt r with
    | some (g, n), some l => cond (Nat.blt a nt) (some (.c a g n :: l)) none
    | _, _ => none

def cF (P : Program) (f : Nat) : Option AFun :=
  match P.funcs[f]? with
  | none => none
  | some fn => match fn.body with
    | none => none
    | some c => cond (fn.name != "runtime.NumGoroutine") (match cC P fn.ntmps c, cRes P fn.ntmps fn.results.toList with
      | some body, some res => some { nt := fn.ntmps, body, res }
      | _, _ => none) none

end Go.Ri
