/- The evaluator: a functional reading of the model's Code over heap-free values. Definitions alone. -/
import Derived.Orders
import Derived.OrdersIn
import Derived.Laws.AppendOwn
import Derived.Laws.MakeOwn
import Derived.Laws.OwnMore
import Derived.Below
import Derived.KernelRfl
set_option linter.unusedVariables false
set_option linter.unusedSimpArgs false
set_option linter.unusedSectionVars false
set_option linter.unnecessarySimpa false
namespace Go.Proofs.Ytbcijglbinaioaa.Ev

/-- What a slice's element may be. -/
inductive Ty where
  | int (k : IntKind)
  | bool
  | slice (t : Ty)
  | pair (a b : Ty)
  deriving DecidableEq

@[reducible] def Ty.den : Ty → Type
  | .int _ => Int
  | .bool => Bool
  | .slice t => List t.den
  | .pair a b => a.den × b.den

/-- How many cells. -/
def Ty.sz : Ty → Nat
  | .pair a b => a.sz + b.sz
  | _ => 1

/-- No slices in it. -/
def Ty.scal : Ty → Bool
  | .int _ => true
  | .bool => true
  | .slice _ => false
  | .pair a b => a.scal && b.scal

def Ty.zero : (t : Ty) → t.den
  | .int _ => (0 : Int)
  | .bool => false
  | .slice _ => []
  | .pair a b => (a.zero, b.zero)

/-- Values without a heap. 'sl b t l': a slice that is only read (b: it may be read during this call alone). 'row κ': a row of the call's own. -/
inductive AV where
  | top
  | int (k : IntKind) (n : Int)
  | bool (b : Bool)
  | agg (l : List AV)
  | tup (l : List AV)
  | fn (f : Nat) (caps : List AV)
  | sl (b : Bool) (t : Ty) (l : List t.den)
  | xs (b : Bool) (t : Ty) (l : List t.den)
  | ep (b : Bool) (cells : List AV) (off : Nat)
  | nil (e : Nat) (t : Ty)
  | emp (isnil : Bool) (t : Ty)
  | row (κ : Nat)
  | rp (κ : Nat) (i : Nat) (off : Nat)
  | ptr (κ : Nat) (off : Nat)

/-- Objects of the call's own. -/
inductive OB where
  | box (cells : List AV)
  | row (e : Nat) (t : Ty) (els : List t.den) (snap : Bool)

inductive TE where
  | set (t : Nat) (v : AV)
  | kill (κ : Nat)

inductive OE where
  | set (κ : Nat) (o : OB)
  | kill (κ : Nat)
  | snap (κ : Nat)
  | del (κ : Nat)

structure St where
  tm : List TE
  ob : List OE

/-- The cells of an element. -/
def enc (lent : Bool) : (t : Ty) → t.den → List AV
  | .int k, n => [.int k n]
  | .bool, b => [.bool b]
  | .slice t, l => [.sl lent t l]
  | .pair a b, x => enc lent a x.1 ++ enc lent b x.2

def castL {t t' : Ty} (h : t = t') (l : List t.den) : List t'.den := h ▸ l

/-- An element out of cells. -/
def dec : (t : Ty) → List AV → Option (t.den × List AV)
  | .int k, l => match l with
    | .int k' n :: r => if k = k' then some (n, r) else none
    | _ => none
  | .bool, l => match l with
    | .bool b :: r => some (b, r)
    | _ => none
  | .slice t, l => match l with
    | .sl b t' l :: r => if b then none else if h : t' = t then some (castL h l, r) else none
    | .nil _ _ :: r => some ([], r)
    | _ => none
  | .pair a b, r =>
    match dec a r with
    | some (x, r1) => match dec b r1 with
      | some (y, r2) => some ((x, y), r2)
      | none => none
    | none => none

def AV.cells : AV → List AV
  | .agg l => l
  | v => [v]

/-- May it stand in a cell? -/
def AV.cellOk : AV → Bool
  | .top => false
  | .agg _ => false
  | .tup _ => false
  | _ => true

/-- Tokens of κ die. (Two levels are enough: what nests deeper bears no tokens that are used again.) -/
def killV (κ : Nat) : AV → AV
  | .row κ' => if κ' = κ then .top else .row κ'
  | .rp κ' i o => if κ' = κ then .top else .rp κ' i o
  | .ptr κ' o => if κ' = κ then .top else .ptr κ' o
  | .agg l => .agg (killL κ l)
  | .tup l => .tup (killL κ l)
  | .fn f l => .fn f (killL κ l)
  | .ep b l o => .ep b (killL κ l) o
  | v => v
where
  killL (κ : Nat) : List AV → List AV
    | [] => []
    | v :: l => killV κ v :: killL κ l

def getT : List TE → Nat → AV
  | [], _ => .top
  | .set t' v :: r, t => if t' = t then v else getT r t
  | .kill κ :: r, t => killV κ (getT r t)

def OB.kill (κ : Nat) : OB → OB
  | .box cs => .box (cs.map (killV κ))
  | o => o

def OB.snapped : OB → OB
  | .row e t els _ => .row e t els true
  | o => o

def getO : List OE → Nat → Option OB
  | [], _ => none
  | .set κ' o :: r, κ => if κ' = κ then some o else getO r κ
  | .kill κ' :: r, κ => (getO r κ).map (OB.kill κ')
  | .snap κ' :: r, κ => if κ' = κ then (getO r κ).map OB.snapped else getO r κ
  | .del κ' :: r, κ => if κ' = κ then none else getO r κ

/-! ### the types' table -/
inductive Sh where
  | plain
  | bool
  | int (k : IntKind)
  | sl (e : Nat) (t : Ty)
  | st (fs : List (Nat × Nat × Nat))   -- offset, size, type
  | ar (n e esz : Nat)

structure TD where
  size : Nat
  agg : Bool
  eq : Bool      -- '==' is told of its cells
  zero : List AV
  sh : Sh

def TD.eqOf : Option TD → Nat → Bool
  | some d, n => d.eq && n == d.size
  | none, _ => false

def TD.isS : Option TD → Bool
  | some { sh := .sl _ _, .. } => true
  | _ => false

def TD.isB : Option TD → Bool
  | some { sh := .bool, .. } => true
  | _ => false

def findD : List (Nat × TD) → Nat → Option TD
  | [], _ => none
  | (t', d) :: r, t => if t' = t then some d else findD r t

/-- A callee that only reads what it is handed. -/
structure CallE where
  params : List (Option Ty)
  Res : Type
  val : List AV → Option Res
  av : Res → AV

/-- A callee that may turn the objects that it is handed, and make new ones. 'toks': which arguments' rows are handed as they are (the others for good). -/
structure CallI where
  params : List (Option Ty)
  toks : List Bool
  Res : Type
  val : List AV → List OE → Option Res
  av : Res → AV × List OE

structure Env where
  D : List (Nat × TD)
  T : Nat → Option CallE
  I : Nat → Option CallI

def constV : Value → AV
  | .int k n => .int k n
  | .bool b => .bool b
  | .slice none 0 0 => .nil 0 .bool
  | _ => .top

def St.ev (s : St) : Operand → AV
  | .tmp t => getT s.tm t
  | .const v => constV v
  | .func f => .fn f []
  | .global _ => .top

def retypeTo (e : Nat) (t : Ty) : AV → AV
  | .nil _ _ => .nil e t
  | v => v

def retype (D : List (Nat × TD)) (ty : Nat) (v : AV) : AV :=
  match findD D ty with
  | some { sh := .sl e t, .. } => retypeTo e t v
  | _ => v

def retypeO (o : Option Ty) (v : AV) : AV :=
  match o with
  | some t => retypeTo 0 t v
  | none => v

/-- What a callee that only reads is handed. -/
def conv (ob : List OE) : Nat → AV → AV
  | 0, _ => .top
  | n + 1, v => match v with
    | .row κ => match getO ob κ with
      | some (.row _ t els _) => .sl t.scal t els
      | _ => .top
    | .ptr κ off => match getO ob κ with
      | some (.box cs) => .ep true (cs.map (conv ob n)) off
      | _ => .top
    | .agg l => .agg (l.map (conv ob n))
    | .fn f l => .fn f (l.map (conv ob n))
    | .nil _ t => .sl t.scal t []
    | .emp _ t => .sl false t []
    | .rp _ _ _ => .top
    | .tup _ => .top
    | .ep b l o => .ep b (l.map (conv [] n)) o
    | .top => .top
    | .int k n => .int k n
    | .bool b => .bool b
    | .sl b t l => .sl b t l
    | .xs b t l => .sl b t l

/-- The rows of slices that it is handed for good. -/
def snaps (ob : List OE) : Nat → AV → List Nat
  | 0, _ => []
  | n + 1, v => match v with
    | .row κ => match getO ob κ with
      | some (.row _ t _ _) => if t.scal then [] else [κ]
      | _ => []
    | .ptr κ _ => match getO ob κ with
      | some (.box cs) => cs.flatMap (snaps ob n)
      | _ => []
    | .agg l => l.flatMap (snaps ob n)
    | .fn _ l => l.flatMap (snaps ob n)
    | _ => []

/-- The arguments of a call. -/
def argVs (D : St) : List Operand → List (Option Ty) → List AV
  | [], _ => []
  | x :: r, [] => conv D.ob 6 (D.ev x) :: argVs D r []
  | x :: r, p :: ps => conv D.ob 6 (retypeO p (D.ev x)) :: argVs D r ps

/-- What is handed back for good, or becomes an element. -/
def frz (ob : List OE) : Nat → AV → AV
  | 0, _ => .top
  | n + 1, v => match v with
    | .row κ => match getO ob κ with
      | some (.row _ t els _) => .sl false t els
      | _ => .top
    | .agg l => .agg (l.map (frz ob n))
    | .tup l => .tup (l.map (frz ob n))
    | .nil _ t => .sl false t []
    | .emp _ t => .sl false t []
    | .int k n => .int k n
    | .bool b => .bool b
    | .sl b t l => if b then .top else .sl false t l
    | .xs b t l => if b then .top else .sl false t l
    | _ => .top

def frzKeys (ob : List OE) : Nat → AV → List Nat
  | 0, _ => []
  | n + 1, v => match v with
    | .row κ => [κ]
    | .agg l => l.flatMap (frzKeys ob n)
    | .tup l => l.flatMap (frzKeys ob n)
    | _ => []

def LIM : Nat := 1099511627776

/-- l[i]. -/
def idxL {α : Type} (l : List α) (i : Int) : Option α := if 0 ≤ i then l[i.toNat]? else none

def bitI (op : BinOp) (k : IntKind) (x y : Int) : Int :=
  match op with
  | .and => k.wrap (BitVec.ofInt k.bits x &&& BitVec.ofInt k.bits y).toNat
  | .or => k.wrap (BitVec.ofInt k.bits x ||| BitVec.ofInt k.bits y).toNat
  | .xor => k.wrap (BitVec.ofInt k.bits x ^^^ BitVec.ofInt k.bits y).toNat
  | _ => k.wrap (BitVec.ofInt k.bits x &&& ~~~ (BitVec.ofInt k.bits y)).toNat

def arI {R : Type} (op : BinOp) (k : IntKind) (a b : Int) (K : AV → Option R) : Option R :=
  match op with
  | .add => K (.int k (k.wrap (a + b)))
  | .sub => K (.int k (k.wrap (a - b)))
  | .mul => K (.int k (k.wrap (a * b)))
  | .quo => bif b == 0 then none else K (.int k (k.wrap (a.tdiv b)))
  | .rem => bif b == 0 then none else K (.int k (a.tmod b))
  | .and => K (.int k (bitI .and k a b))
  | .or => K (.int k (bitI .or k a b))
  | .xor => K (.int k (bitI .xor k a b))
  | .andNot => K (.int k (bitI .andNot k a b))
  | .eql => K (.bool (a == b))
  | .neq => K (.bool (a != b))
  | .lss => K (.bool (decide (a < b)))
  | .leq => K (.bool (decide (a ≤ b)))
  | .gtr => K (.bool (decide (a > b)))
  | .geq => K (.bool (decide (a ≥ b)))
  | _ => none

def shI {R : Type} (op : BinOp) (k : IntKind) (a b : Int) (K : AV → Option R) : Option R :=
  bif decide (b < 0) then none else
  match op with
  | .shl => K (.int k (k.wrap (a * 2 ^ (min b.toNat k.bits))))
  | .shr => K (.int k (a.fdiv (2 ^ (min b.toNat k.bits))))
  | _ => none

def eqTail (c : Bool) (l l' : List AV) (r : Option Bool) : Option Bool :=
  match l, l' with
  | [], [] => some c
  | _, _ => r.map (fun r => c && r)

def isEmptyL {α : Type} : List α → Bool
  | [] => true
  | _ => false

/-- Equal cells: whole numbers. -/
def eqL : List AV → List AV → Option Bool
  | [], [] => some true
  | .int k a :: l, .int k' b :: l' => if k = k' then eqTail (a == b) l l' (eqL l l') else none
  | _, _ => none

def binV {R : Type} (op : BinOp) (d : Option TD) (x y : AV) (K : AV → Option R) : Option R :=
  match x, y with
  | .int k a, .int k' b => match op with
    | .shl => shI .shl k a b K
    | .shr => shI .shr k a b K
    | op => if k = k' then arI op k a b K else none
  | .bool a, .bool b => if !TD.isB d then none else match op with
    | .eql => K (.bool (a == b))
    | .neq => K (.bool (a != b))
    | _ => none
  | .agg l, .agg l' => if !TD.eqOf d l.length then none else match op with
    | .eql => match eqL l l' with | some r => K (.bool r) | none => none
    | .neq => match eqL l l' with | some r => K (.bool (!r)) | none => none
    | _ => none
  | .sl _ _ l, .nil _ _ => if !TD.isS d then none else match op with
    | .eql => bif isEmptyL l then none else K (.bool false)
    | .neq => bif isEmptyL l then none else K (.bool true)
    | _ => none
  | .emp z _, .nil _ _ => if !TD.isS d then none else match op with
    | .eql => K (.bool z)
    | .neq => K (.bool (!z))
    | _ => none
  | .nil _ _, .nil _ _ => if !TD.isS d then none else match op with
    | .eql => K (.bool true)
    | .neq => K (.bool false)
    | _ => none
  | _, _ => none

def sliceI {R : Type} (b : Bool) (t : Ty) (l : List t.den) (lo hi mx : Option AV) (K : AV → Option R) : Option R :=
  match lo, hi, mx with
  | none, none, none => K (.sl b t l)
  | none, some (.int _ h), none => bif decide (0 ≤ h) && decide (h.toNat ≤ l.length) then K (.sl b t (l.take h.toNat)) else none
  | some (.int _ a), none, none => bif decide (0 ≤ a) && decide (a.toNat ≤ l.length) then K (.sl b t (l.drop a.toNat)) else none
  | some (.int _ a), some (.int _ h), none => bif decide (0 ≤ a) && (decide (a ≤ h) && decide (h.toNat ≤ l.length)) then K (.sl b t ((l.take h.toNat).drop a.toNat)) else none
  | none, some (.int _ h), some (.int _ m) => bif decide (0 ≤ h) && (decide (h.toNat ≤ l.length) && (h == m)) then K (.xs b t (l.take h.toNat)) else none
  | some (.int _ a), some (.int _ h), some (.int _ m) => bif decide (0 ≤ a) && (decide (a ≤ h) && (decide (h.toNat ≤ l.length) && (h == m))) then K (.xs b t ((l.take h.toNat).drop a.toNat)) else none
  | _, _, _ => none

/-- A part of nil. -/
def sliceN {R : Type} (v : AV) (lo hi mx : Option AV) (K : AV → Option R) : Option R :=
  match lo, hi, mx with
  | none, none, none => K v
  | none, some (.int _ h), none => bif h == 0 then K v else none
  | _, _, _ => none

def pickIdx {R : Type} (m : Int) (K : Nat → Option R) : Nat → Nat → Option R
  | 0, _ => none
  | k + 1, j => bif m == (j : Int) then K j else pickIdx m K k (j + 1)

/-- An array's index: of a small array, case by case. -/
def atIdx {R : Type} (n : Nat) (m : Int) (K : Nat → Option R) : Option R :=
  if n ≤ 8 then pickIdx m K n 0 else bif decide (0 ≤ m) && decide (m.toNat < n) then K m.toNat else none

def cellsAt (cs : List AV) (off n : Nat) (agg : Bool) : AV :=
  if agg then .agg ((cs.drop off).take n) else (cs.drop off).headD .top

/-- Operations that turn no object: their value. -/
def evQ {R : Type} (E : Env) (s : St) (o : Oper) (K : AV → Option R) : Option R :=
  match o.op with
  | .move x => K (retype E.D o.type (s.ev x))
  | .assign x => K (retype E.D o.type (s.ev x))
  | .pick c a b => match s.ev c with
    | .bool p => match s.ev a, s.ev b with
      | .bool x, .bool y => K (.bool (bif p then x else y))
      | x, y => bif p then K x else K y
    | _ => none
  | .binOp op t x y _ => binV op (findD E.D t) (s.ev x) (s.ev y) K
  | .unOp .not _ x => match s.ev x with
    | .bool b => K (.bool (!b))
    | _ => none
  | .unOp .neg _ x => match s.ev x with
    | .int k n => K (.int k (k.wrap (0 - n)))
    | _ => none
  | .convert src dst x => match s.ev x, findD E.D dst, findD E.D src with
    | .int _ n, some { sh := .int k, .. }, some _ => K (.int k (k.wrap n))
    | _, _, _ => none
  | .load t a => match findD E.D t with
    | some d => match s.ev a with
      | .ep _ cs off => if off + d.size ≤ cs.length then K (cellsAt cs off d.size d.agg) else none
      | .ptr κ off => match getO s.ob κ with
        | some (.box cs) => if off + d.size ≤ cs.length then K (cellsAt cs off d.size d.agg) else none
        | _ => none
      | .rp κ i off => match getO s.ob κ with
        | some (.row _ ty els _) => (els[i]?).bind fun e => if off + d.size ≤ (enc false ty e).length then K (cellsAt (enc false ty e) off d.size d.agg) else none
        | _ => none
      | _ => none
    | none => none
  | .nilCheck x => match s.ev x with
    | .ep b cs off => K (.ep b cs off)
    | .ptr κ off => K (.ptr κ off)
    | _ => none
  | .fieldAddr t a f => match findD E.D t with
    | some { sh := .st fs, .. } => match fs[f]? with
      | some (fo, _, _) => match s.ev a with
        | .ep b cs off => K (.ep b cs (off + fo))
        | .ptr κ off => K (.ptr κ (off + fo))
        | .rp κ i off => K (.rp κ i (off + fo))
        | _ => none
      | none => none
    | _ => none
  | .field t x f => match findD E.D t with
    | some { sh := .st fs, .. } => match fs[f]? with
      | some (fo, n, ft) => match s.ev x, findD E.D ft with
        | .agg cs, some d => if fo + n ≤ cs.length && d.size == n then K (cellsAt cs fo n d.agg) else none
        | _, _ => none
      | none => none
    | _ => none
  | .indexAddr t x i => match findD E.D t with
    | some { sh := .sl _ ty, .. } => match s.ev x, s.ev i with
      | .sl b ty' l, .int _ n => if ty' = ty then (idxL l n).bind fun e => K (.ep b (enc b ty' e) 0) else none
      | .row κ, .int _ n => match getO s.ob κ with
        | some (.row _ ty' els _) => if ty' = ty then (bif decide (0 ≤ n) && decide (n.toNat < els.length) then K (.rp κ n.toNat 0) else none) else none
        | _ => none
      | _, _ => none
    | some { sh := .ar n _ esz, .. } => match s.ev x, s.ev i with
      | .ptr κ off, .int _ m => atIdx n m fun j => K (.ptr κ (off + j * esz))
      | .ep b cs off, .int _ m => atIdx n m fun j => K (.ep b cs (off + j * esz))
      | _, _ => none
    | _ => none
  | .index t x i => match findD E.D t with
    | some { sh := .ar n _ 1, .. } => match s.ev x, s.ev i with
      | .agg cs, .int _ m => atIdx (min n cs.length) m fun j => K (cs.getD j .top)
      | _, _ => none
    | _ => none
  | .extract x i => match s.ev x with
    | .tup l => if i < l.length then K (l.getD i .top) else none
    | _ => none
  | .makeFunc (.func g) first caps => if first.isEmpty then K (.fn g (caps.toList.map s.ev)) else none
  | .slice t x lo hi mx => match findD E.D t with
    | some { sh := .sl _ ty, .. } => match s.ev x with
      | .sl b ty' l => if ty' = ty then sliceI b ty' l (lo.map s.ev) (hi.map s.ev) (mx.map s.ev) K else none
      | .nil e' t' => sliceN (.nil e' t') (lo.map s.ev) (hi.map s.ev) (mx.map s.ev) K
      | _ => none
    | _ => none
  | .build t parts => match findD E.D t with
    | some { sh := .st fs, zero := z, .. } => match fillC (fs.map fun q => (q.1, q.2.1)) z (parts.toList.map fun p => (p.1, s.ev p.2)) with
      | some cs => K (.agg cs)
      | none => none
    | some { sh := .ar n _ esz, zero := z, .. } => match fillC ((List.range n).map fun j => (j * esz, esz)) z (parts.toList.map fun p => (p.1, s.ev p.2)) with
      | some cs => K (.agg cs)
      | none => none
    | _ => none
  | .call c => match c.callee with
    | .builtin .len => match c.args.toList, c.argTypes.toList with
      | [x], [t] => match findD E.D t with
        | some { sh := .sl _ _, .. } => match s.ev x with
          | .sl _ _ l => K (.int .i64 l.length)
          | .xs _ _ l => K (.int .i64 l.length)
          | .nil _ _ => K (.int .i64 0)
          | .emp _ _ => K (.int .i64 0)
          | .row κ => match getO s.ob κ with
            | some (.row _ _ els _) => K (.int .i64 els.length)
            | _ => none
          | _ => none
        | _ => none
      | _, _ => none
    | .builtin .cap => match c.args.toList, c.argTypes.toList with
      | [x], [t] => match findD E.D t with
        | some { sh := .sl _ _, .. } => match s.ev x with
          | .nil _ _ => K (.int .i64 0)
          | _ => none
        | _ => none
      | _, _ => none
    | .builtin .max => match c.args.toList with
      | [x, y] => match s.ev x, s.ev y with
        | .int k a, .int k' b => if k = k' then K (.int k (if b > a then b else a)) else none
        | _, _ => none
      | _ => none
    | .builtin .min => match c.args.toList with
      | [x, y] => match s.ev x, s.ev y with
        | .int k a, .int k' b => if k = k' then K (.int k (if b < a then b else a)) else none
        | _, _ => none
      | _ => none
    | _ => none
  | _ => none
where
  /-- The parts of a struct laid into its cells. -/
  fillC (fs : List (Nat × Nat)) : List AV → List (Nat × AV) → Option (List AV)
    | cs, [] => some cs
    | cs, (i, v) :: r => match fs[i]? with
      | some (off, n) => if v.cells.length = n ∧ off + n ≤ cs.length ∧ v.cells.all AV.cellOk = true then fillC fs (cs.take off ++ (v.cells.zipWith nilAs ((cs.drop off).take n)) ++ cs.drop (off + n)) r else none
      | none => none
  /-- nil as the cell that was there. -/
  nilAs : AV → AV → AV
    | .nil _ _, .nil e t => .nil e t
    | v, _ => v

def St.put (s : St) (dst : Option Nat) (v : AV) : St :=
  match dst with
  | some d => { s with tm := .set d v :: s.tm }
  | none => s

/-- A new object under the key κ. -/
def St.new (s : St) (κ : Nat) (o : OB) : St := { tm := .kill κ :: s.tm, ob := .set κ o :: .kill κ :: s.ob }

def St.snapAll (s : St) (ks : List Nat) : St := { s with ob := ks.map .snap ++ s.ob }

/-- The elements of an append's second operand. -/
def srcEls (ob : List OE) (t : Ty) : AV → Option (List t.den)
  | .sl b t' l => if b && !t'.scal then none else if h : t' = t then some (castL h l) else none
  | .xs b t' l => if b && !t'.scal then none else if h : t' = t then some (castL h l) else none
  | .nil _ _ => some []
  | .emp _ _ => some []
  | .row κ => match getO ob κ with
    | some (.row _ t' els _) => if h : t' = t then some (castL h els) else none
    | _ => none
  | _ => none

/-- A literal's elements. -/
def litEls (ob : List OE) (t : Ty) : Nat → List (Nat × AV) → Option (List t.den)
  | _, [] => some []
  | j, (i, v) :: r => if i = j then (match dec t (frz ob 3 v).cells with
    | some (x, []) => match litEls ob t (j + 1) r with
      | some xs => some (x :: xs)
      | none => none
    | _ => none) else none


/-- The same out of slices that are lent. -/
def decQ : (t : Ty) → List AV → Option (t.den × List AV)
  | .int k, l => match l with
    | .int k' n :: r => if k = k' then some (n, r) else none
    | _ => none
  | .bool, l => match l with
    | .bool b :: r => some (b, r)
    | _ => none
  | .slice t, l => match l with
    | .sl _ t' l :: r => if h : t' = t then some (castL h l, r) else none
    | .xs _ t' l :: r => if h : t' = t then some (castL h l, r) else none
    | .nil _ _ :: r => some ([], r)
    | .emp _ _ :: r => some ([], r)
    | _ => none
  | .pair a b, r =>
    match decQ a r with
    | some (x, r1) => match decQ b r1 with
      | some (y, r2) => some ((x, y), r2)
      | none => none
    | none => none
def litQ (t : Ty) : Nat → List (Nat × AV) → Option (List t.den)
  | _, [] => some []
  | j, (i, v) :: r => if i = j then (match decQ t v.cells with
    | some (x, []) => match litQ t (j + 1) r with
      | some xs => some (x :: xs)
      | none => none
    | _ => none) else none

/-! ### live places at a loop's head -/
inductive CM where
  | keep
  | own
  | frz
  | snap

structure Live where
  tm : List (Nat × CM)
  ob : List Nat
  xtm : List Nat     -- what is kept where the loop is left
  xob : List Nat
  cells : List (Nat × Nat × CM) := []   -- cells of boxes

/-- What is not live is forgotten. -/
def Live.cut (L : Live) (s : St) : St :=
  { tm := L.tm.map fun p => .set p.1 (getT s.tm p.1)
    ob := L.ob.filterMap fun κ => (getO s.ob κ).map fun o => .set κ o }

/-- Variables that are nil become rows of the call's own; others are handed over for good. -/
def Live.turn (s : St) : List (Nat × CM) → St
  | [] => s
  | (t, c) :: r => match c with
    | .keep => Live.turn s r
    | .own => match getT s.tm t with
      | .nil e ty => Live.turn ((s.new (9000 + t) (.row e ty [] false)).put (some t) (.row (9000 + t))) r
      | _ => Live.turn s r
    | .snap => Live.turn (s.snapAll (frzKeys s.ob 3 (getT s.tm t))) r
    | .frz => Live.turn ((s.snapAll (frzKeys s.ob 3 (getT s.tm t))).put (some t) (Ev.frz s.ob 3 (getT s.tm t))) r

def cellKey (κ i : Nat) : Nat := if κ < 9000 then 50000 + 100 * κ + i else 100000000 + 100 * κ + i

/-- The same for cells of boxes. -/
def Live.turnO (s : St) : List (Nat × Nat × CM) → St
  | [] => s
  | (κ, i, c) :: r => match getO s.ob κ with
    | some (.box cs) => match c with
      | .keep => Live.turnO s r
      | .own => match cs[i]? with
        | some (.nil e t) => if cellKey κ i = κ ∨ (1000000 ≤ cellKey κ i ∧ cellKey κ i < 1001000) then Live.turnO s r else
            Live.turnO { s.new (cellKey κ i) (.row e t [] false) with ob := .set κ (.box ((cs.map (killV (cellKey κ i))).set i (.row (cellKey κ i)))) :: (s.new (cellKey κ i) (.row e t [] false)).ob } r
        | _ => Live.turnO s r
      | .snap => Live.turnO (s.snapAll (frzKeys s.ob 3 (cs.getD i .top))) r
      | .frz => Live.turnO { s with ob := .set κ (.box (cs.set i (frz s.ob 3 (cs.getD i .top)))) :: (s.snapAll (frzKeys s.ob 3 (cs.getD i .top))).ob } r
    | _ => Live.turnO s r

/-- What is kept where the loop is left. -/
def Live.leave (L : Live) (s : St) : St :=
  { tm := L.xtm.map fun t => .set t (getT s.tm t)
    ob := L.xob.filterMap fun κ => (getO s.ob κ).map fun o => .set κ o }

def Live.head (L : Live) (s : St) : St := L.cut (Live.turnO (Live.turn (L.cut s) L.tm) L.cells)

/-! ### calls of functions that turn objects -/
def lk : List (Nat × Nat) → Nat → Option Nat
  | [], _ => none
  | p :: r, κ => if p.1 = κ then some p.2 else lk r κ

/-- Keys named otherwise. -/
def renV (ρ : List (Nat × Nat)) : AV → AV
  | .row κ => match lk ρ κ with
    | some κ' => .row κ'
    | none => .top
  | .rp κ i o => match lk ρ κ with
    | some κ' => .rp κ' i o
    | none => .top
  | .ptr κ o => match lk ρ κ with
    | some κ' => .ptr κ' o
    | none => .top
  | .agg l => .agg (renL ρ l)
  | .tup l => .tup (renL ρ l)
  | .fn f l => .fn f (renL ρ l)
  | .ep b l o => .ep b (renL ρ l) o
  | v => v
where
  renL (ρ : List (Nat × Nat)) : List AV → List AV
    | [] => []
    | v :: l => renV ρ v :: renL ρ l

def renO (ρ : List (Nat × Nat)) : OB → OB
  | .box cs => .box (cs.map (renV ρ))
  | o => o

/-- The keys in a value. -/
def keysV : AV → List Nat
  | .row κ => [κ]
  | .rp κ _ _ => [κ]
  | .ptr κ _ => [κ]
  | .agg l => keysL l
  | .tup l => keysL l
  | .fn _ l => keysL l
  | _ => []
where
  keysL : List AV → List Nat
    | [] => []
    | v :: l => keysV v ++ keysL l

def memN : Nat → List Nat → Bool
  | _, [] => false
  | x, y :: l => if y = x then true else memN x l

def nodupN : List Nat → Bool
  | [] => true
  | x :: l => !memN x l && nodupN l

/-- What is reached from some keys. -/
def reachK (ob : List OE) : Nat → List Nat → List Nat → List Nat
  | 0, _, acc => acc
  | _ + 1, [], acc => acc
  | n + 1, κ :: r, acc => if memN κ acc then reachK ob n r acc else match getO ob κ with
    | some (.box cs) => reachK ob n (cs.flatMap keysV ++ r) (acc ++ [κ])
    | some (.row _ _ _ _) => reachK ob n r (acc ++ [κ])
    | none => reachK ob n r acc

/-- How an argument is handed: rows as they are, or for good. -/
def hand (ob : List OE) : Nat → Bool → AV → AV
  | 0, _, _ => .top
  | n + 1, tok, v => match v with
    | .row κ => if tok then .row κ else match getO ob κ with
      | some (.row _ t els _) => .sl false t els
      | _ => .top
    | .agg l => .agg (l.map (hand ob n tok))
    | .fn f l => .fn f (l.map (hand ob n true))
    | .nil e t => if tok then .nil e t else .sl false t []
    | .emp _ t => .sl false t []
    | .tup _ => .top
    | .xs b t l => .sl b t l
    | v => v

def handKeys : Nat → Bool → AV → List Nat
  | 0, _, _ => []
  | n + 1, tok, v => match v with
    | .row κ => if tok then [] else [κ]
    | .agg l => l.flatMap (handKeys n tok)
    | _ => []

def isBox : Option OB → Bool
  | some (.box _) => true
  | _ => false

/-- The objects of some keys, named otherwise. -/
def obsOf (ob : List OE) (ρ : List (Nat × Nat)) : List OE := ρ.filterMap fun p => (getO ob p.1).map fun o => .set p.2 (renO ρ o)

def keysOf : List OE → List Nat
  | [] => []
  | .set κ _ :: r => κ :: keysOf r
  | _ :: r => keysOf r

def setOnly : List OE → Bool
  | [] => true
  | .set _ _ :: r => setOnly r
  | _ :: _ => false

/-- The caller's key of a callee's key. -/
def bk (ks : List Nat) (base k : Nat) : Nat := if 1000000 ≤ k ∧ k < 1000000 + ks.length then ks.getD (k - 1000000) 0 else base + k

def freshK (ks : List Nat) (base : Nat) : List Nat → List Nat
  | [] => []
  | k :: r => if 1000000 ≤ k ∧ k < 1000000 + ks.length then freshK ks base r else (base + k) :: freshK ks base r

def setsOf (ρ : List (Nat × Nat)) (ks : List Nat) (base : Nat) : List OE → List OE
  | [] => []
  | .set k o :: r => .set (bk ks base k) (renO ρ o) :: setsOf ρ ks base r
  | _ :: r => setsOf ρ ks base r

/-- Behind the call. -/
def St.afterI (s : St) (ks : List Nat) (base : Nat) (ρ : List (Nat × Nat)) (ob2 : List OE) : St :=
  let kl := (ks.filter fun κ => !isBox (getO s.ob κ)) ++ freshK ks base (keysOf ob2)
  { tm := kl.map .kill ++ s.tm, ob := setsOf ρ ks base ob2 ++ (ks.map .del ++ (kl.map .kill ++ s.ob)) }

def St.callI {R : Type} (s : St) (ci : CallI) (d : Option Nat) (hs : List AV) (K : St → Option R) : Option R :=
  let ks := reachK s.ob 100 (hs.flatMap keysV) []
  let ρ := ks.zipIdx 1000000
  if nodupN ks && decide (ks.length < 1000) && ks.all (fun κ => (getO s.ob κ).isSome) then
    (ci.val (hs.map (renV ρ)) (obsOf s.ob ρ)).bind fun x =>
      let base := 10000000 * (d.getD 0 + 1)
      let ρ2 := (keysOf (ci.av x).2).map fun k => (k, bk ks base k)
      if nodupN (ρ2.map (·.2)) && setOnly (ci.av x).2 then K ((s.afterI ks base ρ2 (ci.av x).2).put d (renV ρ2 (ci.av x).1)) else none
  else none

/-- The arguments, as they are handed. -/
def handVs (s : St) : List Operand → List (Option Ty) → List Bool → List AV
  | [], _, _ => []
  | x :: r, ps, ms => hand s.ob 4 (ms.headD false) (retypeO (ps.headD none) (s.ev x)) :: handVs s r ps.tail ms.tail
def handKs (s : St) : List Operand → List Bool → List Nat
  | [], _ => []
  | x :: r, ms => handKeys 4 (ms.headD false) (s.ev x) ++ handKs s r ms.tail

/-! ### operations that turn objects -/
def evO {R : Type} (E : Env) (s : St) (o : Oper) (K : St → Option R) : Option R :=
  match o.op, o.dst with
  | .alloc t, some d => match findD E.D t with
    | some td => K ((s.new d (.box (td.zero.map (killV d)))).put (some d) (.ptr d 0))
    | none => none
  | .box t x, some d => match findD E.D t with
    | some td => if (retype E.D t (s.ev x)).cells.length = td.size ∧ (retype E.D t (s.ev x)).cells.all AV.cellOk = true then K ((s.new d (.box ((retype E.D t (s.ev x)).cells.map (killV d)))).put (some d) (.ptr d 0)) else none
    | none => none
  | .store t a x, none => match findD E.D t with
    | some td => match s.ev a with
      | .ptr κ off => match getO s.ob κ with
        | some (.box cs) => if (retype E.D t (s.ev x)).cells.length = td.size ∧ off + td.size ≤ cs.length ∧ (retype E.D t (s.ev x)).cells.all AV.cellOk = true then
            K { s with ob := .set κ (.box (cs.take off ++ (retype E.D t (s.ev x)).cells.zipWith evQ.nilAs ((cs.drop off).take td.size) ++ cs.drop (off + td.size))) :: s.ob } else none
        | _ => none
      | .rp κ i off => match getO s.ob κ with
        | some (.row e0 ty els sn) => if (sn || !((frzKeys s.ob 3 (s.ev x)).all fun κ' => κ' != κ)) = true then none else (els[i]?).bind fun e =>
            if (s.ev x).cells.length = td.size ∧ off + td.size ≤ (enc false ty e).length ∧ (s.ev x).cells.all AV.cellOk = true then
              match dec ty ((enc false ty e).take off ++ (frz s.ob 3 (s.ev x)).cells ++ (enc false ty e).drop (off + td.size)) with
              | some (e', []) => K { s with ob := .set κ (.row e0 ty (els.set i e') false) :: (s.snapAll (frzKeys s.ob 3 (s.ev x))).ob }
              | _ => none
            else none
        | _ => none
      | _ => none
    | none => none
  | .buildSlice t n parts, some d => match findD E.D t with
    | some { sh := .sl e ty, .. } => match findD E.D e with
      | some td => if parts.size = n ∧ td.size = ty.sz ∧ n * td.size ≤ 1000 then match litEls s.ob ty 0 (parts.toList.map fun p => (p.1, s.ev p.2)) with
        | some els => K (((s.snapAll (parts.toList.flatMap fun p => frzKeys s.ob 3 (s.ev p.2))).new d (.row e ty els false)).put (some d) (.row d))
        | none => (litQ ty 0 (parts.toList.map fun p => (p.1, s.ev p.2))).bind fun els => K (s.put (some d) (.xs true ty els))
        else none
      | none => none
    | _ => none
  | .makeSlice t x y, some d => match findD E.D t with
    | some { sh := .sl e ty, .. } => match s.ev x, s.ev y with
      | .int .i64 n, .int .i64 m => bif decide (0 ≤ n) && (decide (n.toNat ≤ LIM) && (n == m)) then K ((s.new d (.row e ty (List.replicate n.toNat ty.zero) false)).put (some d) (.row d)) else none
      | _, _ => none
    | _ => none
  | .call c, dst => match c.callee with
    | .builtin .append => match c.args.toList, c.argTypes.toList, dst with
      | [x, y], [t, t'], some d => if t = t' then match findD E.D t with
        | some { sh := .sl e ty, .. } => match srcEls s.ob ty (s.ev y) with
          | some src => match s.ev x with
            | .nil _ _ => bif decide (src.length ≤ LIM) then K ((s.new d (.row e ty src false)).put (some d) (.row d)) else none
            | .row κ => match getO s.ob κ with
              | some (.row e' ty' els sn) => if h : ty' = ty ∧ e' = e then
                  (bif decide (els.length + src.length ≤ LIM) then K ((s.new κ (.row e ty (castL h.1 els ++ src) sn)).put (some d) (.row κ)) else none) else none
              | _ => none
            | .xs b ty' l => if b && !ty'.scal then none else if h : ty' = ty then (if isEmptyL src = false then
                  (bif decide (l.length + src.length ≤ LIM) then K ((s.new d (.row e ty (castL h l ++ src) false)).put (some d) (.row d)) else none) else none) else none
            | _ => none
          | none => none
        | _ => none
        else match findD E.D t, findD E.D t', s.ev x, s.ev y with
          | some { sh := .sl e ty, .. }, some { sh := .int _, .. }, .nil _ _, .int .i64 n =>
            bif decide (0 < n) && decide (n.toNat ≤ LIM) then K ((s.new d (.row e ty (List.replicate n.toNat ty.zero) false)).put (some d) (.row d)) else none
          | _, _, _, _ => none
      | _, _, _ => none
    | .value fv => match s.ev fv with
      | .fn g caps => match E.T g with
        | some ce => (ce.val (argVs s c.args.toList ce.params ++ caps.map (conv s.ob 6))).bind fun r =>
            K ((s.snapAll ((c.args.toList.map s.ev).flatMap (snaps s.ob 6) ++ caps.flatMap (snaps s.ob 6))).put dst (ce.av r))
        | none => match E.I g with
          | some ci => (s.snapAll (handKs s c.args.toList ci.toks)).callI ci dst (handVs s c.args.toList ci.params ci.toks ++ caps.map (hand s.ob 4 true)) K
          | none => none
      | _ => none
    | _ => evQ E s o fun v => K (s.put dst v)
  | .slice t x lo hi mx, some d => match s.ev x with
    | .row κ => match findD E.D t, getO s.ob κ, lo, hi.map s.ev, mx with
      | some { sh := .sl e ty, .. }, some (.row e' ty' els sn), none, some (.int _ n), none =>
        if h : ty' = ty ∧ e' = e then (if sn then none else
          bif decide (0 ≤ n) && decide (n.toNat ≤ els.length) then K ((s.new κ (.row e ty (castL h.1 (els.take n.toNat)) false)).put (some d) (.row κ)) else none) else none
      | _, _, _, _, _ => none
    | _ => evQ E s o fun v => K (s.put (some d) v)
  | _, d => evQ E s o fun v => K (s.put d v)

/-- A guard: there is none; it was passed by itself; its word, and where it stands. -/
inductive GW where
  | always
  | never
  | word (d : Nat) (b want : Bool)

/-- The guard's word, and where it stands. -/
def guardOf (ops : List Oper) (s : St) (o : Oper) : Option GW :=
  match o.guard with
  | none => some .always
  | some (j, want) => match ops[j]? with
    | some oj => match oj.dst with
      | some d => match getT s.tm d with
        | .bool b => some (.word d b want)
        | .tup [] => some .never
        | _ => none
      | none => none
    | none => none

/-- One operation under its guard; behind it the guard is known. -/
def evG {R : Type} (ops : List Oper) (s : St) (o : Oper) (run : St → (St → Option R) → Option R) (K : St → Option R) : Option R :=
  match guardOf ops s o with
  | some .always => run s K
  | some .never => K (s.put o.dst (.tup []))
  | some (.word d b want) =>
    bif b then (if want then run (s.put (some d) (.bool true)) K else K ((s.put (some d) (.bool true)).put o.dst (.tup [])))
    else (if want then K ((s.put (some d) (.bool false)).put o.dst (.tup [])) else run (s.put (some d) (.bool false)) K)
  | none => none

/-- In the text's order. -/
def evOps {R : Type} (E : Env) (ops : List Oper) : List Oper → St → (St → Option R) → Option R
  | [], s, K => K s
  | o :: r, s, K => evG ops s o (fun s K => evO E s o K) fun s' => evOps E ops r s' K

/-- Calls in a region whose order is open: what they are handed is not handed over for good. -/
def evQC {R : Type} (E : Env) (s : St) (o : Oper) (K : AV → Option R) : Option R :=
  match o.op with
  | .call c => match c.callee with
    | .value f => match s.ev f with
      | .fn g caps => match E.T g with
        | some ce => if isEmptyL ((c.args.toList.map s.ev).flatMap (snaps s.ob 6) ++ caps.flatMap (snaps s.ob 6)) then
            (ce.val (argVs s c.args.toList ce.params ++ caps.map (conv s.ob 6))).bind fun r => K (ce.av r) else none
        | none => none
      | _ => none
    | _ => evQ E s o K
  | .buildSlice t n parts => match findD E.D t with
    | some { sh := .sl e ty, .. } => match findD E.D e with
      | some td => if parts.size = n ∧ td.size = ty.sz ∧ n * td.size ≤ 1000 ∧ isEmptyL (parts.toList.flatMap fun p => frzKeys s.ob 3 (s.ev p.2)) = true then
          match litEls s.ob ty 0 (parts.toList.map fun p => (p.1, s.ev p.2)) with
          | some els => K (.xs false ty els)
          | none => (litQ ty 0 (parts.toList.map fun p => (p.1, s.ev p.2))).bind fun els => K (.xs true ty els)
          else none
      | none => none
    | _ => none
  | _ => evQ E s o K

/-- Operations that turn nothing, in the text's order (in any order: the same). -/
def evQs {R : Type} (E : Env) (ops : List Oper) : List Oper → St → (St → Option R) → Option R
  | [], s, K => K s
  | o :: r, s, K => evG ops s o (fun s K' => evQC E s o fun v => K' (s.put o.dst v)) fun s' => evQs E ops r s' K

def topAll (s : St) (ops : List Oper) : St := { s with tm := ops.filterMap (fun o => o.dst.map fun d => .set d .top) ++ s.tm }

inductive Ex where
  | normal
  | exit (id : Nat)
  | ret

/-- How a region is read: 'seq'; 'quiet' (it turns nothing); 'one t': it turns nothing, and what counts behind it is the bool t. -/
inductive RM where
  | seq
  | quiet
  | one (t : Nat)
  | any (effs : List Nat)   -- an open order; these operations turn something, one behind the other

/-! ### a region whose order is open, in which something is turned -/
def noTok (κ : Nat) : AV → Bool
  | .row κ' => κ' != κ
  | .rp κ' _ _ => κ' != κ
  | .ptr κ' _ => κ' != κ
  | .agg l => noTokL κ l
  | .tup l => noTokL κ l
  | .fn _ l => noTokL κ l
  | .ep _ l _ => noTokL κ l
  | _ => true
where
  noTokL (κ : Nat) : List AV → Bool
    | [] => true
    | v :: l => noTok κ v && noTokL κ l

def noToks : List Nat → AV → Bool
  | [], _ => true
  | κ :: l, v => noTok κ v && noToks l v

/-- The keys that are read. -/
def touch (ob : List OE) : Nat → AV → List Nat
  | 0, _ => []
  | n + 1, v => match v with
    | .row κ => [κ]
    | .rp κ _ _ => [κ]
    | .ptr κ _ => κ :: (match getO ob κ with
      | some (.box cs) => cs.flatMap (touch ob n)
      | _ => [])
    | .agg l => l.flatMap (touch ob n)
    | .fn _ l => l.flatMap (touch ob n)
    | _ => []

/-- The entries do not turn what lies at the key. -/
def dOk : List OE → Nat → Option OB → Bool
  | [], _, _ => true
  | .set κ' _ :: r, κ, o => κ' != κ && dOk r κ o
  | .snap κ' :: r, κ, o => κ' != κ && dOk r κ o
  | .del κ' :: r, κ, o => κ' != κ && dOk r κ o
  | .kill κ' :: r, κ, o => (match o with
    | some (.box cs) => cs.all (noTok κ')
    | _ => true) && dOk r κ o

/-- What an operation did: into its temporary; killed; put ahead of the objects; the objects before; what it looked at, as it was written; the keys that it read. -/
structure Rec where
  u : AV
  kl : List Nat
  δ : List OE
  before : List OE
  raw : List AV
  ks : List Nat

def dstV (o : Oper) (s : St) : AV := match o.dst with
  | some d => getT s.tm d
  | none => .top

def killsOf : List TE → List Nat
  | [] => []
  | .set _ _ :: r => killsOf r
  | .kill κ :: r => κ :: killsOf r

/-- What a temporary was given, as it was written. -/
def rawT (s0 : St) (t : Nat) : List Oper → List Rec → AV
  | o :: l, rc :: rs => if o.dst = some t then rc.u else rawT s0 t l rs
  | _, _ => getT s0.tm t

def evD {R : Type} (E : Env) (ops : List Oper) (effs : List Nat) (s0 : St) : List Oper → Nat → St → List Rec → (St → List Rec → Option R) → Option R
  | [], _, s, rs, K => K s rs
  | o :: l, i, s, rs, K =>
    if memN i effs then
      match o.guard with
      | none => evO E s o fun s' => evD E ops effs s0 l (i + 1) s' (rs ++ [⟨dstV o s', killsOf (s'.tm.take (s'.tm.length - s.tm.length)), s'.ob.take (s'.ob.length - s.ob.length), s.ob, [], []⟩]) K
      | _ => none
    else evG ops s o (fun s K' => evQC E s o fun v => K' (s.put o.dst v)) fun s' =>
      evD E ops effs s0 l (i + 1) s' (rs ++ [⟨dstV o s', [], [], s.ob, (o.looksAt ops.toArray).map fun t => rawT s0 t ops rs, o.op.operands.toList.flatMap fun x => touch s.ob 7 (s.ev x)⟩]) K

/-- Who comes before, as bits. -/
def maskOf (tab : List Nat) : List Edge → Nat
  | [] => 0
  | e :: r => bif Region.binds .any e then ((1 <<< e.on) ||| (tab.getD e.on 0)) ||| maskOf tab r else maskOf tab r
def ancTab : List Oper → List Nat → List Nat
  | [], tab => tab
  | o :: l, tab => ancTab l (tab ++ [maskOf tab o.after.toList])

def ordB (tab : List Nat) (i j : Nat) : Bool := (tab.getD j 0).testBit i || (tab.getD i 0).testBit j

/-- Two operations, of which the second turns something, whose order is open. -/
def apartB (effs : List Nat) (i : Nat) (rc re : Rec) : Bool :=
  !memN i effs && (noToks re.kl rc.u && (rc.raw.all (noToks re.kl) && rc.ks.all fun κ => dOk re.δ κ (getO re.before κ)))

def anyOk (tab : List Nat) (effs : List Nat) (rs : List Rec) : Bool :=
  effs.all fun e => match rs[e]? with
    | some re => (List.range rs.length).all fun i => match rs[i]? with
      | some rc => i == e || (ordB tab i e || apartB effs i rc re)
      | none => true
    | none => false

structure Cfg where
  live : Nat → Live      -- by the number of the loop's block
  mode : Nat → RM        -- by the region's number

def evR {R : Type} (E : Env) (C : Cfg) (id : Nat) (ops : List Oper) (draw : Bool) (s : St) (K : St → Option R) : Option R :=
  match C.mode id with
  | .seq => if draw then none else evOps E ops ops s K
  | .quiet => evQs E ops ops s K
  | .any effs => evD E ops effs s ops 0 s [] fun s' rs => if draw then (if anyOk (ancTab ops []) effs rs then K s' else none) else K s'
  | .one t => (evQs E ops ops s fun s' => match getT s'.tm t with | .bool b => some b | _ => none).bind fun b => K ((topAll s ops).put (some t) (.bool b))

def evL {R : Type} (step : St → (Ex → St → Option R) → Option R) (mk mx : St → St) : Nat → St → (Ex → St → Option R) → Option R
  | 0, _, _ => none
  | k + 1, s, K => step s fun e s' => match e with
    | .normal => evL step mk mx k (mk s') K
    | .exit id => K (.exit id) (mx s')
    | .ret => K .ret (mx s')

/-- How loops are read: by the block's number, a round, what is kept at its head. -/
abbrev Lp (R : Type) := Nat → (St → (Ex → St → Option R) → Option R) → (St → St) → (St → St) → St → (Ex → St → Option R) → Option R

/-- n: the number of the block in which we are. -/
def evC {R : Type} (E : Env) (C : Cfg) (lp : Lp R) : Code → Nat → St → (Ex → St → Option R) → Option R
  | .skip, _, s, K => K .normal s
  | .label _, _, s, K => K .normal s
  | .region id ops draw, _, s, K => evR E C id ops.toList draw s (K .normal)
  | .seq a b, n, s, K => evC E C lp a n s fun e s' => match e with
    | .normal => evC E C lp b n s' K
    | .exit id => K (.exit id) s'
    | .ret => K .ret s'
  | .cond c a b, n, s, K => match s.ev c with
    | .bool p => bif p then evC E C lp a n s K else evC E C lp b n s K
    | _ => none
  | .block id c, _, s, K => evC E C lp c id s fun e s' => match e with
    | .normal => K .normal s'
    | .exit id' => if id' = id then K .normal s' else K (.exit id') s'
    | .ret => K .ret s'
  | .loop c, n, s, K => lp n (fun s K => evC E C lp c n s K) (C.live n).head (C.live n).leave ((C.live n).head s) K
  | .exit id, _, s, K => K (.exit id) s
  | .ret, _, s, K => K .ret s
  | .scope c, n, s, K => evC E C lp c n s K
  | _, _, _, _ => none

/-- The loops, each with its block's number. -/
def loopsIn : Code → Nat → List (Nat × Code)
  | .seq a b, n => loopsIn a n ++ loopsIn b n
  | .cond _ a b, n => loopsIn a n ++ loopsIn b n
  | .block id c, _ => loopsIn c id
  | .loop c, n => (n, c) :: loopsIn c n
  | .scope c, n => loopsIn c n
  | _, _ => []

def resOf (D : List (Nat × TD)) (s : St) : List ResultVar → Option (List AV)
  | [] => some []
  | .tmp t :: r => match resOf D s r with
    | some l => some (getT s.tm t :: l)
    | none => none
  | .cell a t :: r => match findD D t, resOf D s r with
    | some d, some l => match getT s.tm a with
      | .ptr κ off => match getO s.ob κ with
        | some (.box cs) => if off + d.size ≤ cs.length then some (cellsAt cs off d.size d.agg :: l) else none
        | _ => none
      | _ => none
    | _, _ => none

def argT : Nat → List AV → List TE
  | _, [] => []
  | j, v :: r => .set j v :: argT (j + 1) r

/-- A function's run. -/
def evF {R : Type} (E : Env) (C : Cfg) (lp : Lp R) (fn : Func) (args : List AV) (K : AV → Option R) : Option R :=
  match fn.body with
  | some c => evC E C lp c 0 { tm := argT 0 args, ob := [] } fun e s => match e with
    | .exit _ => none
    | _ => match resOf E.D s fn.results.toList with
      | some [v] => K (frz s.ob 3 v)
      | some l => K (.tup (l.map (frz s.ob 3)))
      | none => none
  | none => none

/-! ### a function that turns objects -/
/-- The results' cells, one behind another, and back. -/
def leavesOf : List AV → List AV
  | [] => []
  | .agg l :: r => l ++ leavesOf r
  | v :: r => v :: leavesOf r
def regroup : List AV → List AV → List AV
  | [], _ => []
  | .agg l :: r, ls => .agg (ls.take l.length) :: regroup r (ls.drop l.length)
  | _ :: r, ls => ls.headD .top :: regroup r ls.tail

/-- Keys that are not among others. -/
def newKs (l ks : List Nat) : List Nat := ks.filter fun κ => !memN κ l

def oneV : List AV → AV
  | [v] => v
  | l => .tup l

def evFI {R : Type} (E : Env) (C : Cfg) (lp : Lp R) (fn : Func) (modes : List (Nat × CM)) (cms : List (Nat × Nat × CM)) (args : List AV) (obs : List OE) (K : AV → List OE → Option R) : Option R :=
  match fn.body with
  | some c => evC E C lp c 0 { tm := argT 0 args, ob := obs } fun e s => match e with
    | .exit _ => none
    | _ => match resOf E.D s fn.results.toList with
      | some us =>
        let s2 := Live.turnO (Live.turn { tm := argT 0 (leavesOf us), ob := s.ob } modes) cms
        let ls := (List.range (leavesOf us).length).map (getT s2.tm)
        let ks := reachK s2.ob 100 (keysOf obs ++ ls.flatMap keysV) []
        let ρ := ((keysOf obs).filter fun κ => memN κ ks).map (fun κ => (κ, κ)) ++ (newKs (keysOf obs) ks).zipIdx 2000000
        if nodupN (ρ.map (·.1)) && (nodupN (ρ.map (·.2)) && decide (ls.length ≤ 1000)) then K (renV ρ (oneV (regroup us ls))) (obsOf s2.ob ρ) else none
      | none => none
  | none => none

end Go.Proofs.Ytbcijglbinaioaa.Ev
