/- The evaluator over plain data and that it is right: the texts IdA to IdA. Conditions: those of each theorem. -/
import Derived.Calls
/-! An evaluator over plain data for the programs of the Go model: slices are lists, variables whose address is taken and rows that are written lie by name. Its definitions. Conditions: none. -/
namespace Go.Proofs.YtcpidokhkcmdfaaGreat.I
open Go
set_option linter.unusedVariables false

/-! ### Data, cells, values, objects -/
/-- Plain data: what never turns. A slice: its elements, each by its cells. -/
inductive D where
  | bool (b : Bool)
  | int (k : IntKind) (n : Int)
  | str (s : List UInt8)
  | list (xs : List (List D))
  /-- the same, with no room behind -/
  | lit (xs : List (List D))
  deriving Inhabited
/-- What a cell holds. -/
inductive C where
  | d (x : D)
  | nils
  | row (n ver : Nat)
  | ptr (n off : Nat)
  | eptr (n ver i off : Nat)
  | dptr (cs : List D) (off : Nat)
  | nilp
  | fn (f : Nat) (caps : List C)
  | nilf
  | fresh (sz : Nat) (xs : List (List D))
  deriving Inhabited
/-- What a slot holds; 'u': nothing is known of it. 'kb': a truth that the walk has parted on. -/
inductive V where
  | u
  | kb (b : Bool)
  | c (x : C)
  | agg (cs : List C)
  | tup (vs : List V)
  deriving Inhabited
/-- What lies by name: a variable, by its cells; a row, by its elements of so many cells. -/
inductive O where
  | box (cs : List C)
  | row (sz : Nat) (xs : List (List D)) (ver : Nat) (ex : Bool)
  deriving Inhabited
structure St where
  F : List (Nat × V)
  H : List (Nat × O)
  Z : List Nat

def find {α : Type} : List (Nat × α) → Nat → Option α
  | [], _ => none
  | (m, a) :: r, n => bif Nat.beq m n then some a else find r n
def memb : List Nat → Nat → Bool
  | [], _ => false
  | m :: r, n => bif Nat.beq m n then true else memb r n
def omap {α β : Type} (f : α → Option β) : List α → Option (List β)
  | [] => some []
  | a :: r => (f a).bind fun b => (omap f r).bind fun bs => some (b :: bs)
def idxOf : List Nat → Nat → Option Nat
  | [], _ => none
  | m :: r, n => bif Nat.beq m n then some 0 else (idxOf r n).bind fun i => some (i + 1)

/-! ### Shapes -/
inductive Leaf where
  | int (k : IntKind)
  | bool
  | str
  | list
  | lit
  | rowp (j ver : Nat)
  | fresh (sz : Nat)
@[reducible] def Leaf.T : Leaf → Type
  | .int _ => Int
  | .bool => Bool
  | .str => List UInt8
  | .list => List (List D)
  | .lit => List (List D)
  | .rowp _ _ => Unit
  | .fresh _ => List (List D)
def kEq (a b : IntKind) : Bool := decide (a = b)
def Leaf.enc : (l : Leaf) → l.T → C
  | .int k, n => .d (.int k n)
  | .bool, b => .d (.bool b)
  | .str, s => .d (.str s)
  | .list, xs => .d (.list xs)
  | .lit, xs => .d (.lit xs)
  | .rowp j ver, _ => .row j ver
  | .fresh sz, xs => .fresh sz xs
def Leaf.dec : (l : Leaf) → C → Option l.T
  | .int k, .d (.int k' n) => bif kEq k k' then some n else none
  | .bool, .d (.bool b) => some b
  | .str, .d (.str s) => some s
  | .list, .d (.list xs) => some xs
  | .list, .d (.lit xs) => some xs
  | .lit, .d (.lit xs) => some xs
  | .rowp j ver, .row j' ver' => bif Nat.beq j j' && Nat.beq ver ver' then some () else none
  | .fresh sz, .fresh sz' xs => bif Nat.beq sz sz' then some xs else none
  | _, _ => none
@[reducible] def Tup : List Leaf → Type
  | [] => Unit
  | l :: ls => l.T × Tup ls
def encs : (ls : List Leaf) → Tup ls → List C
  | [], _ => []
  | l :: ls, t => l.enc t.1 :: encs ls t.2
def decs : (ls : List Leaf) → List C → Option (Tup ls)
  | [], [] => some ()
  | l :: ls, c :: cs => (l.dec c).bind fun x => (decs ls cs).bind fun xs => some (x, xs)
  | _, _ => none
/-- The shape of a result, or of a part of it. -/
inductive S1 where
  | cell (l : Leaf)
  | agg (ls : List Leaf)
@[reducible] def S1.T : S1 → Type
  | .cell l => l.T
  | .agg ls => Tup ls
def S1.enc : (s : S1) → s.T → V
  | .cell l, x => .c (l.enc x)
  | .agg ls, x => .agg (encs ls x)
def S1.dec : (s : S1) → V → Option s.T
  | .cell l, .c x => l.dec x
  | .agg ls, .agg cs => decs ls cs
  | _, _ => none
@[reducible] def TupS : List S1 → Type
  | [] => Unit
  | s :: ss => s.T × TupS ss
def encS : (ss : List S1) → TupS ss → List V
  | [], _ => []
  | s :: ss, t => s.enc t.1 :: encS ss t.2
def decS : (ss : List S1) → List V → Option (TupS ss)
  | [], [] => some ()
  | s :: ss, v :: vs => (s.dec v).bind fun x => (decS ss vs).bind fun xs => some (x, xs)
  | _, _ => none
inductive Sh where
  | one (s : S1)
  | tup (ss : List S1)
@[reducible] def Sh.T : Sh → Type
  | .one s => s.T
  | .tup ss => TupS ss
def Sh.enc : (s : Sh) → s.T → V
  | .one s, x => s.enc x
  | .tup ss, x => .tup (encS ss x)
def Sh.dec : (s : Sh) → V → Option s.T
  | .one s, v => s.dec v
  | .tup ss, .tup vs => decS ss vs
  | _, _ => none
inductive OSh where
  | box (ls : List Leaf)
  | row (sz ver : Nat)
@[reducible] def OSh.T : OSh → Type
  | .box ls => Tup ls
  | .row _ _ => List (List D)
def OSh.enc : (s : OSh) → s.T → O
  | .box ls, x => .box (encs ls x)
  | .row sz ver, xs => .row sz xs ver false
def OSh.dec : (s : OSh) → O → Option s.T
  | .box ls, .box cs => decs ls cs
  | .row sz ver, .row sz' xs ver' _ => bif Nat.beq sz sz' && Nat.beq ver ver' then some xs else none
  | _, _ => none
@[reducible] def TupO : List OSh → Type
  | [] => Unit
  | s :: ss => s.T × TupO ss
def encO : (ss : List OSh) → TupO ss → List O
  | [], _ => []
  | s :: ss, t => s.enc t.1 :: encO ss t.2
def decO : (ss : List OSh) → List O → Option (TupO ss)
  | [], [] => some ()
  | s :: ss, v :: vs => (s.dec v).bind fun x => (decO ss vs).bind fun xs => some (x, xs)
  | _, _ => none
structure CSh where
  res : Sh
  objs : List OSh
@[reducible] def CSh.T (s : CSh) : Type := s.res.T × TupO s.objs
def CSh.dec (s : CSh) (r : V × List O) : Option s.T := (s.res.dec r.1).bind fun x => (decO s.objs r.2).bind fun y => some (x, y)

/-! ### Hints: none of them need be right; a wrong one makes the evaluator stop -/
/-- Of a call: which parameter is handed as a row that is written (with how many cells an element), whether it grows, which cell of the result is a row. -/
structure Hint where
  rowArg : Option (Nat × Nat) := none
  grows : Bool := false
  resRow : Option Nat := none
  sz : Nat := 0
  flat : Bool := false
structure Adopt where
  box : Option Nat
  slot : Nat
  name : Nat
  sz : Nat
/-- Of a loop's head: which slots and objects live on; what is taken for an empty row of a name. -/
structure Keep where
  slots : List Nat := []
  objs : List Nat := []
  adopt : List Adopt := []
  grow : Bool := false
structure Hints where
  call : List (Nat × Hint) := []
  loop : List (Nat × List (Nat × Keep)) := []
  split : List (Nat × List Nat) := []
  lit : List Nat := []
abbrev Oracle := Nat → Hint → List V → List O → Option (V × List O)
def callT (call : Oracle) (sh : CSh) (f : Nat) (h : Hint) (args : List V) (objs : List O) : Option sh.T := (call f h args objs).bind sh.dec

/-! ### What an operation asks of the state -/
inductive M (α : Type) : Type 1 where
  | ret (a : α)
  | fail
  | look (n : Nat) (k : O → M α)
  | gone (n : Nat) (k : M α)
  | live (n : Nat) (k : M α)
  | opt {β : Type} (o : Option β) (k : β → M α)
  | call (f : Nat) (h : Hint) (args : List V) (objs : List O) (sh : CSh) (k : sh.T → M α)
def M.run {α A : Type} (call : Oracle) (H : List (Nat × O)) (Z : List Nat) : M α → List Nat → (α → List Nat → Option A) → Option A
  | .ret a, lg, K => K a lg
  | .fail, _, _ => none
  | .look n k, lg, K => match find H n with
    | some o => (k o).run call H Z (n :: lg) K
    | none => none
  | .gone n k, lg, K => match find H n with
    | none => k.run call H Z (n :: lg) K
    | some _ => none
  | .live n k, lg, K => bif memb Z n then none else k.run call H Z ((n + 1000000) :: lg) K
  | .opt o k, lg, K => o.bind fun b => (k b).run call H Z lg K
  | .call f h args objs sh k, lg, K => (callT call sh f h args objs).bind fun t => (k t).run call H Z lg K
def M.need {α : Type} (b : Bool) (m : M α) : M α := .opt (bif b then some () else none) fun _ => m

/-- What an operation does: the value; what it writes; what it makes, by its own slot's name; which rows it lets be seen as data for good. -/
structure Eff where
  v : V
  upd : List (Nat × O) := []
  new : Option O := none
  fz : List Nat := []
def pureM (v : V) : M Eff := .ret { v := v }
def loc (t : Nat) : Nat := t + 1000

/-! ### Types -/
def isAggT (P : Program) (t : TypeId) : Bool := match P.underlying t with
  | some (.struct _) | some (.array _ _) => true
  | _ => false
def okT (P : Program) (t : TypeId) : Bool := (P.underlying t).isSome
def catO {α : Type} : List (Option (List α)) → Option (List α)
  | [] => some []
  | x :: r => x.bind fun a => (catO r).bind fun b => some (a ++ b)
def leavesF (P : Program) : Nat → TypeId → Option (List Leaf)
  | 0, _ => none
  | n + 1, t => match P.underlying t with
    | some .bool => some [.bool]
    | some (.int k) => some [.int k]
    | some .string => some [.str]
    | some (.slice _) => some [.list]
    | some (.struct fs) => catO (fs.toList.map fun f => leavesF P n f.type)
    | _ => none
def leaves (P : Program) (t : TypeId) : Option (List Leaf) := leavesF P 8 t
def setAt {α : Type} : List α → Nat → α → List α
  | [], _, _ => []
  | _ :: r, 0, b => b :: r
  | a :: r, n + 1, b => a :: setAt r n b
def s1Of (P : Program) (t : TypeId) (row : Option (Nat × Leaf)) : Option S1 := (leaves P t).bind fun ls =>
  let ls := match row with
    | some (i, l) => setAt ls i l
    | none => ls
  bif isAggT P t then some (.agg ls) else match ls with
    | [l] => some (.cell l)
    | _ => none
def shOf (P : Program) (t : TypeId) (row : Option (Nat × Leaf)) : Option Sh := match P.underlying t with
  | some (.tuple ts) => (omap (fun t => s1Of P t none) ts.toList).bind fun ss => some (.tup ss)
  | _ => (s1Of P t row).bind fun s => some (.one s)

/-! ### Operands -/
def ofScalar : Value → Option C
  | .bool b => some (.d (.bool b))
  | .int k n => some (.d (.int k n))
  | .string s => some (.d (.str s.data.toList))
  | .pointer none => some .nilp
  | .slice none 0 0 => some .nils
  | .nilFunc => some .nilf
  | _ => none
def ofValue : Value → V
  | .agg cs => match omap ofScalar cs.toList with
    | some l => .agg l
    | none => .u
  | v => match ofScalar v with
    | some c => .c c
    | none => .u
def V.norm : V → V
  | .kb b => .c (.d (.bool b))
  | v => v
def ev (F : List (Nat × V)) : Operand → V
  | .tmp t => match find F t with
    | some v => v.norm
    | none => .u
  | .const v => ofValue v
  | .global _ => .u
  | .func f => .c (.fn f [])
def V.cells : V → Option (List C)
  | .c x => some [x]
  | .agg cs => some cs
  | .kb b => some [.d (.bool b)]
  | _ => none

/-! ### Arithmetic, by name -/
def shlv (k : IntKind) (a b : Int) : Int := k.wrap (a * 2 ^ min b.toNat k.bits)
def shrv (k : IntKind) (a b : Int) : Int := a.fdiv (2 ^ min b.toNat k.bits)
def andv (k : IntKind) (a b : Int) : Int := k.wrap (BitVec.ofInt k.bits a &&& BitVec.ofInt k.bits b).toNat
def orv (k : IntKind) (a b : Int) : Int := k.wrap (BitVec.ofInt k.bits a ||| BitVec.ofInt k.bits b).toNat
def xorv (k : IntKind) (a b : Int) : Int := k.wrap (BitVec.ofInt k.bits a ^^^ BitVec.ofInt k.bits b).toNat
def mnv (x y : Int) : Int := if y < x then y else x
def mxv (x y : Int) : Int := if y > x then y else x
/-- Strings one behind the other. -/
def cat (s t : List UInt8) : Option (List UInt8) := if s.length + t.length ≤ 9223372036854775807 then some (s ++ t) else none
/-- A byte of a string. -/
def bt (s : List UInt8) (i : Int) : Option Int := if 0 ≤ i then (s[i.toNat]?).map fun b => (b.toNat : Int) else none
/-- An element of a slice. -/
def ix (sz : Nat) (xs : List (List D)) (i : Int) : Option (List D) := if 0 ≤ i then (xs[i.toNat]?).bind fun e => if e.length = sz then some e else none else none
/-- A place in a row of so many. -/
def at_ (xs : List (List D)) (i : Int) : Option Nat := if 0 ≤ i ∧ i < xs.length then some i.toNat else none
/-- From a place to a place. -/
def subs {α : Type} (s : List α) (l h : Int) : Option (List α) := if 0 ≤ l ∧ l ≤ h ∧ h ≤ s.length then some ((s.drop l.toNat).take (h - l).toNat) else none
/-- The same of elements of so many cells. -/
def subz (sz : Nat) (xs : List (List D)) (l h : Int) : Option (List (List D)) := if ∀ y ∈ xs, y.length = sz then subs xs l h else none
/-- Appended; elements of so many cells, so many bytes each. -/
def app (sz bytes : Nat) (xs ys : List (List D)) : Option (List (List D)) := if (xs.length + ys.length) * bytes ≤ 140737488355328 ∧ ∀ y ∈ ys, y.length = sz then some (xs ++ ys) else none
/-- The same behind a slice without room. -/
def appL (sz bytes : Nat) (xs ys : List (List D)) : Option (List (List D)) := if ∀ x ∈ xs, x.length = sz then app sz bytes xs ys else none
def byteRow (s : List UInt8) : List (List D) := s.map fun b => [D.int .u8 b.toNat]
def byteOf : List D → Option UInt8
  | [.int .u8 n] => some (UInt8.ofNat n.toNat)
  | _ => none
/-- The bytes of a row as a string. -/
def rowStr (xs : List (List D)) : Option (List UInt8) := omap byteOf xs
def boolV (b : Bool) : V := .c (.d (.bool b))
def intV (k : IntKind) (n : Int) : V := .c (.d (.int k n))
def strV (s : List UInt8) : V := .c (.d (.str s))

/-- Structs of numbers, truths and strings, with a name each, compared in line. -/
def eqFlat (P : Program) : Nat → List Field → List C → List C → Option Bool
  | _, [], [], [] => some true
  | i, f :: fs, x :: xs, y :: ys => bif Nat.beq f.offset i && !(f.name == "_") then
      (match P.underlying f.type, x, y with
      | some (.int _), .d (.int k a), .d (.int k' b) => bif kEq k k' then (eqFlat P (i + 1) fs xs ys).bind fun r => some (decide (a = b) && r) else none
      | some .bool, .d (.bool a), .d (.bool b) => (eqFlat P (i + 1) fs xs ys).bind fun r => some ((a == b) && r)
      | some .string, .d (.str a), .d (.str b) => (eqFlat P (i + 1) fs xs ys).bind fun r => some (decide (a = b) && r)
      | _, _, _ => none) else none
  | _, _, _, _ => none
def eqAgg (P : Program) (op : BinOp) (t : TypeId) (xs ys : List C) : M Eff := match P.underlying t with
  | some (.struct fs) => match eqFlat P 0 fs.toList xs ys with
    | some b => bif !P.eqGuardType P.depth t && !P.stoodInHeld t then (match op with
      | .eql => pureM (boolV b)
      | .neq => pureM (boolV (!b))
      | _ => .fail) else .fail
    | none => .fail
  | _ => .fail
def binM (P : Program) (op : BinOp) (t : TypeId) (x y : V) : M Eff :=
  match x, y with
  | .c (.d (.int k a)), .c (.d (.int k' b)) =>
    match op with
    | .shl => .need (decide (0 ≤ b)) (pureM (intV k (shlv k a b)))
    | .shr => .need (decide (0 ≤ b)) (pureM (intV k (shrv k a b)))
    | _ => bif kEq k k' then
      (match op with
      | .add => pureM (intV k (k.wrap (a + b)))
      | .sub => pureM (intV k (k.wrap (a - b)))
      | .mul => pureM (intV k (k.wrap (a * b)))
      | .quo => .need (!decide (b = 0)) (pureM (intV k (k.wrap (a.tdiv b))))
      | .rem => .need (!decide (b = 0)) (pureM (intV k (a.tmod b)))
      | .and => pureM (intV k (andv k a b))
      | .or => pureM (intV k (orv k a b))
      | .xor => pureM (intV k (xorv k a b))
      | .eql => pureM (boolV (decide (a = b)))
      | .neq => pureM (boolV (!decide (a = b)))
      | .lss => pureM (boolV (decide (a < b)))
      | .leq => pureM (boolV (decide (a ≤ b)))
      | .gtr => pureM (boolV (decide (b < a)))
      | .geq => pureM (boolV (decide (b ≤ a)))
      | _ => .fail) else .fail
  | .c (.d (.str a)), .c (.d (.str b)) =>
    match op with
    | .add => .opt (cat a b) fun r => pureM (strV r)
    | .eql => pureM (boolV (decide (a = b)))
    | .neq => pureM (boolV (!decide (a = b)))
    | .lss => pureM (boolV (Op.bytesLess a b))
    | .gtr => pureM (boolV (!(Op.bytesLess a b || decide (a = b))))
    | _ => .fail
  | .agg xs, .agg ys => eqAgg P op t xs ys
  | .c (.d (.bool a)), .c (.d (.bool b)) =>
    match op, P.underlying t with
    | .eql, some .bool => pureM (boolV (a == b))
    | .neq, some .bool => pureM (boolV (!(a == b)))
    | _, _ => .fail
  | _, _ => .fail
def unM (op : UnOp) (x : V) : M Eff :=
  match op, x with
  | .not, .c (.d (.bool b)) => pureM (boolV (!b))
  | .neg, .c (.d (.int k n)) => pureM (intV k (k.wrap (0 - n)))
  | _, _ => .fail

/-! ### Cells as data; the rows among them are data from now on -/
def asList (lit ex : Bool) (xs : List (List D)) : D := bif lit && ex then .lit xs else .list xs
def toD {α : Type} (lit : Bool) (c : C) (fz : List Nat) (k : D → List Nat → M α) : M α :=
  match c with
  | .d x => k x fz
  | .nils => k (.list []) fz
  | .row n ver => .look n fun o => match o with
    | .row _ xs v ex => bif Nat.beq v ver then k (asList lit ex xs) (n :: fz) else .fail
    | _ => .fail
  | _ => .fail
def toDs {α : Type} (lit : Bool) : List C → List Nat → (List D → List Nat → M α) → M α
  | [], fz, k => k [] fz
  | c :: cs, fz, k => toD lit c fz fun d fz => toDs lit cs fz fun ds fz => k (d :: ds) fz

/-! ### Loads and stores -/
def sub (e : List D) (off n : Nat) : List C := ((e.drop off).take n).map C.d
def litLeaf : Bool → Leaf → Leaf
  | true, .list => .lit
  | _, l => l
def ldD (P : Program) (lit : Bool) (t : TypeId) (e : List D) (off : Nat) (k : V → M Eff) : M Eff :=
  match leaves P t with
  | some ls => bif Nat.beq ls.length (P.cellsOf t) then (bif isAggT P t then .opt (decs ls (sub e off ls.length)) fun x => k (.agg (encs ls x)) else match ls with
    | [l] => .opt (decs [litLeaf lit l] (sub e off 1)) fun x => k (.c ((litLeaf lit l).enc x.1))
    | _ => .fail) else .fail
  | none => .fail
def nth {α : Type} : List α → Nat → Option α
  | [], _ => none
  | a :: _, 0 => some a
  | _ :: r, n + 1 => nth r n
def loadM (P : Program) (lit : Bool) (t : TypeId) (a : V) : M Eff :=
  match a with
  | .c (.ptr n off) => .look n fun o => match o with
    | .box cs => bif okT P t then (bif isAggT P t then (bif Nat.ble (off + P.cellsOf t) cs.length then pureM (.agg ((cs.drop off).take (P.cellsOf t))) else .fail) else match nth cs off with
      | some c => pureM (.c c)
      | none => .fail) else .fail
    | _ => .fail
  | .c (.eptr n ver i off) => .look n fun o => match o with
    | .row _ xs v _ => bif Nat.beq v ver then .opt (xs[i]?) fun e => ldD P lit t e off fun x => pureM x else .fail
    | _ => .fail
  | .c (.dptr e off) => ldD P lit t e off fun x => pureM x
  | _ => .fail
/-- These in place of as many from a place on. -/
def splice {α : Type} : List α → Nat → List α → List α
  | cs, _, [] => cs
  | [], _, _ => []
  | _ :: cs, 0, x :: xs => x :: splice cs 0 xs
  | c :: cs, n + 1, xs => c :: splice cs n xs
/-- May it lie in a variable? -/
def C.keeps : C → Bool
  | .fresh _ _ => false
  | _ => true
def storeM (P : Program) (lit : Bool) (t : TypeId) (a x : V) : M Eff :=
  match x.cells with
  | some xs => bif okT P t && Nat.beq xs.length (P.cellsOf t) && xs.all C.keeps then (match a with
    | .c (.ptr n off) => .look n fun o => match o with
      | .box cs => bif Nat.ble (off + xs.length) cs.length then .ret { v := .u, upd := [(n, .box (splice cs off xs))] } else .fail
      | _ => .fail
    | .c (.eptr n ver i off) => .look n fun o => match o with
      | .row sz es v ex => bif Nat.beq v ver && Nat.ble (off + xs.length) sz then .live n (.opt (es[i]?) fun e => toDs lit xs [] fun ds fz => bif memb fz n then .fail else .ret { v := .u, upd := [(n, .row sz (es.set i (splice e off ds)) v ex)], fz := fz }) else .fail
      | _ => .fail
    | _ => .fail) else .fail
  | none => .fail

/-! ### Made anew -/
def zeroCells (P : Program) (t : TypeId) : Option (List C) := match (P.info? t).bind (·.zero) with
  | some z => ((ofValue z).cells).bind fun cs => bif Nat.beq cs.length (P.cellsOf t) then some cs else none
  | none => none
def allocM (P : Program) (me : Nat) (t : TypeId) : M Eff := match zeroCells P t with
  | some cs => .ret { v := .c (.ptr me 0), new := some (.box cs) }
  | none => .fail
def boxM (me : Nat) (x : V) : M Eff := match x.cells with
  | some cs => bif cs.all C.keeps then .ret { v := .c (.ptr me 0), new := some (.box cs) } else .fail
  | none => .fail
/-- The parts of a struct, each in its place. -/
def fillM (P : Program) (fs : List Field) (cs : List C) : List (Nat × V) → Option (List C)
  | [] => some cs
  | (i, x) :: r => match nth fs i, x.cells with
    | some f, some xs => bif Nat.beq xs.length (P.cellsOf f.type) && Nat.ble (f.offset + xs.length) cs.length && xs.all C.keeps then fillM P fs (splice cs f.offset xs) r else none
    | _, _ => none
def buildM (P : Program) (t : TypeId) (ps : List (Nat × V)) : M Eff := match P.underlying t, zeroCells P t with
  | some (.struct fs), some cs => bif fs.toList.all (fun f => (P.info? f.type).isSome) then (match fillM P fs.toList cs ps with
    | some cs => pureM (.agg cs)
    | none => .fail) else .fail
  | _, _ => .fail
/-- The elements of a slice that is written out, in order. -/
def elemsM {α : Type} (lit : Bool) (sz : Nat) : Nat → List (Nat × V) → List Nat → (List (List D) → List Nat → M α) → M α
  | _, [], fz, k => k [] fz
  | i, (j, x) :: r, fz, k => match x.cells with
    | some xs => bif Nat.beq i j && Nat.beq xs.length sz then toDs lit xs fz fun ds fz => elemsM lit sz (i + 1) r fz fun es fz => k (ds :: es) fz else .fail
    | none => .fail
def buildSliceM (P : Program) (lit : Bool) (me : Nat) (t : TypeId) (len : Nat) (ps : List (Nat × V)) : M Eff := match P.underlying t with
  | some (.slice e) => bif Nat.beq ps.length len && Nat.ble (len * P.cellsOf e) 16777216 && (Nat.beq len 0 || (zeroCells P e).isSome) && (P.info? e).isSome then
      elemsM lit (P.cellsOf e) 0 ps [] fun es fz => .ret { v := .c (.row me 0), new := some (.row (P.cellsOf e) es 0 true), fz := fz } else .fail
  | _ => .fail
def makeSliceM (P : Program) (me : Nat) (t : TypeId) (l c : V) : M Eff := match P.underlying t, l, c with
  | some (.slice e), .c (.d (.int _ l)), .c (.d (.int _ c)) => match zeroCells P e with
    | some cs => .need (decide (0 ≤ l ∧ l ≤ c ∧ c * P.bytesOf e ≤ 140737488355328 ∧ c ≤ 140737488355328)) (toDs false cs [] fun ds fz => .ret { v := .c (.row me 0), new := some (.row (P.cellsOf e) (List.replicate l.toNat ds) 0 false), fz := fz })
    | none => .fail
  | _, _, _ => .fail

/-! ### Parts of values -/
def offP (P : Program) (t : TypeId) (f : Nat) : Option (Nat × TypeId) := match P.underlying t with
  | some (.struct fs) => (nth fs.toList f).bind fun f => bif Nat.beq (P.cellsOf f.type) 0 then none else some (f.offset, f.type)
  | _ => none
def fieldAddrM (P : Program) (t : TypeId) (a : V) (f : Nat) : M Eff := match offP P t f with
  | some (o, _) => match a with
    | .c (.ptr n off) => pureM (.c (.ptr n (off + o)))
    | .c (.eptr n ver i off) => pureM (.c (.eptr n ver i (off + o)))
    | .c (.dptr e off) => pureM (.c (.dptr e (off + o)))
    | _ => .fail
  | none => .fail
def fieldM (P : Program) (t : TypeId) (a : V) (f : Nat) : M Eff := match offP P t f, a with
  | some (o, ft), .agg cs => bif !okT P ft then .fail else bif isAggT P ft then (bif Nat.ble (o + P.cellsOf ft) cs.length then pureM (.agg ((cs.drop o).take (P.cellsOf ft))) else .fail) else match nth cs o with
    | some c => pureM (.c c)
    | none => .fail
  | _, _ => .fail
def indexM (P : Program) (t : TypeId) (x i : V) : M Eff := match P.underlying t, x, i with
  | some .string, .c (.d (.str s)), .c (.d (.int _ i)) => .opt (bt s i) fun b => pureM (intV .u8 b)
  | _, _, _ => .fail
def indexAddrM (P : Program) (t : TypeId) (x i : V) : M Eff := match P.underlying t, x, i with
  | some (.slice e), .c (.d (.list xs)), .c (.d (.int _ i)) => bif (P.info? e).isSome then .opt (ix (P.cellsOf e) xs i) fun e => pureM (.c (.dptr e 0)) else .fail
  | some (.slice e), .c (.row n ver), .c (.d (.int _ i)) => .look n fun o => match o with
    | .row sz xs v _ => bif Nat.beq v ver && Nat.beq sz (P.cellsOf e) && (P.info? e).isSome then .opt (at_ xs i) fun j => pureM (.c (.eptr n ver j 0)) else .fail
    | _ => .fail
  | _, _, _ => .fail
/-- A bound of a slice expression. -/
def boundV : Option V → Int → Option Int
  | none, n => some n
  | some (.c (.d (.int _ i))), _ => some i
  | some _, _ => none
def sliceM (P : Program) (t : TypeId) (x : V) (lo hi : Option V) : M Eff := match P.underlying t, x with
  | some .string, .c (.d (.str s)) => match boundV lo 0, boundV hi s.length with
    | some l, some h => .opt (subs s l h) fun r => pureM (strV r)
    | _, _ => .fail
  | some (.slice e), .c (.d (.list xs)) => match boundV lo 0, boundV hi xs.length with
    | some l, some h => bif (P.info? e).isSome then .opt (subz (P.cellsOf e) xs l h) fun r => pureM (.c (.d (.list r))) else .fail
    | _, _ => .fail
  | some (.slice e), .c (.row n ver) => .look n fun o => match o with
    | .row sz xs v _ => bif Nat.beq v ver && Nat.beq sz (P.cellsOf e) && (P.info? e).isSome then (match boundV lo 0, boundV hi xs.length with
      | some l, some h => .opt (subz (P.cellsOf e) xs l h) fun r => .ret { v := .c (.d (.list r)), fz := [n] }
      | _, _ => .fail) else .fail
    | _ => .fail
  | _, _ => .fail
def nilCheckM (x : V) : M Eff := match x with
  | .c (.ptr n off) => pureM (.c (.ptr n off))
  | .c (.eptr n ver i off) => pureM (.c (.eptr n ver i off))
  | .c (.dptr e off) => pureM (.c (.dptr e off))
  | .c (.fn f caps) => pureM (.c (.fn f caps))
  | _ => .fail
def pickM (c a b : V) : M Eff := match c with
  | .c (.d (.bool t)) => match a, b with
    | .c (.d (.bool x)), .c (.d (.bool y)) => pureM (boolV (bif t then x else y))
    | _, _ => pureM (bif t then a else b)
  | _ => .fail
def extractM (t : V) (i : Nat) : M Eff := match t with
  | .tup vs => match nth vs i with
    | some v => pureM v
    | none => .fail
  | _ => .fail
def makeFuncM (fn : Fn) (first : List V) (caps : List V) : M Eff := match fn, first with
  | .func f, [] => match omap (fun v => match v with | V.c x => some x | _ => none) caps with
    | some cs => bif cs.all C.keeps then pureM (.c (.fn f cs)) else .fail
    | none => .fail
  | _, _ => .fail
def convertM (P : Program) (me : Nat) (src dst : TypeId) (x : V) : M Eff := match P.underlying src, P.underlying dst, x with
  | some (.int _), some (.int k), .c (.d (.int _ n)) => pureM (intV k (k.wrap n))
  | some .string, some .string, .c (.d (.str s)) => pureM (strV s)
  | some .string, some (.slice e), .c (.d (.str s)) => match P.underlying e with
    | some (.int .u8) => bif Nat.beq (P.cellsOf e) 1 then .ret { v := .c (.row me 0), new := some (.row 1 (byteRow s) 0 false) } else .fail
    | _ => .fail
  | some (.slice e), some .string, x => match P.underlying e with
    | some (.int .u8) => match x with
      | .c (.d (.list xs)) => .opt (rowStr xs) fun s => pureM (strV s)
      | .c .nils => pureM (strV [])
      | .c (.row n ver) => .look n fun o => match o with
        | .row _ xs v _ => bif Nat.beq v ver then .opt (rowStr xs) fun s => pureM (strV s) else .fail
        | _ => .fail
      | _ => .fail
    | _ => .fail
  | _, _, _ => .fail

/-! ### Builtins -/
def lenM (P : Program) (t : TypeId) (x : V) : M Eff := match P.underlying t, x with
  | some .string, .c (.d (.str s)) => pureM (intV .i64 s.length)
  | some (.slice _), .c (.d (.list xs)) => pureM (intV .i64 xs.length)
  | some (.slice _), .c (.d (.lit xs)) => pureM (intV .i64 xs.length)
  | some (.slice _), .c .nils => pureM (intV .i64 0)
  | some (.slice _), .c (.row n ver) => .look n fun o => match o with
    | .row _ xs v _ => bif Nat.beq v ver then pureM (intV .i64 xs.length) else .fail
    | _ => .fail
  | _, _ => .fail
/-- What is appended, by its elements. -/
def srcM (P : Program) (t : TypeId) (y : V) (k : List (List D) → M Eff) : M Eff := match P.underlying t, y with
  | some (.slice _), .c (.d (.list ys)) => k ys
  | some (.slice _), .c .nils => k []
  | some (.slice _), .c (.row n ver) => .look n fun o => match o with
    | .row _ xs v _ => bif Nat.beq v ver then k xs else .fail
    | _ => .fail
  | some .string, .c (.d (.str s)) => k (byteRow s)
  | _, _ => .fail
def appendM (P : Program) (me : Nat) (t t' : TypeId) (x y : V) : M Eff := match P.underlying t with
  | some (.slice e) => bif Nat.ble 1 (P.bytesOf e) && (zeroCells P e).isSome then (match x with
    | .c .nils => srcM P t' y fun ys => .opt (app (P.cellsOf e) (P.bytesOf e) [] ys) fun r => .ret { v := .c (.row me 0), new := some (.row (P.cellsOf e) r 0 false) }
    | .c (.d (.lit xs)) => srcM P t' y fun ys => .need (!ys.isEmpty) (.opt (appL (P.cellsOf e) (P.bytesOf e) xs ys) fun r => .ret { v := .c (.row me 0), new := some (.row (P.cellsOf e) r 0 false) })
    | .c (.row n ver) => .look n fun o => match o with
      | .row sz xs v _ => bif Nat.beq v ver && Nat.beq sz (P.cellsOf e) then srcM P t' y fun ys => .opt (app (P.cellsOf e) (P.bytesOf e) xs ys) fun r => .ret { v := .c (.row n (v + 1)), upd := [(n, .row sz r (v + 1) false)] } else .fail
      | _ => .fail
    | _ => .fail) else .fail
  | _ => .fail
def foldI (f : Int → Int → Int) (k : IntKind) : Int → List V → Option V
  | a, [] => some (intV k a)
  | a, .c (.d (.int k' b)) :: r => bif kEq k k' then foldI f k (f a b) r else none
  | _, _ => none
def extM (f : Int → Int → Int) (args : List V) : M Eff := match args with
  | .c (.d (.int k a)) :: r => match foldI f k a r with
    | some v => pureM v
    | none => .fail
  | _ => .fail
def builtinM (P : Program) (me : Nat) (b : Builtin) (ts : List TypeId) (args : List V) : M Eff := match b, ts, args with
  | .len, [t], [x] => lenM P t x
  | .append, [t, t'], [x, y] => appendM P me t t' x y
  | .min, _, args => extM mnv args
  | .max, _, args => extM mxv args
  | _, _, _ => .fail

/-! ### Calls -/
def clash : List Nat → List Nat → Bool
  | [], _ => false
  | n :: r, l => bif memb l n then true else clash r l
/-- What is handed: the names of the objects, in order; rows that are data from now on; the row that is taken for an empty one. -/
structure Acc where
  names : List Nat := []
  fz : List Nat := []
  made : Bool := false
def conv0 {α : Type} (c : C) (a : Acc) (k : C → Acc → M α) : M α := match c with
  | .d (.lit xs) => k (.d (.list xs)) a
  | .d x => k (.d x) a
  | .nils => k (.d (.list [])) a
  | .nilp => k .nilp a
  | .nilf => k .nilf a
  | .row n ver => .look n fun o => match o with
    | .row _ xs v _ => bif Nat.beq v ver then k (.d (.list xs)) { a with fz := n :: a.fz } else .fail
    | _ => .fail
  | .ptr n off => match idxOf a.names n with
    | some j => k (.ptr j off) a
    | none => k (.ptr a.names.length off) { a with names := a.names ++ [n] }
  | _ => .fail
def convs0 {α : Type} : List C → Acc → (List C → Acc → M α) → M α
  | [], a, k => k [] a
  | c :: cs, a, k => conv0 c a fun c a => convs0 cs a fun cs a => k (c :: cs) a
def conv {α : Type} (c : C) (a : Acc) (k : C → Acc → M α) : M α := match c with
  | .fn f caps => convs0 caps a fun caps a => k (.fn f caps) a
  | c => conv0 c a k
def convs {α : Type} : List C → Acc → (List C → Acc → M α) → M α
  | [], a, k => k [] a
  | c :: cs, a, k => conv c a fun c a => convs cs a fun cs a => k (c :: cs) a
/-- The row that is handed to be written. -/
def convRow {α : Type} (me : Nat) (v : V) (a : Acc) (k : C → Acc → M α) : M α := match v with
  | .c (.row n ver) => .look n fun o => match o with
    | .row _ _ v _ => bif Nat.beq v ver && !memb a.names n then .live n (k (.row a.names.length 0) { a with names := a.names ++ [n] }) else .fail
    | _ => .fail
  | .c .nils => bif memb a.names me || a.made || !Nat.ble 1000 me then .fail else .gone me (k (.row a.names.length 0) { a with names := a.names ++ [me], made := true })
  | _ => .fail
def convV {α : Type} (me : Nat) (h : Hint) (i : Nat) (v : V) (a : Acc) (k : V → Acc → M α) : M α :=
  bif (match h.rowArg with | some (j, _) => Nat.beq i j | none => false) then convRow me v a fun c a => k (.c c) a else match v with
  | .c x => conv x a fun c a => k (.c c) a
  | .agg cs => convs cs a fun cs a => k (.agg cs) a
  | _ => .fail
def convVs {α : Type} (me : Nat) (h : Hint) : Nat → List V → Acc → (List V → Acc → M α) → M α
  | _, [], a, k => k [] a
  | i, v :: vs, a, k => convV me h i v a fun v a => convVs me h (i + 1) vs a fun vs a => k (v :: vs) a
def leafOf : C → Option Leaf
  | .d (.int k _) => some (.int k)
  | .d (.bool _) => some .bool
  | .d (.str _) => some .str
  | .d (.list _) => some .list
  | .d (.lit _) => some .lit
  | _ => none
/-- The objects that are handed, and what is to come back of each. -/
def objsM {α : Type} (me : Nat) (h : Hint) (made : Bool) : List Nat → (List O → List OSh → List Nat → M α) → M α
  | [], k => k [] [] []
  | n :: ns, k => bif made && Nat.beq n me then .live n (objsM me h made ns fun os ss vs => k (.row ((h.rowArg.map (·.2)).getD 0) [] 0 false :: os) (.row ((h.rowArg.map (·.2)).getD 0) (bif h.grows then 1 else 0) :: ss) (0 :: vs))
    else .look n fun o => match o with
      | .box cs => match omap leafOf cs with
        | some ls => objsM me h made ns fun os ss vs => k (.box cs :: os) (.box ls :: ss) (0 :: vs)
        | none => .fail
      | .row sz xs v _ => .live n (objsM me h made ns fun os ss vs => k (.row sz xs 0 false :: os) (.row sz (bif h.grows then 1 else 0) :: ss) (v :: vs))
/-- Where the row that is handed stands among the objects. -/
def rowIdx (h : Hint) : List V → Option Nat
  | [] => none
  | .c (.row j _) :: _ => some j
  | _ :: r => rowIdx h r
def resLeaf (h : Hint) (args : List V) : Option (Nat × Leaf) := match h.resRow with
  | some i => match h.rowArg with
    | some (_, sz) => match rowIdx h args with
      | some j => some (i, .rowp j (bif h.grows then 1 else 0))
      | none => none
    | none => none
  | none => none
/-- What came back: rows by the caller's names. -/
def backC (me : Nat) (names vers : List Nat) (grows : Bool) : C → Option C
  | .row j ver => bif Nat.beq ver (bif grows then 1 else 0) then (match nth names j, nth vers j with
    | some n, some v => some (.row n (bif grows then v + 1 else v))
    | _, _ => none) else none
  | .fresh _ _ => some (.row me 0)
  | .d x => some (.d x)
  | .nilp => some .nilp
  | .nilf => some .nilf
  | _ => none
def backV (me : Nat) (names vers : List Nat) (grows : Bool) : V → Option V
  | .c x => (backC me names vers grows x).bind fun y => some (.c y)
  | .agg cs => (omap (backC me names vers grows) cs).bind fun ds => some (.agg ds)
  | _ => none
def backVs (me : Nat) (names vers : List Nat) (grows : Bool) : V → Option V
  | .tup vs => (omap (backV me names vers grows) vs).bind fun ws => some (.tup ws)
  | v => backV me names vers grows v
/-- The row that a result makes. -/
def freshIn : List C → Option O
  | [] => none
  | .fresh sz xs :: _ => some (.row sz xs 0 false)
  | _ :: r => freshIn r
def freshOf : V → Option O
  | .c (.fresh sz xs) => some (.row sz xs 0 false)
  | .agg cs => freshIn cs
  | _ => none
def backO (grows : Bool) (v : Nat) : O → O
  | .row sz xs _ _ => .row sz xs (bif grows then v + 1 else v) false
  | o => o
def updsOf (grows : Bool) : List Nat → List Nat → List O → List (Nat × O)
  | n :: ns, v :: vs, o :: os => (n, backO grows v o) :: updsOf grows ns vs os
  | _, _, _ => []
def callM (P : Program) (hs : Hints) (me : Nat) (t : TypeId) (static : Bool) (f : Nat) (caps : List C) (args : List V) : M Eff :=
  let h : Hint := bif static then (find hs.call f).getD {} else {}
  convVs me h 0 (args ++ caps.map V.c) {} fun args a =>
  objsM me h a.made a.names fun os oss vers =>
  match shOf P t (match h.resRow, h.rowArg with
    | some i, some _ => resLeaf h args
    | some i, none => some (i, .fresh h.sz)
    | none, _ => none) with
  | some sh => bif clash a.names a.fz then .fail else .call f h args os { res := sh, objs := oss } fun r =>
      match backVs me a.names vers h.grows (sh.enc r.1) with
      | some w => bif a.made && (freshOf (sh.enc r.1)).isSome then .fail else .ret { v := w, upd := updsOf h.grows a.names vers (encO oss r.2), new := freshOf (sh.enc r.1), fz := a.fz }
      | none => .fail
  | none => .fail

/-! ### One operation -/
def vpart (vals : Operand → V) : Nat × Operand → Nat × V
  | (i, x) => (i, vals x)
def opM (P : Program) (hs : Hints) (lit : Bool) (me : Nat) (vals : Operand → V) (o : Op) (t : TypeId) : M Eff := match o with
  | .move x | .assign x => pureM (vals x)
  | .pick c a b => pickM (vals c) (vals a) (vals b)
  | .alloc e => allocM P me e
  | .box _ x => boxM me (vals x)
  | .build t ps => buildM P t (ps.toList.map (vpart vals))
  | .buildSlice t n ps => buildSliceM P lit me t n (ps.toList.map (vpart vals))
  | .load t a => loadM P lit t (vals a)
  | .store t a x => storeM P lit t (vals a) (vals x)
  | .nilCheck x => nilCheckM (vals x)
  | .binOp op t x y _ => binM P op t (vals x) (vals y)
  | .unOp op _ x => unM op (vals x)
  | .convert src dst x => convertM P me src dst (vals x)
  | .makeFunc fn first caps => makeFuncM fn (first.toList.map vals) (caps.toList.map vals)
  | .makeSlice t l c => makeSliceM P me t (vals l) (vals c)
  | .slice t x lo hi mx => match mx with
    | none => sliceM P t (vals x) (lo.map vals) (hi.map vals)
    | some _ => .fail
  | .fieldAddr t x f => fieldAddrM P t (vals x) f
  | .field t x f => fieldM P t (vals x) f
  | .indexAddr t x i => indexAddrM P t (vals x) (vals i)
  | .index t x i => indexM P t (vals x) (vals i)
  | .extract x i => extractM (vals x) i
  | .call c => match c.callee with
    | .builtin b => builtinM P me b c.argTypes.toList (c.args.toList.map vals)
    | .value (.func f) => callM P hs me t true f [] (c.args.toList.map vals)
    | .value x => match vals x with
      | .c (.fn f caps) => callM P hs me t false f caps (c.args.toList.map vals)
      | _ => .fail
    | _ => .fail
  | _ => .fail

/-! ### Regions -/
def St.put (st : St) (d : Option Nat) (v : V) : St := match d with
  | some d => { st with F := (d, v) :: st.F }
  | none => st
def St.upd (st : St) (d : Option Nat) (e : Eff) : St :=
  { F := match d with
      | some d => (d, e.v) :: st.F
      | none => st.F
    H := (match d, e.new with
      | some d, some o => (loc d, o) :: (e.upd ++ st.H)
      | _, _ => e.upd ++ st.H)
    Z := e.fz ++ st.Z }
/-- Which names an operation looked at, which it wrote; 'none': it is not known. -/
abbrev Log := List (Nat × Option (List Nat × List Nat))
structure RC where
  P : Program
  hs : Hints
  all : List Oper
  draw : Bool
  bf : List Nat
  split : Bool
  lit : Bool
def fsts {α : Type} : List (Nat × α) → List Nat
  | [] => []
  | (n, _) :: r => n :: fsts r
/-- Nothing that it looks at or writes meets what an unordered one before it wrote, nor turned round. -/
def logOk (before : Nat) (touch wr : List Nat) : Log → Bool
  | [] => true
  | (i, e) :: r => bif (bif Nat.testBit before i then true else match e with
      | some (t, w) => !clash wr t && !clash w touch
      | none => (match touch, wr with
        | [], [] => true
        | _, _ => false)) then logOk before touch wr r else false
def inn : List Nat → List Nat → Bool
  | [], _ => true
  | n :: r, l => bif memb l n then inn r l else false
/-- What must live on is written. -/
def liveOk : List Nat → List Nat → Bool
  | [], _ => true
  | n :: r, wr => bif Nat.ble 1000000 n then (bif memb wr (n - 1000000) then liveOk r wr else false) else liveOk r wr
/-- What is written, or data from now on, was looked at; what must live on is written. -/
def selfOk (touch wr fz : List Nat) : Bool := inn wr touch && inn fz touch && liveOk touch wr
def newOk (H : List (Nat × O)) (d : Option Nat) (new : Option O) : Bool := match new, d with
  | none, _ => true
  | some _, some d => (match find H (loc d) with
    | none => true
    | some _ => false)
  | some _, none => false
def touchOf (d : Option Nat) (e : Eff) (rd : List Nat) : List Nat := match d, e.new with
  | some d, some _ => loc d :: rd
  | _, _ => rd
def writeOf (d : Option Nat) (e : Eff) : List Nat := match d, e.new with
  | some d, some _ => loc d :: fsts e.upd
  | _, _ => fsts e.upd
def doOp {A : Type} (rc : RC) (call : Oracle) (i : Nat) (o : Oper) (st : St) (lg : Log) (K : St → Log → Option A) : Option A :=
  (opM rc.P rc.hs rc.lit (match o.dst with
    | some d => loc d
    | none => 0) (ev st.F) o.op o.type).run call st.H st.Z [] fun e rd =>
      bif newOk st.H o.dst e.new && (bif rc.draw then selfOk (touchOf o.dst e rd) (writeOf o.dst e) e.fz && logOk ((nth rc.bf i).getD 0) (touchOf o.dst e rd) (writeOf o.dst e) lg else true) then
        K (st.upd o.dst e) ((i, some (touchOf o.dst e rd, writeOf o.dst e)) :: lg) else none
def pickOn (t : Nat) (o : Oper) : Bool := match o.op with
  | .pick (.tmp c) _ _ => Nat.beq c t
  | _ => false
def gtake (t : Nat) : List Oper → List Oper
  | [] => []
  | o :: r => bif o.guard.isSome && !pickOn t o then o :: gtake t r else []
def gdrop (t : Nat) : List Oper → List Oper
  | [] => []
  | o :: r => bif o.guard.isSome && !pickOn t o then gdrop t r else o :: r
def dstsOf : List Oper → List (Nat × V)
  | [] => []
  | o :: r => match o.dst with
    | some d => (d, .u) :: dstsOf r
    | none => dstsOf r
def gslot (all : List Oper) (j : Nat) : Option Nat := (nth all j).bind (·.dst)
def bEq (a b : Bool) : Bool := bif a then b else !b
/-- Is its guard decided, and such that it runs? -/
def sat (all : List Oper) (F : List (Nat × V)) (o : Oper) : Bool := match o.guard with
  | none => true
  | some (j, w) => match gslot all j with
    | some t => (match find F t with
      | some (.kb b) => bEq b w
      | _ => false)
    | none => false
def isKb (F : List (Nat × V)) (t : Nat) (q : Bool) : Bool := match find F t with
  | some (.kb b) => bEq b q
  | _ => false
def boolOf : V → Option Bool
  | .c (.d (.bool b)) => some b
  | _ => none
/-- What was written lies not among the elder. -/
def quiet (H : List (Nat × O)) : Nat → Log → Bool
  | 0, _ => true
  | n + 1, (_, some (_, w)) :: r => bif clash w (fsts H) then false else quiet H n r
  | n + 1, (_, none) :: r => quiet H n r
  | _ + 1, [] => true
def blanks (i : Nat) : List Oper → Log → Log
  | [], lg => lg
  | _ :: r, lg => blanks (i + 1) r ((i, none) :: lg)
def regK {A : Type} (rc : RC) (call : Oracle) : Nat → Nat → List Oper → St → Log → (St → Log → Option A) → Option A
  | _, _, [], st, lg, K => K st lg
  | 0, _, _ :: _, _, _, _ => none
  | f + 1, i, o :: r, st, lg, K => match o.guard with
    | none => doOp rc call i o st lg fun st lg => regK rc call f (i + 1) r st lg K
    | some (j, w) => match gslot rc.all j with
      | none => regK rc call f (i + 1) r (st.put o.dst (.tup [])) ((i, some ([], [])) :: lg) K
      | some t => match find st.F t with
        | some (.kb b) => bif bEq b w then (doOp rc call i o st lg fun st lg => regK rc call f (i + 1) r st lg K) else regK rc call f (i + 1) r (st.put o.dst (.tup [])) ((i, some ([], [])) :: lg) K
        | some (.c (.d (.bool b))) => bif rc.split || rc.draw then
            (bif b then regK rc call f i (o :: r) (st.put (some t) (.kb true)) lg K else regK rc call f i (o :: r) (st.put (some t) (.kb false)) lg K)
          else match gdrop t (o :: r) with
            | p :: r' => match p.op, p.dst with
              | .pick (.tmp c) x y, some d => bif Nat.beq c t then
                  (let side := fun (q : Bool) => regK rc call f i (gtake t (o :: r)) (st.put (some t) (.kb q)) [] (fun s lg' => bif quiet st.H lg'.length lg' && sat rc.all s.F p && isKb s.F t q then boolOf (ev s.F (bif q then x else y)) else none)
                  (bif b then side true else side false).bind fun z => regK rc call f (i + (gtake t (o :: r)).length + 1) r' { st with F := (d, boolV z) :: (dstsOf (gtake t (o :: r)) ++ st.F) } lg K) else none
              | _, _ => none
            | [] => none
        | some (.tup []) => regK rc call f (i + 1) r (st.put o.dst (.tup [])) ((i, some ([], [])) :: lg) K
        | _ => none

/-! ### Code -/
inductive Ex where
  | normal
  | exit (id : Nat)
  | ret
  deriving Inhabited
/-- A loop's number: that of the first region in it. -/
def loopId : Code → Nat
  | .region id _ _ => id
  | .seq a b => match a with
    | .skip => loopId b
    | a => loopId a
  | .cond _ a _ => loopId a
  | .block _ a => loopId a
  | .loop a => loopId a + 500
  | .scope a => loopId a
  | _ => 0
/-- A row's number at a loop's head: of one that was handed it tells whether it has grown. -/
def verK (h : Keep) (n v : Nat) : Nat := bif Nat.blt n 1000 then (bif h.grow then 1 else v) else 0
def capOk (objs : List Nat) : C → Bool
  | .ptr n _ => memb objs n
  | .d _ => true
  | _ => false
def convK (H : List (Nat × O)) (h : Keep) : C → Option C
  | .row n ver => match find H n with
    | some (.row _ xs v _) => bif Nat.beq v ver then (bif memb h.objs n then some (.row n (verK h n v)) else bif Nat.blt n 1000 then none else some (.d (.list xs))) else none
    | _ => none
  | .nils => some (.d (.list []))
  | .d (.lit xs) => some (.d (.list xs))
  | .d x => some (.d x)
  | .nilp => some .nilp
  | .nilf => some .nilf
  | .ptr n off => bif memb h.objs n then some (.ptr n off) else none
  | .fn f caps => bif caps.all (capOk h.objs) then some (.fn f caps) else none
  | _ => none
def convKV (H : List (Nat × O)) (h : Keep) : V → V
  | .c x => match convK H h x with
    | some y => .c y
    | none => .u
  | .agg cs => match omap (convK H h) cs with
    | some ds => .agg ds
    | none => .u
  | .kb b => .c (.d (.bool b))
  | _ => .u
def convKO (H : List (Nat × O)) (Z : List Nat) (h : Keep) (n : Nat) : O → Option O
  | .box cs => (omap (convK H h) cs).bind fun ds => some (.box ds)
  | .row sz xs v _ => bif memb Z n then none else some (.row sz xs (verK h n v) false)
/-- Empty rows under their names. -/
def adopt : List Adopt → St → St
  | [], st => st
  | a :: r, st => adopt r (bif !Nat.ble 1000 a.name then st else match find st.H a.name with
    | some _ => st
    | none => match a.box with
      | none => (match find st.F a.slot with
        | some (.c .nils) => { st with F := (a.slot, .c (.row a.name 0)) :: st.F, H := (a.name, .row a.sz [] 0 false) :: st.H }
        | _ => st)
      | some b => match find st.H b with
        | some (.box cs) => (match nth cs a.slot with
          | some .nils => { st with H := (b, .box (splice cs a.slot [.row a.name 0])) :: (a.name, .row a.sz [] 0 false) :: st.H }
          | _ => st)
        | _ => st)
def canon (h : Keep) (st0 : St) : Option St :=
  let st := adopt h.adopt st0
  bif !((fsts st.H).all fun n => Nat.ble 1000 n || memb h.objs n) then none else
  (omap (fun n => (find st.H n).bind fun o => (convKO st.H st.Z h n o).bind fun o => some (n, o)) h.objs).bind fun H =>
  some { F := h.slots.map (fun t => (t, (match find st.F t with
    | some v => convKV st.H h v
    | none => .u))), H := H, Z := [] }
abbrev Loops := Nat → Code → St → Option (Ex × St)
structure Cx where
  P : Program
  hs : Hints
  fid : Nat
def Cx.keep (cx : Cx) (b : Code) : Keep := ((find cx.hs.loop cx.fid).bind fun l => find l (loopId b)).getD {}
def Cx.split (cx : Cx) (id : Nat) : Bool := match find cx.hs.split cx.fid with
  | some l => memb l id
  | none => false
/-- Slots that meet are in order. -/
def slotsMeet (all : List Oper) (a b : Oper) : Bool :=
  let names := fun (o : Oper) => o.dst.toList ++ (o.op.operands.toList.filterMap fun | .tmp t => some t | _ => none) ++ (match o.guard with
    | some (j, _) => (gslot all j).toList
    | none => [])
  (match a.dst with
  | some d => memb (names b) d
  | none => false) || (match b.dst with
  | some d => memb (names a) d
  | none => false)
def slotsOk (all : List Oper) (bf : List Nat) : Bool :=
  (all.zipIdx.all fun (b, j) => all.zipIdx.all fun (a, i) => !Nat.blt i j || Nat.testBit ((nth bf j).getD 0) i || !slotsMeet all a b)
def backEdges (all : List Oper) : Bool := all.zipIdx.all fun (o, i) => o.after.toList.all fun e => !Region.binds .any e || Nat.blt e.on i
def codeK {A : Type} (cx : Cx) (call : Oracle) (lp : Loops) : Code → St → (Ex → St → Option A) → Option A
  | .skip, st, K => K .normal st
  | .label _, st, K => K .normal st
  | .region id ops draw, st, K =>
    let all := ops.toList
    let bf : List Nat := bif draw then (Region.before ops).toList else []
    bif !draw || (slotsOk all bf && backEdges all) then
    regK { P := cx.P, hs := cx.hs, all := all, draw := draw, bf := bf, split := cx.split id, lit := memb cx.hs.lit cx.fid } call (2 * all.length) 0 all st [] fun st _ => K .normal st else none
  | .seq a b, st, K => codeK cx call lp a st fun e st => match e with
    | .normal => codeK cx call lp b st K
    | .exit id => K (.exit id) st
    | .ret => K .ret st
  | .cond c a b, st, K => match ev st.F c with
    | .c (.d (.bool t)) => bif t then codeK cx call lp a st K else codeK cx call lp b st K
    | _ => none
  | .block id b, st, K => codeK cx call lp b st fun e st => match e with
    | .exit j => bif Nat.beq j id then K .normal st else K (.exit j) st
    | .normal => K .normal st
    | .ret => K .ret st
  | .loop b, st, K => (canon (cx.keep b) st).bind fun st => (lp cx.fid b st).bind fun r => K r.1 r.2
  | .exit id, st, K => K (.exit id) st
  | .ret, st, K => K .ret st
  | _, _, _ => none

/-! ### Functions -/
def number {α : Type} : Nat → List α → List (Nat × α)
  | _, [] => []
  | i, a :: r => (i, a) :: number (i + 1) r
def isN (nf : Option Nat) (n : Nat) : Bool := match nf with
  | some k => Nat.beq n k
  | none => false
def plainC (m : Nat) (nf : Option Nat) (H : List (Nat × O)) : C → Option C
  | .row n ver => match find H n with
    | some (.row _ xs v _) => bif Nat.beq v ver && (!Nat.blt n m && !isN nf n) then some (.d (.list xs)) else none
    | _ => none
  | .nils => some (.d (.list []))
  | .d (.lit xs) => some (.d (.list xs))
  | .d x => some (.d x)
  | .nilp => some .nilp
  | .nilf => some .nilf
  | _ => none
/-- A cell of the result; objects below m were handed. -/
def finC (h : Hint) (m : Nat) (nf : Option Nat) (H : List (Nat × O)) (Z : List Nat) (i : Nat) (c : C) : Option C :=
  bif (match h.resRow with
    | some j => Nat.beq i j
    | none => false) then (match c with
    | .row n ver => match find H n with
      | some (.row sz xs v _) => bif Nat.beq v ver && !memb Z n then (bif Nat.blt n m then some (.row n (bif h.grows then 1 else 0)) else some (.fresh sz xs)) else none
      | _ => none
    | _ => none) else plainC m nf H c
def finCs (h : Hint) (m : Nat) (nf : Option Nat) (H : List (Nat × O)) (Z : List Nat) : Nat → List C → Option (List C)
  | _, [] => some []
  | i, c :: cs => (finC h m nf H Z i c).bind fun d => (finCs h m nf H Z (i + 1) cs).bind fun ds => some (d :: ds)
def finV (h : Hint) (m : Nat) (nf : Option Nat) (H : List (Nat × O)) (Z : List Nat) : V → Option V
  | .c x => (finC h m nf H Z 0 x).bind fun y => some (.c y)
  | .kb b => some (boolV b)
  | .agg cs => (finCs h m nf H Z 0 cs).bind fun ds => some (.agg ds)
  | _ => none
def finO (h : Hint) (m : Nat) (nf : Option Nat) (H : List (Nat × O)) (Z : List Nat) (j : Nat) : O → Option O
  | .box cs => (omap (plainC m nf H) cs).bind fun ds => some (.box ds)
  | .row sz xs v _ => bif memb Z j || !(h.grows || Nat.beq v 0) then none else some (.row sz xs (bif h.grows then 1 else 0) false)
def finOs (h : Hint) (m : Nat) (nf : Option Nat) (H : List (Nat × O)) (Z : List Nat) : Nat → Nat → Option (List O)
  | 0, _ => some []
  | n + 1, j => (find H j).bind fun o => (finO h m nf H Z j o).bind fun o => (finOs h m nf H Z n (j + 1)).bind fun os => some (o :: os)
def resV (P : Program) (st : St) : ResultVar → Option V
  | .tmp t => match ev st.F (.tmp t) with
    | .u => none
    | v => some v
  | .cell a t => match ev st.F (.tmp a) with
    | .c (.ptr n off) => (match find st.H n with
      | some (.box cs) => bif okT P t then (bif isAggT P t then (bif Nat.ble (off + P.cellsOf t) cs.length then some (.agg ((cs.drop off).take (P.cellsOf t))) else none) else match nth cs off with
        | some c => some (.c c)
        | none => none) else none
      | _ => none)
    | _ => none
/-- The name of the row that a result makes. -/
def srcC (m : Nat) : C → Option Nat
  | .row n _ => bif Nat.blt n m then none else some n
  | _ => none
def srcV (h : Hint) (m : Nat) : V → Option Nat
  | .c x => match h.resRow with
    | some i => bif Nat.beq i 0 then srcC m x else none
    | none => none
  | .agg cs => match h.resRow with
    | some i => (nth cs i).bind (srcC m)
    | none => none
  | _ => none
def finish0 (P : Program) (fn : Func) (h : Hint) (m : Nat) (e : Ex) (st : St) : Option (V × List O) :=
  match e with
  | .exit _ => none
  | _ => (omap (resV P st) fn.results.toList).bind fun vs =>
    match vs with
      | [v] => (finV h m (srcV h m v) st.H st.Z v).bind fun w => (finOs h m (srcV h m v) st.H st.Z m 0).bind fun os => some (w, os)
      | vs => (omap (finV { h with resRow := none } m none st.H st.Z) vs).bind fun ws => (finOs h m none st.H st.Z m 0).bind fun os => some (.tup ws, os)
/-- Slices of literals in a slice's elements, as slices. -/
def flat1 : D → D
  | .lit xs => .list xs
  | d => d
def flats (xs : List (List D)) : List (List D) := xs.map fun e => e.map flat1
def flatC : C → C
  | .d (.list xs) => .d (.list (flats xs))
  | c => c
def flatV : V → V
  | .c x => .c (flatC x)
  | .agg cs => .agg (cs.map flatC)
  | v => v
def finish (P : Program) (fn : Func) (h : Hint) (m : Nat) (e : Ex) (st : St) : Option (V × List O) := (finish0 P fn h m e st).bind fun r => some (bif h.flat then flatV r.1 else r.1, r.2)
def entry (args : List V) (objs : List O) : St := { F := number 0 args, H := number 0 objs, Z := [] }
/-- Functions without a text. -/
def given (fn : Func) (args : List V) : Option V := match args with
  | [.c (.d (.str s)), .c (.d (.int .u8 n))] => bif fn.name == "internal/bytealg.IndexByteString" then some (intV .i64 (match s.idxOf? (UInt8.ofNat n.toNat) with
    | some i => (i : Int)
    | none => -1)) else none
  | _ => none
/-- What is handed: not so many, and rows as they are. -/
def objsOk (objs : List O) : Bool := Nat.ble objs.length 1000 && objs.all fun o => match o with
  | .row _ _ v _ => Nat.beq v 0
  | _ => true
def stepCall (P : Program) (hs : Hints) (call : Oracle) (lp : Loops) (f : Nat) (h : Hint) (args : List V) (objs : List O) : Option (V × List O) := match P.funcs[f]? with
  | none => none
  | some fn => match fn.body with
    | some c => bif objsOk objs then codeK { P := P, hs := hs, fid := f } call lp c (entry args objs) (finish P fn h objs.length) else none
    | none => bif objs.isEmpty then (given fn args).bind fun v => some (v, []) else none
def stepLoop (P : Program) (hs : Hints) (call : Oracle) (lp : Loops) (f : Nat) (b : Code) (st : St) : Option (Ex × St) :=
  codeK { P := P, hs := hs, fid := f } call lp b st fun e st => match e with
    | .normal => (canon (({ P := P, hs := hs, fid := f } : Cx).keep b) st).bind fun st => lp f b st
    | e => some (e, st)
/-- The rest of a function from a loop's head on. -/
def hasLoop (id : Nat) : Code → Bool
  | .seq a b => bif hasLoop id a then true else hasLoop id b
  | .cond _ a b => bif hasLoop id a then true else hasLoop id b
  | .block _ a => hasLoop id a
  | .loop a => bif Nat.beq (loopId a) id then true else hasLoop id a
  | _ => false
def atLoop {A : Type} (cx : Cx) (call : Oracle) (lp : Loops) (id : Nat) (one : Bool) : Code → St → (Ex → St → Option A) → Option A
  | .seq a b, st, K => bif hasLoop id a then atLoop cx call lp id one a st (fun e st => match e with
    | .normal => codeK cx call lp b st K
    | .exit id => K (.exit id) st
    | .ret => K .ret st) else atLoop cx call lp id one b st K
  | .cond _ a b, st, K => bif hasLoop id a then atLoop cx call lp id one a st K else atLoop cx call lp id one b st K
  | .block id' b, st, K => atLoop cx call lp id one b st fun e st => match e with
    | .exit j => bif Nat.beq j id' then K .normal st else K (.exit j) st
    | .normal => K .normal st
    | .ret => K .ret st
  | .loop b, st, K => bif Nat.beq (loopId b) id then
      (bif one then codeK cx call lp b st (fun e st => match e with
        | .normal => (canon (cx.keep b) st).bind fun st => (lp cx.fid b st).bind fun r => K r.1 r.2
        | .exit j => K (.exit j) st
        | .ret => K .ret st)
      else (lp cx.fid b st).bind fun r => K r.1 r.2)
    else atLoop cx call lp id one b st fun e st => match e with
      | .normal => (canon (cx.keep b) st).bind fun st => (lp cx.fid b st).bind fun r => K r.1 r.2
      | .exit j => K (.exit j) st
      | .ret => K .ret st
  | _, _, _ => none
/-- A function's run, its result by its shape; the same from a loop's head on. -/
def runFn (P : Program) (hs : Hints) (call : Oracle) (lp : Loops) (f : Nat) (fn : Func) (h : Hint) (sh : CSh) (args : List V) (objs : List O) : Option sh.T := match fn.body with
  | some c => codeK { P := P, hs := hs, fid := f } call lp c (entry args objs) fun e st => (finish P fn h objs.length e st).bind sh.dec
  | none => none
def fromLoop (P : Program) (hs : Hints) (call : Oracle) (lp : Loops) (f : Nat) (fn : Func) (h : Hint) (sh : CSh) (m : Nat) (id : Nat) (one : Bool) (st : St) : Option sh.T := match fn.body with
  | some c => atLoop { P := P, hs := hs, fid := f } call lp id one c st fun e st => (finish P fn h m e st).bind sh.dec
  | none => none
/-- So many calls and rounds within one another. -/
def runN (P : Program) (hs : Hints) : Nat → Oracle × Loops
  | 0 => (fun _ _ _ _ => none, fun _ _ _ => none)
  | n + 1 => (stepCall P hs (runN P hs n).1 (runN P hs n).2, stepLoop P hs (runN P hs n).1 (runN P hs n).2)
/-- Calls and loops that are what their texts say. -/
structure Fix (P : Program) (hs : Hints) (call : Oracle) (lp : Loops) : Prop where
  run : ∀ {f : Nat} {fn : Func} {sh : CSh} {h : Hint} {args : List V} {objs : List O}, P.funcs[f]? = some fn → fn.body.isSome = true → objsOk objs = true → callT call sh f h args objs = runFn P hs call lp f fn h sh args objs
  round : ∀ (f : Nat) (fn : Func) (h : Hint) (sh : CSh) (m id : Nat) (st : St), fromLoop P hs call lp f fn h sh m id false st = fromLoop P hs call lp f fn h sh m id true st
end Go.Proofs.YtcpidokhkcmdfaaGreat.I

