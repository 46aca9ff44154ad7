/-
  The plain machine's steps: operations, calls, and a function's run.
  Conditions: none; these are definitions.
-/
import Derived.Test.YtlgkjckddpnfnaaGreatDoorXvb
import Derived.Still
namespace Go.Vt
set_option linter.unusedVariables false

/-! ### what is told of types and functions -/
inductive TI where
  | one (t : Ty)                                             -- one cell; a slice type: its elements' kind is told
  | struct (fs : List (Nat × Nat)) (ks : List Ty) (eq : Bool)   -- fields: offset, type; the cells' kinds; may values be compared
  | arr (n : Nat) (t : Ty)
  | bytes   -- said of the type 1000000 below: its values are rows of bytes
  | flag    -- said of no type: an operation is to be done in its other way

structure RC where   -- a result's cell: its kind; a row of its own: is it so all the way down; is it nil where it is empty
  t : Ty
  own : Option (Bool × Bool)

inductive PC where   -- a cell of a parameter: a plain value; a row of the caller's own, which is written and stays the caller's (all the way down: d)
  | v (t : Ty) | o (t : Ty) (d : Bool)
def PC.ty : PC → Ty | .v t => t | .o t _ => .slice t
inductive PT where
  | v (t : Ty) (agg : Bool)     -- a value
  | r (t : Ty)                  -- the address of what is not written
  | fn (f : Nat) (ts : List Ty)   -- the function f, with what it has captured
  | o (cs : List PC) (agg : Bool)   -- a value with rows of the caller's own
  | z (t : Ty)                  -- the nil slice
  | p (a b : Ty)                -- the address of a variable of the caller's own, of the type .pair a b, which is written and stays the caller's

def tupTy : List Ty → Ty
  | [] => .bool | [t] => t | t :: u :: r => .pair t (tupTy (u :: r))
def PT.ty : PT → Ty | .v t _ => t | .r t => t | .fn _ ts => tupTy ts | .o cs _ => tupTy (cs.map PC.ty) | .z t => .slice t | .p a b => .pair a b

@[reducible] def Aden : List PT → Type
  | [] => Unit | [p] => p.ty.den | p :: q :: r => p.ty.den × Aden (q :: r)
@[reducible] def Rden : List RC → Type
  | [] => Unit | [c] => c.t.den | c :: d :: r => c.t.den × Rden (d :: r)

def flatRs : List (Bool × List RC) → List RC
  | [] => [] | (_, l) :: r => l ++ flatRs r

/-- What is handed back of the rows that were handed in to be written. -/
def pcRC : List PC → List RC
  | [] => [] | .o t d :: r => ⟨.slice t, some (d, false)⟩ :: pcRC r | .v _ :: r => pcRC r
def ioOf : List PT → List RC
  | [] => [] | .o cs _ :: r => pcRC cs ++ ioOf r | .p a b :: r => ⟨.pair a b, some (false, false)⟩ :: ioOf r | _ :: r => ioOf r
@[reducible] def Oden : List RC → List RC → Type
  | rs, [] => Rden rs | rs, i :: r => Rden rs × Rden (i :: r)
def Oden.res : (rs ios : List RC) → Oden rs ios → Rden rs
  | _, [], y => y | _, _ :: _, y => y.1
def Oden.io : (rs ios : List RC) → Oden rs ios → Rden ios
  | _, [], _ => () | _, _ :: _, y => y.2

def rdenB : (rs : List RC) → Rden rs → Rden rs → Bool
  | [], _, _ => true | [c], x, y => denB c.t x y | c :: d :: r, x, y => denB c.t x.1 y.1 && rdenB (d :: r) x.2 y.2
def odenB : (rs ios : List RC) → Oden rs ios → Oden rs ios → Bool
  | rs, [], x, y => rdenB rs x y | rs, i :: r, x, y => rdenB rs x.1 y.1 && rdenB (i :: r) x.2 y.2
/-- Two ways that come to the same. -/
def both {rs ios : List RC} (x y : Option (Oden rs ios)) : Option (Oden rs ios) :=
  match x, y with | some a, some b => bif odenB rs ios a b then some a else none | _, _ => none

inductive CH where   -- what is kept of a cell where ways meet: as it is; as a plain value; as a row under a number
  | keep | val (t : Ty) | row (c : Nat) (t : Ty) (deep cn : Bool)
inductive Hint where
  | keep (s : Nat) | cell (s : Nat) (h : CH) | box (s c : Nat) (l : List CH) | arr (s c : Nat)

structure Fi where
  ps : List PT
  rs : List (Bool × List RC)
  ext : Option (Nat → Aden ps → Option (Oden (flatRs rs) (ioOf ps)))
  code : Code
  res : List ResultVar
  nt : Nat
  hints : Nat → Option (List Hint)

/-- Is its first argument, a row, given away? -/
def Fi.run1 (fi : Fi) : Bool := (fi.hints 999999).isSome   -- it is run, and its first argument is a row whose elements are read alone
def Fi.gift (fi : Fi) : Bool := (Nat.beq fi.nt 77777 && fi.ext.isSome) || fi.run1
def plainPs : List PT → Bool
  | [] => true | .v _ _ :: r => plainPs r | .fn _ _ :: r => plainPs r | _ :: _ => false
def giftPs : List PT → Bool
  | .v (.slice _) false :: p :: r => plainPs (p :: r) | _ => false

structure Env where
  ty : Nat → Option TI
  fn : Nat → List Nat → Option Fi   -- the functions among its arguments tell one telling of a function from another

def chk {ρ : Type} (b : Bool) (x : Option ρ) : Option ρ := bif b then x else none

/-! ### operands -/
def cval : Value → AV
  | .int k n => .cv (.val (.int k) n)
  | .bool b => .cv (.val .bool b)
  | .string s => .cv (.val .str s)
  | .slice none 0 0 => .cv .nil
  | _ => .cv .dead
def St.ev (σ : St) : Operand → AV
  | .tmp t => slGet σ.sl t
  | .const v => cval v
  | .func f => .fn f []
  | .global _ => .cv .dead
def St.put (σ : St) (dst : Option Nat) (v : AV) : St :=
  match dst with | some d => { σ with sl := slSet σ.sl d v } | none => σ
/-- A new object, under the number c. -/
def St.new (σ : St) (c : Nat) (o : Ob) : St := let τ := σ.kill c; { τ with ob := (c, o) :: τ.ob }

/-- A cell's datum, as one of kind t: of a row of one's own, what it now holds. -/
def St.cvAs (σ : St) (t : Ty) : CV → Option t.den
  | .own c => match obGet σ.ob c with | some (.row u xs _ _) => (Ty.slice u).as t xs | some (.mp l) => Ty.set.as t (some l) | _ => none
  | v => v.as t
def St.impl (σ : St) : (t : Ty) → List CV → Option t.den
  | .pair a b, l => (σ.impl a (l.take a.sz)).bind fun x => (σ.impl b (l.drop a.sz)).bind fun y => some (x, y)
  | .int k, l => match l with | [c] => σ.cvAs (.int k) c | _ => none
  | .bool, l => match l with | [c] => σ.cvAs .bool c | _ => none
  | .str, l => match l with | [c] => σ.cvAs .str c | _ => none
  | .slice t, l => match l with | [c] => σ.cvAs (.slice t) c | _ => none
  | .set, l => match l with | [c] => σ.cvAs .set c | _ => none
  | .err, l => match l with | [c] => σ.cvAs .err c | _ => none

/-- Is it known what the cell holds? -/
def St.live (σ : St) : CV → Bool
  | .dead => false | .own c => (match obGet σ.ob c with | some (.row _ _ _ _) => true | some (.mp _) => true | _ => false) | _ => true
def St.cells (σ : St) : AV → Option (List CV)
  | .cv v => bif σ.live v then some [v] else none | .ag l => bif l.all σ.live then some l else none | _ => none
def ofCells (agg : Bool) (l : List CV) : AV := bif agg then .ag l else match l with | [v] => .cv v | _ => .cv .dead

/-! ### a value becomes a part of a row: what it owned goes with it -/
def CV.owns : CV → List Nat
  | .own c => [c] | _ => []
def ownsAll (l : List CV) : List Nat := l.flatMap CV.owns
def AV.owns : AV → List Nat
  | .cv v => v.owns | .ag l => ownsAll l | .tup l => l.flatMap fun p => ownsAll p.2 | _ => []
def hasB (c : Nat) : List Nat → Bool
  | [] => false | d :: r => Nat.beq d c || hasB c r
def nodupB : List Nat → Bool
  | [] => true | c :: r => !hasB c r && nodupB r
/-- Is a part, told as kind t, a tree of rows of its own? -/
def St.treeB (σ : St) (l : List CV) : Bool := nodupB (ownsAll l) && l.all fun v => match v with
  | .own c => match obGet σ.ob c with | some (.row _ _ d _) => d | some (.mp _) => true | _ => false
  | .val t _ => t.flat | .nil => true | .unk => true | .dead => false
def St.freezeAll (σ : St) : List Nat → St
  | [] => σ | c :: r => (σ.freeze c).freezeAll r
def St.killAll (σ : St) : List Nat → St
  | [] => σ | c :: r => (σ.kill c).killAll r
/-- Rows of the state are handed away: into a tree (nobody else speaks of them any more), or to be read alone. -/
def St.give (σ : St) (tree : Bool) (l : List Nat) : St := bif tree then σ.killAll l else σ.freezeAll l

/-! ### operations -/
section
variable {ρ : Type} (E : Env) (σ : St)

def aCmp (op : BinOp) (x y : Int) : Option Bool :=
  match op with
  | .eql => some (x == y) | .neq => some (x != y) | .lss => some (decide (x < y)) | .leq => some (decide (x ≤ y))
  | .gtr => some (decide (x > y)) | .geq => some (decide (x ≥ y)) | _ => none

/-- Whole numbers: the answer, and what must hold lest the operation panic. -/
def aInt (op : BinOp) (k : IntKind) (x y : Int) : Option (Bool × Sum Int Bool) :=
  match op with
  | .add => some (true, .inl (k.wrap (x + y)))
  | .sub => some (true, .inl (k.wrap (x - y)))
  | .mul => some (true, .inl (k.wrap (x * y)))
  | .quo => some (!(y == 0), .inl (k.wrap (x.tdiv y)))
  | .rem => some (!(y == 0), .inl (x.tmod y))
  | .and => some (true, .inl (k.wrap (BitVec.ofInt k.bits x &&& BitVec.ofInt k.bits y).toNat))
  | .or => some (true, .inl (k.wrap (BitVec.ofInt k.bits x ||| BitVec.ofInt k.bits y).toNat))
  | .xor => some (true, .inl (k.wrap (BitVec.ofInt k.bits x ^^^ BitVec.ofInt k.bits y).toNat))
  | .shl | .shr | .andNot => none
  | _ => (aCmp op x y).map fun b => (true, .inr b)

def aStr (op : BinOp) (x y : ByteArray) : Option (Bool × Sum ByteArray Bool) :=
  match op with
  | .add => some (decide (x.size + y.size ≤ 9223372036854775807), .inl (x ++ y))
  | .eql => some (true, .inr (x.toList == y.toList))
  | .neq => some (true, .inr (!(x.toList == y.toList)))
  | _ => none

/-- Is a slice nil, if that can be told? -/
def aNil (v : CV) : Option (Bool × Bool) :=
  match v with
  | .nil => some (true, true)
  | .val (.slice _) xs => some (!xs.isEmpty, false)
  | .own c => match obGet σ.ob c with
    | some (.row _ xs _ cn) => bif cn then some (true, xs.isEmpty) else some (!xs.isEmpty, false)
    | _ => none
  | _ => none

def eqCells : List Ty → List CV → List CV → Option Bool
  | [], [], [] => some true
  | t :: ts, a :: as, b :: bs => match t, a, b with
    | .int k, .val (.int k1) x, .val (.int k2) y => bif kSame k k1 && kSame k k2 then (eqCells ts as bs).map fun r => (x == y) && r else none
    | .bool, .val .bool x, .val .bool y => (eqCells ts as bs).map fun r => (x == y) && r
    | _, _, _ => none
  | _, _, _ => none

def aBin (op : BinOp) (T : Nat) (x y : AV) (next : AV → Option ρ) : Option ρ :=
  match op, x, y with
  | .shl, .cv (.val (.int k) a), .cv (.val (.int _) b) => chk (decide (0 ≤ b)) (next (.cv (.val (.int k) (k.wrap (a * 2 ^ (min b.toNat k.bits))))))
  | .shr, .cv (.val (.int k) a), .cv (.val (.int _) b) => chk (decide (0 ≤ b)) (next (.cv (.val (.int k) (a.fdiv (2 ^ (min b.toNat k.bits))))))
  | _, .cv (.val (.int k) a), .cv (.val (.int k') b) =>
    chk (kSame k k') (match aInt op k a b with
      | some (ok, .inl r) => chk ok (next (.cv (.val (.int k) r)))
      | some (ok, .inr r) => chk ok (next (.cv (.val .bool r)))
      | none => none)
  | _, .cv (.val .str a), .cv (.val .str b) =>
    match aStr op a b with
      | some (ok, .inl r) => chk ok (next (.cv (.val .str r)))
      | some (ok, .inr r) => chk ok (next (.cv (.val .bool r)))
      | none => none
  | .eql, .cv (.val .bool a), .cv (.val .bool b) => match E.ty T with | some (.one .bool) => next (.cv (.val .bool (a == b))) | _ => none
  | .neq, .cv (.val .bool a), .cv (.val .bool b) => match E.ty T with | some (.one .bool) => next (.cv (.val .bool (!(a == b)))) | _ => none
  | .eql, .cv a, .cv .nil => match E.ty T, aNil σ a with | some (.one (.slice _)), some (ok, r) => bif ok then next (.cv (.val .bool r)) else next (.cv .unk) | _, _ => none
  | .neq, .cv a, .cv .nil => match E.ty T, aNil σ a with | some (.one (.slice _)), some (ok, r) => bif ok then next (.cv (.val .bool (!r))) else next (.cv .unk) | _, _ => none
  | .eql, .ag a, .ag b => match E.ty T with
    | some (.struct _ ts true) => match eqCells ts a b with | some r => next (.cv (.val .bool r)) | none => none
    | _ => none
  | .neq, .ag a, .ag b => match E.ty T with
    | some (.struct _ ts true) => match eqCells ts a b with | some r => next (.cv (.val .bool (!r))) | none => none
    | _ => none
  | _, _, _ => none

/-- Is the operand the literal nil of an interface type? -/
def nilC : Operand → Bool | .const .nilIface => true | _ => false
/-- An error compared with nil. -/
def aErrNil (op : BinOp) (T : Nat) (x : AV) (next : AV → Option ρ) : Option ρ :=
  match op, E.ty T, x with
  | .eql, some (.one .err), .cv (.val .err b) => next (.cv (.val .bool b))
  | .neq, some (.one .err), .cv (.val .err b) => next (.cv (.val .bool (!b)))
  | _, _, _ => none
def aUn (op : UnOp) (x : AV) : Option AV :=
  match op, x with
  | .not, .cv (.val .bool b) => some (.cv (.val .bool (!b)))
  | .not, .cv .unk => some (.cv .unk)
  | .neg, .cv (.val (.int k) n) => some (.cv (.val (.int k) (k.wrap (0 - n))))
  | _, _ => none

/-- Is the text among the map's? -/
def mpHas (l : List ByteArray) (s : ByteArray) : Bool := l.any fun x => s == x
def setHas : Option (List ByteArray) → ByteArray → Bool
  | none, _ => false | some l, s => mpHas l s
def aLookup (T : Nat) (x k : AV) (next : AV → Option ρ) : Option ρ :=
  match E.ty T, x, k with
  | some (.one .set), .cv (.own c), .cv (.val .str s) => match obGet σ.ob c with
    | some (.mp l) => next (.cv (.val .bool (mpHas l s)))
    | _ => none
  | some (.one .set), .cv (.val .set x), .cv (.val .str s) => next (.cv (.val .bool (setHas x s)))
  | _, _, _ => none
def aMapSet (T : Nat) (x k v : AV) (next : St → Option ρ) : Option ρ :=
  match E.ty T, x, k, v with
  | some (.one .set), .cv (.own c), .cv (.val .str s), .cv (.val .bool b) => chk b (match obGet σ.ob c with
    | some (.mp l) => next { σ with ob := obPut σ.ob c (.mp (bif mpHas l s then l else l ++ [s])) }
    | _ => none)
  | _, _, _, _ => none

/-- How many cells a value of type T has; is it a struct? -/
def aSize (T : Nat) : Option (Nat × Bool) :=
  match E.ty T with
  | some (.one _) => some (1, false)
  | some (.struct _ ks _) => some (ks.length, true)
  | some (.arr n t) => some (n * t.sz, true)
  | some .bytes => none
  | some .flag => none
  | none => none

/-- Is the operation at this number to be done in its other way? -/
def Env.flag (k : Nat) : Bool := match E.ty k with | some .flag => true | _ => false
def cutKey (T dst : Nat) : Nat := 5000000 + T * 1000 + dst

def aLoad (T : Nat) (x : AV) (next : St → AV → Option ρ) : Option ρ :=
  match aSize E T with
  | none => none
  | some (n, agg) => match x with
    | .adr c o => match obGet σ.ob c with
      | some (.box l) => chk (Nat.ble (o + n) l.length) (next σ (ofCells agg ((l.drop o).take n)))
      | _ => none
    | .ref l => chk (Nat.ble n l.length) (next σ (ofCells agg (l.take n)))
    | .el c m i o => match obGet σ.ob c with
      | some (.row t xs d cn) => chk (Nat.beq m t.sz && Nat.ble (o + n) m) (chk (decide (i < xs.length))
          (next (bif t.flat || !d then σ else { σ with ob := obPut σ.ob c (.row t xs false cn) })
            (ofCells agg (((explode t (xs.getD i t.dflt)).drop o).take n))))
      | some (.arr t xs) => chk (Nat.beq m t.sz && Nat.ble (o + n) m && t.flat) (chk (decide (i < xs.length))
          (next σ (ofCells agg (((explode t (xs.getD i t.dflt)).drop o).take n))))
      | _ => none
    | _ => none

/-- Rows under these numbers hand their elements out to be written. -/
def takesB (c : Nat) : Bool := Nat.ble 450000 c
/-- The element i of the row c becomes a row under the number d; c is told with a hole. -/
def St.dig (σ : St) (c d : Nat) (t : Ty) (xs : List (List t.den)) (i : Nat) : St :=
  let τ := St.new { σ with ob := obPut σ.ob c (.hole t xs i .dead) } d (.row t (xs.getD i []) true false)
  { τ with ob := obPut τ.ob c (.hole t xs i (.own d)) }
/-- A datum that has been handed out for good: its rows become objects. -/
def digT (dst : Nat) : (t : Ty) → Nat → t.den → St → St × List CV
  | .slice u, j, x, σ => (σ.new (dst + 1000 * j) (.row u x true false), [.own (dst + 1000 * j)])
  | .pair a b, j, x, σ => let p := digT dst a j x.1 σ; let q := digT dst b (j + a.sz) x.2 p.1; (q.1, p.2 ++ q.2)
  | .int k, j, x, σ => (σ, [.val (.int k) x])
  | .bool, j, x, σ => (σ, [.val .bool x])
  | .str, j, x, σ => (σ, [.val .str x])
  | .err, j, x, σ => (σ, [.val .err x])
  | .set, j, x, σ => (σ, [.dead])
/-- A whole element is taken out of a row for good: of a row that goes, or of one whose elements go in order. -/
def aEat (T d c m i o : Nat) (next : St → Option ρ) (other : Option ρ) : Option ρ :=
  match obGet σ.ob c, aSize E T with
  | some (.row t xs true _), some (n, agg) => chk (Nat.beq n m && Nat.beq m t.sz && Nat.beq o 0 && Nat.blt (d + 1000 * t.sz) 500000) (chk (decide (i < xs.length))
      (let p := digT d t 0 (xs.getD i t.dflt) (σ.kill c); next (p.1.put (some d) (ofCells agg p.2))))
  | some (.tl t xs k), some (n, agg) => chk (Nat.beq n m && Nat.beq m t.sz && Nat.beq o 0 && Nat.blt (d + 1000 * t.sz) 500000) (chk (decide (i < xs.length)) (chk (Nat.beq i k)
      (let p := digT d t 0 (xs.getD i t.dflt) { σ with ob := obPut σ.ob c (.tl t xs (k + 1)) }; next (p.1.put (some d) (ofCells agg p.2)))))
  | _, _ => other
/-- The element i of the row c becomes cells of its own; c is told with a hole. -/
def St.digS (σ : St) (c d : Nat) (t : Ty) (xs : List t.den) (i : Nat) : St × List CV :=
  let p := digT d t 0 (xs.getD i t.dflt) { σ with ob := obPut σ.ob c (.hol t xs i (List.replicate t.sz .dead)) }
  ({ p.1 with ob := obPut p.1.ob c (.hol t xs i p.2) }, p.2)
def aTake (T : Nat) (dst : Option Nat) (x : AV) (next : St → Option ρ) (other : Option ρ) : Option ρ :=
  match dst, x with
  | some d, .el c m i o => bif Env.flag E (cutKey T d) then aEat E σ T d c m i o next other else match obGet σ.ob c, aSize E T with
      | some (.row (.slice t) xs true cn), some (n, agg) => bif takesB c then chk (Nat.beq n 1 && Nat.beq m 1 && Nat.beq o 0 && (!agg) && !(Nat.beq c d) && Nat.blt d 500000) (chk (decide (i < xs.length)) (next ((σ.dig c d t xs i).put (some d) (.cv (.own d))))) else other
      | some (.row (.pair p q) xs true cn), some (n, agg) => bif takesB c then chk (Nat.beq m (Ty.pair p q).sz && Nat.ble (o + n) m && Nat.blt (d + 1000 * (Ty.pair p q).sz) 450000) (chk (decide (i < xs.length))
          (next ((σ.digS c d (.pair p q) xs i).1.put (some d) (ofCells agg (((σ.digS c d (.pair p q) xs i).2.drop o).take n))))) else other
      | _, _ => other
  | _, _ => other
/-- Cells from o on are written anew. -/
def splice {α : Type} (l : List α) (o : Nat) (new : List α) : List α := l.take o ++ new ++ l.drop (o + new.length)

def aStore (T : Nat) (x v : AV) (next : St → Option ρ) : Option ρ :=
  match aSize E T, σ.cells v with
  | some (n, _), some cs => chk (Nat.beq cs.length n) (match x with
    | .adr c o => match obGet σ.ob c with
      | some (.box l) => chk (Nat.ble (o + n) l.length) (next { σ with ob := obPut σ.ob c (.box (splice l o cs)) })
      | _ => none
    | .el c m i o => match obGet σ.ob c with
      | some (.row t xs d cn) => chk (Nat.beq m t.sz && Nat.ble (o + n) m) (chk (decide (i < xs.length))
          (bif t.flat then match implode t (splice (explode t (xs.getD i t.dflt)) o cs) with
              | some y => next { σ with ob := obPut σ.ob c (.row t (xs.set i y) d cn) }
              | none => none
            else chk (Nat.beq n m) (match σ.impl t cs with   -- a whole element that leads to memory
              | some y => let tree := d && σ.treeB cs && !hasB c (ownsAll cs); chk (!hasB c (ownsAll cs))
                  (let τ := σ.give tree (ownsAll cs); next { τ with ob := obPut τ.ob c (.row t (xs.set i y) tree cn) })
              | none => none)))
      | some (.arr t xs) => chk (Nat.beq m t.sz && Nat.ble (o + n) m && t.flat) (chk (decide (i < xs.length))
          (match implode t (splice (explode t (xs.getD i t.dflt)) o cs) with
              | some y => next { σ with ob := obPut σ.ob c (.arr t (xs.set i y)) }
              | none => none))
      | some (.hol t xs j l) => chk (Nat.beq m t.sz && Nat.ble (o + n) m && (ownsAll cs).isEmpty && cs.all (fun v => match v with | .dead => false | _ => true)) (chk (Nat.beq i j) (next { σ with ob := obPut σ.ob c (.hol t xs j (splice l o cs)) }))
      | some (.hole t xs j v) => match cs with
        | [.own k] => match obGet σ.ob k with
          | some (.row u ys true _) => match (Ty.slice u).as (.slice t) ys with
            | some ys => chk (Nat.beq m 1 && Nat.beq o 0 && !(Nat.beq c k)) (chk (Nat.beq i j) (let τ := σ.kill k; next { τ with ob := obPut τ.ob c (.row (.slice t) (xs.set j ys) true false) }))
            | none => none
          | _ => none
        | _ => none
      | _ => none
    | _ => none)
  | _, _ => none

def aField (T : Nat) (f : Nat) : Option (Nat × Nat × Bool) :=   -- where field f begins, its cells, is it a struct
  match E.ty T with
  | some (.struct fs _ _) => match fs[f]? with
    | some (off, u) => (aSize E u).map fun p => (off, p.1, p.2)
    | none => none
  | _ => none

/-- The plain int of an index. -/
def aIx : AV → Option Int
  | .cv (.val (.int _) i) => some i | _ => none

def aIndexAddr (T : Nat) (x : AV) (i : Int) (next : AV → Option ρ) : Option ρ :=
  match E.ty T, x with
  | some (.one (.slice t)), .cv (.val (.slice u) xs) => chk (Ty.same t u) (chk (decide (0 ≤ i)) (chk (decide (i < xs.length)) (next (.ref (explode u (xs.getD i.toNat u.dflt))))))
  | some (.one (.slice t)), .cv (.own c) => match obGet σ.ob c with
    | some (.row u xs _ _) => chk (Ty.same t u) (chk (decide (0 ≤ i)) (chk (decide (i < xs.length)) (next (.el c u.sz i.toNat 0))))
    | some (.hole u xs _ _) => chk (Ty.same t (.slice u)) (chk (decide (0 ≤ i)) (chk (decide (i < xs.length)) (next (.el c 1 i.toNat 0))))
    | some (.hol u xs _ _) => chk (Ty.same t u) (chk (decide (0 ≤ i)) (chk (decide (i < xs.length)) (next (.el c u.sz i.toNat 0))))
    | some (.tl u xs _) => chk (Ty.same t u) (chk (decide (0 ≤ i)) (chk (decide (i < xs.length)) (next (.el c u.sz i.toNat 0))))
    | _ => none
  | some (.arr n t), .adr c 0 => match obGet σ.ob c with
    | some (.arr u xs) => chk (Ty.same t u && Nat.beq xs.length n && Nat.ble 2 n) (chk (decide (0 ≤ i)) (chk (decide (i < xs.length)) (next (.el c u.sz i.toNat 0))))
    | _ => none
  | _, _ => none

/-- The bounds of a cut: from lo to hi, within n. -/
def aBounds (n : Int) (lo hi : Option AV) (next : Nat → Nat → Option ρ) : Option ρ :=
  let go (h : Int) : Option ρ := match lo with
    | none => chk (decide (0 ≤ h)) (chk (decide (h ≤ n)) (next 0 h.toNat))
    | some l => match aIx l with
      | some l => chk (decide (0 ≤ l)) (chk (decide (l ≤ h)) (chk (decide (h ≤ n)) (next l.toNat h.toNat)))
      | none => none
  match hi with
  | none => go n
  | some h => match aIx h with | some h => go h | none => none

def aSlice (T dst : Nat) (x : AV) (lo hi : Option AV) (next : St → Option ρ) : Option ρ :=
  match x with
  | .cv (.val .str s) => match E.ty T with
    | some (.one .str) => aBounds s.size lo hi fun l h => next (σ.put (some dst) (.cv (.val .str (s.extract l h))))
    | _ => none
  | .cv (.val (.slice t) xs) => match E.ty T with
    | some (.one (.slice u)) => chk (Ty.same u t) (aBounds xs.length lo hi fun l h => next (σ.put (some dst) (.cv (.val (.slice t) ((xs.take h).drop l)))))
    | _ => none
  | .cv (.own c) => match obGet σ.ob c, E.ty T with
    | some (.row t xs d cn), some (.one (.slice u)) => chk (Ty.same u t) (aBounds xs.length lo hi fun l h =>
        bif Env.flag E (cutKey T dst) && Nat.blt dst 500000 then next (((σ.kill c).new dst (.row t ((xs.take h).drop l) d false)).put (some dst) (.cv (.own dst)))
        else next ((σ.freeze c).put (some dst) (.cv (.val (.slice t) ((xs.take h).drop l)))))
    | _, _ => none
  | .cv .nil => match E.ty T with
    | some (.one (.slice u)) => aBounds 0 lo hi fun l h => next (σ.put (some dst) (.cv .nil))
    | _ => none
  | .adr c 0 => match obGet σ.ob c, E.ty T with
    | some (.arr t xs), some (.arr n u) => chk (Ty.same u t && Nat.beq xs.length n) (aBounds xs.length lo hi fun l h => next ((σ.kill c).put (some dst) (.cv (.val (.slice t) ((xs.take h).drop l)))))
    | _, _ => none
  | _ => none

/-- The most that a row may hold here. -/
def rowMax : Nat := 4294967296

/-- The row xs, which has been taken out of the state, is appended to. -/
def aApp2 (σ : St) (t : Ty) (dst key : Nat) (y : AV) (xs : List t.den) (d cn : Bool) (next : St → Option ρ) : Option ρ :=
  match y with
  | .cv .nil => let τ := σ.new key (.row t xs d cn); next (τ.put (some dst) (.cv (.own key)))
  | .cv (.val (.slice u) ys) => match (Ty.slice u).as (.slice t) ys with
    | some ys => chk (decide (xs.length + ys.length ≤ rowMax)) (let τ := σ.new key (.row t (xs ++ ys) (d && t.flat) cn); next (τ.put (some dst) (.cv (.own key))))
    | none => none
  | .cv (.own c) => match obGet σ.ob c with
    | some (.row u ys e _) => match (Ty.slice u).as (.slice t) ys with
      | some ys => chk (decide (xs.length + ys.length ≤ rowMax))
          (let tree := d && (t.flat || e)
           let τ := (bif t.flat then σ else bif tree then σ.kill c else σ.freeze c).new key (.row t (xs ++ ys) tree cn)
           next (τ.put (some dst) (.cv (.own key))))
      | none => none
    | _ => none
  | _ => none

/-- A row that hands its elements out keeps its number. -/
def keyFor (c dst : Nat) : Nat := bif Nat.ble 450000 c && Nat.blt c 500000 then c else dst
def aAppend (T dst : Nat) (x y : AV) (next : St → Option ρ) : Option ρ :=
  match E.ty T with
  | some (.one (.slice t)) => match x with
    | .cv .nil => aApp2 σ t dst dst y [] true true next
    | .cv (.own c) => match obGet σ.ob c with
      | some (.row u xs d cn) => match (Ty.slice u).as (.slice t) xs with | some xs => aApp2 (σ.kill c) t dst (keyFor c dst) y xs d cn next | none => none
      | _ => none
    | _ => none
  | _ => none

/-- The elements of a literal slice, each in its place. -/
def aParts (t : Ty) (n : Nat) : Nat → List (Nat × AV) → Option (List CV × List t.den)
  | i, [] => bif Nat.beq i n then some ([], []) else none
  | i, (j, v) :: r => bif Nat.beq i j then (match σ.cells v with
      | some cs => match σ.impl t cs, aParts t n (i + 1) r with
        | some x, some (l, xs) => some (cs ++ l, x :: xs)
        | _, _ => none
      | none => none) else none

def aBuildSlice (T dst n : Nat) (parts : List (Nat × AV)) (next : St → Option ρ) : Option ρ :=
  match E.ty T with
  | some (.one (.slice t)) => match aParts σ t n 0 parts with
    | some (l, xs) => let tree := σ.treeB l
        let τ := (σ.give tree (ownsAll l)).new dst (.row t xs tree false)
        chk (Nat.ble (n * t.sz) 16777216) (next (τ.put (some dst) (.cv (.own dst))))
    | none => none
  | _ => none

def aMakeSlice (T dst : Nat) (n c : AV) (next : St → Option ρ) : Option ρ :=
  match E.ty T, aIx n, aIx c with
  | some (.one (.slice t)), some n, some c => chk (decide (0 ≤ n)) (chk (decide (n ≤ rowMax)) (chk (n == c)
      (let τ := σ.new dst (.row t (List.replicate n.toNat t.dflt) true false); next (τ.put (some dst) (.cv (.own dst))))))
  | _, _, _ => none

def zeroCell : Ty → CV
  | .slice _ => .nil | .int k => .val (.int k) (0 : Int) | .bool => .val .bool false | .str => .val .str (⟨#[]⟩ : ByteArray) | .pair _ _ => .dead | .set => .val .set none | .err => .val .err true

def aBuild (T : Nat) (parts : List (Nat × AV)) (zero : List CV) : Option AV :=
  match parts with
  | [] => some (.ag zero)
  | (f, v) :: r => match aField E T f, σ.cells v with
    | some (off, n, _), some cs => bif Nat.beq cs.length n && Nat.ble (off + n) zero.length then aBuild T r (splice zero off cs) else none
    | _, _ => none


def aAlloc (T dst : Nat) (next : St → Option ρ) : Option ρ :=
  match E.ty T with
  | some (.one t) => next ((σ.new dst (.box [zeroCell t])).put (some dst) (.adr dst 0))
  | some (.struct _ ks _) => next ((σ.new dst (.box (ks.map zeroCell))).put (some dst) (.adr dst 0))
  | some (.arr n t) => chk t.flat (next ((σ.new dst (.arr t (List.replicate n t.dflt))).put (some dst) (.adr dst 0)))
  | some .bytes => none
  | some .flag => none
  | none => none

def aBox (dst : Nat) (v : AV) (next : St → Option ρ) : Option ρ :=
  match σ.cells v with
  | some l => chk (!hasB dst (ownsAll l)) (next ((σ.new dst (.box l)).put (some dst) (.adr dst 0)))
  | none => none

def plainCells (l : List CV) : Bool := l.all fun v => match v with | .own _ => false | .dead => false | _ => true
def St.sealBox (σ : St) (c : Nat) : Option (St × List CV) :=
  match obGet σ.ob c with
  | some (.box l0) => let τ := σ.freezeAll (ownsAll l0)
    match obGet τ.ob c with
    | some (.box l) => bif plainCells l then some (τ.sub c (rnSeal c l), l) else none
    | _ => none
  | _ => none
def St.capture (σ : St) : List Operand → Option (St × List (List CV))
  | [] => some (σ, [])
  | x :: r => match σ.ev x with
    | .ref l => (σ.capture r).map fun p => (p.1, l :: p.2)
    | .adr c 0 => match σ.sealBox c with
      | some (τ, l) => (τ.capture r).map fun p => (p.1, l :: p.2)
      | none => none
    | _ => none

def aConv (S D : Nat) (x : AV) (next : AV → Option ρ) : Option ρ :=
  match E.ty S, E.ty D, x with
  | some (.one (.int _)), some (.one (.int k)), .cv (.val (.int _) n) => next (.cv (.val (.int k) (k.wrap n)))
  | some (.one .str), some (.one .str), .cv (.val .str s) => next (.cv (.val .str s))
  | some (.one (.slice (.int .u8))), some (.one .str), .cv c => match E.ty (S + 1000000), σ.cvAs (.slice (.int .u8)) c with
    | some .bytes, some xs => next (.cv (.val .str ((xs : List Int).foldl (fun r n => r.push (UInt8.ofNat n.toNat)) ByteArray.empty)))
    | _, _ => none
  | _, _, _ => none

def aIndexStr (T : Nat) (x : AV) (i : Int) (next : AV → Option ρ) : Option ρ :=
  match E.ty T, x with
  | some (.one .str), .cv (.val .str s) => chk (decide (0 ≤ i)) (chk (decide (i < s.size)) (next (.cv (.val (.int .u8) (s.data.toList.getD i.toNat 0).toNat))))
  | _, _ => none

def aLen (T : Nat) (x : AV) (next : AV → Option ρ) : Option ρ :=
  match E.ty T with
  | some (.one .str) => match x with
    | .cv (.val .str s) => next (.cv (.val (.int .i64) (s.size : Int)))
    | _ => none
  | some (.one (.slice _)) => match x with
    | .cv .nil => next (.cv (.val (.int .i64) (0 : Int)))
    | .cv (.val (.slice _) xs) => next (.cv (.val (.int .i64) (xs.length : Int)))
    | .cv (.own c) => match obGet σ.ob c with
      | some (.row _ xs _ _) => next (.cv (.val (.int .i64) (xs.length : Int)))
      | some (.hole _ xs _ _) => next (.cv (.val (.int .i64) (xs.length : Int)))
      | some (.hol _ xs _ _) => next (.cv (.val (.int .i64) (xs.length : Int)))
      | some (.tl _ xs _) => next (.cv (.val (.int .i64) (xs.length : Int)))
      | _ => none
    | _ => none
  | _ => none

def aMaxMin (big : Bool) : List AV → Option AV
  | [.cv (.val (.int k) x), .cv (.val (.int k') y)] => bif kSame k k' then some (.cv (.val (.int k) (bif big then (bif decide (y > x) then y else x) else (bif decide (y < x) then y else x)))) else none
  | _ => none

/-! ### calls -/
def capsTo : (ts : List Ty) → List (List CV) → Option (tupTy ts).den
  | [], [] => some false
  | [t], [l] => implode t l
  | t :: u :: r, l :: ls => (implode t l).bind fun x => (capsTo (u :: r) ls).bind fun y => some (x, y)
  | _, _ => none
def capsOf : (ts : List Ty) → (tupTy ts).den → List (List CV)
  | [], _ => []
  | [t], x => [explode t x]
  | t :: u :: r, x => explode t x.1 :: capsOf (u :: r) x.2
def fnIds : List AV → List Nat
  | [] => [] | .fn f _ :: r => f :: fnIds r | _ :: r => fnIds r
def St.toCell (σ : St) : (c : PC) → CV → Option c.ty.den
  | .v t, v => match v with | .own _ => none | v => v.as t
  | .o t d, v => match v with
    | .nil => some []
    | .own k => match obGet σ.ob k with
      | some (.row u xs e _) => bif t.flat || (bif d then e else !e) then (Ty.slice u).as (.slice t) xs else none
      | _ => none
    | _ => none
def St.toCells (σ : St) : (cs : List PC) → List CV → Option (tupTy (cs.map PC.ty)).den
  | [], [] => some false
  | [c], [v] => σ.toCell c v
  | c :: d :: r, v :: l => (σ.toCell c v).bind fun x => (σ.toCells (d :: r) l).bind fun y => some (x, y)
  | _, _ => none
def St.toArg (σ : St) : (p : PT) → AV → Option p.ty.den
  | .o cs agg, .cv c => bif agg then none else σ.toCells cs [c]
  | .o cs agg, .ag l => bif agg then σ.toCells cs l else none
  | .v t agg, .cv c => bif agg then none else σ.cvAs t c
  | .v t agg, .ag l => bif agg then σ.impl t l else none
  | .r t, .ref l => implode t l
  | .z t, .cv .nil => some ([] : List t.den)
  | .p a b, .adr c 0 => match obGet σ.ob c with | some (.box l) => implode (.pair a b) l | _ => none
  | .fn f ts, .fn g caps => bif Nat.beq f g then capsTo ts caps else none
  | _, _ => none
def St.toArgs (σ : St) : (ps : List PT) → List AV → Option (Aden ps)
  | [], [] => some ()
  | [p], [v] => σ.toArg p v
  | p :: q :: r, v :: vs => (σ.toArg p v).bind fun x => (σ.toArgs (q :: r) vs).bind fun y => some (x, y)
  | _, _ => none

/-- The rows that are handed in to be written, by their numbers; none for nil. -/
def cellKeys : List PC → List CV → List (Option Nat)
  | .o _ _ :: r, .own k :: l => some k :: cellKeys r l
  | .o _ _ :: r, _ :: l => none :: cellKeys r l
  | .v _ :: r, _ :: l => cellKeys r l
  | _, _ => []
def avCells : AV → List CV
  | .cv c => [c] | .ag l => l | _ => []
def argKeys : List PT → List AV → List (Option Nat)
  | .o cs _ :: r, v :: l => cellKeys cs (avCells v) ++ argKeys r l
  | .p _ _ :: r, .adr c _ :: l => some c :: argKeys r l
  | _ :: r, _ :: l => argKeys r l
  | _, _ => []
def someKeys : List (Option Nat) → List Nat
  | [] => [] | some k :: r => k :: someKeys r | none :: r => someKeys r
/-- The rows that are handed in to be read. -/
def rdOwns : List PT → List AV → List Nat
  | .o _ _ :: r, _ :: l => rdOwns r l
  | .p _ _ :: r, _ :: l => rdOwns r l
  | _ :: r, v :: l => v.owns ++ rdOwns r l
  | _, _ => []
/-- A row that was handed in comes back with new content. -/
def St.back1 (σ : St) (k : Option Nat) (c : RC) (x : c.t.den) : St :=
  match k, c, x with
  | some k, ⟨.slice t, some (d, _)⟩, x => match obGet σ.ob k with
    | some (.row _ _ e n) => { σ with ob := obPut σ.ob k (.row t x (bif t.flat then e else d) n) }
    | _ => σ
  | some k, ⟨.pair a b, some _⟩, x => match obGet σ.ob k with
    | some (.box _) => { σ with ob := obPut σ.ob k (.box (explode (.pair a b) x)) }
    | _ => σ
  | _, _, _ => σ
def St.back (σ : St) : List (Option Nat) → (ios : List RC) → Rden ios → St
  | k :: _, [c], x => σ.back1 k c x
  | k :: ks, c :: d :: r, x => (σ.back1 k c x.1).back ks (d :: r) x.2
  | _, _, _ => σ

/-- One result's cells: rows of one's own become objects. -/
def putCells (σ : St) (dst : Nat) : (j : Nat) → (rs : List RC) → Rden rs → St × List CV
  | _, [], _ => (σ, [])
  | j, [c], x => one σ dst j c x
  | j, c :: d :: r, x => let p := one σ dst j c x.1; let q := putCells p.1 dst (j + 1) (d :: r) x.2; (q.1, p.2 ++ q.2)
where
  one (σ : St) (dst j : Nat) (c : RC) (x : c.t.den) : St × List CV :=
    match c, x with
    | ⟨.slice t, some (d, n)⟩, x => (σ.new (dst + 1000 * j) (.row t x d n), [.own (dst + 1000 * j)])
    | ⟨.pair a b, some _⟩, x => (σ.new (dst + 1000 * j) (.box (explode (.pair a b) x)), [.own (dst + 1000 * j)])
    | ⟨t, _⟩, x => (σ, [.val t x])

def cutParts : List (Bool × List RC) → List CV → List (Bool × List CV)
  | [], _ => [] | (g, rs) :: r, l => (g, l.take rs.length) :: cutParts r (l.drop rs.length)
def ofParts : List (Bool × List CV) → AV
  | [(g, l)] => ofCells g l | l => .tup l

def leadsB (c : RC) : Bool :=   -- may this result lead to what came in?
  match c with
  | ⟨.slice t, some (d, _)⟩ => !(d || t.flat)
  | ⟨t, _⟩ => !t.flat
def immB (rs : List (Bool × List RC)) : Bool := (flatRs rs).any leadsB
def argOwns (vs : List AV) : List Nat := vs.flatMap AV.owns

def keysFrom (d : Nat) : Nat → List RC → List Nat
  | _, [] => [] | j, c :: r => (match c with | ⟨.slice _, some _⟩ => [d + 1000 * j] | ⟨.pair _ _, some _⟩ => [d + 1000 * j] | _ => []) ++ keysFrom d (j + 1) r
def lowKeys (l : List Nat) : Bool := l.all fun k => Nat.blt k 500000
/-- The address of a variable of one's own, that a call hands back. -/
def St.adrOf (σ : St) : AV → AV
  | .cv (.own c) => match obGet σ.ob c with | some (.box _) => .adr c 0 | _ => .cv (.own c)
  | v => v
def aResult (σ : St) (dst : Option Nat) (rs : List (Bool × List RC)) (x : Rden (flatRs rs)) (next : St → Option ρ) : Option ρ :=
  match dst with
  | none => next σ
  | some d => chk (lowKeys (keysFrom d 0 (flatRs rs))) (let p := putCells σ d 0 (flatRs rs) x; next (p.1.put (some d) (p.1.adrOf (ofParts (cutParts rs p.2)))))

/-- An element that was handed out goes back. -/
def St.settle1 (σ : St) (c : Nat) : St :=
  match obGet σ.ob c with
  | some (.hole t xs i (.own k)) => match obGet σ.ob k with
    | some (.row u ys true _) => match (Ty.slice u).as (.slice t) ys with
      | some ys => bif Nat.beq c k then σ else let τ := σ.kill k; { τ with ob := obPut τ.ob c (.row (.slice t) (xs.set i ys) true false) }
      | none => σ
    | _ => σ
  | some (.hol t xs i l) => bif σ.treeB l && !hasB c (ownsAll l) then (match σ.impl t l with
    | some y => let τ := σ.killAll (ownsAll l); { τ with ob := obPut τ.ob c (.row t (xs.set i y) true false) }
    | none => σ) else σ
  | _ => σ
/-- The row that is appended to, an element of which is out, takes it back. -/
def St.homeFor (σ : St) : AV → St
  | .cv (.own c) => bif Nat.ble 420000 c && Nat.blt c 430000 then σ.settle1 c else σ
  | _ => σ
/-- A row of its own is the first argument, and is given away; the others own nothing. -/
def aGift (ck : (fi : Fi) → Aden fi.ps → Option (Oden (flatRs fi.rs) (ioOf fi.ps))) (fi : Fi) (dst : Option Nat) (vs : List AV) (xs : Aden fi.ps) (next : St → Option ρ) : Option ρ :=
  match vs with
  | .cv (.own c) :: rest => match obGet σ.ob c with
    | some (.row t _ d _) => chk ((t.flat || (bif fi.run1 then !d else d)) && giftPs fi.ps && (argOwns rest).isEmpty) ((ck fi xs).bind fun y => aResult (σ.kill c) dst fi.rs (Oden.res _ _ y) next)
    | _ => none
  | _ => none
def aCall (ck : (fi : Fi) → Aden fi.ps → Option (Oden (flatRs fi.rs) (ioOf fi.ps))) (f : Nat) (dst : Option Nat) (vs : List AV) (next : St → Option ρ) : Option ρ :=
  match E.fn f (fnIds vs) with
  | none => none
  | some fi => match σ.toArgs fi.ps vs with
    | none => none
    | some xs => bif fi.gift then aGift σ ck fi dst vs xs next else chk (nodupB (someKeys (argKeys fi.ps vs)) && (rdOwns fi.ps vs).all fun k => !hasB k (someKeys (argKeys fi.ps vs)))
        ((ck fi xs).bind fun y => aResult ((bif immB fi.rs || (ioOf fi.ps).any leadsB then σ.freezeAll (rdOwns fi.ps vs) else σ).back (argKeys fi.ps vs) (ioOf fi.ps) (Oden.io _ _ y)) dst fi.rs (Oden.res _ _ y) next)

/-- What is given beside a row that is given away is written no more. -/
def St.ready (E : Env) (σ : St) (f : Nat) (vs : List AV) : St :=
  match E.fn f (fnIds vs) with
  | some fi => bif fi.run1 then σ.freezeAll (argOwns (vs.drop 1)) else σ
  | none => σ
def okDst : Option Nat → Bool | some d => Nat.blt d 500000 | none => false
def aOp (ck : (fi : Fi) → Aden fi.ps → Option (Oden (flatRs fi.rs) (ioOf fi.ps))) (o : Oper) (next : St → Option ρ) : Option ρ :=
  let put (v : AV) : Option ρ := next (σ.put o.dst v)
  let d := o.dst.getD 0
  match o.op with
  | .move x | .assign x => put (σ.ev x)
  | .pick c a b => match σ.ev c with | .cv (.val .bool x) => bif x then put (σ.ev a) else put (σ.ev b) | _ => none
  | .alloc T => chk (okDst o.dst) (aAlloc E σ T d next)
  | .box T x => chk (okDst o.dst) (aBox σ d (σ.ev x) next)
  | .build T ps => match E.ty T with
    | some (.struct _ ks _) => match aBuild E σ T (ps.toList.map fun p => (p.1, σ.ev p.2)) (ks.map zeroCell) with | some v => put v | none => none
    | _ => none
  | .buildSlice T n ps => chk (okDst o.dst) (aBuildSlice E σ T d n (ps.toList.map fun p => (p.1, σ.ev p.2)) next)
  | .load T x => aTake E σ T o.dst (σ.ev x) next (aLoad E σ T (σ.ev x) fun τ v => next (τ.put o.dst v))
  | .store T x v => aStore E σ T (σ.ev x) (σ.ev v) fun τ => next (τ.put o.dst (.cv .dead))
  | .nilCheck x => match σ.ev x with | .adr c o => put (.adr c o) | .el c n i o => put (.el c n i o) | .ref l => put (.ref l) | .fn f l => put (.fn f l) | _ => none
  | .binOp op T x y _ => bif nilC y then aErrNil E op T (σ.ev x) put else aBin E σ op T (σ.ev x) (σ.ev y) put
  | .unOp op _ x => match aUn op (σ.ev x) with | some v => put v | none => none
  | .convert S D x => aConv E σ S D (σ.ev x) put
  | .makeFunc (.func f) first caps => chk first.isEmpty (match σ.capture caps.toList with | some (τ, l) => next (τ.put o.dst (.fn f l)) | none => none)
  | .makeSlice T n c => chk (okDst o.dst) (aMakeSlice E σ T d (σ.ev n) (σ.ev c) next)
  | .makeMap T r => chk (okDst o.dst && r.isNone) (match E.ty T with
    | some (.one .set) => next ((σ.new d (.mp [])).put o.dst (.cv (.own d)))
    | _ => none)
  | .lookup T x k ok => chk (!ok) (aLookup E σ T (σ.ev x) (σ.ev k) put)
  | .mapUpdate T m k x => aMapSet E σ T (σ.ev m) (σ.ev k) (σ.ev x) fun τ => next (τ.put o.dst (.cv .dead))
  | .insert T m k x => aMapSet E σ T (σ.ev m) (σ.ev k) (σ.ev x) fun τ => next (τ.put o.dst (.cv .dead))
  | .slice T x lo hi mx => chk (o.dst.isSome && mx.isNone) (aSlice E σ T d (σ.ev x) (lo.map σ.ev) (hi.map σ.ev) next)
  | .fieldAddr T x f => match aField E T f with
    | some (off, n, _) => chk (Nat.ble 1 n) (match σ.ev x with | .adr c o => put (.adr c (o + off)) | .el c m i o => put (.el c m i (o + off)) | .ref l => put (.ref (l.drop off)) | _ => none)
    | none => none
  | .field T x f => match aField E T f, σ.ev x with
    | some (off, n, agg), .ag l => chk (Nat.ble (off + n) l.length) (put (ofCells agg ((l.drop off).take n)))
    | _, _ => none
  | .indexAddr T x i => match aIx (σ.ev i) with | some i => aIndexAddr E σ T (σ.ev x) i put | none => none
  | .index T x i => match aIx (σ.ev i) with | some i => aIndexStr E T (σ.ev x) i put | none => none
  | .extract x i => match σ.ev x with
    | .tup l => (match l[i]? with | some p => put (ofCells p.1 p.2) | none => none)
    | _ => none
  | .call c => match c.callee with
    | .builtin b => match b, c.args.toList with
      | .len, [x] => match c.argTypes.toList with
        | T :: _ => aLen E σ T (σ.ev x) put
        | _ => none
      | .cap, [x] => match σ.ev x with
        | .cv .nil => (match c.argTypes.toList with
          | T :: _ => match E.ty T with | some (.one (.slice _)) => put (.cv (.val (.int .i64) (0 : Int))) | _ => none
          | _ => none)
        | _ => none
      | .append, [x, y] => match c.argTypes.toList with
        | [T, U] => chk (okDst o.dst && Nat.beq T U) (let τ := σ.homeFor (σ.ev x); aAppend E τ T d (τ.ev x) (τ.ev y) next)
        | _ => none
      | .max, l => match aMaxMin true (l.map σ.ev) with | some v => put v | none => none
      | .min, l => match aMaxMin false (l.map σ.ev) with | some v => put v | none => none
      | _, _ => none
    | .value f => match σ.ev f with
      | .fn f caps => let τ := σ.ready E f (c.args.toList.map σ.ev); aCall E τ ck f o.dst (c.args.toList.map τ.ev ++ caps.map .ref) next
      | _ => none
    | _ => none
  | _ => none

/-- Operations in the text's order; of one behind a guard: if the guard says so. -/
def aOps (ck : (fi : Fi) → Aden fi.ps → Option (Oden (flatRs fi.rs) (ioOf fi.ps))) (ops : List Oper) : List Oper → St → (St → Option ρ) → Option ρ
  | [], σ, next => next σ
  | o :: r, σ, next => match o.guard with
    | none => aOp E σ ck o fun τ => aOps ck ops r τ next
    | some (j, want) => match (ops[j]?).bind (·.dst) with
      | some g => match slGet σ.sl g with
        | .cv (.val .bool b) =>
          let yes (b : Bool) : Option ρ := let τ := σ.put (some g) (.cv (.val .bool b)); aOp E τ ck o fun τ => aOps ck ops r τ next
          let no (b : Bool) : Option ρ := let τ := σ.put (some g) (.cv (.val .bool b)); aOps ck ops r (τ.put o.dst (.tup [])) next
          bif b then (bif want then yes true else no true) else (bif want then no false else yes false)
        | .tup [] => aOps ck ops r (σ.put o.dst (.tup [])) next   -- the guard itself wasn't wanted
        | _ => none
      | none => none

end

/-! ### where ways meet -/
def killOthers : (i : Nat) → List Nat → List AV → List AV   -- the slots that are not named are forgotten
  | _, _, [] => []
  | i, ks, a :: r => (bif hasB i ks then a else .cv .dead) :: killOthers (i + 1) ks r
def St.rename (σ : St) (c e : Nat) : Option St :=
  bif Nat.beq c e then some σ else let σ1 := σ.kill e
    match obGet σ1.ob c with
    | some o => let τ := σ1.sub c (rnName c e); bif Nat.blt e 500000 then some { τ with ob := (e, o.map (rnName c e)) :: τ.ob } else none
    | none => none
/-- The row e is told with fewer marks. -/
def St.weaken (σ : St) (e : Nat) (t : Ty) (deep cn : Bool) : Option St :=
  match obGet σ.ob e with
  | some (.row u xs d n) => match (Ty.slice u).as (.slice t) xs with
    | some xs => bif (!deep || d) && (!cn || n) then some { σ with ob := obPut σ.ob e (.row t xs deep cn) } else none
    | none => none
  | _ => none

/-- Rows under these numbers hand their elements out for good, in order. -/
def tlB (c : Nat) : Bool := Nat.ble 440000 c && Nat.blt c 450000
def holeB (c : Nat) : Bool := Nat.ble 420000 c && Nat.blt c 430000   -- under these, rows of which an element is out, and stays out
def mpB (c : Nat) : Bool := Nat.ble 430000 c && Nat.blt c 440000   -- under these, maps
def St.toTl (σ : St) (e : Nat) (t : Ty) : Option St :=
  match obGet σ.ob e with
  | some (.row u xs true _) => match (Ty.slice u).as (.slice t) xs with
    | some xs => some { σ with ob := obPut σ.ob e (.tl t xs 0) }
    | none => none
  | some (.tl u xs n) => match (Ty.slice u).as (.slice t) xs with
    | some xs => some { σ with ob := obPut σ.ob e (.tl t xs n) }
    | none => none
  | _ => none

/-- A cell, brought into the form that a hint asks for. -/
def St.form (σ : St) (h : CH) (v : CV) : Option (St × CV) :=
  match h with
  | .keep => match v with | .own _ => none | v => some (σ, v)
  | .val t => match v with
    | .nil => (CV.nil.as t).map fun x => (σ, .val t x)
    | .own c => (σ.cvAs t (.own c)).map fun x => (σ.freeze c, .val t x)
    | v => (v.as t).map fun x => (σ, .val t x)
  | .row e t deep cn => bif tlB e then (match v with
    | .own c => (σ.rename c e).bind fun τ => (τ.toTl e t).map fun τ => (τ, .own e)
    | _ => none) else bif holeB e then (match v with
    | .own c => (σ.rename c e).bind fun τ => (match obGet τ.ob e with | some (.hole _ _ _ (.own _)) => some (τ, .own e) | _ => none)
    | _ => none) else bif mpB e then (match v with
    | .own c => (σ.rename c e).bind fun τ => (match obGet τ.ob e with | some (.mp _) => some (τ, .own e) | _ => none)
    | _ => none) else match v with
    | .nil => bif Nat.blt e 500000 then some (σ.new e (.row t [] deep cn), .own e) else none
    | .own c => (σ.rename c e).bind fun τ => (τ.weaken e t deep cn).map fun τ => (τ, .own e)
    | _ => none

def St.formCells (σ : St) (c : Nat) : (j : Nat) → List CH → Option St   -- the cells of the box c, one by one
  | _, [] => some σ
  | j, h :: r => match obGet σ.ob c with
    | some (.box l) => match l[j]? with
      | some v => (σ.form h v).bind fun p => match obGet p.1.ob c with
        | some (.box l) => St.formCells { p.1 with ob := obPut p.1.ob c (.box (l.set j p.2)) } c (j + 1) r
        | _ => none
      | none => none
    | _ => none

def freeAV : AV → Bool
  | .cv (.own _) => false | .cv _ => true | .ag l => l.all fun v => match v with | .own _ => false | _ => true
  | .ref _ => true | .fn _ _ => true | .tup l => l.all fun p => p.2.all fun v => match v with | .own _ => false | _ => true
  | _ => false

def St.meet1 (σ : St) : Hint → Option St
  | .keep s => bif freeAV (slGet σ.sl s) then some σ else none
  | .cell s h => match slGet σ.sl s with
    | .cv v => (σ.form h v).map fun p => { p.1 with sl := slSet p.1.sl s (.cv p.2) }
    | _ => none
  | .box s e l => match slGet σ.sl s with
    | .adr c 0 => (σ.rename c e).bind fun τ => τ.formCells e 0 l
    | _ => none
  | .arr s e => match slGet σ.sl s with
    | .adr c 0 => σ.rename c e
    | _ => none
def St.meetAll (σ : St) : List Hint → Option St
  | [] => some σ | h :: r => (σ.meet1 h).bind fun τ => τ.meetAll r
def Hint.slot : Hint → Nat | .keep s => s | .cell s _ => s | .box s _ _ => s | .arr s _ => s
def chKeys : List CH → List Nat
  | [] => [] | .row c _ _ _ :: r => c :: chKeys r | _ :: r => chKeys r
def Hint.keys : Hint → List Nat
  | .cell _ (.row c _ _ _) => [c] | .box _ c l => c :: chKeys l | .arr _ c => [c] | _ => []
def obsOf (ob : List (Nat × Ob)) : List Nat → Option (List (Nat × Ob))
  | [] => some []
  | c :: r => match obGet ob c, obsOf ob r with | some o, some l => some ((c, o) :: l) | _, _ => none
def lowOf : List Nat → List Nat
  | [] => [] | k :: r => bif Nat.blt k 500000 then k :: lowOf r else lowOf r
def ioKs : Nat → List Nat
  | 0 => [] | n + 1 => ioKs n ++ [500000 + n]
def holesOf : List (Nat × Ob) → List Nat
  | [] => [] | (c, .hole _ _ _ _) :: r => c :: holesOf r | (c, .hol _ _ _ _) :: r => c :: holesOf r | _ :: r => holesOf r
def St.settleL (σ : St) : List Nat → St
  | [] => σ | c :: r => (σ.settle1 c).settleL r
def St.settle (σ : St) : St := σ.settleL (holesOf σ.ob)
def holsOf : List (Nat × Ob) → List Nat
  | [] => [] | (c, .hol _ _ _ _) :: r => c :: holsOf r | _ :: r => holsOf r
/-- What was handed out comes back; where a row is told with an element out, whole rows stay out. -/
def St.settleH (σ : St) (hs : List Hint) : St := bif (hs.flatMap Hint.keys).any holeB then σ.settleL (holsOf σ.ob) else σ.settle
/-- The state where ways meet: the named slots and objects alone, in the form and order of the hints. -/
def St.meet (σ : St) (io : Nat) (hs : List Hint) : Option St :=
  ((σ.settleH hs).meetAll hs).bind fun τ => (obsOf τ.ob (lowOf (hs.flatMap Hint.keys) ++ ioKs io)).map fun ob => ⟨killOthers 0 (hs.map Hint.slot) τ.sl, ob, true⟩

/-! ### a function's run -/
def retCell (σ : St) (r : RC) (v : CV) : Option r.t.den :=
  match r with
  | ⟨.slice t, some (d, n)⟩ => match v with
    | .nil => some []
    | .own c => match obGet σ.ob c with
      | some (.row u xs e m) => bif (!d || e) && (!n || m || !xs.isEmpty) then (Ty.slice u).as (.slice t) xs else none
      | _ => none
    | _ => none
  | ⟨.set, some _⟩ => none
  | ⟨.pair a b, some _⟩ => match v with
    | .own c => match obGet σ.ob c with
      | some (.box l) => implode (.pair a b) l
      | _ => none
    | _ => none
  | ⟨t, _⟩ => σ.cvAs t v
def retCells (σ : St) : (rs : List RC) → List CV → Option (Rden rs)
  | [], [] => some ()
  | [r], [v] => retCell σ r v
  | r :: s :: q, v :: w => (retCell σ r v).bind fun x => (retCells σ (s :: q) w).bind fun y => some (x, y)
  | _, _ => none
/-- A function's results, part by part: cells of structs are loaded. -/
def retParts (E : Env) (σ : St) : List ResultVar → List (Bool × List RC) → Option (List CV)
  | [], [] => some []
  | .tmp t :: r, (g, l) :: q => match slGet σ.sl t, retParts E σ r q with
    | .cv v, some w => bif !g && Nat.beq l.length 1 then some (v :: w) else none
    | .ag vs, some w => bif g && Nat.beq l.length vs.length then some (vs ++ w) else none
    | .adr c 0, some w => bif !g && Nat.beq l.length 1 then some (.own c :: w) else none
    | _, _ => none
  | .cell a T :: r, (g, l) :: q => match slGet σ.sl a, aSize E T, retParts E σ r q with
    | .adr c o, some (n, agg), some w => match obGet σ.ob c with
      | some (.box vs) => bif Nat.beq o 0 && Nat.beq n vs.length && Nat.beq l.length n && (agg == g) then some (vs ++ w) else none
      | _ => none
    | _, _, _ => none
  | _, _ => none
def ownRs : List RC → List CV → List Nat   -- the rows that are handed back as the caller's own
  | ⟨_, some _⟩ :: r, v :: w => v.owns ++ ownRs r w
  | _ :: r, _ :: w => ownRs r w
  | _, _ => []
def allOwnB (rs : List RC) : Bool := rs.all fun c => c.t.flat || c.own.isSome
def aRet (E : Env) (res : List ResultVar) (rs : List (Bool × List RC)) (σ : St) : Option (Rden (flatRs rs)) :=
  match retParts E σ res rs with
  | some w => bif nodupB (ownRs (flatRs rs) w) && (allOwnB (flatRs rs) || (ownRs (flatRs rs) w).isEmpty) then retCells σ (flatRs rs) w else none
  | none => none

/-- A row that was handed in, as it is at the end. -/
def ioOut1 (σ : St) (n : Nat) : (c : RC) → Option c.t.den
  | ⟨.slice t, some (d, _)⟩ => match obGet σ.ob (500000 + n) with
    | some (.row u xs e _) => bif t.flat || (bif d then e else !e) then (Ty.slice u).as (.slice t) xs else none
    | _ => none
  | ⟨.pair a b, some _⟩ => match obGet σ.ob (500000 + n) with
    | some (.box l) => implode (.pair a b) l
    | _ => none
  | _ => none
def ioOut (σ : St) : Nat → (ios : List RC) → Option (Rden ios)
  | _, [] => some ()
  | n, [c] => ioOut1 σ n c
  | n, c :: d :: r => (ioOut1 σ n c).bind fun x => (ioOut σ (n + 1) (d :: r)).bind fun y => some (x, y)
def lowB (l : List CV) : Bool := l.all fun v => v.owns.all fun k => Nat.blt k 500000
def aRetI (E : Env) (res : List ResultVar) (rs : List (Bool × List RC)) (σ : St) : (ios : List RC) → Option (Oden (flatRs rs) ios)
  | [] => aRet E res rs σ
  | i :: r => match retParts E σ res rs with
    | some w => chk (lowB w) ((aRet E res rs σ).bind fun y => (ioOut σ 0 (i :: r)).bind fun z => some (y, z))
    | none => none

def oCell (n : Nat) : (c : PC) → c.ty.den → CV
  | .v t, x => .val t x | .o _ _, _ => .own (500000 + n)
def oObj (n : Nat) : (c : PC) → c.ty.den → List (Nat × Ob)
  | .v _, _ => [] | .o t d, x => [(500000 + n, .row t x d false)]
def PC.io : PC → Nat | .v _ => 0 | .o _ _ => 1
def oCells : Nat → (cs : List PC) → (tupTy (cs.map PC.ty)).den → List CV
  | _, [], _ => [] | n, [c], x => [oCell n c x] | n, c :: d :: r, x => oCell n c x.1 :: oCells (n + c.io) (d :: r) x.2
def oObjs : Nat → (cs : List PC) → (tupTy (cs.map PC.ty)).den → List (Nat × Ob)
  | _, [], _ => [] | n, [c], x => oObj n c x | n, c :: d :: r, x => oObj n c x.1 ++ oObjs (n + c.io) (d :: r) x.2
def PT.io : PT → Nat | .o cs _ => (pcRC cs).length | .p _ _ => 1 | _ => 0
def slot1 (n : Nat) : (p : PT) → p.ty.den → AV
  | .v t agg, x => ofCells agg (explode t x)
  | .r t, x => .ref (explode t x)
  | .z t, x => .cv .nil
  | .fn f ts, x => .fn f (capsOf ts x)
  | .o cs agg, x => ofCells agg (oCells n cs x)
  | .p a b, x => .adr (500000 + n) 0
def objs1 (n : Nat) : (p : PT) → p.ty.den → List (Nat × Ob)
  | .o cs _, x => oObjs n cs x | .p a b, x => [(500000 + n, .box (explode (.pair a b) x))] | _, _ => []
def firstSlots : Nat → (ps : List PT) → Aden ps → List AV
  | _, [], _ => []
  | n, [p], x => [slot1 n p x]
  | n, p :: q :: r, x => slot1 n p x.1 :: firstSlots (n + p.io) (q :: r) x.2
def firstObs : Nat → (ps : List PT) → Aden ps → List (Nat × Ob)
  | _, [], _ => []
  | n, [p], x => objs1 n p x
  | n, p :: q :: r, x => objs1 n p x.1 ++ firstObs (n + p.io) (q :: r) x.2
def start0 (nt : Nat) (ps : List PT) (x : Aden ps) : St := ⟨firstSlots 0 ps x ++ List.replicate (nt - ps.length) (.cv .dead), firstObs 0 ps x, false⟩
def start1 (nt : Nat) : (ps : List PT) → Aden ps → St
  | .v (.slice t) false :: q :: r, x => start0 nt (.o [.o t false] false :: q :: r) x
  | ps, x => start0 nt ps x
def Fi.start (fi : Fi) (x : Aden fi.ps) : St := bif fi.run1 then start1 fi.nt fi.ps x else start0 fi.nt fi.ps x

abbrev Rec (E : Env) : Type := (rs : List (Bool × List RC)) → (ios : List RC) → List ResultVar → (Nat → Option (List Hint)) → List Item → St → Option (Oden (flatRs rs) ios)

/-- A call by way of what runs code: a function's results, behind what it writes. -/
def callBy (E : Env) (k : Nat) (rec_ : Rec E) (fi : Fi) (x : Aden fi.ps) : Option (Oden (flatRs fi.rs) (ioOf fi.ps)) :=
  match fi.ext with
  | some g => g k x
  | none => rec_ fi.rs (ioOf fi.ps) fi.res fi.hints [.code fi.code] (fi.start x)


/-! ### regions whose operations may come up in more than one order -/
/-- The objects that a slot speaks of. -/
def mkeys : AV → List Nat
  | .cv v => v.owns | .ag l => ownsAll l | .adr c _ => [c] | .el c _ _ _ => [c] | .tup l => l.flatMap fun p => ownsAll p.2 | _ => []
def obKeys : Ob → List Nat
  | .box l => ownsAll l | .hole _ _ _ v => v.owns | .hol _ _ _ l => ownsAll l | _ => []
/-- Nobody speaks of c. -/
def freeB (σ : St) (c : Nat) : Bool := Nat.blt c 500000 && σ.sl.all (fun a => !hasB c (mkeys a)) && σ.ob.all (fun p => !Nat.beq p.1 c && !hasB c (obKeys p.2))
def noneB (l m : List Nat) (v : AV) (N : List (Nat × Ob)) : Bool := (l.all fun c => !hasB c (mkeys v)) && m.all fun c => N.all fun p => !Nat.beq p.1 c && !hasB c (obKeys p.2)
/-- A slot's new content, and new objects that nobody speaks of yet. -/
def St.add (σ : St) (dst : Option Nat) (v : AV) (N : List (Nat × Ob)) : St := St.put { σ with ob := N ++ σ.ob } dst v

def opKeys (E : Env) (o : Oper) : List Nat :=
  match o.op, o.dst with
  | .makeSlice _ _ _, some d => [d]
  | .alloc _, some d => [d]
  | .box _ _, some d => [d]
  | .buildSlice _ _ _, some d => [d]
  | .call c, some d => match c.callee with
    | .builtin .append => [d]
    | .value (.func f) => match E.fn f [] with | some fi => keysFrom d 0 (flatRs fi.rs) | none => []
    | _ => []
  | _, _ => []

/-- What an append is appended to, where an earlier operation of the region has made it: its numbers go. -/
def dstB : Option Nat → Nat → Bool | some d, t => Nat.beq d t | none, _ => false
def findDst (t : Nat) : Nat → List Oper → Option (Nat × Oper)
  | _, [] => none | i, o :: r => bif dstB o.dst t then some (i, o) else findDst t (i + 1) r
def eatTmp (o : Oper) : Option Nat :=
  match o.op with
  | .call c => match c.callee, c.args.toList with | .builtin .append, [.tmp t, _] => some t | _, _ => none
  | .store _ (.tmp t) _ => some t
  | _ => none
def dKeys (E : Env) (ops : List Oper) (o : Oper) : List Nat :=
  match eatTmp o with
  | some t => match findDst t 0 ops with | some (_, p) => opKeys E p | none => []
  | none => []
/-- It alone looks there, and comes behind what has made it. -/
def noLook (ops : Array Oper) (t j : Nat) : Nat → List Oper → Bool
  | _, [] => true | i, o :: r => (Nat.beq i j || !hasB t (o.looksAt ops)) && noLook ops t j (i + 1) r
def eatsOk (E : Env) (ops : Array Oper) (ms : List Nat) : Nat → List Oper → Bool
  | _, [] => true
  | j, o :: r => (match eatTmp o with
      | some t => (match findDst t 0 ops.toList with
        | some (i, p) => (opKeys E p).isEmpty || (Nat.testBit (ms.getD j 0) i && noLook ops t j 0 ops.toList)
        | none => true)
      | none => true) && eatsOk E ops ms (j + 1) r
def dels : List (Nat × Ob) → List Nat → List (Nat × Ob)
  | l, [] => l | l, c :: r => dels (obDel l c) r
/-- As add; the objects K go. -/
def St.addK (σ : St) (K : List Nat) (dst : Option Nat) (v : AV) (N : List (Nat × Ob)) : St := St.put { σ with ob := N ++ dels σ.ob K } dst v

def dOne (dst j : Nat) (c : RC) (x : c.t.den) : List CV × List (Nat × Ob) :=
  match c, x with
  | ⟨.slice t, some (d, n)⟩, x => ([.own (dst + 1000 * j)], [(dst + 1000 * j, .row t x d n)])
  | ⟨.pair a b, some _⟩, x => ([.dead], [])
  | ⟨t, _⟩, x => ([.val t x], [])
def dCells (dst : Nat) : (j : Nat) → (rs : List RC) → Rden rs → List CV × List (Nat × Ob)
  | _, [], _ => ([], [])
  | j, [c], x => dOne dst j c x
  | j, c :: d :: r, x => let p := dOne dst j c x.1; let q := dCells dst (j + 1) (d :: r) x.2; (p.1 ++ q.1, q.2 ++ p.2)

section
variable {ρ : Type} (E : Env) (σ : St)
/-- A variable is read; the state stays. -/
def dLoad (T : Nat) (x : AV) (next : AV → Option ρ) : Option ρ :=
  match aSize E T with
  | none => none
  | some (n, agg) => match x with
    | .adr c o => match obGet σ.ob c with
      | some (.box l) => chk (Nat.ble (o + n) l.length) (next (ofCells agg ((l.drop o).take n)))
      | _ => none
    | .ref l => chk (Nat.ble n l.length) (next (ofCells agg (l.take n)))
    | .el c m i o => match obGet σ.ob c with
      | some (.row t xs d cn) => chk (Nat.beq m t.sz && Nat.ble (o + n) m && (t.flat || !d)) (chk (decide (i < xs.length))
          (next (ofCells agg (((explode t (xs.getD i t.dflt)).drop o).take n))))
      | some (.arr t xs) => chk (Nat.beq m t.sz && Nat.ble (o + n) m && t.flat) (chk (decide (i < xs.length))
          (next (ofCells agg (((explode t (xs.getD i t.dflt)).drop o).take n))))
      | _ => none
    | _ => none

def dMake (T d : Nat) (n c : AV) (next : AV → List (Nat × Ob) → Option ρ) : Option ρ :=
  match E.ty T, aIx n, aIx c with
  | some (.one (.slice t)), some n, some c => chk (decide (0 ≤ n)) (chk (decide (n ≤ rowMax)) (chk (n == c)
      (next (.cv (.own d)) [(d, .row t (List.replicate n.toNat t.dflt) true false)])))
  | _, _, _ => none

def oneB : Ty → Bool
  | .int _ => true | .bool => true | .str => true | _ => false
def dParts (t : Ty) (n : Nat) : Nat → List (Nat × AV) → Option (List t.den)
  | i, [] => bif Nat.beq i n then some [] else none
  | i, (j, v) :: r => match v with
    | .cv (.val u x) => bif Nat.beq i j then (match u.as t x, dParts t n (i + 1) r with | some y, some ys => some (y :: ys) | _, _ => none) else none
    | _ => none
def dBuildSlice (T d n : Nat) (parts : List (Nat × AV)) (next : AV → List (Nat × Ob) → Option ρ) : Option ρ :=
  match E.ty T with
  | some (.one (.slice t)) => match dParts t n 0 parts with
    | some xs => chk (oneB t || parts.isEmpty) (chk (Nat.ble (n * t.sz) 16777216) (next (.cv (.own d)) [(d, .row t xs true false)]))
    | none => none
  | _ => none

def dCall (ck : (fi : Fi) → Aden fi.ps → Option (Oden (flatRs fi.rs) (ioOf fi.ps))) (f : Nat) (dst : Option Nat) (vs : List AV) (next : AV → List (Nat × Ob) → Option ρ) : Option ρ :=
  match E.fn f [] with
  | none => none
  | some fi => match σ.toArgs fi.ps vs with
    | none => none
    | some xs => chk (!fi.gift && (ioOf fi.ps).isEmpty && (!immB fi.rs || (argOwns vs).isEmpty)) ((ck fi xs).bind fun y => match dst with
      | none => next (.cv .dead) []
      | some d => next (ofParts (cutParts fi.rs (dCells d 0 (flatRs fi.rs) (Oden.res _ _ y)).1)) (dCells d 0 (flatRs fi.rs) (Oden.res _ _ y)).2)

def dSlice (T : Nat) (x : AV) (lo hi : Option AV) (next : AV → Option ρ) : Option ρ :=
  match x with
  | .cv (.val .str s) => match E.ty T with
    | some (.one .str) => aBounds s.size lo hi fun l h => next (.cv (.val .str (s.extract l h)))
    | _ => none
  | .cv (.val (.slice t) xs) => match E.ty T with
    | some (.one (.slice u)) => chk (Ty.same u t) (aBounds xs.length lo hi fun l h => next (.cv (.val (.slice t) ((xs.take h).drop l))))
    | _ => none
  | _ => none

def dStore (K : List Nat) (T : Nat) (x v : AV) (next : AV → List (Nat × Ob) → Option ρ) : Option ρ :=
  match aSize E T, σ.cells v, x with
  | some (n, _), some cs, .adr c o => chk (Nat.beq cs.length n && hasB c K) (match obGet σ.ob c with
    | some (.box l) => chk (Nat.ble (o + n) l.length && (ownsAll (splice l o cs)).isEmpty) (next (.cv .dead) [(c, .box (splice l o cs))])
    | _ => none)
  | _, _, _ => none
def dAlloc (T d : Nat) (next : AV → List (Nat × Ob) → Option ρ) : Option ρ :=
  match E.ty T with
  | some (.one t) => next (.adr d 0) [(d, .box [zeroCell t])]
  | some (.struct _ ks _) => next (.adr d 0) [(d, .box (ks.map zeroCell))]
  | some (.arr n t) => chk t.flat (next (.adr d 0) [(d, .arr t (List.replicate n t.dflt))])
  | _ => none
def dBox (d : Nat) (v : AV) (next : AV → List (Nat × Ob) → Option ρ) : Option ρ :=
  match σ.cells v with
  | some l => chk (ownsAll l).isEmpty (next (.adr d 0) [(d, .box l)])
  | none => none
def dApp2 (t : Ty) (d : Nat) (y : AV) (xs : List t.den) (dp cn : Bool) (next : AV → List (Nat × Ob) → Option ρ) : Option ρ :=
  match y with
  | .cv .nil => next (.cv (.own d)) [(d, .row t xs dp cn)]
  | .cv (.val (.slice u) ys) => match (Ty.slice u).as (.slice t) ys with
    | some ys => chk (decide (xs.length + ys.length ≤ rowMax)) (next (.cv (.own d)) [(d, .row t (xs ++ ys) dp cn)])
    | none => none
  | .cv (.own c) => match obGet σ.ob c with
    | some (.row u ys _ _) => match (Ty.slice u).as (.slice t) ys with
      | some ys => chk (decide (xs.length + ys.length ≤ rowMax)) (next (.cv (.own d)) [(d, .row t (xs ++ ys) dp cn)])
      | none => none
    | _ => none
  | _ => none
def dAppend (K : List Nat) (T d : Nat) (x y : AV) (next : AV → List (Nat × Ob) → Option ρ) : Option ρ :=
  match E.ty T with
  | some (.one (.slice t)) => chk t.flat (match x with
    | .cv .nil => dApp2 σ t d y [] true true next
    | .cv (.own c) => chk (hasB c K) (match obGet σ.ob c with
      | some (.row u xs dp cn) => (match (Ty.slice u).as (.slice t) xs with | some xs => dApp2 σ t d y xs dp cn next | none => none)
      | _ => none)
    | _ => none)
  | _ => none

/-- An operation's content for its slot, and its new objects; the state stays, but that the objects K go. -/
def dOp (ck : (fi : Fi) → Aden fi.ps → Option (Oden (flatRs fi.rs) (ioOf fi.ps))) (K : List Nat) (o : Oper) (next : AV → List (Nat × Ob) → Option ρ) : Option ρ :=
  let put (v : AV) : Option ρ := next v []
  match o.op with
  | .move x | .assign x => put (σ.ev x)
  | .pick c a b => match σ.ev c with | .cv (.val .bool x) => bif x then put (σ.ev a) else put (σ.ev b) | _ => none
  | .load T x => dLoad E σ T (σ.ev x) put
  | .nilCheck x => match σ.ev x with | .adr c o => put (.adr c o) | .el c n i o => put (.el c n i o) | .ref l => put (.ref l) | .fn f l => put (.fn f l) | _ => none
  | .binOp op T x y _ => aBin E σ op T (σ.ev x) (σ.ev y) put
  | .unOp op _ x => match aUn op (σ.ev x) with | some v => put v | none => none
  | .convert S D x => aConv E σ S D (σ.ev x) put
  | .makeSlice T n c => match o.dst with | some d => dMake E T d (σ.ev n) (σ.ev c) next | none => none
  | .buildSlice T n ps => match o.dst with | some d => dBuildSlice E T d n (ps.toList.map fun p => (p.1, σ.ev p.2)) next | none => none
  | .store T x v => dStore E σ K T (σ.ev x) (σ.ev v) next
  | .alloc T => match o.dst with | some d => dAlloc E T d next | none => none
  | .box T x => match o.dst with | some d => dBox σ d (σ.ev x) next | none => none
  | .build T ps => match E.ty T with
    | some (.struct _ ks _) => (match aBuild E σ T (ps.toList.map fun p => (p.1, σ.ev p.2)) (ks.map zeroCell) with | some v => put v | none => none)
    | _ => none
  | .slice T x lo hi mx => chk mx.isNone (dSlice E T (σ.ev x) (lo.map σ.ev) (hi.map σ.ev) put)
  | .fieldAddr T x f => match aField E T f with
    | some (off, n, _) => chk (Nat.ble 1 n) (match σ.ev x with | .adr c o => put (.adr c (o + off)) | .el c m i o => put (.el c m i (o + off)) | .ref l => put (.ref (l.drop off)) | _ => none)
    | none => none
  | .field T x f => match aField E T f, σ.ev x with
    | some (off, n, agg), .ag l => chk (Nat.ble (off + n) l.length) (put (ofCells agg ((l.drop off).take n)))
    | _, _ => none
  | .indexAddr T x i => match aIx (σ.ev i) with | some i => aIndexAddr E σ T (σ.ev x) i put | none => none
  | .index T x i => match aIx (σ.ev i) with | some i => aIndexStr E T (σ.ev x) i put | none => none
  | .extract x i => match σ.ev x with
    | .tup l => (match l[i]? with | some p => put (ofCells p.1 p.2) | none => none)
    | _ => none
  | .call c => match c.callee with
    | .builtin b => match b, c.args.toList with
      | .len, [x] => match c.argTypes.toList with
        | T :: _ => aLen E σ T (σ.ev x) put
        | _ => none
      | .append, [x, y] => match c.argTypes.toList with
        | [T, U] => match o.dst with | some d => chk (Nat.beq T U && Nat.blt d 500000) (dAppend E σ K T d (σ.ev x) (σ.ev y) next) | none => none
        | _ => none
      | .max, l => match aMaxMin true (l.map σ.ev) with | some v => put v | none => none
      | .min, l => match aMaxMin false (l.map σ.ev) with | some v => put v | none => none
      | _, _ => none
    | .value (.func f) => dCall E σ ck f o.dst (c.args.toList.map σ.ev) next
    | _ => none
  | _ => none
end

/-- The operations that come before each, as bits. -/
def maskOf (acc : List Nat) (o : Oper) : Nat := o.after.toList.foldl (fun s e => bif Region.binds .any e then Nat.lor (Nat.lor s (2 ^ e.on)) (acc.getD e.on 0) else s) 0
def masks : List Oper → List Nat → List Nat
  | [], acc => acc | o :: r, acc => masks r (acc ++ [maskOf acc o])
/-- The keys of the operations that need not come before the operation j. -/
def aliens (m j : Nat) : Nat → List (List Nat) → List Nat
  | _, [] => [] | i, k :: r => (bif Nat.beq i j || Nat.testBit m i then [] else k) ++ aliens m j (i + 1) r

/-- The numbers that other operations' appends take away. -/
def eaten (own : List Nat) (eks : List (List Nat)) : List Nat := (eks.flatMap id).filter fun c => !hasB c own
/-- From where on every operation comes behind all before it. -/
def cutGo : Nat → List Nat → Nat
  | j, [] => j
  | j, k :: r => let m := cutGo (j + 1) r; bif Nat.beq m (j + 1) && Nat.beq k (2 ^ j - 1) then j else m

def dOps {ρ : Type} (E : Env) (ck : (fi : Fi) → Aden fi.ps → Option (Oden (flatRs fi.rs) (ioOf fi.ps))) (ops : List Oper) (ms : List Nat) (keys eks : List (List Nat)) : Nat → List Oper → St → (St → Option ρ) → Option ρ
  | _, [], σ, next => next σ
  | j, o :: r, σ, next =>
    let go (τ : St) : Option ρ := dOp E τ ck (eks.getD j []) o fun v N => chk (noneB (aliens (ms.getD j 0) j 0 keys ++ eaten (keys.getD j []) eks) (aliens (ms.getD j 0) j 0 keys ++ eaten (keys.getD j [] ++ eks.getD j []) eks) v N) (dOps E ck ops ms keys eks (j + 1) r (τ.addK (eks.getD j []) o.dst v N) next)
    match o.guard with
    | none => go σ
    | some (g, want) => match (ops[g]?).bind (·.dst) with
      | some t => match slGet σ.sl t with
        | .cv (.val .bool b) => bif b then (bif want then go (σ.put (some t) (.cv (.val .bool true))) else dOps E ck ops ms keys eks (j + 1) r ((σ.put (some t) (.cv (.val .bool true))).addK [] o.dst (.tup []) []) next)
            else (bif want then dOps E ck ops ms keys eks (j + 1) r ((σ.put (some t) (.cv (.val .bool false))).addK [] o.dst (.tup []) []) next else go (σ.put (some t) (.cv (.val .bool false))))
        | .tup [] => dOps E ck ops ms keys eks (j + 1) r (σ.addK [] o.dst (.tup []) []) next
        | _ => none
      | none => none

/-- Operations that yield in whatever world. -/
def lightB (o : Oper) : Bool := o.guard.isNone && match o.op with | .move _ => true | .slice _ _ _ _ _ => true | _ => false
def lOp {ρ : Type} (E : Env) (σ : St) (o : Oper) (next : AV → Option ρ) : Option ρ :=
  match o.op with
  | .move x => next (σ.ev x)
  | .slice T x lo hi mx => chk mx.isNone (dSlice E T (σ.ev x) (lo.map σ.ev) (hi.map σ.ev) next)
  | _ => none
def pickLight (ops : Array Oper) (listed : Array Bool) : List Nat → Option (Nat × Oper)
  | [] => none
  | i :: r => match ops[i]? with
    | some o => bif lightB o && Region.free .any ops listed i then some (i, o) else pickLight ops listed r
    | none => none
/-- What alone may come up is done; else something light that nothing hangs on. -/
def aTakes {ρ : Type} (E : Env) (ck : (fi : Fi) → Aden fi.ps → Option (Oden (flatRs fi.rs) (ioOf fi.ps))) (ops : Array Oper) : Nat → Array Bool → St → (St → Option ρ) → Option ρ
  | 0, listed, σ, next => bif (Region.ready .any ops listed).isEmpty then next σ else none
  | f + 1, listed, σ, next => match Region.ready .any ops listed with
    | [] => next σ
    | [i] => match ops[i]? with
      | some o => aOps E ck ops.toList [o] σ fun τ => aTakes E ck ops f (listed.setIfInBounds i true) τ next
      | none => none
    | i :: j :: r => match pickLight ops listed (i :: j :: r) with
      | some (k, o) => lOp E σ o fun v => aTakes E ck ops f (listed.setIfInBounds k true) (σ.put o.dst v) next
      | none => none
def srcAV (ops : List Oper) (σ : St) (t : Nat) : AV :=
  match findDst t 0 ops with
  | some (_, p) => match p.op with | .move x => σ.ev x | _ => .cv .dead
  | none => slGet σ.sl t
/-- Is something written that the region hasn't made? -/
def strangeB (E : Env) (σ : St) (ops : List Oper) (o : Oper) : Bool :=
  match eatTmp o with
  | some t => (dKeys E ops o).isEmpty && match o.op with | .store _ _ _ => true | _ => (match srcAV ops σ t with | .cv (.own _) => true | _ => false)
  | none => false
def aDrawA {ρ : Type} (E : Env) (ck : (fi : Fi) → Aden fi.ps → Option (Oden (flatRs fi.rs) (ioOf fi.ps))) (ops : Array Oper) (σ : St) (next : St → Option ρ) : Option ρ :=
  let l := ops.toList
  let keys := l.map (opKeys E)
  let ms := masks l []
  let m := cutGo 0 ms
  bif (l.take m).any (strangeB E σ l) then chk (Region.noSelect ops) (aTakes E ck ops ops.size (Array.replicate ops.size false) σ next) else
  chk (Region.lexB .any ops && nodupB (keys.flatMap id) && (keys.flatMap id).all (freeB σ) && eatsOk E ops ms 0 l) (dOps E ck l ms keys (l.map (dKeys E l)) 0 (l.take m) σ fun τ => aOps E ck l (l.drop m) τ next)

/-- The first operation is a move that nothing of the region touches: it may be done first. -/
def light0 (ops : Array Oper) : Bool :=
  match ops[0]? with
  | some o => o.guard.isNone && (match o.op with | .move _ => true | _ => false) && Region.noSelect ops && (Region.ready .any ops (Array.replicate ops.size false)).contains 0 && Region.free .any ops (Array.replicate ops.size false) 0
  | none => false
def edge0 (ops : Array Oper) : Array Oper := ops.mapIdx fun j o => bif Nat.beq j 0 then o else { o with after := o.after.push ⟨0, .data⟩ }
/-- A region whose operations may come up in more than one order. -/
def aDraw {ρ : Type} (E : Env) (ck : (fi : Fi) → Aden fi.ps → Option (Oden (flatRs fi.rs) (ioOf fi.ps))) (ops : Array Oper) (σ : St) (next : St → Option ρ) : Option ρ :=
  bif light0 ops then aDrawA E ck (edge0 ops) σ next else aDrawA E ck ops σ next

/-- Does a region append? -/
def appendsB : List Oper → Bool
  | [] => false
  | o :: r => (match o.op with | .call c => (match c.callee with | .builtin .append => true | _ => false) | _ => false) || appendsB r
/-- Elements that were handed out come back ahead of an append. -/
def St.home (σ : St) (ops : Array Oper) : St := bif appendsB ops.toList then σ.settleL ((holesOf σ.ob).filter fun c => !holeB c) else σ
/-- One stretch: up to a place where ways meet, or the end. -/
def seg (E : Env) (k : Nat) (rec_ : Rec E) (rs : List (Bool × List RC)) (ios : List RC) (res : List ResultVar) (hints : Nat → Option (List Hint)) : Nat → List Item → St → Option (Oden (flatRs rs) ios)
  | 0, _, _ => none
  | n + 1, its, σ => match its with
    | .code (.region id ops draw) :: r =>
      let run (_ : Unit) : Option (Oden (flatRs rs) ios) := bif draw then aDraw E (callBy E k rec_) ops { σ.home ops with cut := false } fun τ => seg E k rec_ rs ios res hints n r τ
          else aOps E (callBy E k rec_) ops.toList ops.toList { σ.home ops with cut := false } fun τ => seg E k rec_ rs ios res hints n r τ
      match hints id with
      | some hs => bif σ.cut then run () else match σ.meet ios.length hs with | some τ => rec_ rs ios res hints its τ | none => none
      | none => run ()
    | .code .skip :: r => seg E k rec_ rs ios res hints n r σ
    | .code (.seq a b) :: r => seg E k rec_ rs ios res hints n (.code a :: .code b :: r) σ
    | .code (.cond c a b) :: r => match c, σ.ev c with
      | .tmp t, .cv (.val .bool x) => bif x then seg E k rec_ rs ios res hints n (.code a :: r) (σ.put (some t) (.cv (.val .bool true))) else seg E k rec_ rs ios res hints n (.code b :: r) (σ.put (some t) (.cv (.val .bool false)))
      | .tmp t, .cv .unk => both (seg E k rec_ rs ios res hints n (.code a :: r) (σ.put (some t) (.cv (.val .bool true)))) (seg E k rec_ rs ios res hints n (.code b :: r) (σ.put (some t) (.cv (.val .bool false))))
      | .const _, .cv (.val .bool x) => bif x then seg E k rec_ rs ios res hints n (.code a :: r) σ else seg E k rec_ rs ios res hints n (.code b :: r) σ
      | _, _ => none
    | .code (.block id c) :: r => seg E k rec_ rs ios res hints n (.code c :: .inBlock id :: r) σ
    | .inBlock _ :: r => seg E k rec_ rs ios res hints n r σ
    | .code (.loop c) :: r => seg E k rec_ rs ios res hints n (.code c :: .inLoop c :: r) σ
    | .inLoop c :: r => seg E k rec_ rs ios res hints n (.code c :: .inLoop c :: r) σ
    | .code (.exit id) :: r => match exitTo id r with | some r' => seg E k rec_ rs ios res hints n r' σ | none => none
    | .code .ret :: _ => aRetI E res rs σ ios
    | [] => aRetI E res rs σ ios
    | _ => none

/-- A function's run: k bounds how often ways meet, and the depth of calls. -/
noncomputable def aRun (E : Env) (k : Nat) : Rec E :=
  Nat.rec (motive := fun _ => Rec E) (fun _ _ _ _ _ _ => none) (fun k ih rs ios res hints its σ => seg E k ih rs ios res hints 4000 its σ) k

/-- A function's results, behind what it writes. -/
noncomputable def aFn (E : Env) (fi : Fi) (k : Nat) (x : Aden fi.ps) : Option (Oden (flatRs fi.rs) (ioOf fi.ps)) := callBy E k (aRun E k) fi x

end Go.Vt
