/-
  The plain machine: a state of slots and of objects of one's own, and a function that runs a function's code on it.
  Conditions: none; these are definitions.
-/
import Derived.Test.YtlgkjckddpnfnaaGreatDoorXva
namespace Go.Vt
set_option linter.unusedVariables false

/-! ### states -/
inductive CV where   -- what one cell holds
  | dead | nil | val (t : Ty) (x : t.den) | own (c : Nat) | unk   -- unk: a bool that is not known

inductive AV where   -- what a slot holds
  | cv (v : CV) | ag (l : List CV) | adr (c o : Nat) | el (c n i o : Nat) | ref (l : List CV) | fn (f : Nat) (caps : List (List CV)) | tup (l : List (Bool × List CV))

inductive Ob where
  | row (t : Ty) (xs : List t.den) (deep cn : Bool)
  | arr (t : Ty) (xs : List t.den)
  | box (l : List CV)
  | hole (t : Ty) (xs : List (List t.den)) (i : Nat) (v : CV)   -- a row of rows, whose element i is told by v alone
  | tl (t : Ty) (xs : List t.den) (n : Nat)   -- a row whose first n elements have been handed out for good
  | mp (l : List ByteArray)   -- a map of texts, all to true
  | hol (t : Ty) (xs : List t.den) (i : Nat) (l : List CV)   -- a row of structs, whose element i is told by these cells alone

/-- Does it read as a plain value? -/
def Ob.tree : Ob → Bool
  | .row _ _ _ _ => true | .mp _ => true | _ => false
structure St where
  sl : List AV
  ob : List (Nat × Ob)
  cut : Bool

def obGet : List (Nat × Ob) → Nat → Option Ob
  | [], _ => none
  | (d, o) :: r, c => bif Nat.beq d c then some o else obGet r c
def obDel : List (Nat × Ob) → Nat → List (Nat × Ob)
  | [], _ => []
  | (d, o) :: r, c => bif Nat.beq d c then obDel r c else (d, o) :: obDel r c
def obPut (l : List (Nat × Ob)) (c : Nat) (o : Ob) : List (Nat × Ob) := (c, o) :: obDel l c

def slGet : List AV → Nat → AV
  | [], _ => .cv .dead
  | a :: _, 0 => a
  | _ :: r, n + 1 => slGet r n
def slSet : List AV → Nat → AV → List AV
  | [], _, _ => []
  | _ :: r, 0, b => b :: r
  | a :: r, n + 1, b => a :: slSet r n b

/-- A datum, cell by cell. -/
def explode : (t : Ty) → t.den → List CV
  | .pair a b, x => explode a x.1 ++ explode b x.2
  | .int k, x => [.val (.int k) x]
  | .bool, x => [.val .bool x]
  | .str, x => [.val .str x]
  | .slice t, x => [.val (.slice t) x]
  | .set, x => [.val .set x]
  | .err, x => [.val .err x]

def CV.as (t : Ty) : CV → Option t.den
  | .val u x => u.as t x
  | .nil => match t with | .slice _ => some [] | _ => none
  | _ => none

/-- Are two data alike? -/
def listB {α : Type} (f : α → α → Bool) : List α → List α → Bool
  | [], [] => true | x :: xs, y :: ys => f x y && listB f xs ys | _, _ => false
def strB (x y : ByteArray) : Bool := listB (fun (a b : UInt8) => Nat.beq a.toNat b.toNat) x.data.toList y.data.toList
def optB {α : Type} (f : α → α → Bool) : Option α → Option α → Bool
  | none, none => true | some x, some y => f x y | _, _ => false
def denB : (t : Ty) → t.den → t.den → Bool
  | .int _, x, y => (x : Int) == y
  | .bool, x, y => (x : Bool) == y
  | .str, x, y => listB (fun a b => Nat.beq a.toNat b.toNat) (ByteArray.data x).toList (ByteArray.data y).toList
  | .slice t, x, y => listB (denB t) x y
  | .set, x, y => optB (listB strB) x y
  | .err, x, y => (x : Bool) == y
  | .pair a b, x, y => denB a x.1 y.1 && denB b x.2 y.2
theorem listB_eq {α : Type} {f : α → α → Bool} (hf : ∀ x y, f x y = true → x = y) : ∀ {xs ys : List α}, listB f xs ys = true → xs = ys
  | [], [], _ => rfl
  | x :: xs, y :: ys, h => by
    unfold listB at h
    rw [Bool.and_eq_true] at h
    rw [hf x y h.1, listB_eq hf h.2]
  | [], _ :: _, h => by cases h
  | _ :: _, [], h => by cases h
theorem strB_eq {x y : ByteArray} (h : strB x y = true) : x = y := by
  have e := listB_eq (fun a b hab => UInt8.toNat_inj.1 (Nat.eq_of_beq_eq_true hab)) h
  exact ByteArray.ext (Array.ext' e)
theorem optB_eq {α : Type} {f : α → α → Bool} (hf : ∀ x y, f x y = true → x = y) : ∀ {x y : Option α}, optB f x y = true → x = y
  | none, none, _ => rfl
  | some x, some y, h => by rw [hf x y h]
  | none, some _, h => by cases h
  | some _, none, h => by cases h
theorem denB_eq : ∀ (t : Ty) (x y : t.den), denB t x y = true → x = y
  | .int _, x, y, h => by have h' : ((x : Int) == y) = true := h; simpa using h'
  | .bool, x, y, h => by have h' : ((x : Bool) == y) = true := h; simpa using h'
  | .str, x, y, h => by
    have h' : listB (fun (a b : UInt8) => Nat.beq a.toNat b.toNat) (ByteArray.data x).toList (ByteArray.data y).toList = true := h
    have e := listB_eq (fun a b hab => UInt8.toNat_inj.1 (Nat.eq_of_beq_eq_true hab)) h'
    exact ByteArray.ext (Array.ext' e)
  | .slice t, x, y, h => listB_eq (denB_eq t) h
  | .set, x, y, h => optB_eq (fun _ _ h => listB_eq (fun _ _ h => strB_eq h) h) h
  | .err, x, y, h => by have h' : ((x : Bool) == y) = true := h; simpa using h'
  | .pair a b, x, y, h => by
    have h' : (denB a x.1 y.1 && denB b x.2 y.2) = true := h
    rw [Bool.and_eq_true] at h'
    exact Prod.ext (denB_eq a _ _ h'.1) (denB_eq b _ _ h'.2)

/-- Cells, told as one datum. -/
def implode : (t : Ty) → List CV → Option t.den
  | .pair a b, l => (implode a (l.take a.sz)).bind fun x => (implode b (l.drop a.sz)).bind fun y => some (x, y)
  | .int k, l => match l with | [c] => c.as (.int k) | _ => none
  | .bool, l => match l with | [c] => c.as .bool | _ => none
  | .str, l => match l with | [c] => c.as .str | _ => none
  | .slice t, l => match l with | [c] => c.as (.slice t) | _ => none
  | .set, l => match l with | [c] => c.as .set | _ => none
  | .err, l => match l with | [c] => c.as .err | _ => none

/-! ### what the slots say of objects is said anew -/
structure Rn where
  own : Nat → CV
  adr : Nat → Nat → AV
  el : Nat → Nat → Nat → Nat → AV
def CV.map (r : Rn) : CV → CV
  | .own c => r.own c | x => x
def AV.map (r : Rn) : AV → AV
  | .cv v => .cv (v.map r)
  | .ag l => .ag (l.map (CV.map r))
  | .adr d o => r.adr d o
  | .el d n i o => r.el d n i o
  | .tup l => .tup (l.map fun p => (p.1, p.2.map (CV.map r)))
  | x => x
def Ob.map (r : Rn) : Ob → Ob
  | .box l => .box (l.map (CV.map r))
  | .hole t xs i v => .hole t xs i (v.map r)
  | .hol t xs i l => .hol t xs i (l.map (CV.map r))
  | o => o
def obMap (r : Rn) (l : List (Nat × Ob)) : List (Nat × Ob) := l.map fun p => (p.1, p.2.map r)
/-- The object c goes, and is spoken of as r says. -/
def St.sub (σ : St) (c : Nat) (r : Rn) : St := ⟨σ.sl.map (AV.map r), obMap r (obDel σ.ob c), σ.cut⟩

/-- Nobody speaks of the object c any more. -/
def rnKill (c : Nat) : Rn := ⟨fun d => bif Nat.beq d c then .dead else .own d, fun d o => bif Nat.beq d c then .cv .dead else .adr d o, fun d n i o => bif Nat.beq d c then .cv .dead else .el d n i o⟩
def St.kill (σ : St) (c : Nat) : St := σ.sub c (rnKill c)
/-- It is spoken of as the value v. -/
def rnTurn (c : Nat) (v : CV) : Rn := ⟨fun d => bif Nat.beq d c then v else .own d, fun d o => bif Nat.beq d c then .cv .dead else .adr d o, fun d n i o => bif Nat.beq d c then .cv .dead else .el d n i o⟩
/-- The row c is written no more: it reads as a plain value. -/
def St.freeze (σ : St) (c : Nat) : St :=
  match obGet σ.ob c with
  | some (.row t xs _ _) => σ.sub c (rnTurn c (.val (.slice t) xs))
  | some (.mp l) => σ.sub c (rnTurn c (.val .set (some l)))
  | _ => σ.kill c
/-- The box c is written no more: its address is that of what it holds. -/
def rnSeal (c : Nat) (l : List CV) : Rn := ⟨fun d => bif Nat.beq d c then .dead else .own d, fun d o => bif Nat.beq d c then .ref (l.drop o) else .adr d o, fun d n i o => bif Nat.beq d c then .cv .dead else .el d n i o⟩
/-- The object c is called e; nobody speaks of an older e. -/
def rnName (c e : Nat) : Rn := ⟨fun d => bif Nat.beq d c then .own e else bif Nat.beq d e then .dead else .own d, fun d o => bif Nat.beq d c then .adr e o else bif Nat.beq d e then .cv .dead else .adr d o,
  fun d n i o => bif Nat.beq d c then .el e n i o else bif Nat.beq d e then .cv .dead else .el d n i o⟩

end Go.Vt
