/-
  What the laws lean on: what the functions come to.
  Conditions: numbers and lengths are such as a machine bears.
-/
import Derived.Test.YtgbbdagfjenmeaaGreatDoorPt
import Derived.Test.YtgbbdagfjenmeaaGreatDoorVd
import Derived.Laws.BitsLemmas
import Derived.Lib.ItoaLen
import Derived.Test.YtgbbdagfjenmeaaGreatDoorCmf
namespace Go.Vt
end Go.Vt
namespace Qq
open Go Go.Vt
set_option linter.unusedVariables false
set_option linter.unusedSimpArgs false
theorem ze : maxLen = 9223372036854775807 := by unfold maxLen; decide
theorem zb : rowMax = 4294967296 := rfl
theorem zi {x : Int} (h1 : -9223372036854775808 ≤ x) (h2 : x ≤ 9223372036854775807) : IntKind.i64.wrap x = x := by
 rw [IntKind.wrap_i64]; omega
def In (x : Int) : Prop := -9223372036854775808 ≤ x ∧ x ≤ 9223372036854775807
theorem In.of_fits {x : Int} (h : Fits (.int .i64) x) : In x := by
 have h' : IntKind.i64.min ≤ x ∧ x ≤ IntKind.i64.max := h
 have e1 : IntKind.i64.min = -9223372036854775808 := by decide
 have e2 : IntKind.i64.max = 9223372036854775807 := by decide
 unfold In; rw [e1, e2] at h'; exact h'
def Ins (xs : List Int) : Prop := ∀ x ∈ xs, In x
structure AtCons {α : Type} (xs : List α) (i : Nat) (y : α) (rest : List α) : Prop where
 lt : i < xs.length
 g : decide ((i : Int) < (xs.length : Int)) = true
 z : decide ((0 : Int) ≤ (i : Int)) = true
 n : decide ((i : Int).toNat < xs.length) = true
 get : ∀ d, xs.getD (i : Int).toNat d = y
 w : IntKind.i64.wrap ((i : Int) + 1) = ((i + 1 : Nat) : Int)
 next : xs.drop (i + 1) = rest
 mem : y ∈ xs
 gt : ∀ d, xs.getD i d = y
 le : decide ((i : Int) ≤ (xs.length : Int)) = true
theorem zK {α : Type} {xs : List α} {i : Nat} {y : α} {rest : List α} (h : xs.drop i = y :: rest) (hm : xs.length ≤ maxLen) : AtCons xs i y rest := by
 rw [ze] at hm
 have lt : i < xs.length := by
  rcases Nat.lt_or_ge i xs.length with h1 | h1
  ·exact h1
  ·rw [List.drop_eq_nil_of_le h1] at h; cases h
 have e := List.drop_eq_getElem_cons lt
 rw [e] at h
 have hy : xs[i] = y := by injection h
 refine ⟨lt, by simp; omega, by simp, by simp; omega, fun d => by simp [List.getD, lt, hy], by rw [zi (by omega) (by omega)]; simp, by injection h, by rw [← hy]; exact List.getElem_mem lt, fun d => by simp [List.getD, lt, hy], by simp; omega⟩
structure AtNil {α : Type} (xs : List α) (i : Nat) : Prop where
 ge : xs.length ≤ i
 g : decide ((i : Int) < (xs.length : Int)) = false
theorem yK {α : Type} {xs : List α} {i : Nat} (h : xs.drop i = []) : AtNil xs i := by
 have ge : xs.length ≤ i := List.drop_eq_nil_iff.1 h
 exact ⟨ge, by simp; omega⟩
structure AtUp (n : Int) (i : Nat) : Prop where
 lt : (i : Int) < n
 g : decide ((i : Int) < n) = true
 z : decide ((0 : Int) ≤ (i : Int)) = true
 w : IntKind.i64.wrap ((i : Int) + 1) = ((i + 1 : Nat) : Int)
theorem LJ {n : Int} {i : Nat} (h : (i : Int) < n) (hn : n ≤ 9223372036854775807) : AtUp n i :=
 ⟨h, by simp [h], by simp, by rw [zi (by omega) (by omega)]; simp⟩
theorem Lv {n : Int} {i : Nat} (h : n ≤ (i : Int)) : decide ((i : Int) < n) = false := by simp [h]
end Qq
namespace Qq
open Go Go.Vt Pt
set_option linter.unusedVariables false
set_option linter.unusedSimpArgs false
def strB (l : List UInt8) : ByteArray := ⟨l.toArray⟩
theorem Rd (a b : List UInt8) : strB a ++ strB b = strB (a ++ b) := by unfold strB; apply ByteArray.ext; simp
theorem yU (a : List UInt8) : (strB a).size = a.length := by simp [strB, ByteArray.size]
def yb (n : Int) : ByteArray := strB (Lib.itoa n)
theorem fO {u : Nat} (h : u < 10) : Lib.decDigits u = [UInt8.ofNat (48 + u)] := by rw [Lib.decDigits, dif_pos h]
theorem Wm {u : Nat} (h : ¬ u < 10) : Lib.decDigits u = Lib.decDigits (u / 10) ++ [UInt8.ofNat (48 + u % 10)] := by rw [Lib.decDigits, dif_neg h]
theorem Ld (n : Int) (hn : In n) : Ev (fun k => strconv_Itoa k n) (yb n) := by
 refine Ev.congr (fun k => Y9 k n) ?_
 unfold itoaF
 refine Ev.yes ?_ (Ev.pure _)
 unfold In at hn
 simp; exact hn
theorem zL (n : Int) (hn : In n) : Ev (fun k => zO k n) (yb n) :=
 Ev.step (fun k => W4 k n) (Ev.bind (Ld n hn) (Ev.pure _))
theorem yv (n : Int) (hn : In n) : (yb n).size ≤ 21 := by
 unfold In at hn
 rw [yb, yU]
 exact Lib.itoa_length_le n hn.1 hn.2
end Qq
namespace Qq
open Go Go.Vt Pt
set_option linter.unusedVariables false
set_option linter.unusedSimpArgs false
theorem vB {d : Nat} (h : d < 10) : (UInt8.ofNat (48 + d)).toNat = 48 + d := by rw [UInt8.toNat_ofNat']; omega
theorem Mt (u : Nat) : Lib.decDigits u ≠ [] := by
 by_cases h : u < 10
 ·rw [fO h]; simp
 ·rw [Wm h]; simp
theorem TW (u : Nat) : ∀ b ∈ Lib.decDigits u, 48 ≤ b.toNat ∧ b.toNat ≤ 57 := by
 induction u using Nat.strongRecOn with
 | _ u ih =>
   intro b hb
   by_cases h : u < 10
   ·rw [fO h] at hb
    rw [List.mem_singleton.1 hb, vB h]; omega
   ·rw [Wm h] at hb
    rcases List.mem_append.1 hb with h1 | h1
    ·exact ih _ (by omega) b h1
    ·rw [List.mem_singleton.1 h1, vB (Nat.mod_lt _ (by omega))]
     have := Nat.mod_lt u (show 0 < 10 by omega)
     omega
theorem eS : ∀ (l m : List UInt8) (acc : Nat), Lib.parseUint10 acc (l ++ m) = match Lib.parseUint10 acc l with | .ok v => Lib.parseUint10 v m | e => e
 | [], m, acc => rfl
 | c :: r, m, acc => by
   simp only [List.cons_append, Lib.parseUint10]
   split
   ·split
    ·rfl
    ·split
     ·rfl
     ·exact eS r m _
   ·rfl
theorem Xw (u : Nat) : u < 18446744073709551616 → Lib.parseUint10 0 (Lib.decDigits u) = .ok u := by
 induction u using Nat.strongRecOn with
 | _ u ih =>
   intro hu
   by_cases h : u < 10
   ·rw [fO h]
    simp only [Lib.parseUint10]
    rw [if_pos (by rw [vB h]; omega), if_neg (by omega), if_neg (by rw [vB h]; omega), vB h]
    simp
   ·have hm := Nat.mod_lt u (show 0 < 10 by omega)
    rw [Wm h, eS, ih (u / 10) (by omega) (by omega)]
    simp only [Lib.parseUint10]
    rw [if_pos (by rw [vB hm]; omega), if_neg (by omega), if_neg (by rw [vB hm]; omega), vB hm]
    congr 1; omega
theorem Nb (n : Int) (hn : In n) : Lib.atoiAll (Lib.itoa n) = .ok n := by
 unfold In at hn
 unfold Lib.itoa
 by_cases h : n < 0
 ·rw [if_pos h]
  have h45 : (45 : UInt8).toNat = 45 := rfl
  simp only [Lib.atoiAll, h45]
  rw [if_pos (Or.inr trivial)]
  unfold Lib.parseMag
  rw [if_neg (Mt _), Xw _ (by omega)]
  simp only
  rw [if_neg (fun e => e.1 trivial), if_neg (fun e => by have := e.2; omega), if_pos trivial]
  congr 1
  omega
 ·rw [if_neg h]
  have hne := Mt n.toNat
  have hd := TW n.toNat
  cases hl : Lib.decDigits n.toNat with
  | nil => exact absurd hl hne
  | cons c r =>
    have hc := hd c (by rw [hl]; simp)
    simp only [Lib.atoiAll]
    rw [if_neg (by omega), ← hl]
    unfold Lib.parseMag
    rw [if_neg hne, Xw _ (by omega)]
    simp only
    have h45 : ¬ c.toNat = 45 := by omega
    rw [if_neg (fun e => by have := e.2; omega), if_neg (fun e => h45 e.1), if_neg h45]
    congr 1
    omega
theorem gM (s : ByteArray) : strB s.data.toList = s := by unfold strB; apply ByteArray.ext; simp
theorem wG (l : List UInt8) : (strB l).data.toList = l := by unfold strB; simp
def yJ (s : ByteArray) : Int × Bool := match Lib.atoiAll s.data.toList with | .ok v => if yb v = s then (v, true) else (0, false) | _ => (0, false)
theorem ug (n : Int) (hn : In n) : yJ (yb n) = (n, true) := by
 unfold yJ
 rw [yb, wG, Nb n hn]
 simp only
 rw [if_pos (by rw [yb])]
theorem U7 {s : ByteArray} (h : ∀ n, In n → s ≠ yb n) : yJ s = (0, false) := by
 unfold yJ
 cases hc : Lib.atoiAll s.data.toList with
 | ok v =>
   simp only
   rw [if_neg (fun e => h v (Lib.atoiAll_bounds hc) e.symm)]
 | _ => rfl
theorem U8 (s : ByteArray) : (∃ n, In n ∧ s = yb n ∧ yJ s = (n, true)) ∨ (yJ s = (0, false) ∧ ∀ n, In n → s ≠ yb n) := by
 by_cases h : ∃ n, In n ∧ s = yb n
 ·obtain ⟨n, h1, h2⟩ := h
  exact .inl ⟨n, h1, h2, by rw [h2]; exact ug n h1⟩
 ·have h' : ∀ n, In n → s ≠ yb n := fun n h1 h2 => h ⟨n, h1, h2⟩
  exact .inr ⟨U7 h', h'⟩
theorem Px {m n : Int} (hm : In m) (hn : In n) (h : yb m = yb n) : m = n := by
 have := ug m hm
 rw [h, ug n hn] at this
 injection this with h1; exact h1.symm
theorem fg (n : Int) : ∀ b ∈ Lib.itoa n, b ≠ 32 := by
 intro b hb
 unfold Lib.itoa at hb
 have h1 : ∀ u, b ∈ Lib.decDigits u → b ≠ 32 := fun u h e => by have := TW u b h; subst e; have e2 : (32 : UInt8).toNat = 32 := rfl; omega
 split at hb
 ·rcases List.mem_cons.1 hb with rfl | h
  ·decide
  ·exact h1 _ h
 ·exact h1 _ hb
def x4 (cur : List UInt8) : List UInt8 → List (List UInt8)
 | [] => [cur]
 | c :: r => if c = 32 then cur :: x4 [] r else x4 (cur ++ [c]) r
def cutB (s : ByteArray) : List ByteArray := (x4 [] s.data.toList).map strB
def Sv : List (List UInt8) → List UInt8
 | [] => [] | [a] => a | a :: b :: r => a ++ 32 :: Sv (b :: r)
theorem gk (a cur : List UInt8) (h : ∀ b ∈ a, b ≠ 32) : x4 cur a = [cur ++ a] := by
 induction a generalizing cur with
 | nil => simp [x4]
 | cons c r ih =>
   unfold x4
   rw [if_neg (h c (by simp)), ih _ (fun b hb => h b (List.mem_cons_of_mem _ hb))]
   simp
theorem Wr (a cur m : List UInt8) (h : ∀ b ∈ a, b ≠ 32) : x4 cur (a ++ 32 :: m) = (cur ++ a) :: x4 [] m := by
 induction a generalizing cur with
 | nil =>
   show (if (32 : UInt8) = 32 then cur :: x4 [] m else x4 (cur ++ [32]) m) = _
   rw [if_pos rfl, List.append_nil]
 | cons c r ih =>
   rw [List.cons_append, x4, if_neg (h c (by simp)), ih _ (fun b hb => h b (List.mem_cons_of_mem _ hb))]
   simp
theorem Ws : ∀ (l : List (List UInt8)), l ≠ [] → (∀ a ∈ l, ∀ b ∈ a, b ≠ 32) → x4 [] (Sv l) = l
 | [], h, _ => absurd rfl h
 | [a], _, h => by rw [Sv, gk a [] (h a (by simp))]; rfl
 | a :: b :: r, _, h => by
   rw [Sv, Wr a [] _ (h a (by simp)), Ws (b :: r) (by simp) (fun x hx => h x (List.mem_cons_of_mem _ hx))]; rfl
end Qq
namespace Qq
open Go Go.Vt Pt
set_option linter.unusedVariables false
set_option linter.unusedSimpArgs false
theorem gN (l : List UInt8) (a b : Nat) : (strB l).extract a b = strB ((l.take b).drop a) := by
 apply ByteArray.ext
 apply Array.ext'
 simp [strB, List.drop_take]
theorem M7 (c d : UInt8) : (((c.toNat : Nat) : Int) == ((d.toNat : Nat) : Int)) = decide (c = d) := by
 by_cases h : c = d
 ·subst h; simp
 ·have : ¬ c.toNat = d.toNat := fun e => h (UInt8.toNat_inj.1 e)
  have h2 : ¬ (((c.toNat : Nat) : Int) = ((d.toNat : Nat) : Int)) := by omega
  simp only [h, decide_false]
  exact beq_eq_false_iff_ne.2 h2
theorem P8 (c : UInt8) : ((c.toNat : Int)).toNat.toUInt8 = c := by rw [Int.toNat_natCast]; exact UInt8.ofNat_toNat
theorem R1 {l : List UInt8} {i : Nat} {c : UInt8} {r : List UInt8} (h : l.drop i = c :: r) : l.take (i + 1) = l.take i ++ [c] := by
 have lt : i < l.length := by
  rcases Nat.lt_or_ge i l.length with h1 | h1
  ·exact h1
  ·rw [List.drop_eq_nil_of_le h1] at h; cases h
 rw [List.take_succ_eq_append_getElem lt]
 have e := List.drop_eq_getElem_cons lt
 rw [e] at h
 injection h with h1 h2
 rw [h1]
def sp : ByteArray := ⟨#[32]⟩
theorem WG (c : UInt8) : Ev (fun k => strings_IndexByte k (sp, (c.toNat : Int))) (if c = 32 then 0 else -1) := by
 refine Ev.congr (fun k => eM k _ _) (Ev.some ?_)
 rw [P8]
 show Lib.indexByte [32] c = _
 unfold Lib.indexByte
 by_cases h : c = 32
 ·subst h; rfl
 ·have : ((32 : UInt8) == c) = false := by simp; exact fun e => h e.symm
  rw [if_neg h, if_neg (by rw [this]; simp)]
  rfl
theorem vG (l : List UInt8) (hm : l.length ≤ 1048576) : ∀ (r : List UInt8) (i f : Nat) (out : List ByteArray), l.drop i = r → f ≤ i → i ≤ l.length → out.length ≤ i →
 Ev (fun k => wK k (strB l) sp (f : Int) (i : Int) out) (out ++ (x4 ((l.take i).drop f) r).map strB)
 | [], i, f, out, h, hf, hi, ho => by
   have a := yK h
   have hil : i = l.length := Nat.le_antisymm hi a.ge
   refine Ev.step (fun k => gz k _ _ _ _ _) ?_
   simp only [yU, a.g, cond_false, gN]
   refine Ev.yes (by simp) (Ev.yes (by simp; omega) (Ev.yes (by simp) (Ev.yes (by rw [zb]; simp; omega) (Ev.some ?_))))
   rw [hil]
   simp [x4]
 | c :: r, i, f, out, h, hf, hi, ho => by
   have a := zK h (by rw [ze]; omega)
   have lt := a.lt
   refine Ev.step (fun k => gz k _ _ _ _ _) ?_
   simp only [yU, wG, a.g, a.z, a.get, a.w, cond_true, gN]
   refine Ev.bind (WG c) ?_
   unfold x4
   by_cases hc : c = 32
   ·rw [if_pos hc, if_pos hc]
    refine Ev.yes rfl (Ev.yes (by simp) (Ev.yes (by simp; omega) (Ev.yes (by simp; omega) (Ev.yes (by rw [zb]; simp; omega) ?_))))
    refine (vG l hm r (i + 1) (i + 1) _ a.next (Nat.le_refl _) (by omega) (by simp; omega)).to ?_
    rw [show (l.take (i + 1)).drop (i + 1) = [] from List.drop_eq_nil_of_le (by rw [List.length_take]; omega)]
    simp
   ·rw [if_neg hc, if_neg hc]
    refine Ev.no rfl ?_
    refine (vG l hm r (i + 1) f _ a.next (by omega) (by omega) (by omega)).to ?_
    rw [R1 h, List.drop_append_of_le_length (by simp; omega)]
theorem ap (s : ByteArray) (hm : s.size ≤ 1048576) : Ev (fun k => eC k (s, sp)) (cutB s) := by
 refine Ev.step (fun k => Ui k s sp) ?_
 have := vG s.data.toList (by simpa using hm) _ 0 0 [] rfl (Nat.le_refl _) (Nat.zero_le _) (Nat.le_refl _)
 rw [gM] at this
 exact this
theorem wl (a b : ByteArray) : (a.toList == b.toList) = decide (a = b) := by
 by_cases h : a = b
 ·subst h; simp
 ·have : ¬ a.toList = b.toList := fun e => h (by
   rw [ByteArray.toList_eq, ByteArray.toList_eq] at e
   exact ByteArray.ext (Array.ext' e))
  simp [h, this]
theorem vQ (s : ByteArray) (hm : s.size ≤ 1048576) : Ev (fun k => vX k s) (yJ s) := by
 refine Ev.step (fun k => Uj k s) (Ev.bind (x := atoiR s.data.toList) (Ev.congr (fun k => Xa k s) ?_) ?_)
 ·unfold atoiF
  exact Ev.yes (by simp; omega) (Ev.pure _)
 ·unfold atoiR yJ
  cases hc : Lib.atoiAll s.data.toList with
  | ok v =>
    refine Ev.no rfl (Ev.bind (zL v (Lib.atoiAll_bounds hc)) ?_)
    simp only [wl]
    by_cases h : yb v = s
    ·rw [if_pos h]
     exact Ev.no (by simp [h]) (Ev.pure _)
    ·rw [if_neg h]
     exact Ev.yes (by simp [h]) (Ev.pure _)
  | _ => exact Ev.yes rfl (Ev.pure _)
def fin (s : ByteArray) (neg : Bool) (u : Nat) : Int × Bool :=
 bif neg then (if yb (-(u : Int)) = s then (-(u : Int), true) else (0, false)) else if u = 9223372036854775808 then (0, false) else if yb (u : Int) = s then ((u : Int), true) else (0, false)
theorem T0 (s : ByteArray) : ∀ a ∈ cutB s, a.size ≤ s.size := by
 have H : ∀ (l cur : List UInt8), ∀ a ∈ x4 cur l, a.length ≤ cur.length + l.length := by
  intro l
  induction l with
  | nil => intro cur a ha; simp [x4] at ha; subst ha; simp
  | cons c r ih =>
    intro cur a ha
    unfold x4 at ha
    split at ha
    ·rcases List.mem_cons.1 ha with rfl | h
     ·simp
     ·have := ih [] a h; simp at this ⊢; omega
    ·have := ih _ a ha; simp at this ⊢; omega
 intro a ha
 obtain ⟨l, hl, rfl⟩ := List.mem_map.1 ha
 have := H _ _ l hl
 rw [yU]
 simpa using this
end Qq
namespace Qq
open Go Go.Vt Pt
set_option linter.unusedVariables false
set_option linter.unusedSimpArgs false
theorem Uc (x lo hi : Int) : Ev (fun k => Xf k (x, lo, hi)) (decide (lo ≤ x) && decide (x ≤ hi)) := by
 refine Ev.step (fun k => R6 k x lo hi) (Ev.ite (fun h => ?_) (fun h => ?_))
 ·have h' : lo ≤ x := by simpa using h
  exact Ev.some (by simp [h'])
 ·have h' : ¬ lo ≤ x := by simpa using h
  exact Ev.some (by simp [h'])
end Qq
namespace Qq
open Go Go.Vt Pt
set_option linter.unusedVariables false
set_option linter.unusedSimpArgs false
def w5 (x : ByteArray) : List UInt8 := x.data.toList
theorem fT (x : ByteArray) : (w5 x).length = x.size := by unfold w5; simp
def Tn (l : List ByteArray) (sep : ByteArray) : List UInt8 := Lib.join (l.map w5) (w5 sep)
def b8 (l : List ByteArray) (sep : ByteArray) : ByteArray := strB (Tn l sep)
theorem Z2 {B S : Nat} (sep : List UInt8) (hs : sep.length ≤ S) : ∀ (r : List ByteArray), (∀ x ∈ r, x.size ≤ B) → (Lib.joinTail sep (r.map w5)).length ≤ r.length * (B + S)
 | [], _ => by simp [Lib.joinTail]
 | x :: r, h => by
   have ih := Z2 sep hs r (fun y hy => h y (by simp [hy]))
   have hx := h x (by simp)
   have e : Lib.joinTail sep ((x :: r).map w5) = (sep ++ w5 x) ++ Lib.joinTail sep (r.map w5) := by simp [Lib.joinTail]
   rw [e, List.length_append, List.length_append, fT, List.length_cons, Nat.add_mul, Nat.one_mul]
   omega
theorem YP {B S : Nat} (sep : ByteArray) (hs : sep.size ≤ S) (l : List ByteArray) (h : ∀ x ∈ l, x.size ≤ B) : (Tn l sep).length ≤ l.length * (B + S) := by
 cases l with
 | nil => simp [Tn, Lib.join_nil]
 | cons x r =>
   have hx := h x (by simp)
   have := Z2 (B := B) (S := S) (w5 sep) (by rw [fT]; exact hs) r (fun y hy => h y (by simp [hy]))
   unfold Tn
   rw [List.map_cons, Lib.join_cons, List.length_append, fT, List.length_cons, Nat.add_mul, Nat.one_mul]
   omega
theorem TE (l : List ByteArray) (sep : ByteArray) (B : Nat) (hl : l.length ≤ 1048576) (hB : ∀ x ∈ l, x.size ≤ B) (hBB : B ≤ 100) (hs : sep.size ≤ 100) : Ev (fun k => RA k (l, sep)) (b8 l sep) := by
 refine Ev.step (fun k => PJ k l sep) (Ev.bind (Ev.congr (fun k => Y7 k l sep) ?_) (Ev.pure _))
 unfold joinF
 have jl := YP (B := B) (S := 100) sep hs l hB
 have hmul : l.length * (B + 100) ≤ 1048576 * 200 := Nat.mul_le_mul hl (by omega)
 refine Ev.yes ?_ (Ev.pure _)
 rw [Bool.and_eq_true, decide_eq_true_eq, decide_eq_true_eq]
 exact ⟨by omega, by show (Tn l sep).length ≤ _; omega⟩
theorem fd (xs : List Int) (hm : xs.length ≤ 1048576) (hi : Ins xs) : ∀ (r : List Int) (i : Nat), xs.drop i = r → Ev (fun k => vd k xs (xs.length : Int) (i : Int) ((xs.take i).map yb)) (xs.map yb)
 | [], i, h => by
   have a := yK h
   refine Ev.step (fun k => jw k _ _ _ _) ?_
   simp only [a.g, cond_false]
   exact Ev.some (by rw [List.take_of_length_le a.ge])
 | x :: r, i, h => by
   have a := zK h (by rw [ze]; omega)
   have hlt := a.lt
   have hx : In x := hi x (List.mem_of_mem_drop (h ▸ List.mem_cons_self))
   refine Ev.step (fun k => jw k _ _ _ _) ?_
   simp only [a.g, a.z, a.get, a.w, cond_true]
   refine Ev.bind (zL x hx) (Ev.yes (by rw [zb]; simp; omega) ?_)
   have := fd xs hm hi r (i + 1) a.next
   rw [List.take_succ_eq_append_getElem hlt, List.map_append] at this
   have e : xs[i] = x := by have := a.get 0; rw [Int.toNat_natCast, List.getD, List.getElem?_eq_getElem hlt] at this; exact this
   rw [e] at this
   exact this
theorem Td (xs : List Int) (hm : xs.length ≤ 1048576) (hi : Ins xs) : Ev (fun k => cY k xs) (xs.map yb) :=
 Ev.step (fun k => WS k xs) (fd xs hm hi xs 0 rfl)
theorem ja {xs : List Int} (hi : Ins xs) : ∀ x ∈ xs.map yb, x.size ≤ 21 := by
 intro x hx
 obtain ⟨n, hn, rfl⟩ := List.mem_map.1 hx
 exact yv n (hi n hn)
end Qq
namespace Qq
open Go Go.Vt Pt
set_option linter.unusedVariables false
set_option linter.unusedSimpArgs false
def yZ (n : Int) (m : Int × Int) : Bool :=
 decide (1 ≤ n) && (decide (n ≤ 12) && (decide (0 ≤ m.2) &&
  (if m.1 = 1 then decide (m.2 ≤ n) else if m.1 = 2 then decide (m.2 ≤ n) else if m.1 = 3 then decide (m.2 ≤ n) else
   if m.1 = 4 then decide (m.2 ≤ 1) else if m.1 = 5 then decide (m.2 ≤ 1) else if m.1 = 7 then decide (m.2 ≤ 1) else
   if m.1 = 6 then m.2 == 0 else if m.1 = 8 then decide (m.2 < n) else if m.1 = 9 then decide (m.2 < n) else false)))
theorem X9 (n : Int) (m : Int × Int) : Ev (fun k => YT k (n, m)) (yZ n m) := by
 obtain ⟨a, b⟩ := m
 refine Ev.step (fun k => SA k n (a, b)) ?_
 unfold yZ
 refine Ev.ite (fun h => Ev.some ?_) (fun h => ?_)
 ·have : ¬ 1 ≤ n := by simpa using h
  simp [this]
 have h1 : 1 ≤ n := by simpa using h
 refine Ev.ite (fun h => Ev.some ?_) (fun h => ?_)
 ·have : ¬ n ≤ 12 := by simpa using h
  simp [this]
 have h2 : n ≤ 12 := by simpa using h
 refine Ev.ite (fun h => Ev.some ?_) (fun h => ?_)
 ·have : ¬ 0 ≤ b := by simpa using h
  simp [this]
 have h3 : 0 ≤ b := by simpa using h
 clear h
 simp only [h1, h2, h3, decide_true, Bool.true_and]
 iterate 9 (refine Ev.ite (fun h => ?_) (fun h => ?_); · exact Ev.some (by simp at *; simp [*]))
 exact Ev.some (by simp at *; simp [*])
def zI (n : Int) (s : Int × (Int × Int) × Int) : Bool :=
 decide (1 ≤ n) && (decide (n ≤ 12) &&
  (if s.1 = 1 then yZ n s.2.1 && s.2.2 == 0 else
   if s.1 = 2 then s.2.1.1 == 0 && (s.2.1.2 == 0 && (decide (0 ≤ s.2.2) && (decide (s.2.2 ≤ 4) && ((!(s.2.2 == 3) || decide (2 ≤ n)) && (!(s.2.2 == 2) || decide (n ≤ 7)))))) else
   if s.1 = 3 then s.2.1.1 == 0 && (s.2.1.2 == 0 && (decide (0 ≤ s.2.2) && decide (s.2.2 < n))) else false))
theorem be (n : Int) (s : Int × (Int × Int) × Int) : Ev (fun k => ao k (n, s)) (zI n s) := by
 obtain ⟨t, ⟨a, b⟩, c⟩ := s
 refine Ev.step (fun k => Sz k n (t, (a, b), c)) ?_
 unfold zI
 refine Ev.ite (fun h => Ev.some ?_) (fun h => ?_)
 ·have : ¬ 1 ≤ n := by simpa using h
  simp [this]
 have h1 : 1 ≤ n := by simpa using h
 refine Ev.ite (fun h => Ev.some ?_) (fun h => ?_)
 ·have : ¬ n ≤ 12 := by simpa using h
  simp [this]
 have h2 : n ≤ 12 := by simpa using h
 clear h
 simp only [h1, h2, decide_true, Bool.true_and]
 refine Ev.ite (fun h => ?_) (fun h => ?_)
 ·have e : t = 1 := by simpa using h
  subst e
  exact Ev.bind (X9 n (a, b)) (Ev.ite (fun h => Ev.some (by simp at *; simp [*])) (fun h => Ev.some (by simp at *; simp [*])))
 have t1 : ¬ t = 1 := by simpa using h
 simp only [t1, if_false]
 repeat (first | (refine Ev.ite (fun h => ?_) (fun h => ?_)) | focus (refine Ev.some ?_; simp_all; done) | focus (refine Ev.some ?_; simp_all; omega) | focus (refine Ev.some ?_; rw [Bool.eq_iff_iff]; simp at *; omega))
end Qq
namespace Qq
open Go Go.Vt Pt
set_option linter.unusedVariables false
set_option linter.unusedSimpArgs false
abbrev Step : Type := Int × (Int × Int) × Int
abbrev yt : Type := List Int × List Step × Int × Int × Int
abbrev Scene : Type := List Int × Int
end Qq
namespace Qq
open Go Go.Vt Pt
set_option linter.unusedVariables false
set_option linter.unusedSimpArgs false
end Qq
namespace Qq
open Go Go.Vt Pt
set_option linter.unusedVariables false
set_option linter.unusedSimpArgs false
theorem Q4 {α : Type} {xs : List α} {i : Nat} {y : α} {r : List α} (h : xs.drop i = y :: r) : xs.take (i + 1) = xs.take i ++ [y] := by
 have lt : i < xs.length := by
  rcases Nat.lt_or_ge i xs.length with h1 | h1
  ·exact h1
  ·rw [List.drop_eq_nil_of_le h1] at h; cases h
 rw [List.drop_eq_getElem_cons lt] at h
 rw [List.take_succ_eq_append_getElem lt]
 injection h with h1 h2
 rw [h1]
theorem Tf : ∀ (n : Nat) (l : List Int), l.Nodup → (∀ x ∈ l, 0 ≤ x ∧ x < (n : Int)) → l.length ≤ n
 | 0, l, _, h => by
   cases l with
   | nil => simp
   | cons x l => have := h x (by simp); omega
 | n + 1, l, hd, h => by
   have h1 := Tf n (l.erase (n : Int)) (hd.erase _) (fun x hx => by
    have hx' := (hd.mem_erase_iff).1 hx
    have := h x hx'.2
    have : x ≠ (n : Int) := hx'.1
    omega)
   have h2 := List.length_erase (a := (n : Int)) (l := l)
   split at h2 <;> omega
end Qq
namespace Qq
open Go Go.Vt Pt
set_option linter.unusedVariables false
set_option linter.unusedSimpArgs false
def card (x : Int) : Int := if 0 ≤ x ∧ x ≤ 11 then x else if -12 ≤ x ∧ x ≤ -1 then -1 - x else -1
theorem Zw (x : Int) : -1 ≤ card x ∧ card x ≤ 11 := by unfold card; split; · omega
                                                       split <;> omega
theorem Sl (x : Int) : Ev (fun k => VZ k x) (card x) := by
 refine Ev.step (fun k => Sm k x) (Ev.bind (Uc _ _ _) (Ev.ite (fun h => Ev.some ?_) (fun h => Ev.bind (Uc _ _ _) (Ev.ite (fun h' => ?_) (fun h' => Ev.some ?_)))))
 ·have : 0 ≤ x ∧ x ≤ 11 := by simpa using h
  simp [card, this]
 ·have h1 : ¬ (0 ≤ x ∧ x ≤ 11) := by simp at h; omega
  have h2 : -12 ≤ x ∧ x ≤ -1 := by simpa using h'
  rw [zi (by omega) (by omega)]
  exact Ev.some (by unfold card; rw [if_neg h1, if_pos h2])
 ·have h1 : ¬ (0 ≤ x ∧ x ≤ 11) := by simp at h; omega
  have h2 : ¬ (-12 ≤ x ∧ x ≤ -1) := by simp at h'; omega
  unfold card; rw [if_neg h1, if_neg h2]
theorem xy (x : Int) (hx : In x) : Ev (fun k => wM k x) (card x) := by
 obtain ⟨a, b⟩ := hx
 refine Ev.step (fun k => SB k x) ?_
 refine Ev.ite (fun h => ?_) (fun h => ?_)
 ·have h1 : x < 0 := by simpa using h
  rw [zi (by omega) (by omega)]
  have h2 : ¬ (0 ≤ x ∧ x ≤ 11) := by omega
  refine Ev.ite (fun h' => Ev.some ?_) (fun h' => Ev.some ?_)
  ·have h3 : ¬ (-12 ≤ x ∧ x ≤ -1) := by simp at h'; omega
   unfold card; rw [if_neg h2, if_neg h3]
  ·have h3 : (-12 ≤ x ∧ x ≤ -1) := by simp at h'; omega
   unfold card; rw [if_neg h2, if_pos h3]
 ·have h1 : ¬ x < 0 := by simpa using h
  have h3 : ¬ (-12 ≤ x ∧ x ≤ -1) := by omega
  refine Ev.ite (fun h' => Ev.some ?_) (fun h' => Ev.some ?_)
  ·have h2 : ¬ (0 ≤ x ∧ x ≤ 11) := by simp at h'; omega
   unfold card; rw [if_neg h2, if_neg h3]
  ·have h2 : (0 ≤ x ∧ x ≤ 11) := by simp at h'; omega
   unfold card; rw [if_pos h2]
def pk : List Int → List Int → Bool
 | _, [] => true
 | done, x :: r => decide (0 ≤ card x) && (!(done.contains (card x)) && pk (done ++ [card x]) r)
def zj (p : List Int) : Bool := pk [] p
theorem Rl : ∀ (r done : List Int), done.Nodup → pk done r = true → (done ++ r.map card).Nodup ∧ ∀ x ∈ r, 0 ≤ card x
 | [], done, hd, h => by simp [hd]
 | x :: r, done, hd, h => by
   unfold pk at h
   simp only [Bool.and_eq_true, decide_eq_true_eq, Bool.not_eq_true'] at h
   obtain ⟨h1, h3, h4⟩ := h
   have hx : card x ∉ done := by simpa using h3
   obtain ⟨k1, k2⟩ := Rl r (done ++ [card x]) (by
    rw [List.nodup_append]
    exact ⟨hd, by simp, fun a ha b hb e => by simp at hb; subst hb; subst e; exact hx ha⟩) h4
   refine ⟨by simpa using k1, fun y hy => ?_⟩
   rcases List.mem_cons.1 hy with rfl | hy
   ·exact h1
   ·exact k2 y hy
theorem yp {p : List Int} (h : zj p = true) : (p.map card).Nodup ∧ (∀ x ∈ p, 0 ≤ card x ∧ card x ≤ 11) ∧ p.length ≤ 12 := by
 obtain ⟨k1, k2⟩ := Rl p [] (by simp) h
 have k1' : (p.map card).Nodup := by simpa using k1
 have k3 := Tf 12 (p.map card) k1' (fun x hx => by
  obtain ⟨y, hy, rfl⟩ := List.mem_map.1 hx
  have := k2 y hy
  have := Zw y
  omega)
 exact ⟨k1', fun x hx => ⟨k2 x hx, (Zw x).2⟩, by simpa using k3⟩
def metL (done : List Int) : List Bool := (List.range 12).map fun (c : Nat) => done.contains (c : Int)
theorem bU (done : List Int) : (metL done).length = 12 := by simp [metL]
theorem NG (done : List Int) (c : Nat) (h : c < 12) (d : Bool) : (metL done).getD c d = done.contains (c : Int) := by
 simp [metL, List.getD, h]
theorem NF (done : List Int) (c : Nat) (h : c < 12) : (metL done).set c true = metL (done ++ [(c : Int)]) := by
 apply List.ext_getElem?
 intro x
 rw [List.getElem?_set]
 by_cases hx : x < 12
 ·by_cases e : c = x
  ·subst e; simp [metL, h]
  ·have : ¬ x = c := fun h => e h.symm
   simp [metL, hx, e, this]; intro h; omega
 ·rw [if_neg (by omega), List.getElem?_eq_none (by rw [bU]; omega), List.getElem?_eq_none (by rw [bU]; omega)]
theorem gB (xs : List Int) (hm : xs.length ≤ maxLen) (hi : Ins xs) : ∀ (r : List Int) (i : Nat) (done : List Int), xs.drop i = r → Ev (fun k => vR k xs (xs.length : Int) (i : Int) (metL done)) (pk done r)
 | [], i, done, h => by
   have a := yK h
   refine Ev.step (fun k => gC k _ _ _ _) ?_
   simp only [a.g, cond_false]
   exact Ev.pure _
 | x :: r, i, done, h => by
   have a := zK h hm
   refine Ev.step (fun k => gC k _ _ _ _) ?_
   simp only [a.g, a.z, a.get, a.w, cond_true]
   unfold pk
   refine Ev.bind (xy x (hi x a.mem)) (Ev.ite (fun c => Ev.some ?_) (fun c => ?_))
   ·have : ¬ 0 ≤ card x := by simpa using c
    simp [this]
   ·have hc : 0 ≤ card x := by simpa using c
    have hc2 := (Zw x).2
    have en : card x = ((card x).toNat : Int) := by omega
    have g1 : decide (0 ≤ card x) = true := by simp [hc]
    have g2 : decide (card x < ((metL done).length : Int)) = true := by rw [bU]; simp; omega
    have g3 : decide ((card x).toNat < (metL done).length) = true := by rw [bU]; simp; omega
    have g4 : (Nat.beq (metL done).length 12 && true) = true := by rw [bU]; rfl
    have g5 := NG done (card x).toNat (by omega) false
    rw [← en] at g5
    have g6 := NF done (card x).toNat (by omega)
    rw [← en] at g6
    simp only [g1, g2, g3, g4, g5, g6, cond_true, Bool.true_and]
    refine Ev.ite (fun c2 => Ev.some ?_) (fun c2 => ?_)
    ·rw [c2]; rfl
    ·rw [c2]
     exact gB xs hm hi r (i + 1) _ a.next
theorem xx (p : List Int) (hm : p.length ≤ maxLen) (hi : Ins p) : Ev (fun k => xV k p) (zj p) :=
 Ev.step (fun k => Uk k p) (gB p hm hi p 0 [] rfl)
def posF (c : Int) : Nat → List Int → Int
 | _, [] => -1
 | i, y :: r => if card y = c then (i : Int) else posF c (i + 1) r
def pos (p : List Int) (c : Int) : Int := if c < 0 then -1 else posF c 0 p
theorem fy (c : Int) (xs : List Int) (hm : xs.length ≤ maxLen) (hi : Ins xs) : ∀ (r : List Int) (i : Nat), xs.drop i = r → Ev (fun k => zt k xs c (xs.length : Int) (i : Int)) (posF c i r)
 | [], i, h => by
   have a := yK h
   refine Ev.step (fun k => yf k _ _ _ _) ?_
   simp only [a.g, cond_false]
   exact Ev.pure _
 | x :: r, i, h => by
   have a := zK h hm
   have ih := fy c xs hm hi r (i + 1) a.next
   refine Ev.step (fun k => yf k _ _ _ _) ?_
   simp only [a.g, a.z, a.get, a.w, cond_true]
   unfold posF
   have h1 : Ev (fun k => jd k (x, c)) (card x == c) := Ev.step (fun k => Zn k x c) (Ev.bind (xy x (hi x a.mem)) (Ev.pure _))
   refine Ev.bind h1 (Ev.ite (fun h => Ev.some ?_) (fun h => ih.to ?_))
   ·have : card x = c := by simpa using h
    rw [if_pos this]
   ·have : ¬ card x = c := by simpa using h
    rw [if_neg this]
theorem fw (p : List Int) (c : Int) (hm : p.length ≤ maxLen) (hi : Ins p) : Ev (fun k => uT k (p, c)) (pos p c) := by
 refine Ev.step (fun k => X5 k p c) ?_
 unfold pos
 refine Ev.ite (fun h => Ev.some ?_) (fun h => Ev.bind (Ev.step (fun k => xG k p c) (fy c p hm hi p 0 rfl)) (Ev.some ?_))
 ·have : c < 0 := by simpa using h
  rw [if_pos this]
 ·have : ¬ c < 0 := by simpa using h
  rw [if_neg this]
def WR (p q : List Int) : Bool := zj p && (zj q && (p.length == q.length && p.all fun x => decide (0 ≤ pos q (card x))))
def noPos (q : List Int) : Nat → List Int → Int
 | _, [] => -1
 | i, x :: r => if pos q (card x) < 0 then (i : Int) else noPos q (i + 1) r
theorem Tg (q : List Int) : ∀ (r : List Int) (i : Nat), (!(decide (noPos q i r ≥ 0))) = r.all fun x => decide (0 ≤ pos q (card x))
 | [], i => by simp [noPos]
 | x :: r, i => by
   unfold noPos
   by_cases h : pos q (card x) < 0
   ·rw [if_pos h]
    have : ¬ 0 ≤ pos q (card x) := by omega
    simp [this]
   ·rw [if_neg h, Tg q r (i + 1)]
    have : 0 ≤ pos q (card x) := by omega
    simp [this]
theorem fJ (q xs : List Int) (hm : xs.length ≤ maxLen) (hi : Ins xs) (hq : q.length ≤ maxLen) (hiq : Ins q) : ∀ (r : List Int) (i : Nat), xs.drop i = r → Ev (fun k => zn k xs q (xs.length : Int) (i : Int)) (noPos q i r)
 | [], i, h => by
   have a := yK h
   refine Ev.step (fun k => zV k _ _ _ _) ?_
   simp only [a.g, cond_false]
   exact Ev.pure _
 | x :: r, i, h => by
   have a := zK h hm
   have ih := fJ q xs hm hi hq hiq r (i + 1) a.next
   refine Ev.step (fun k => zV k _ _ _ _) ?_
   simp only [a.g, a.z, a.get, a.w, cond_true]
   unfold noPos
   have h1 : Ev (fun k => wV k (x, q)) (decide (pos q (card x) < 0)) := Ev.step (fun k => eP k x q) (Ev.bind (xy x (hi x a.mem)) (Ev.bind (fw q _ hq hiq) (Ev.pure _)))
   refine Ev.bind h1 (Ev.ite (fun h => Ev.some ?_) (fun h => ih.to ?_))
   ·have : pos q (card x) < 0 := by simpa using h
    rw [if_pos this]
   ·have : ¬ pos q (card x) < 0 := by simpa using h
    rw [if_neg this]
theorem aw (p q : List Int) (hp : p.length ≤ maxLen) (hip : Ins p) (hq : q.length ≤ maxLen) (hiq : Ins q) : Ev (fun k => ux k (p, q)) (WR p q) := by
 unfold WR
 refine Ev.step (fun k => ax k p q) (Ev.bind (xx p hp hip) (Ev.ite (fun h => Ev.some ?_) (fun h => Ev.bind (xx q hq hiq) (Ev.ite (fun h2 => Ev.some ?_) (fun h2 => Ev.ite (fun h3 => Ev.some ?_) (fun h3 => ?_))))))
 ·have : zj p = false := by simpa using h
  rw [this]; rfl
 ·have : zj q = false := by simpa using h2
  rw [this]; simp
 ·have : (p.length == q.length) = false := by simp at h3 ⊢; omega
  rw [this]; simp
 ·have e1 : zj p = true := by simpa using h
  have e2 : zj q = true := by simpa using h2
  have e3 : (p.length == q.length) = true := by simp at h3 ⊢; omega
  rw [e1, e2, e3, ← Tg q p 0]
  exact Ev.bind (Ev.step (fun k => xe k p q) (Ev.bind (Ev.step (fun k => xr k p q) (fJ q p hp hip hq hiq p 0 rfl)) (Ev.pure _))) (Ev.some (by simp))
end Qq
namespace Qq
open Go Go.Vt Pt
set_option linter.unusedVariables false
set_option linter.unusedSimpArgs false
def wj (n : Int) (p : List Int) (noted : Bool) (c a b : Int) : Bool :=
 if c = 0 then a == 0 && b == 0 else
 if c = 4 then a == 0 && b == 0 else
 if c = 1 then noted && (decide (0 ≤ a) && (decide (a < n) && b == 0)) else
 if c = 2 then decide (0 ≤ a) && (decide (a ≤ n) && b == 0) else
 if c = 3 then decide (0 ≤ pos p a) && (decide (0 ≤ b) && decide (b < n)) else false
def cP (n : Int) (l : List Step) : Bool := l.all (zI n)
def wi (l : List Step) : Bool := l.any fun s => s.1 == 3
def zv (t : yt) : Bool :=
 zj t.1 && (!(t.1.length == 0) && (decide (t.2.1.length ≤ 12) && (cP t.1.length t.2.1 && wj t.1.length t.1 (wi t.2.1) t.2.2.1 t.2.2.2.1 t.2.2.2.2)))
theorem SU (xs : List Step) (hm : xs.length ≤ maxLen) (p : List Int) (hp : p.length ≤ maxLen) (hi : Ins p) (c a b n : Int) (hn : n = p.length) : ∀ (r : List Step) (i : Nat) (nt : Bool), xs.drop i = r →
 Ev (fun k => vu k n nt xs (xs.length : Int) (i : Int) p xs c a b) (cP n r && wj n p (nt || wi r) c a b)
 | [], i, nt, h => by
   have q := yK h
   refine Ev.step (fun k => fp k _ _ _ _ _ _ _ _ _ _) ?_
   simp only [q.g, cond_false]
   have e : (cP n [] && wj n p (nt || wi []) c a b) = wj n p nt c a b := by simp [cP, wi]
   rw [e]
   unfold wj
   refine Ev.ite (fun h => ?_) (fun h => ?_)
   ·have e : c = 0 := by simpa using h
    rw [if_pos e]
    refine Ev.ite (fun h => Ev.some ?_) (fun h => Ev.some ?_) <;> simp [h]
   have e0 : ¬ c = 0 := by simpa using h
   rw [if_neg e0]
   refine Ev.ite (fun h => ?_) (fun h => ?_)
   ·have e : c = 4 := by simpa using h
    rw [if_pos e]
    refine Ev.ite (fun h => Ev.some ?_) (fun h => Ev.some ?_) <;> simp [h]
   have e4 : ¬ c = 4 := by simpa using h
   rw [if_neg e4]
   refine Ev.ite (fun h => ?_) (fun h => ?_)
   ·have e : c = 1 := by simpa using h
    rw [if_pos e]
    repeat (first | (refine Ev.ite (fun h => ?_) (fun h => ?_)) | focus (refine Ev.some ?_; simp_all; done) | focus (refine Ev.some ?_; simp_all; omega))
   have e1 : ¬ c = 1 := by simpa using h
   rw [if_neg e1]
   refine Ev.ite (fun h => ?_) (fun h => ?_)
   ·have e : c = 2 := by simpa using h
    rw [if_pos e]
    repeat (first | (refine Ev.ite (fun h => ?_) (fun h => ?_)) | focus (refine Ev.some ?_; simp_all; done) | focus (refine Ev.some ?_; simp_all; omega))
   have e2 : ¬ c = 2 := by simpa using h
   rw [if_neg e2]
   refine Ev.ite (fun h => ?_) (fun h => Ev.some ?_)
   ·have e : c = 3 := by simpa using h
    rw [if_pos e]
    refine Ev.bind (fw p a hp hi) (Ev.ite (fun h' => Ev.ite (fun h2 => Ev.some ?_) (fun h2 => Ev.some ?_)) (fun h' => Ev.some ?_))
    ·have h3 : 0 ≤ pos p a := by simpa using h'
     have h4 : 0 ≤ b := by simpa using h2
     simp [h3, h4]
    ·have h4 : ¬ 0 ≤ b := by simpa using h2
     simp [h4]
    ·have h3 : ¬ 0 ≤ pos p a := by simpa using h'
     simp [h3]
   ·have e3 : ¬ c = 3 := by simpa using h
    rw [if_neg e3]
 | s :: r, i, nt, h => by
   have q := zK h hm
   refine Ev.step (fun k => fp k _ _ _ _ _ _ _ _ _ _) ?_
   simp only [q.g, q.z, q.get, q.w, cond_true]
   refine Ev.bind (be n s) (Ev.ite (fun h => Ev.some ?_) (fun h => Ev.ite (fun h2 => ?_) (fun h2 => ?_)))
   ·have : zI n s = false := by simpa using h
    simp [cP, this]
   ·have e : zI n s = true := by simpa using h
    refine (SU xs hm p hp hi c a b n hn r (i + 1) true q.next).to ?_
    simp [cP, e, h2]
   ·have e : zI n s = true := by simpa using h
    refine (SU xs hm p hp hi c a b n hn r (i + 1) (s.1 == 3) q.next).to ?_
    simp [cP, e, h2, wi]
theorem wn (t : yt) (h1 : t.1.length ≤ maxLen) (hi : Ins t.1) (h2 : t.2.1.length ≤ maxLen) : Ev (fun k => vw k t) (zv t) := by
 obtain ⟨p, st, c, a, b⟩ := t
 unfold zv
 refine Ev.step (fun k => TC k _) (Ev.bind (xx p h1 hi) (Ev.ite (fun h => Ev.some ?_) (fun h => Ev.ite (fun h' => Ev.some ?_) (fun h' => Ev.ite (fun h3 => Ev.some ?_) (fun h3 => ?_)))))
 ·have : zj p = false := by simpa using h
  simp [this]
 ·have : p.length = 0 := by simp at h'; simp [h']
  simp [this]
 ·have : ¬ st.length ≤ 12 := by simp at h3; omega
  simp [this]
 ·refine (SU st h2 p h1 hi c a b _ rfl st 0 false rfl).to ?_
  have e1 : zj p = true := by simpa using h
  have e2 : (p.length == 0) = false := by simp at h' ⊢; exact h'
  have e3 : st.length ≤ 12 := by simp at h3; omega
  simp [e1, e3, e2]
def countK (b : Int → Bool) (l : List Step) : Nat := l.countP fun s => b s.1
theorem Wt (b : Int → Bool) (s : Step) (l : List Step) : countK b (s :: l) = countK b l + (if b s.1 then 1 else 0) := by unfold countK; rw [List.countP_cons]
theorem yu {t : yt} (h : zv t = true) : t.2.1.length ≤ 12 ∧ 1 ≤ t.1.length ∧ t.1.length ≤ 12 ∧ zj t.1 = true := by
 unfold zv at h
 simp only [Bool.and_eq_true, decide_eq_true_eq] at h
 have := yp h.1
 have h2 := h.2.1
 refine ⟨h.2.2.1, ?_, this.2.2, h.1⟩
 have : ¬ t.1.length = 0 := by simpa using h2
 omega
end Qq
namespace Qq
open Go Go.Vt Pt
set_option linter.unusedVariables false
set_option linter.unusedSimpArgs false
theorem xQ (xs ys : List Int) (hx : xs.length ≤ maxLen) (hy : ys.length ≤ maxLen) : ∀ (r s : List Int) (i : Nat), xs.drop i = r → ys.drop i = s → s.length = r.length → Ev (fun k => zA k xs ys (xs.length : Int) (i : Int)) (r == s)
 | [], [], i, h1, h2, hl => by
   have a := yK h1
   refine Ev.step (fun k => yr k xs ys _ i) ?_
   simp only [a.g, cond_false]
   exact Ev.pure _
 | x :: r, y :: s, i, h1, h2, hl => by
   have a := zK h1 hx
   have b := zK h2 hy
   refine Ev.step (fun k => yr k xs ys _ i) ?_
   simp only [a.g, a.z, b.g, a.get, b.get, a.w, cond_true]
   have ih := xQ xs ys hx hy r s (i + 1) a.next b.next (by simpa using hl)
   refine Ev.ite (fun h => Ev.some ?_) (fun h => ih.to ?_)
   ·have : ¬ x = y := by simpa using h
    simp [this]
   ·have : x = y := by simpa using h
    simp [this]
 | [], _ :: _, _, _, _, hl => by simp at hl
 | _ :: _, [], _, _, _, hl => by simp at hl
theorem fV (xs ys : List Int) (hx : xs.length ≤ maxLen) (hy : ys.length ≤ maxLen) : Ev (fun k => yF k (xs, ys)) (xs == ys) := by
 refine Ev.step (fun k => wh k xs ys) (Ev.ite (fun h => Ev.some ?_) (fun h => xQ xs ys hx hy xs ys 0 rfl rfl ?_))
 ·have h' : ¬ xs.length = ys.length := by simp at h; omega
  have : ¬ xs = ys := fun e => h' (by rw [e])
  simp [this]
 ·simp at h; omega
end Qq
namespace Qq
open Go Go.Vt Pt
set_option linter.unusedVariables false
set_option linter.unusedSimpArgs false
def isUp (x : Int) : Bool := decide (-12 ≤ x) && decide (x ≤ -1)
theorem TG (x : Int) (hx : In x) : Ev (fun k => RB k x) (isUp x) := by
 refine Ev.step (fun k => PK k x) (Ev.ite (fun h => Ev.bind (xy x hx) (Ev.some ?_)) (fun h => Ev.some ?_))
 ·have h' : x < 0 := by simpa using h
  unfold isUp card
  rw [Bool.eq_iff_iff, if_neg (by omega)]
  by_cases h2 : -12 ≤ x ∧ x ≤ -1
  ·rw [if_pos h2]; simp; omega
  ·rw [if_neg h2]; simp; omega
 ·have h' : ¬ x < 0 := by simpa using h
  unfold isUp
  symm; simp; omega
def countUp (p : List Int) : Nat := p.countP isUp
theorem uA (xs : List Int) (hi : Ins xs) (hm : xs.length ≤ maxLen) : ∀ (r : List Int) (i : Nat) (v : Nat), xs.drop i = r → v ≤ i → Ev (fun k => vA k (v : Int) xs (xs.length : Int) (i : Int)) ((v : Int) + countUp r)
 | [], i, v, h, hv => by
   have q := yK h
   refine Ev.step (fun k => fC k _ _ _ _) ?_
   simp only [q.g, cond_false]
   exact Ev.some (by simp [countUp])
 | s :: r, i, v, h, hv => by
   have q := zK h hm
   have := q.lt
   have hs : In s := hi s (List.mem_of_mem_drop (h ▸ List.mem_cons_self))
   rw [ze] at hm
   refine Ev.step (fun k => fC k _ _ _ _) ?_
   simp only [q.g, q.z, q.get, q.w, cond_true]
   have e : countUp (s :: r) = countUp r + (if isUp s then 1 else 0) := by unfold countUp; rw [List.countP_cons]
   rw [e]
   refine Ev.bind (TG s hs) (Ev.ite (fun h => ?_) (fun h => ?_))
   ·rw [zi (by omega) (by omega)]
    refine (uA xs hi (by rw [ze]; exact hm) r (i + 1) (v + 1) q.next (by omega)).to ?_
    rw [if_pos h]; omega
   ·refine (uA xs hi (by rw [ze]; exact hm) r (i + 1) v q.next (by omega)).to ?_
    rw [h]; simp
theorem Pg (c : Int) : ∀ (r : List Int) (i a : Nat), (r.map card).Nodup → i ≤ a → a < i + r.length → (posF c i r = (a : Int) ↔ card (r.getD (a - i) 0) = c)
 | [], i, a, _, h1, h2 => by simp at h2; omega
 | y :: r, i, a, hn, h1, h2 => by
   rw [List.map_cons, List.nodup_cons] at hn
   unfold posF
   by_cases e : a = i
   ·subst e
    simp only [Nat.sub_self, List.getD_cons_zero]
    by_cases hc : card y = c
    ·simp [hc]
    ·rw [if_neg hc]
     constructor
     ·intro h
      exfalso
      have : ∀ (r : List Int) (j : Nat), a < j → posF c j r ≠ (a : Int) := by
       intro r
       induction r with
       | nil => intro j hj; show (-1 : Int) ≠ _; omega
       | cons z r ih =>
         intro j hj
         unfold posF
         split
         ·omega
         ·exact ih (j + 1) (by omega)
      exact this r (a + 1) (by omega) h
     ·intro h; exact absurd h hc
   ·have g : (y :: r).getD (a - i) 0 = r.getD (a - (i + 1)) 0 := by
     have : a - i = (a - (i + 1)) + 1 := by omega
     rw [this, List.getD_cons_succ]
    rw [g]
    have hlt : a - (i + 1) < r.length := by rw [List.length_cons] at h2; omega
    by_cases hc : card y = c
    ·rw [if_pos hc]
     constructor
     ·intro h; omega
     ·intro h
      exfalso
      apply hn.1
      rw [hc, ← h]
      rw [List.getD, List.getElem?_eq_getElem hlt]
      exact List.mem_map_of_mem (List.getElem_mem hlt)
    ·rw [if_neg hc]
     exact Pg c r (i + 1) a hn.2 (by omega) (by rw [List.length_cons] at h2; omega)
theorem Mp {p : List Int} {c a : Int} (hp : zj p = true) (hc : 0 ≤ c) (h0 : 0 ≤ a) (h1 : a < p.length) : (pos p c == a) = (card (p.getD a.toNat 0) == c) := by
 have hf := yp hp
 have := Pg c p 0 a.toNat hf.1 (by omega) (by omega)
 have e : ((a.toNat : Nat) : Int) = a := by omega
 rw [e, Nat.sub_zero] at this
 unfold pos
 rw [if_neg (by omega), Bool.eq_iff_iff]
 simpa using this
def uY (t : yt) (c : Scene) : Bool :=
 if t.2.2.1 = 1 then decide (c.2 ≥ 0) && pos c.1 c.2 == t.2.2.2.1 else
 if t.2.2.1 = 2 then (countUp c.1 : Int) == t.2.2.2.1 else
 if t.2.2.1 = 3 then pos c.1 t.2.2.2.1 == t.2.2.2.2 else
 if t.2.2.1 = 4 then c.1 == t.1 else true
def jJ (t : yt) (c : Scene) : Bool := zv t && (WR t.1 c.1 && uY t c)
theorem Py {p q : List Int} (h : WR p q = true) : zj q = true ∧ q.length = p.length := by
 unfold WR at h
 simp only [Bool.and_eq_true, beq_iff_eq] at h
 exact ⟨h.2.1, h.2.2.1.symm⟩
theorem fF (t : yt) (c : Scene) (a1 : t.1.length ≤ maxLen) (ai : Ins t.1) (a2 : t.2.1.length ≤ maxLen) (b1 : c.1.length ≤ maxLen) (bi : Ins c.1) : Ev (fun k => uX k (t, c)) (jJ t c) := by
 unfold jJ
 refine Ev.step (fun k => Wc k t c) (Ev.bind (wn t a1 ai a2) (Ev.ite (fun h => Ev.some ?_) (fun h => ?_)))
 ·have : zv t = false := by simpa using h
  rw [this]; rfl
 have e : zv t = true := by simpa using h
 rw [e, Bool.true_and]
 refine Ev.bind (aw t.1 c.1 a1 ai b1 bi) (Ev.ite (fun h => Ev.some ?_) (fun h => ?_))
 ·have : WR t.1 c.1 = false := by simpa using h
  rw [this]; rfl
 have e2 : WR t.1 c.1 = true := by simpa using h
 rw [e2, Bool.true_and]
 obtain ⟨hq, hlen⟩ := Py e2
 have hclaim : wj t.1.length t.1 (wi t.2.1) t.2.2.1 t.2.2.2.1 t.2.2.2.2 = true := by
  unfold zv at e
  simp only [Bool.and_eq_true] at e
  exact e.2.2.2.2
 unfold uY
 refine Ev.ite (fun h => ?_) (fun h => ?_)
 ·have ec : t.2.2.1 = 1 := by simpa using h
  rw [if_pos ec]
  unfold wj at hclaim
  rw [if_neg (by omega), if_neg (by omega), if_pos ec] at hclaim
  simp only [Bool.and_eq_true, decide_eq_true_eq, beq_iff_eq] at hclaim
  refine Ev.ite (fun h => ?_) (fun h => Ev.some (by rw [h]; rfl))
  have hc : 0 ≤ c.2 := by simpa using h
  have hlt : t.2.2.2.1 < (c.1.length : Int) := by rw [hlen]; exact hclaim.2.2.1
  refine Ev.yes (by simpa using hclaim.2.1) (Ev.yes (by simpa using hlt) ?_)
  have hin : In (c.1.getD t.2.2.2.1.toNat 0) := by
   have : t.2.2.2.1.toNat < c.1.length := by have := hclaim.2.1; omega
   rw [List.getD, List.getElem?_eq_getElem this]
   exact bi _ (List.getElem_mem this)
  refine Ev.bind (xy _ hin) (Ev.some ?_)
  rw [h, Bool.true_and, Mp hq hc hclaim.2.1 hlt]
 ·have e1 : ¬ t.2.2.1 = 1 := by simpa using h
  rw [if_neg e1]
  refine Ev.ite (fun h => ?_) (fun h => ?_)
  ·have e : t.2.2.1 = 2 := by simpa using h
   rw [if_pos e]
   refine Ev.bind (Ev.step (fun k => TH k c.1) (uA c.1 bi b1 c.1 0 0 rfl (by omega))) (Ev.some (by simp))
  ·have e2 : ¬ t.2.2.1 = 2 := by simpa using h
   rw [if_neg e2]
   refine Ev.ite (fun h => ?_) (fun h => ?_)
   ·have ec : t.2.2.1 = 3 := by simpa using h
    rw [if_pos ec]
    unfold wj at hclaim
    rw [if_neg (by omega), if_neg (by omega), if_neg (by omega), if_neg (by omega), if_pos ec] at hclaim
    simp only [Bool.and_eq_true, decide_eq_true_eq] at hclaim
    have hc : 0 ≤ t.2.2.2.1 := by
     have := hclaim.1
     unfold pos at this
     split at this
     ·omega
     ·omega
    have hlt : t.2.2.2.2 < (c.1.length : Int) := by rw [hlen]; exact hclaim.2.2
    refine Ev.yes (by simpa using hclaim.2.1) (Ev.yes (by simpa using hlt) ?_)
    have hin : In (c.1.getD t.2.2.2.2.toNat 0) := by
     have : t.2.2.2.2.toNat < c.1.length := by have := hclaim.2.1; omega
     rw [List.getD, List.getElem?_eq_getElem this]
     exact bi _ (List.getElem_mem this)
    refine Ev.bind (xy _ hin) (Ev.some ?_)
    rw [Mp hq hc hclaim.2.1 hlt]
   ·have e3 : ¬ t.2.2.1 = 3 := by simpa using h
    rw [if_neg e3]
    refine Ev.ite (fun h => ?_) (fun h => ?_)
    ·have e : t.2.2.1 = 4 := by simpa using h
     rw [if_pos e]
     exact Ev.bind (fV c.1 t.1 b1 a1) (Ev.pure _)
    ·have e : ¬ t.2.2.1 = 4 := by simpa using h
     rw [if_neg e]
     exact Ev.pure _
end Qq
namespace Qq
open Go Go.Vt Pt
set_option linter.unusedVariables false
set_option linter.unusedSimpArgs false
def uD (c a b : Int) : ByteArray :=
 if c = 0 then ⟨#[110, 111, 116, 104, 105, 110, 103]⟩ else
 if c = 1 then (⟨#[110, 111, 116, 101, 100, 32, 97, 116, 32]⟩ : ByteArray) ++ yb a else
 if c = 2 then (⟨#[117, 112, 32]⟩ : ByteArray) ++ yb a else
 if c = 3 then (((⟨#[99, 97, 114, 100, 32]⟩ : ByteArray) ++ yb a) ++ (⟨#[32, 97, 116, 32]⟩ : ByteArray)) ++ yb b else
 if c = 4 then ⟨#[111, 114, 100, 101, 114]⟩ else ⟨#[]⟩
theorem vZ {a b : ByteArray} {m n : Nat} (ha : a.size ≤ m) (hb : b.size ≤ n) : (a ++ b).size ≤ m + n := by rw [ByteArray.size_append]; omega
theorem cO {a b : ByteArray} {m n : Nat} (ha : a.size ≤ m) (hb : b.size ≤ n) (h : m + n ≤ 9223372036854775807) : decide (a.size + b.size ≤ 9223372036854775807) = true := decide_eq_true (by omega)
theorem Yw (p : List Int) (st : List Step) (c a b : Int) (ha : In a) (hb : In b) : Ev (fun k => gg k (p, st, c, a, b)) (uD c a b) := by
 have sa := yv a ha
 have sb := yv b hb
 unfold uD
 refine Ev.step (fun k => Yx k _) (Ev.ite (fun h => ?_) (fun h => ?_))
 ·rw [if_pos (by simpa using h)]; exact Ev.pure _
 rw [if_neg (by simpa using h)]
 refine Ev.ite (fun h => ?_) (fun h => ?_)
 ·rw [if_pos (by simpa using h)]
  exact Ev.bind (zL a ha) (Ev.yes (cO (m := 9) (by decide) sa (by decide)) (Ev.pure _))
 rw [if_neg (by simpa using h)]
 refine Ev.ite (fun h => ?_) (fun h => ?_)
 ·rw [if_pos (by simpa using h)]
  exact Ev.bind (zL a ha) (Ev.yes (cO (m := 3) (by decide) sa (by decide)) (Ev.pure _))
 rw [if_neg (by simpa using h)]
 refine Ev.ite (fun h => ?_) (fun h => ?_)
 ·rw [if_pos (by simpa using h)]
  have s1 := vZ (a := (⟨#[99, 97, 114, 100, 32]⟩ : ByteArray)) (m := 5) (by decide) sa
  have s2 := vZ (b := (⟨#[32, 97, 116, 32]⟩ : ByteArray)) (n := 4) s1 (by decide)
  exact Ev.bind (zL a ha) (Ev.yes (cO (m := 5) (by decide) sa (by decide)) (Ev.yes (cO s1 (n := 4) (by decide) (by decide)) (Ev.bind (zL b hb) (Ev.yes (cO s2 sb (by decide)) (Ev.pure _)))))
 rw [if_neg (by simpa using h)]
 refine Ev.ite (fun h => ?_) (fun h => ?_)
 ·rw [if_pos (by simpa using h)]; exact Ev.pure _
 ·rw [if_neg (by simpa using h)]; exact Ev.pure _
def cardB (x : Int) : ByteArray := if isUp x then yb (card x) ++ ⟨#[94]⟩ else yb (card x)
theorem S9 (x : Int) : In (card x) := by have := Zw x; unfold In; omega
theorem QK (x : Int) : (cardB x).size ≤ 22 := by
 have h := yv (card x) (S9 x)
 unfold cardB
 split
 ·exact vZ h (n := 1) (by decide)
 ·omega
def zu (p : List Int) : ByteArray := if zj p then (if p = [] then ⟨#[101, 109, 112, 116, 121]⟩ else b8 (p.map cardB) ⟨#[32]⟩) else ⟨#[]⟩
theorem cH (p : List Int) : ∀ x ∈ p.map cardB, x.size ≤ 22 := by
 intro x hx
 obtain ⟨n, _, rfl⟩ := List.mem_map.1 hx
 exact QK n
theorem Lb {xs : List Int} {i : Nat} {x : Int} {r : List Int} (a : AtCons xs i x r) : (xs.take (i + 1)).map cardB = (xs.take i).map cardB ++ [cardB x] := by
 have hlt := a.lt
 have e : xs[i] = x := by have := a.get 0; rw [Int.toNat_natCast, List.getD, List.getElem?_eq_getElem hlt] at this; exact this
 rw [List.take_succ_eq_append_getElem hlt, List.map_append, e]; rfl
theorem vM (xs : List Int) (hm : xs.length ≤ 12) (hi : Ins xs) : ∀ (r : List Int) (i : Nat), xs.drop i = r → Ev (fun k => xq k xs (xs.length : Int) (i : Int) ((xs.take i).map cardB)) (b8 (xs.map cardB) ⟨#[32]⟩)
 | [], i, h => by
   have a := yK h
   refine Ev.step (fun k => vN k _ _ _ _) ?_
   simp only [a.g, cond_false]
   rw [List.take_of_length_le a.ge]
   exact Ev.bind (TE _ _ 22 (by simp; omega) (cH xs) (by omega) (by decide)) (Ev.pure _)
 | x :: r, i, h => by
   have a := zK h (by rw [ze]; omega)
   have hx : In x := hi x (List.mem_of_mem_drop (h ▸ List.mem_cons_self))
   have ih := vM xs hm hi r (i + 1) a.next
   rw [Lb a] at ih
   refine Ev.step (fun k => vN k _ _ _ _) ?_
   simp only [a.g, a.z, a.get, a.w, cond_true]
   have hs := yv (card x) (S9 x)
   refine Ev.bind (xy x hx) (Ev.bind (zL _ (S9 x)) (Ev.bind (TG x hx) (Ev.ite (fun h => ?_) (fun h => ?_))))
   ·have e : cardB x = yb (card x) ++ ⟨#[94]⟩ := by unfold cardB; rw [if_pos h]
    rw [e] at ih
    exact Ev.yes (cO hs (n := 1) (by decide) (by decide)) (Ev.yes (by rw [zb]; simp; omega) ih)
   ·have e : cardB x = yb (card x) := by unfold cardB; rw [h]; rfl
    rw [e] at ih
    exact Ev.yes (by rw [zb]; simp; omega) ih
theorem wX (p : List Int) (hm : p.length ≤ maxLen) (hi : Ins p) : Ev (fun k => x8 k p) (zu p) := by
 unfold zu
 refine Ev.step (fun k => Zp k p) (Ev.bind (xx p hm hi) (Ev.ite (fun h => Ev.some ?_) (fun h => ?_)))
 ·have : zj p = false := by simpa using h
  rw [this]; rfl
 ·have e : zj p = true := by simpa using h
  rw [if_pos e]
  refine Ev.ite (fun h => Ev.some ?_) (fun h => ?_)
  ·have : p = [] := by simp at h; exact h
   rw [if_pos this]
  ·have : ¬ p = [] := by simp at h; exact h
   rw [if_neg this]
   exact vM p (yp e).2.2 hi p 0 rfl
theorem xW (p : List Int) : (zu p).size ≤ 2000 := by
 unfold zu
 split
 ·rename_i h
  split
  ·decide
  ·have h12 := (yp h).2.2
   have := YP (B := 22) (S := 1) (⟨#[32]⟩ : ByteArray) (by decide) (p.map cardB) (cH p)
   rw [List.length_map] at this
   rw [b8, yU]
   omega
 ·decide
end Qq
namespace Qq
open Go Go.Vt Pt
set_option linter.unusedVariables false
set_option linter.unusedSimpArgs false
end Qq
namespace Qq
open Go Go.Vt Pt
set_option linter.unusedVariables false
set_option linter.unusedSimpArgs false
def upB (l : List UInt8) : Bool := l.getLast? == some 94
def T5 (l : List UInt8) : List UInt8 := bif upB l then l.dropLast else l
def Yo (a : ByteArray) : Option Int :=
 if (yJ (strB (T5 a.data.toList))).2 = true ∧ 0 ≤ (yJ (strB (T5 a.data.toList))).1 then some (bif upB a.data.toList then -1 - (yJ (strB (T5 a.data.toList))).1 else (yJ (strB (T5 a.data.toList))).1) else none
def allO (f : ByteArray → Option Int) : List ByteArray → Option (List Int)
 | [] => some []
 | a :: r => (f a).bind fun x => (allO f r).map fun l => x :: l
def endI (out : List Int) : Option (List Int) → List Int × Bool
 | none => ([], false)
 | some ys => if zj (out ++ ys) = true then (out ++ ys, true) else ([], false)
theorem TS (out : List Int) (x : Int) (o : Option (List Int)) : endI out (o.map fun l => x :: l) = endI (out ++ [x]) o := by
 cases o with
 | none => rfl
 | some ys => simp [endI]
theorem VT (m : List UInt8) (c : UInt8) : upB (m ++ [c]) = decide (c = 94) := by
 unfold upB
 rw [List.getLast?_append]
 by_cases h : c = 94 <;> simp [h]
theorem Ma (m : List UInt8) : T5 (m ++ [94]) = m := by
 unfold T5
 rw [VT]; simp
theorem P9 (m : List UInt8) {c : UInt8} (h : c ≠ 94) : T5 (m ++ [c]) = m ++ [c] := by
 unfold T5
 rw [VT]; simp [h]
theorem Lk (m : List UInt8) (c : UInt8) (h : (m ++ [c]).length ≤ 1048576) : IntKind.i64.wrap (((m ++ [c]).length : Int) - (1 : Int)) = (m.length : Int) := by
 rw [List.length_append, List.length_singleton] at h
 rw [zi (by simp) (by simp; omega)]; simp
theorem Ny (m : List UInt8) (c : UInt8) : (m ++ [c]).getD ((m.length : Int)).toNat 0 = c := by
 rw [Int.toNat_natCast]; simp [List.getD]
theorem Nz (m : List UInt8) (c : UInt8) : (strB (m ++ [c])).extract 0 ((m.length : Int)).toNat = strB m := by
 rw [gN, Int.toNat_natCast]; simp
theorem byte94 (c : UInt8) : (((c.toNat : Nat) : Int) == (94 : Int)) = decide (c = 94) := M7 c 94
theorem up_w {n : Int} (h : 0 ≤ n) (hn : In n) : IntKind.i64.wrap ((-1 : Int) - n) = -1 - n := by unfold In at hn; exact zi (by omega) (by omega)
theorem U6 (s : ByteArray) : In (yJ s).1 := by
 rcases U8 s with ⟨n, hn, _, hp⟩ | ⟨hp, _⟩
 ·rw [hp]; exact hn
 ·rw [hp]; unfold In; decide
theorem Pi : Yo ⟨#[]⟩ = none := by decide
theorem NX (m : List UInt8) (c : UInt8) : strB (m ++ [c]) ≠ ⟨#[]⟩ := by
 intro e
 have := congrArg (fun x => x.data.toList) e
 simp [wG] at this
theorem uq (xs : List ByteArray) (hm : xs.length ≤ 1048577) (hsz : ∀ a ∈ xs, a.size ≤ 1048576) : ∀ (r : List ByteArray) (i : Nat) (out : List Int), xs.drop i = r → out.length = i → i ≤ xs.length → Ins out →
 Ev (fun k => zY k (xs.length : Int) (i : Int) out xs) (endI out (allO Yo r))
 | [], i, out, h, ho, hle, hi => by
   have a := yK h
   refine Ev.step (fun k => ur k _ _ _ _) ?_
   simp only [a.g, cond_false]
   refine Ev.bind (xx out (by rw [ze]; omega) hi) ?_
   show Ev _ (if zj (out ++ []) = true then (out ++ [], true) else ([], false))
   rw [List.append_nil]
   cases hp : zj out with
   | false => exact Ev.yes rfl (Ev.some (by simp))
   | true => exact Ev.no rfl (Ev.some (by simp))
 | b :: r, i, out, h, ho, hle, hi => by
   have a := zK h (by rw [ze]; omega)
   have lt := a.lt
   have hb := hsz b a.mem
   have go : ∀ x, In x → Ev (fun k => zY k (xs.length : Int) ((i + 1 : Nat) : Int) (out ++ [x]) xs) (endI (out ++ [x]) (allO Yo r)) := fun x hx =>
    uq xs hm hsz r (i + 1) (out ++ [x]) a.next (by simp [ho]) (by omega) (by
     intro y hy
     rcases List.mem_append.1 hy with h1 | h1
     ·exact hi y h1
     ·rw [List.mem_singleton.1 h1]; exact hx)
   refine Ev.step (fun k => ur k _ _ _ _) ?_
   simp only [a.g, a.z, a.n, a.get, a.w, cond_true, wl]
   have e0 : allO Yo (b :: r) = (Yo b).bind fun x => (allO Yo r).map fun l => x :: l := rfl
   rw [e0]
   have hrow : ∀ x : Int, decide (out.length + [x].length ≤ rowMax) = true := fun x => by rw [zb]; simp; omega
   rcases List.eq_nil_or_concat b.data.toList with hl | ⟨m, c, hl⟩
   ·have hbe : b = ⟨#[]⟩ := by rw [← gM b, hl]; rfl
    subst hbe
    rw [Pi]
    refine Ev.no (by simp) (Ev.bind (vQ _ (by decide)) (Ev.yes rfl (Ev.pure _)))
   ·rw [List.concat_eq_append] at hl
    have hbe : b = strB (m ++ [c]) := by rw [← hl, gM]
    subst hbe
    rw [yU] at hb
    have hw := Lk m c hb
    have hlen : (m ++ [c]).length = m.length + 1 := by simp
    simp only [yU, wG, hw, Ny, Nz, byte94]
    refine Ev.yes (by simp [NX]) (Ev.yes (by simp) (Ev.yes (by rw [hlen]; simp; omega) ?_))
    unfold Yo
    rw [wG, VT]
    by_cases hc : c = 94
    ·subst hc
     rw [Ma]
     refine Ev.yes rfl (Ev.yes (by simp) (Ev.yes (by rw [hlen]; simp; omega) (Ev.bind (vQ (strB m) (by rw [yU]; omega)) ?_)))
     have hin := U6 (strB m)
     cases hp : (yJ (strB m)).2 with
     | false => exact Ev.yes rfl (Ev.some (by simp [hp, endI]))
     | true =>
       by_cases h0 : 0 ≤ (yJ (strB m)).1
       ·rw [if_pos ⟨rfl, h0⟩, Option.bind_some, TS]
        refine Ev.no rfl (Ev.no (by simp; omega) (Ev.yes rfl (Ev.yes (hrow _) ?_)))
        rw [up_w h0 hin]
        exact go _ (by unfold In at hin ⊢; omega)
       ·rw [if_neg (fun e => h0 e.2)]
        exact Ev.no rfl (Ev.yes (by simp; omega) (Ev.pure _))
    ·rw [P9 m hc]
     refine Ev.no (by simp [hc]) (Ev.bind (vQ (strB (m ++ [c])) (by rw [yU]; omega)) ?_)
     have hin := U6 (strB (m ++ [c]))
     cases hp : (yJ (strB (m ++ [c]))).2 with
     | false => exact Ev.yes rfl (Ev.some (by simp [hp, endI]))
     | true =>
       by_cases h0 : 0 ≤ (yJ (strB (m ++ [c]))).1
       ·rw [if_pos ⟨rfl, h0⟩, Option.bind_some, TS]
        have hd : decide (c = 94) = false := by simp [hc]
        rw [hd]
        exact Ev.no rfl (Ev.no (by simp; omega) (Ev.no rfl (Ev.yes (hrow _) (go _ hin))))
       ·rw [if_neg (fun e => h0 e.2)]
        exact Ev.no rfl (Ev.yes (by simp; omega) (Ev.pure _))
theorem Vx : ∀ (l : List (List UInt8)), Lib.join l [32] = Sv l
 | [] => rfl
 | [a] => by rw [Lib.join_cons]; simp [Lib.joinTail, Sv]
 | a :: b :: r => by
   have ih := Vx (b :: r)
   rw [Lib.join_cons] at ih ⊢
   rw [Sv, ← ih]
   simp [Lib.joinTail]
def jR (s : ByteArray) : List Int × Bool := if s = ⟨#[101, 109, 112, 116, 121]⟩ then ([], true) else endI [] (allO Yo (cutB s))
theorem N7 (s : ByteArray) : (cutB s).length ≤ s.size + 1 := by
 have H : ∀ (l cur : List UInt8), (x4 cur l).length ≤ l.length + 1 := by
  intro l
  induction l with
  | nil => intro cur; simp [x4]
  | cons c r ih =>
    intro cur
    unfold x4
    split
    ·have := ih []; simp; omega
    ·have := ih (cur ++ [c]); simp; omega
 unfold cutB
 rw [List.length_map]
 have := H s.data.toList []
 simpa using this
theorem Yt (s : ByteArray) (hm : s.size ≤ 1048576) : Ev (fun k => gb k s) (jR s) := by
 refine Ev.step (fun k => Yu k s) ?_
 unfold jR
 rw [wl]
 by_cases h : s = ⟨#[101, 109, 112, 116, 121]⟩
 ·rw [if_pos h]; exact Ev.yes (by simp [h]) (Ev.pure _)
 ·rw [if_neg h]
  refine Ev.no (by simp [h]) (Ev.bind (ap s hm) ?_)
  exact uq (cutB s) (by have := N7 s; omega) (fun a ha => by have := T0 s a ha; omega) _ 0 [] rfl rfl (Nat.zero_le _) (fun x hx => by cases hx)
end Qq
namespace Qq
open Go Go.Vt Pt
set_option linter.unusedVariables false
set_option linter.unusedSimpArgs false
def wF : List ByteArray := [⟨#[99, 117, 116]⟩, ⟨#[100, 101, 97, 108]⟩, ⟨#[102, 108, 105, 112]⟩, ⟨#[102, 97, 114, 111]⟩, ⟨#[109, 111, 110, 103, 101]⟩, ⟨#[109, 105, 108, 107]⟩, ⟨#[100, 117, 99, 107]⟩, ⟨#[116, 117, 114, 110]⟩, ⟨#[117, 110, 100, 101, 114]⟩]
def yC (kind : Int) : ByteArray := if 1 ≤ kind ∧ kind ≤ 9 then wF.getD (kind - 1).toNat ⟨#[]⟩ else ⟨#[]⟩
theorem bT (kind : Int) : (yC kind).size ≤ 5 := by
 unfold yC
 split
 ·rename_i h
  obtain ⟨n, hn⟩ : ∃ n : Nat, (kind - 1).toNat = n := ⟨_, rfl⟩
  have : n < 9 := by omega
  rw [hn]
  clear hn h
  revert n
  decide
 ·decide
theorem Ul (kind : Int) : Ev (fun k => Zo k kind) (yC kind) := by
 refine Ev.step (fun k => Um k kind) (Ev.ite (fun h => Ev.some ?_) (fun h => Ev.ite (fun h2 => Ev.some ?_) (fun h2 => ?_)))
 ·have : ¬ (1 ≤ kind ∧ kind ≤ 9) := by simp at h; omega
  rw [yC, if_neg this]
 ·have : ¬ (1 ≤ kind ∧ kind ≤ 9) := by simp at h2; omega
  rw [yC, if_neg this]
 ·have : 1 ≤ kind ∧ kind ≤ 9 := by simp at h h2; omega
  refine Ev.bind (Ev.step (fun k => cd k) (Ev.pure _)) ?_
  rw [zi (by omega) (by omega)]
  refine Ev.yes (by simp; omega) (Ev.yes (by simp; omega) (Ev.yes (by simp; omega) (Ev.some ?_)))
  rw [yC, if_pos this]
  rfl
def zG (m : Int × Int) : ByteArray := if yZ 12 m then (yC m.1 ++ ⟨#[32]⟩) ++ yb m.2 else ⟨#[]⟩
theorem ZW {n : Int} {m : Int × Int} (h : yZ n m = true) (hn : n = 12) : 0 ≤ m.2 ∧ m.2 ≤ 12 := by
 subst hn
 unfold yZ at h
 simp only [Bool.and_eq_true, decide_eq_true_eq] at h
 obtain ⟨_, _, h3, h4⟩ := h
 refine ⟨h3, ?_⟩
 repeat (first | (split at h4) | (simp at h4; omega) | (simp at h4))
theorem uz (m : Int × Int) : Ev (fun k => xO k m) (zG m) := by
 refine Ev.step (fun k => Wb k m) (Ev.bind (X9 12 m) (Ev.ite (fun h => Ev.some ?_) (fun h => ?_)))
 ·have : yZ 12 m = false := by simpa using h
  simp [zG, this]
 ·have e : yZ 12 m = true := by simpa using h
  have hf := ZW e rfl
  have hi : In m.2 := by unfold In; omega
  have h1 := bT m.1
  have h2 := yv m.2 hi
  refine Ev.bind (Ul m.1) (Ev.yes (by show decide ((yC m.1).size + 1 ≤ _) = true; simp; omega) (Ev.bind (zL m.2 hi) (Ev.yes ?_ (Ev.some ?_))))
  ·rw [ByteArray.size_append]
   show decide ((yC m.1).size + 1 + _ ≤ _) = true
   simp; omega
  ·simp [zG, e]
end Qq
namespace Qq
open Go Go.Vt Pt
set_option linter.unusedVariables false
set_option linter.unusedSimpArgs false
def idxN (s : ByteArray) (d : Int) : Int → List ByteArray → Int
 | _, [] => d | i, a :: r => if a = s then i else idxN s d (i + 1) r
theorem Tu (s : ByteArray) (d : Int) : ∀ (l : List ByteArray) (i : Int), idxN s (d + 1) (i + 1) l = idxN s d i l + 1
 | [], i => rfl
 | a :: r, i => by
   unfold idxN
   split
   ·rfl
   ·exact Tu s d r (i + 1)
theorem Vy (s : ByteArray) (d : Int) : ∀ (l : List ByteArray) (i : Int), idxN s d i l = d ∨ (i ≤ idxN s d i l ∧ idxN s d i l < i + l.length)
 | [], i => .inl rfl
 | a :: r, i => by
   unfold idxN
   split
   ·exact .inr ⟨by omega, by simp; omega⟩
   ·rcases Vy s d r (i + 1) with h | ⟨h1, h2⟩
    ·exact .inl h
    ·exact .inr ⟨by omega, by simp; omega⟩
theorem uM (s : ByteArray) (xs : List ByteArray) (hm : xs.length ≤ 100) : ∀ (r : List ByteArray) (i : Nat), xs.drop i = r → Ev (fun k => yP k xs s (xs.length : Int) (i : Int)) (idxN s (-1) (i : Int) r)
 | [], i, h => by
   have a := yK h
   refine Ev.step (fun k => x6 k _ _ _ _) ?_
   simp only [a.g, cond_false]
   exact Ev.pure _
 | c :: r, i, h => by
   have a := zK h (by rw [ze]; omega)
   refine Ev.step (fun k => x6 k _ _ _ _) ?_
   simp only [a.g, a.z, a.n, a.get, a.w, cond_true, wl]
   unfold idxN
   by_cases hc : c = s
   ·rw [if_pos hc]; exact Ev.yes (by simp [hc]) (Ev.pure _)
   ·rw [if_neg hc]; exact Ev.no (by simp; exact fun e => hc e.symm) ((uM s xs hm r (i + 1) a.next).to (by push_cast; rfl))
def xa (s : ByteArray) : Int := idxN s 0 0 (⟨#[]⟩ :: wF)
theorem W2 (s : ByteArray) : Ev (fun k => bj k s) (xa s) := by
 refine Ev.step (fun k => W3 k s) (Ev.bind (x := wF) (Ev.step (fun k => cd k) (Ev.pure _)) ?_)
 refine Ev.bind (Ev.step (fun k => gI k _ _) (uM s wF (by decide) _ 0 rfl)) (Ev.some ?_)
 show IntKind.i64.wrap (idxN s (-1) 0 wF + 1) = xa s
 have hb := Vy s (-1) wF 0
 have hl : wF.length = 9 := rfl
 rw [zi (by omega) (by omega), ← Tu]
 show idxN s 0 1 wF = idxN s 0 0 (⟨#[]⟩ :: wF)
 by_cases he : (⟨#[]⟩ : ByteArray) = s
 ·subst he
  rfl
 ·show _ = (if _ then _ else _)
  rw [if_neg he]
  rfl
theorem gr (kind : Int) : ∀ b ∈ (yC kind).data.toList, b ≠ 32 := by
 unfold yC
 split
 ·rename_i h
  obtain ⟨n, hn⟩ : ∃ n : Nat, (kind - 1).toNat = n := ⟨_, rfl⟩
  have : n < 9 := by omega
  rw [hn]
  clear hn h
  revert n
  decide
 ·decide
theorem V8 (a b : ByteArray) : (a ++ b).data.toList = a.data.toList ++ b.data.toList := by simp
theorem Uu (a : ByteArray) (n : Int) (h : ∀ b ∈ a.data.toList, b ≠ 32) : cutB ((a ++ sp) ++ yb n) = [a, yb n] := by
 unfold cutB
 have e : ((a ++ sp) ++ yb n).data.toList = a.data.toList ++ 32 :: Lib.itoa n := by
  rw [V8, V8]
  show (a.data.toList ++ [32]) ++ (strB (Lib.itoa n)).data.toList = _
  rw [wG]; simp
 rw [e, Wr _ _ _ h, gk _ _ (fg n)]
 simp [gM, yb]
theorem M4 {s : ByteArray} (h : (cutB s).length ≠ 1) : s ≠ ⟨#[]⟩ := by
 rintro rfl
 exact h rfl
def yM (s : ByteArray) : Int × Int × Bool :=
 let a := (cutB s).getD 0 ⟨#[]⟩; let p := yJ ((cutB s).getD 1 ⟨#[]⟩)
 if (cutB s).length = 2 ∧ p.2 = true ∧ zG (xa a, p.1) = s then (xa a, p.1, true) else (0, 0, false)
theorem vJ {s : ByteArray} {m : Int × Int} (h : zG m = s) (hs : s ≠ ⟨#[]⟩) : cutB s = [yC m.1, yb m.2] ∧ In m.2 := by
 unfold zG at h
 split at h
 ·rename_i hk
  have hf := ZW hk rfl
  subst h
  exact ⟨Uu _ _ (gr _), by unfold In; omega⟩
 ·exact absurd h.symm hs
theorem cz (s : ByteArray) (hm : s.size ≤ 1048576) : Ev (fun k => gc k s) (yM s) := by
 refine Ev.step (fun k => W1 k s) (Ev.bind (ap s hm) ?_)
 unfold yM
 have hsz := T0 s
 by_cases h2 : (cutB s).length = 2
 ·have hne : s ≠ ⟨#[]⟩ := M4 (by omega)
  match hc : cutB s, h2 with
  | [a, b], _ =>
    rw [hc] at hsz
    refine Ev.no (by simp) (Ev.yes (by simp) (Ev.yes (by simp) (Ev.bind (vQ b (by have := hsz b (by simp); omega)) (Ev.yes (by simp) (Ev.yes (by simp) (Ev.bind (W2 a) ?_))))))
    show Ev _ (if ([a, b] : List ByteArray).length = 2 ∧ (yJ b).2 = true ∧ zG (xa a, (yJ b).1) = s then (xa a, (yJ b).1, true) else (0, 0, false))
    simp only [List.length_cons, List.length_nil, true_and, wl]
    refine Ev.no (by simp [hne]) (Ev.bind (uz _) ?_)
    by_cases hf : zG (xa a, (yJ b).1) = s
    ·have h3 := vJ hf hne
     rw [hc] at h3
     have hb : b = yb (yJ b).1 := by have := h3.1; simp at this; exact this.2
     have hp : yJ b = ((yJ b).1, true) := by
      have := ug _ h3.2
      simp only at this
      rw [← hb] at this
      exact this
     have hp2 : (yJ b).2 = true := by rw [hp]
     exact Ev.no (by simp [hf]) (Ev.some (by simp [hf, hp2]))
    ·exact Ev.yes (by simp [hf]) (Ev.some (by simp [hf]))
 ·rw [if_neg (fun e => h2 e.1)]
  exact Ev.yes (by simp; omega) (Ev.pure _)
end Qq
namespace Qq
open Go Go.Vt Pt
set_option linter.unusedVariables false
set_option linter.unusedSimpArgs false
def SV : List ByteArray := [⟨#[102, 105, 120, 101, 100]⟩, ⟨#[97, 110, 121, 99, 117, 116]⟩, ⟨#[114, 105, 102, 102, 108, 101]⟩, ⟨#[97, 110, 121, 112, 97, 105, 114]⟩, ⟨#[112, 105, 99, 107]⟩]
def yw (kind : Int) : ByteArray := if 0 ≤ kind ∧ kind ≤ 4 then SV.getD kind.toNat ⟨#[]⟩ else ⟨#[]⟩
theorem fH (kind : Int) : Ev (fun k => wq k kind) (yw kind) := by
 refine Ev.step (fun k => Wd k kind) (Ev.ite (fun h => Ev.some ?_) (fun h => Ev.ite (fun h2 => Ev.some ?_) (fun h2 => ?_)))
 ·have : ¬ (0 ≤ kind ∧ kind ≤ 4) := by simp at h; omega
  rw [yw, if_neg this]
 ·have : ¬ (0 ≤ kind ∧ kind ≤ 4) := by simp at h2; omega
  rw [yw, if_neg this]
 ·have : 0 ≤ kind ∧ kind ≤ 4 := by simp at h h2; omega
  refine Ev.yes (by simp; omega) (Ev.yes (by simp; omega) (Ev.yes (by simp; omega) (Ev.some ?_)))
  rw [yw, if_pos this]
  rfl
def isRif (s : Int × (Int × Int) × Int) : Bool := (s.1 == 2) && ((s.2.1.1 == 0) && ((s.2.1.2 == 0) && (s.2.2 == 2)))
def stepRest (s : Int × (Int × Int) × Int) : ByteArray := if s.1 = 1 then zG s.2.1 else if s.1 = 2 then yw s.2.2 else (⟨#[110, 111, 116, 101, 32]⟩ : ByteArray) ++ yb s.2.2
def yc (s : Int × (Int × Int) × Int) : ByteArray := if zI 12 s || isRif s then stepRest s else ⟨#[]⟩
theorem R2 {n : Int} {s : Int × (Int × Int) × Int} (h : zI n s = true) (h1 : ¬ s.1 = 1) (h2 : ¬ s.1 = 2) (hn : n ≤ 12) : In s.2.2 := by
 unfold zI at h
 simp only [Bool.and_eq_true, decide_eq_true_eq, h1, h2, if_false] at h
 obtain ⟨_, _, h⟩ := h
 split at h
 ·simp at h
  unfold In; omega
 ·cases h
theorem Tw (s : Int × (Int × Int) × Int) (hi : ¬ s.1 = 1 → ¬ s.1 = 2 → In s.2.2) : Ev (fun k => bif (s.1 == (1 : Int)) then ((xO k s.2.1).bind fun y => some y)
 else (bif (s.1 == (2 : Int)) then ((wq k s.2.2).bind fun y => some y)
  else ((zO k s.2.2).bind fun y => bif decide ((⟨#[110, 111, 116, 101, 32]⟩ : ByteArray).size + y.size ≤ 9223372036854775807) then (some ((⟨#[110, 111, 116, 101, 32]⟩ : ByteArray) ++ y)) else (none)))) (stepRest s) := by
 unfold stepRest
 refine Ev.ite (fun h => ?_) (fun h => ?_)
 ·have e : s.1 = 1 := by simpa using h
  rw [if_pos e]
  exact Ev.bind (uz s.2.1) (Ev.pure _)
 ·have e1 : ¬ s.1 = 1 := by simpa using h
  rw [if_neg e1]
  refine Ev.ite (fun h => ?_) (fun h => ?_)
  ·have e : s.1 = 2 := by simpa using h
   rw [if_pos e]
   exact Ev.bind (fH s.2.2) (Ev.pure _)
  ·have e2 : ¬ s.1 = 2 := by simpa using h
   rw [if_neg e2]
   have hs := yv s.2.2 (hi e1 e2)
   exact Ev.bind (zL _ (hi e1 e2)) (Ev.yes (by show decide (5 + _ ≤ _) = true; simp; omega) (Ev.pure _))
theorem uy (s : Int × (Int × Int) × Int) : Ev (fun k => vz k s) (yc s) := by
 unfold yc
 refine Ev.step (fun k => Wa k s) (Ev.bind (be 12 s) (Ev.ite (fun h => Ev.ite (fun h2 => Ev.some ?_) (fun h2 => ?_)) (fun h => ?_)))
 ·have e : zI 12 s = false := by simpa using h
  have hr : isRif s = false := by
   simp at h2
   simp [isRif]
   intro a b c
   rcases h2 with h2 | h2 | h2 | h2
   ·exact absurd a h2
   ·exact absurd b h2
   ·exact absurd c h2
   ·exact h2
  simp [e, hr]
 ·have hr : isRif s = true := by
   simp at h2
   simp [isRif, h2]
  rw [hr, Bool.or_true, if_pos rfl]
  exact Tw s (fun h1 h3 => by simp at h2; exact absurd h2.1 h3)
 ·have e : zI 12 s = true := by simpa using h
  rw [e, Bool.true_or, if_pos rfl]
  exact Tw s (fun h1 h2 => R2 e h1 h2 (by omega))
end Qq
namespace Qq
open Go Go.Vt Pt
set_option linter.unusedVariables false
set_option linter.unusedSimpArgs false
abbrev StepR : Type := Int × Int × Int × Int × Bool
def chF (s : ByteArray) : Nat → Int → Option Int
 | 0, _ => none
 | n + 1, i => if yw i = s then some i else chF s n (i + 1)
theorem Uv (s : ByteArray) : ∀ (n : Nat) (i k : Int), chF s n i = some k → yw k = s
 | 0, i, k, h => by cases h
 | n + 1, i, k, h => by
   unfold chF at h
   split at h
   ·rename_i e
    injection h with h; subst h; exact e
   ·exact Uv s n _ k h
theorem aM (kind : Int) : ∀ b ∈ (yw kind).data.toList, b ≠ 32 := by
 unfold yw
 split
 ·rename_i h
  obtain ⟨n, hn⟩ : ∃ n : Nat, kind.toNat = n := ⟨_, rfl⟩
  have : n < 5 := by omega
  rw [hn]
  clear hn h
  revert n
  decide
 ·decide
theorem VK (s : ByteArray) {k : Int} (h : yw k = s) : (cutB s).length = 1 := by
 subst h
 unfold cutB
 rw [gk _ _ (aM k)]
 rfl
def jU (a : Int) : ByteArray := (⟨#[110, 111, 116, 101, 32]⟩ : ByteArray) ++ yb a
def noteF (a : Int) : ByteArray := yc (3, (0, 0), a)
theorem Rr {a : Int} (h : 0 ≤ a ∧ a < 12) : noteF a = jU a := by
 unfold noteF yc
 have e : zI 12 (3, (0, 0), a) = true := by
  unfold zI
  simp [h.1, h.2]
 rw [e]
 rfl
theorem XB (a : Int) : cutB (jU a) = [⟨#[110, 111, 116, 101]⟩, yb a] := by
 have e : jU a = ((⟨#[110, 111, 116, 101]⟩ : ByteArray) ++ sp) ++ yb a := rfl
 rw [e, Uu _ _ (by decide)]
theorem Pl {a b : Int} (ha : In a) (hb : In b) (h : jU a = jU b) : a = b := by
 have := congrArg cutB h
 rw [XB, XB] at this
 simp at this
 exact Px ha hb this
noncomputable def Xr (s : ByteArray) : StepR :=
 open Classical in
 if (yM s).2.2 = true then (1, (yM s).1, (yM s).2.1, 0, true) else
 if h : ∃ a, (0 ≤ a ∧ a < 12) ∧ s = jU a then (3, 0, 0, Classical.choose h, true) else (0, 0, 0, 0, false)
noncomputable def jq (s : ByteArray) : StepR := match chF s 5 0 with | some k => (2, 0, 0, k, true) | none => Xr s
theorem Vj {s : ByteArray} {a : Int} (hm : ¬ (yM s).2.2 = true) (h : 0 ≤ a ∧ a < 12) (hs : s = jU a) : Xr s = (3, 0, 0, a, true) := by
 unfold Xr
 have hx : ∃ a, (0 ≤ a ∧ a < 12) ∧ s = jU a := ⟨a, h, hs⟩
 rw [if_neg hm, dif_pos hx]
 have hc := Classical.choose_spec hx
 have : Classical.choose hx = a := Pl (by unfold In; omega) (by unfold In; omega) (by rw [← hc.2, hs])
 rw [this]
theorem Qa {s : ByteArray} (hm : ¬ (yM s).2.2 = true) (h : ¬ ∃ a, (0 ≤ a ∧ a < 12) ∧ s = jU a) : Xr s = (0, 0, 0, 0, false) := by
 unfold Xr
 rw [if_neg hm, dif_neg h]
theorem uU (s : ByteArray) (hm : ¬ (yM s).2.2 = true) : ∀ (n : Nat) (i : Int), i + n = 12 → 0 ≤ i → (∀ a, 0 ≤ a → a < i → s ≠ jU a) → Ev (fun k => wL k s i 0 0 0 0) (Xr s)
 | 0, i, h, h0, hno => by
   refine Ev.step (fun k => uV k _ _ _ _ _ _) (Ev.no (by simp; omega) (Ev.some ?_))
   exact (Qa hm (fun ⟨a, ha, hs⟩ => hno a ha.1 (by omega) hs)).symm
 | n + 1, i, h, h0, hno => by
   refine Ev.step (fun k => uV k _ _ _ _ _ _) (Ev.yes (by simp; omega) (Ev.bind (uy _) ?_))
   have e : yc (3, (0, 0), i) = jU i := Rr ⟨h0, by omega⟩
   rw [e]
   simp only [wl]
   by_cases hs : jU i = s
   ·refine Ev.yes (by simp [hs]) (Ev.some ?_)
    exact (Vj hm ⟨h0, by omega⟩ hs.symm).symm
   ·refine Ev.no (by simp [hs]) ?_
    rw [zi (by omega) (by omega)]
    exact uU s hm n (i + 1) (by omega) (by omega) (fun a h1 h2 => by
     rcases Int.lt_or_le a i with h3 | h3
     ·exact hno a h1 h3
     ·have : a = i := by omega
      subst this; exact fun e => hs e.symm)
theorem jz (s : ByteArray) (hm : ¬ (yM s).2.2 = true) : ∀ (n : Nat) (i : Int), i + n = 5 → 0 ≤ i → Ev (fun k => ve k s i 0 0 0 0) (match chF s n i with | some k => (2, 0, 0, k, true) | none => Xr s)
 | 0, i, h, h0 => by
   refine Ev.step (fun k => jA k _ _ _ _ _ _) (Ev.no (by simp; omega) ?_)
   exact uU s hm 12 0 (by omega) (by omega) (fun a h1 h2 => by omega)
 | n + 1, i, h, h0 => by
   refine Ev.step (fun k => jA k _ _ _ _ _ _) (Ev.yes (by simp; omega) (Ev.bind (fH i) ?_))
   simp only [wl]
   unfold chF
   by_cases hs : yw i = s
   ·rw [if_pos hs]
    exact Ev.yes (by simp [hs]) (Ev.pure _)
   ·rw [if_neg hs]
    refine Ev.no (by simp [hs]) ?_
    rw [zi (by omega) (by omega)]
    exact jz s hm n (i + 1) (by omega) (by omega)
theorem WZ (s : ByteArray) (hs : s.size ≤ 1048576) : Ev (fun k => bh k s) (jq s) := by
 refine Ev.step (fun k => W0 k s) (Ev.bind (cz s hs) ?_)
 unfold jq
 by_cases hm : (yM s).2.2 = true
 ·refine Ev.yes hm (Ev.some ?_)
  cases hc : chF s 5 0 with
  | some k =>
    exfalso
    have h1 := VK s (Uv s 5 0 k hc)
    unfold yM at hm
    dsimp only at hm
    split at hm
    ·rename_i h2; omega
    ·cases hm
  | none => unfold Xr; rw [if_pos hm]
 ·exact Ev.no (by simpa using hm) (jz s hm 5 0 (by omega) (by omega))
end Qq
namespace Qq
open Go Go.Vt Pt
set_option linter.unusedVariables false
set_option linter.unusedSimpArgs false
theorem xc (xs : List Int) (hm : xs.length ≤ 1048576) : Ev (fun k => zE k xs) xs := by
 refine Ev.step (fun k => cR k xs) (Ev.ite (fun h => ?_) (fun h => ?_))
 ·exact Ev.yes (by rw [zb]; simp; omega) (Ev.some (by simp))
 ·have : xs = [] := by simpa using h
  subst this
  exact Ev.both (Ev.pure _) (Ev.yes (by simp) (Ev.some rfl))
end Qq
namespace Qq
open Go Go.Vt Pt
set_option linter.unusedVariables false
set_option linter.unusedSimpArgs false
set_option linter.unnecessarySimpa false
theorem fZ {α : Type} (l : List α) : l.take ((l.length : Int)).toNat = l := by simp
def turn (x : Int) : Int := if card x < 0 then x else -1 - x
theorem MP {x : Int} (h : In x) : In (turn x) := by
 unfold turn
 unfold In at *
 split
 ·exact h
 ·omega
theorem am (x : Int) (hx : In x) : Ev (fun k => eB k x) (turn x) := by
 have h1 := hx.1
 have h2 := hx.2
 refine Ev.step (fun k => Uh k x) (Ev.bind (xy x hx) ?_)
 rw [zi (by omega) (by omega)]
 refine Ev.ite (fun h => Ev.some ?_) (fun h => Ev.some ?_)
 ·have : card x < 0 := by simpa using h
  simp [turn, this]
 ·have : ¬ card x < 0 := by simpa using h
  simp only [turn, if_neg this]
def fz : Bool → List Int → List Int → List Int
 | _, [], [] => []
 | f, x :: a, [] => x :: fz (!f) a []
 | f, [], y :: b => y :: fz (!f) [] b
 | true, x :: a, y :: b => x :: fz false a (y :: b)
 | false, x :: a, y :: b => y :: fz true (x :: a) b
termination_by _ a b => a.length + b.length
theorem Z5 : ∀ (n : Nat) (f : Bool) (a b out : List Int), a.length + b.length = n → out.length + n ≤ 12 → Ev (fun k => xp k a b f out) (out ++ fz f a b)
 | 0, f, a, b, out, h, ho => by
   have ea : a = [] := List.length_eq_zero_iff.1 (by omega)
   have eb : b = [] := List.length_eq_zero_iff.1 (by omega)
   subst ea eb
   refine Ev.step (fun k => Z6 k _ _ _ _) (Ev.no (by simp) (Ev.no (by simp) (Ev.some ?_)))
   unfold fz; simp
 | n + 1, f, a, b, out, h, ho => by
   have ih := fun f a b out h1 h2 => Z5 n f a b out h1 h2
   refine Ev.step (fun k => Z6 k _ _ _ _) ?_
   simp only [fZ]
   cases a with
   | nil =>
     cases b with
     | nil => simp at h
     | cons y b =>
       simp at h
       refine Ev.no (by simp) (Ev.yes (by (first | (simp [zb]; done) | (simp [zb]; omega) | omega)) ?_)
       cases f with
       | true =>
         refine Ev.yes rfl (Ev.no (by simp) ?_)
         (repeat (first | refine Ev.yes (by (first | (simp [zb]; done) | (simp [zb]; omega) | omega)) ?_ | refine Ev.no (by (first | (simp [zb]; done) | (simp [zb]; omega) | omega)) ?_))
         refine (ih false [] b (out ++ [y]) (by simp; omega) (by simp; omega)).to ?_
         conv => rhs; unfold fz
         simp
       | false =>
         refine Ev.no rfl (Ev.no (by (first | (simp [zb]; done) | (simp [zb]; omega) | omega)) ?_)
         (repeat (first | refine Ev.yes (by (first | (simp [zb]; done) | (simp [zb]; omega) | omega)) ?_ | refine Ev.no (by (first | (simp [zb]; done) | (simp [zb]; omega) | omega)) ?_))
         refine (ih true [] b (out ++ [y]) (by simp; omega) (by simp; omega)).to ?_
         conv => rhs; unfold fz
         simp
   | cons x a =>
     refine Ev.yes (by (first | (simp [zb]; done) | (simp [zb]; omega) | omega)) ?_
     cases f with
     | true =>
       refine Ev.yes rfl ?_
       (repeat (first | refine Ev.yes (by (first | (simp [zb]; done) | (simp [zb]; omega) | omega)) ?_ | refine Ev.no (by (first | (simp [zb]; done) | (simp [zb]; omega) | omega)) ?_))
       refine (ih false a b (out ++ [x]) (by simp at h ⊢; omega) (by simp; omega)).to ?_
       cases b with
       | nil => conv => rhs; unfold fz
                simp
       | cons y b => conv => rhs; unfold fz
                     simp
     | false =>
       refine Ev.no rfl ?_
       cases b with
       | nil =>
         simp at h
         refine Ev.yes (by simp) ?_
         (repeat (first | refine Ev.yes (by (first | (simp [zb]; done) | (simp [zb]; omega) | omega)) ?_ | refine Ev.no (by (first | (simp [zb]; done) | (simp [zb]; omega) | omega)) ?_))
         refine (ih true a [] (out ++ [x]) (by simp; omega) (by simp; omega)).to ?_
         conv => rhs; unfold fz
         simp
       | cons y b =>
         simp at h
         refine Ev.no (by (first | (simp [zb]; done) | (simp [zb]; omega) | omega)) ?_
         (repeat (first | refine Ev.yes (by (first | (simp [zb]; done) | (simp [zb]; omega) | omega)) ?_ | refine Ev.no (by (first | (simp [zb]; done) | (simp [zb]; omega) | omega)) ?_))
         refine (ih true (x :: a) b (out ++ [y]) (by simp; omega) (by simp; omega)).to ?_
         conv => rhs; unfold fz
         simp
def faroL (p : List Int) (k : Int) : List Int := fz (k == 0) (p.take (p.length / 2)) (p.drop (p.length / 2))
theorem half (n : Nat) (h : n ≤ 4194304) : IntKind.i64.wrap ((n : Int).tdiv 2) = ((n / 2 : Nat) : Int) := by
 have : (n : Int).tdiv 2 = ((n / 2 : Nat) : Int) := by rw [Int.tdiv_eq_ediv_of_nonneg (by omega)]; omega
 rw [this, zi (by omega) (by omega)]
theorem PE (p : List Int) (hp : p.length ≤ 12) (k : Int) : Ev (fun f => PG f (p, k)) (faroL p k) := by
 refine Ev.step (fun f => PF f _ _) ?_
 simp only [half p.length (by omega), fZ, Int.toNat_natCast, List.take_length, List.drop_zero]
 (repeat (first | refine Ev.yes (by (first | (simp [zb]; done) | (simp [zb]; omega) | omega)) ?_ | refine Ev.no (by (first | (simp [zb]; done) | (simp [zb]; omega) | omega)) ?_))
 refine (Z5 p.length (k == 0) _ _ [] (by simp; omega) (by simp; omega)).to ?_
 rw [List.nil_append]
 rfl
def mz (k : Int) : Nat → List Int → List Int → List Int
 | _, [], out => out
 | i, x :: r, out => if i = 0 ∨ (i : Int) % 2 = k then mz k (i + 1) r (out ++ [x]) else mz k (i + 1) r (x :: out)
theorem ab (p : List Int) (hp : p.length ≤ 12) (k : Int) (hk : k = 0 ∨ k = 1) : ∀ (r : List Int) (i : Nat) (out : List Int), p.drop i = r → out.length = i → Ev (fun f => vW f k p (p.length : Int) (i : Int) out) (mz k i r out)
 | [], i, out, h, ho => by
   have a := yK h
   refine Ev.step (fun f => ae f _ _ _ _ _) ?_
   simp only [a.g, cond_false]
   exact Ev.pure _
 | x :: r, i, out, h, ho => by
   have a := zK h (by rw [ze]; omega)
   have hlt := a.lt
   have ih := fun out ho => ab p hp k hk r (i + 1) out a.next ho
   refine Ev.step (fun f => ae f _ _ _ _ _) ?_
   simp only [a.g, a.z, a.get, a.w, cond_true]
   rw [zi (x := (i : Int) + k) (by omega) (by omega), Int.tmod_eq_emod_of_nonneg (by omega)]
   unfold mz
   refine Ev.ite (fun c => Ev.ite (fun c2 => ?_) (fun c2 => ?_)) (fun c => ?_)
   ·have h1 : (i : Int) > 0 := by simpa using c
    have h2 : ((i : Int) + k) % 2 = 1 := by simpa using c2
    rw [if_neg (by rintro (h | h) <;> omega)]
    exact Ev.yes (by (first | (simp [zb]; done) | (simp [zb]; omega) | omega)) (ih _ (by simp; omega))
   ·have h1 : (i : Int) > 0 := by simpa using c
    have h2 : ¬ ((i : Int) + k) % 2 = 1 := by simpa using c2
    rw [if_pos (.inr (by omega))]
    exact Ev.yes (by (first | (simp [zb]; done) | (simp [zb]; omega) | omega)) (ih _ (by simp; omega))
   ·have h1 : ¬ (i : Int) > 0 := by simpa using c
    rw [if_pos (.inl (by omega))]
    exact Ev.yes (by (first | (simp [zb]; done) | (simp [zb]; omega) | omega)) (ih _ (by simp; omega))
def kz : Nat → List Int → List Int → List Int
 | 0, p, out => p ++ out
 | n + 1, p, out => if 1 < p.length then kz n ((p.take (p.length - 1)).drop 1) (p.getD 0 0 :: p.getD (p.length - 1) 0 :: out) else p ++ out
theorem Z4 : ∀ (n : Nat) (p out : List Int), p.length ≤ n → p.length + out.length ≤ 12 → Ev (fun f => af f p out) (kz n p out)
 | n, p, out, h, ho => by
   refine Ev.step (fun f => Tx f _ _) ?_
   by_cases c : 1 < p.length
   ·match n, h with
    | 0, h => exact absurd c (by omega)
    | n + 1, h =>
    have e : ((p.length : Int) - 1) = ((p.length - 1 : Nat) : Int) := by omega
    unfold kz
    rw [if_pos c]
    simp only [e, zi (x := ((p.length - 1 : Nat) : Int)) (by omega) (by omega), Int.toNat_natCast]
    refine Ev.yes (by simp; omega) ?_
    (repeat (first | refine Ev.yes (by (first | (simp [zb]; done) | (simp [zb]; omega) | omega)) ?_ | refine Ev.no (by (first | (simp [zb]; done) | (simp [zb]; omega) | omega)) ?_))
    exact Z4 n _ _ (by simp; omega) (by simp; omega)
   ·have : kz n p out = p ++ out := by cases n <;> simp [kz, c]
    rw [this]
    refine Ev.no (by simp; omega) (Ev.bind (xc p (by omega)) (Ev.yes (by rw [zb]; exact decide_eq_true (by omega)) (Ev.some rfl)))
def dz : Nat → Bool → List Int → List Int → List Int
 | 0, _, q, out => q.getD 0 0 :: out
 | n + 1, f, q, out => if 1 < q.length then (bif f then dz n false (q.drop 1) (q.getD 0 0 :: out) else dz n true (q.drop 1 ++ [q.getD 0 0]) out) else q.getD 0 0 :: out
theorem ah : ∀ (n : Nat) (f : Bool) (q out : List Int), 1 ≤ q.length → 2 * q.length + (bif f then 0 else 1) ≤ n → q.length + out.length ≤ 12 →
 ∃ y, Ev (fun k => jx k f out q) y ∧ y.reverse = dz n f q out.reverse ∧ y.length = q.length + out.length
 | 0, f, q, out, h1, h, ho => by omega
 | n + 1, f, q, out, h1, h, ho => by
   have ih := fun f q out h1 h ho => ah n f q out h1 h ho
   unfold dz
   by_cases c : 1 < q.length
   ·rw [if_pos c]
    cases f with
    | true =>
      obtain ⟨y, e1, e2, e3⟩ := ih false (q.drop 1) (out ++ [q.getD 0 0]) (by simp; omega) (by simp at h ⊢; omega) (by simp; omega)
      refine ⟨y, Ev.step (fun k => j7 k _ _ _) ?_, ?_, by simp at e3; omega⟩
      ·simp only [fZ]
       refine Ev.yes (by simp; omega) (Ev.yes rfl ?_)
       (repeat (first | refine Ev.yes (by (first | (simp [zb]; done) | (simp [zb]; omega) | omega)) ?_ | refine Ev.no (by (first | (simp [zb]; done) | (simp [zb]; omega) | omega)) ?_))
       exact e1
      ·rw [e2]; simp
    | false =>
      obtain ⟨y, e1, e2, e3⟩ := ih true (q.drop 1 ++ [q.getD 0 0]) out (by simp) (by simp at h ⊢; omega) (by simp; omega)
      refine ⟨y, Ev.step (fun k => j7 k _ _ _) ?_, ?_, by simp at e3; omega⟩
      ·have ed : (q ++ [q.getD 0 0]).drop 1 = q.drop 1 ++ [q.getD 0 0] := List.drop_append_of_le_length h1
       simp only [fZ, ed]
       refine Ev.yes (by simp; omega) (Ev.no rfl ?_)
       (repeat (first | refine Ev.yes (by (first | (simp [zb]; done) | (simp [zb]; omega) | omega)) ?_ | refine Ev.no (by (first | (simp [zb]; done) | (simp [zb]; omega) | omega)) ?_))
       exact e1
      ·rw [e2]; rfl
   ·rw [if_neg c]
    match q, h1, c with
    | [x], _, _ =>
      refine ⟨out ++ [x], Ev.step (fun k => j7 k _ _ _) (Ev.no (by simp) (Ev.yes (by (first | (simp [zb]; done) | (simp [zb]; omega) | omega)) (Ev.some rfl))), by simp, by simp; omega⟩
    | _ :: _ :: _, _, c => simp at c
end Qq
namespace Qq
open Go Go.Vt Pt
set_option linter.unusedVariables false
set_option linter.unusedSimpArgs false
abbrev Packs : Type := List (List Int)
def FitS (l : Packs) : Prop := l.length ≤ maxLen ∧ ∀ p ∈ l, p.length ≤ maxLen ∧ Ins p
theorem FitS.of {l : Packs} (h : Fits (.slice (.slice (.int .i64))) l) : FitS l :=
 ⟨h.1, fun p hp => ⟨(h.2 p hp).1, fun x hx => In.of_fits ((h.2 p hp).2 x hx)⟩⟩
end Qq
namespace Qq
open Go Go.Vt Pt
set_option linter.unusedVariables false
set_option linter.unusedSimpArgs false
theorem MU {p : List Int} (h : Ins p) (i : Nat) : In (p.getD i 0) := by
 rw [List.getD]
 cases hi : p[i]? with
 | none => exact ⟨by decide, by decide⟩
 | some x => exact h x (List.mem_of_getElem? hi)
end Qq
namespace Qq
open Go Go.Vt Pt
set_option linter.unusedVariables false
set_option linter.unusedSimpArgs false
set_option linter.unnecessarySimpa false
theorem aV (ls : List (List Int)) (hl : ls.length ≤ maxLen) : ∀ (r : List (List Int)) (i : Nat) (out : List Int), ls.drop i = r → out.length + r.flatten.length ≤ 1048576 → Ev (fun k => yW k ls (ls.length : Int) (i : Int) out) (out ++ r.flatten)
 | [], i, out, h, ho => by
   have a := yK h
   refine Ev.step (fun k => wm k _ _ _ _) ?_
   simp only [a.g, cond_false]
   exact Ev.some (by simp)
 | x :: r, i, out, h, ho => by
   have a := zK h hl
   have hlt := a.lt
   simp only [List.flatten_cons, List.length_append] at ho
   refine Ev.step (fun k => wm k _ _ _ _) ?_
   simp only [a.g, a.z, a.get, a.w, cond_true]
   refine Ev.yes (by rw [zb]; exact decide_eq_true (by omega)) ?_
   exact (aV ls hl r (i + 1) (out ++ x) a.next (by simp; simp at ho; omega)).to (by simp)
theorem Yl (ls : List (List Int)) (hl : ls.length ≤ maxLen) (ht : ls.flatten.length ≤ 1048576) : ∀ (r : List (List Int)) (i : Nat) (n : Nat), ls.drop i = r → n + r.flatten.length ≤ 1048576 → Ev (fun k => xg k ls (n : Int) ls (ls.length : Int) (i : Int)) ls.flatten
 | [], i, n, h, hn => by
   have a := yK h
   refine Ev.step (fun k => wy k _ _ _ _ _) ?_
   simp only [a.g, cond_false]
   have hg : Ev (fun k => ub k ([], (n : Int))) [] := Ev.congr (fun k => bF k [] (n : Int)) (by
    show Ev (fun _ => SC (n : Int)) []
    unfold SC
    simp at hn
    exact Ev.yes (by simp; omega) (Ev.pure _))
   exact Ev.bind hg ((aV ls hl ls 0 [] rfl (by simpa using ht)).to (by simp))
 | x :: r, i, n, h, hn => by
   have a := zK h hl
   have hlt := a.lt
   simp only [List.flatten_cons, List.length_append] at hn
   refine Ev.step (fun k => wy k _ _ _ _ _) ?_
   have e : (n : Int) + (x.length : Int) = ((n + x.length : Nat) : Int) := by omega
   simp only [a.g, a.z, a.get, a.w, cond_true, e, zi (x := ((n + x.length : Nat) : Int)) (by omega) (by omega)]
   refine Ev.no (by simp; omega) ?_
   exact Yl ls hl ht r (i + 1) (n + x.length) a.next (by omega)
theorem WI (ls : List (List Int)) (hl : ls.length ≤ maxLen) (ht : ls.flatten.length ≤ 1048576) : Ev (fun k => z8 k ls) ls.flatten :=
 Ev.step (fun k => eN k _) (Yl ls hl ht ls 0 0 rfl (by omega))
theorem cV (p : List Int) (hp : p.length ≤ 1048576) : Ev (fun k => jv k p) p.reverse := by
 have hr : Ev (fun k => wx k p) ((), p.reverse) := Ev.congr (fun k => gQ k p) (by
  unfold reverseF
  exact Ev.yes (by simp; omega) (Ev.pure _))
 exact Ev.step (fun k => Ug k _) (Ev.bind (xc p hp) (Ev.bind hr (Ev.pure _)))
theorem eZ (K : Nat) : ∀ (m : Nat) (pre r : List Int), m ≤ r.length → pre.length + m = K → pre.length + r.length ≤ 12 → Ins r → Ev (fun k => jY k (K : Int) (pre.length : Int) (pre ++ r)) (pre ++ (r.take m).map turn ++ r.drop m)
 | 0, pre, r, hm, hK, h12, hi => by
   refine Ev.step (fun k => ca k _ _ _) (Ev.no (by simp; omega) (Ev.some (by simp)))
 | m + 1, pre, [], hm, hK, h12, hi => by simp at hm
 | m + 1, pre, x :: r, hm, hK, h12, hi => by
   simp at hm h12
   have hx : In x := hi x (by simp)
   have hg : (pre ++ x :: r).getD (pre.length : Int).toNat 0 = x := by simp [List.getD]
   have hs : (pre ++ x :: r).set (pre.length : Int).toNat (turn x) = pre ++ turn x :: r := by simp
   have ew : IntKind.i64.wrap ((pre.length : Int) + 1) = ((pre.length + 1 : Nat) : Int) := by rw [zi (by omega) (by omega)]; omega
   refine Ev.step (fun k => ca k _ _ _) ?_
   simp only [hg, hs, ew]
   refine Ev.yes (by simp; omega) (Ev.yes (by simp) (Ev.yes (by (first | (simp [zb]; done) | (simp [zb]; omega) | omega)) (Ev.yes (by (first | (simp [zb]; done) | (simp [zb]; omega) | omega)) (Ev.bind (am x hx) ?_))))
   simp only [hs]
   refine Ev.yes (by simp) (Ev.yes (by (first | (simp [zb]; done) | (simp [zb]; omega) | omega)) (Ev.yes (by (first | (simp [zb]; done) | (simp [zb]; omega) | omega)) ?_))
   have := eZ K m (pre ++ [turn x]) r hm (by simp; omega) (by simp; omega) (fun y hy => hi y (by simp [hy]))
   simp only [List.length_append, List.length_singleton, List.append_assoc, List.singleton_append] at this
   exact this.to (by simp)
def fM (p : List Int) (m : Int × Int) : List Int :=
 if m.1 = 1 then p.drop m.2.toNat ++ p.take m.2.toNat
 else if m.1 = 2 then (p.take m.2.toNat).reverse ++ p.drop m.2.toNat
 else if m.1 = 3 then (p.take m.2.toNat).reverse.map turn ++ p.drop m.2.toNat
 else if m.1 = 4 then faroL p m.2
 else if m.1 = 5 then mz m.2 0 p []
 else if m.1 = 6 then kz p.length p []
 else if m.1 = 7 then dz (2 * p.length + 1) (m.2 == 1) p []
 else if m.1 = 8 then p.set m.2.toNat (turn (p.getD m.2.toNat 0))
 else p.take m.2.toNat ++ p.drop (m.2.toNat + 1) ++ [p.getD m.2.toNat 0]
structure MoveFit (n : Nat) (m : Int × Int) : Prop where
 n1 : 1 ≤ n
 n12 : n ≤ 12
 k0 : 0 ≤ m.2
 kn : m.2 ≤ n ∨ m.2 ≤ 1
 c : m.1 = 1 ∨ m.1 = 2 ∨ m.1 = 3 → m.2 ≤ n
 f : m.1 = 4 ∨ m.1 = 5 ∨ m.1 = 7 → m.2 = 0 ∨ m.2 = 1
 t : m.1 ≠ 1 → m.1 ≠ 2 → m.1 ≠ 3 → m.1 ≠ 4 → m.1 ≠ 5 → m.1 ≠ 6 → m.1 ≠ 7 → m.2 < n
theorem Qh {n : Nat} {m : Int × Int} (h : yZ (n : Int) m = true) : MoveFit n m := by
 unfold yZ at h
 simp only [Bool.and_eq_true, decide_eq_true_eq] at h
 obtain ⟨h1, h2, h3, h4⟩ := h
 have key : (m.1 = 1 ∧ m.2 ≤ n) ∨ (m.1 = 2 ∧ m.2 ≤ n) ∨ (m.1 = 3 ∧ m.2 ≤ n) ∨ (m.1 = 4 ∧ m.2 ≤ 1) ∨ (m.1 = 5 ∧ m.2 ≤ 1) ∨ (m.1 = 7 ∧ m.2 ≤ 1) ∨ (m.1 = 6 ∧ m.2 = 0) ∨ (m.1 = 8 ∧ m.2 < n) ∨ (m.1 = 9 ∧ m.2 < n) := by
  repeat' (split at h4)
  all_goals simp at h4
  all_goals simp [*]
 exact ⟨by omega, by omega, h3, by omega, by omega, by omega, by omega⟩
theorem Zk (p : List Int) (m : Int × Int) (h : MoveFit p.length m) (hi : Ins p) : Ev (fun k => XT k (p, m)) (fM p m) := by
 have hp := h.n12
 have hp1 := h.n1
 obtain ⟨a, b⟩ := m
 have h0 := h.k0
 obtain ⟨j, rfl⟩ : ∃ j : Nat, b = (j : Int) := ⟨b.toNat, by have := h0; simp at this; omega⟩
 have hc := h.c
 have hf := h.f
 have ht := h.t
 dsimp only at hc hf ht
 clear h h0
 refine Ev.step (fun k => Qo k p (a, (j : Int))) ?_
 unfold fM
 simp only [fZ, Int.toNat_natCast, List.take_length, List.drop_zero, List.nil_append]
 have hlen2 : ∀ (x y : List Int), x.length + y.length ≤ 1048576 → Ev (fun k => z8 k [x, y]) (x ++ y) := fun x y hxy => (WI [x, y] (by rw [ze]; simp) (by simpa using hxy)).to (by simp)
 refine Ev.ite (fun c => ?_) (fun c1 => Ev.ite (fun c => ?_) (fun c2 => Ev.ite (fun c => ?_) (fun c3 => Ev.ite (fun c => ?_) (fun c4 => Ev.ite (fun c => ?_) (fun c5 => Ev.ite (fun c => ?_) (fun c6 => Ev.ite (fun c => ?_) (fun c7 => Ev.ite (fun c => ?_) (fun c8 => ?_))))))))
 all_goals simp only [beq_iff_eq, beq_eq_false_iff_ne, ne_eq] at *
 ·have := hc (by omega)
  rw [if_pos c]
  (repeat (first | refine Ev.yes (by (first | (simp [zb]; done) | (simp [zb]; omega) | omega)) ?_ | refine Ev.no (by (first | (simp [zb]; done) | (simp [zb]; omega) | omega)) ?_))
  exact Ev.bind (hlen2 _ _ (by simp; omega)) (Ev.pure _)
 ·have := hc (by omega)
  rw [if_neg c1, if_pos c]
  (repeat (first | refine Ev.yes (by (first | (simp [zb]; done) | (simp [zb]; omega) | omega)) ?_ | refine Ev.no (by (first | (simp [zb]; done) | (simp [zb]; omega) | omega)) ?_))
  refine Ev.bind (cV _ (by simp; omega)) ?_
  (repeat (first | refine Ev.yes (by (first | (simp [zb]; done) | (simp [zb]; omega) | omega)) ?_ | refine Ev.no (by (first | (simp [zb]; done) | (simp [zb]; omega) | omega)) ?_))
  exact Ev.bind (hlen2 _ _ (by simp; omega)) (Ev.pure _)
 ·have := hc (by omega)
  rw [if_neg c1, if_neg c2, if_pos c]
  (repeat (first | refine Ev.yes (by (first | (simp [zb]; done) | (simp [zb]; omega) | omega)) ?_ | refine Ev.no (by (first | (simp [zb]; done) | (simp [zb]; omega) | omega)) ?_))
  refine Ev.bind (cV _ (by simp; omega)) ?_
  (repeat (first | refine Ev.yes (by (first | (simp [zb]; done) | (simp [zb]; omega) | omega)) ?_ | refine Ev.no (by (first | (simp [zb]; done) | (simp [zb]; omega) | omega)) ?_))
  refine Ev.bind (hlen2 _ _ (by simp; omega)) ?_
  have hr : (p.take j).reverse.length = j := by simp; omega
  have := eZ j j [] ((p.take j).reverse ++ p.drop j) (by simp; omega) (by simp) (by simp; omega) (fun x hx => by
   rcases List.mem_append.1 hx with h | h
   ·exact hi x (List.mem_of_mem_take (List.mem_reverse.1 h))
   ·exact hi x (List.mem_of_mem_drop h))
  refine this.to ?_
  rw [List.nil_append, List.take_append_of_le_length (by omega), List.drop_append_of_le_length (by omega), List.take_of_length_le (by omega), List.drop_eq_nil_of_le (by omega), List.nil_append]
 ·rw [if_neg c1, if_neg c2, if_neg c3, if_pos c]
  exact Ev.bind (PE p hp _) (Ev.pure _)
 ·rw [if_neg c1, if_neg c2, if_neg c3, if_neg c4, if_pos c]
  exact Ev.bind (Ev.step (fun k => Qp k _ _) (ab p hp _ (hf (by omega)) p 0 [] rfl rfl)) (Ev.pure _)
 ·rw [if_neg c1, if_neg c2, if_neg c3, if_neg c4, if_neg c5, if_pos c]
  exact Ev.bind (Ev.step (fun k => PD k _) (Z4 p.length p [] (Nat.le_refl _) (by simp; omega))) (Ev.pure _)
 ·rw [if_neg c1, if_neg c2, if_neg c3, if_neg c4, if_neg c5, if_neg c6, if_pos c]
  obtain ⟨y, e1, e2, e3⟩ := ah (2 * p.length + 1) ((j : Int) == 1) p [] hp1 (by cases ((j : Int) == 1) <;> simp) (by simp; omega)
  refine Ev.bind (Ev.step (fun k => Qs k _ _) (Ev.bind (xc p (by omega)) e1)) (Ev.bind (cV y (by simp at e3; omega)) (Ev.some ?_))
  rw [e2]; rfl
 ·rw [if_neg c1, if_neg c2, if_neg c3, if_neg c4, if_neg c5, if_neg c6, if_neg c7, if_pos c]
  have := ht c1 c2 c3 c4 c5 c6 c7
  have hin : In (p.getD j 0) := MU hi _
  refine Ev.bind (xc p (by omega)) ?_
  (repeat (first | refine Ev.yes (by (first | (simp [zb]; done) | (simp [zb]; omega) | omega)) ?_ | refine Ev.no (by (first | (simp [zb]; done) | (simp [zb]; omega) | omega)) ?_))
  refine Ev.bind (am _ hin) ?_
  (repeat (first | refine Ev.yes (by (first | (simp [zb]; done) | (simp [zb]; omega) | omega)) ?_ | refine Ev.no (by (first | (simp [zb]; done) | (simp [zb]; omega) | omega)) ?_))
  exact Ev.pure _
 ·rw [if_neg c1, if_neg c2, if_neg c3, if_neg c4, if_neg c5, if_neg c6, if_neg c7, if_neg c8]
  have := ht c1 c2 c3 c4 c5 c6 c7
  have hjl : j < p.length := by omega
  have e : IntKind.i64.wrap ((j : Int) + 1) = ((j + 1 : Nat) : Int) := by rw [zi (by omega) (by omega)]; omega
  simp only [e, Int.toNat_natCast]
  (repeat (first | refine Ev.yes (by (first | (simp [zb]; done) | (simp [zb]; omega) | omega)) ?_ | refine Ev.no (by (first | (simp [zb]; done) | (simp [zb]; omega) | omega)) ?_))
  refine Ev.bind ((WI [p.take j, p.drop (j + 1), (p.take (j + 1)).drop j] (by rw [ze]; simp) (by simp; omega)).to ?_) (Ev.pure _)
  have : (p.take (j + 1)).drop j = [p.getD j 0] := by
   rw [List.take_add_one, List.getElem?_eq_getElem hjl, List.drop_append_of_le_length (by simp; omega), List.drop_eq_nil_of_le (by simp; omega)]
   simp [List.getD, hjl]
  rw [this]
  simp
end Qq
namespace Qq
open Go Go.Vt Pt
set_option linter.unusedVariables false
set_option linter.unusedSimpArgs false
set_option linter.unnecessarySimpa false
theorem Pr {a b : List Int} : leI a b = true ↔ ¬ cmpI b a < 0 := by unfold leI; simp
theorem Ss {a b : List Int} (h : leI a b = true) (hn : a ≠ b) : cmpI a b < 0 := by
 by_cases k : cmpI a b < 0
 ·exact k
 ·exact (hn (Wv a b k (Pr.1 h))).elim
theorem le_of_lt {a b : List Int} (h : cmpI a b < 0) : leI a b = true := Pr.2 fun k => gm a (jI a b a h k)
def SS (l : Packs) : Prop := l.Pairwise fun a b => cmpI a b < 0
theorem Yd : ∀ (r : Packs) (p : List Int), (p :: r).Pairwise (fun a b => leI a b = true) → SS (p :: yz p r) ∧ ∀ z, z ∈ p :: yz p r ↔ z ∈ p :: r
 | [], p, _ => ⟨List.pairwise_singleton _ _, fun z => Iff.rfl⟩
 | y :: r, p, h => by
   obtain ⟨h1, h2⟩ := List.pairwise_cons.1 h
   obtain ⟨i1, i2⟩ := Yd r y h2
   unfold yz
   by_cases e : y = p
   ·subst e
    rw [if_pos rfl]
    refine ⟨i1, fun z => ?_⟩
    rw [i2]; simp
   ·rw [if_neg e]
    have hlt : cmpI p y < 0 := Ss (h1 y (by simp)) (Ne.symm e)
    refine ⟨List.pairwise_cons.2 ⟨fun z hz => ?_, i1⟩, fun z => ?_⟩
    ·rcases List.mem_cons.1 hz with rfl | hz
     ·exact hlt
     ·exact jI _ _ _ hlt ((List.pairwise_cons.1 i1).1 z hz)
    ·rw [List.mem_cons, i2, ← List.mem_cons]
theorem N4 {l : Packs} (h : l.Pairwise (fun a b => leI a b = true)) : SS (cE l) ∧ ∀ z, z ∈ cE l ↔ z ∈ l := by
 cases l with
 | nil => exact ⟨List.Pairwise.nil, fun _ => Iff.rfl⟩
 | cons x r => exact Yd r x h
def setL (l : Packs) : Packs := cE (bD l)
theorem YJ (l : Packs) (z : List Int) : z ∈ setL l ↔ z ∈ l := ((N4 (ZI l)).2 z).trans (jj l).mem_iff
theorem aH : ∀ (r : Packs) (p : List Int), (yz p r).length ≤ r.length
 | [], _ => Nat.le_refl _
 | y :: r, p => by unfold yz; have := aH r y; split <;> simp <;> omega
theorem YK (l : Packs) : (setL l).length ≤ l.length := by
 have h1 : (bD l).length = l.length := (jj l).length_eq
 unfold setL
 rw [← h1]
 cases bD l with
 | nil => exact Nat.le_refl _
 | cons x r => have := aH r x; simp [cE]; omega
theorem un (l : Packs) (hl : l.length ≤ 16777216) (h12 : ∀ p ∈ l, p.length ≤ 1048576) : ∀ (r : Packs) (i : Nat), l.drop i = r → Ev (fun k => wd k l (l.length : Int) (i : Int) (l.take i)) (setL l)
 | [], i, h => by
   have a := yK h
   refine Ev.step (fun k => uo k _ _ _ _) ?_
   simp only [a.g, cond_false]
   rw [List.take_of_length_le a.ge]
   have small : ∀ m : Packs, m.length ≤ 16777216 → (∀ p ∈ m, p.length ≤ 1048576) → ZJ m = true := fun m hm hp => by
    unfold ZJ
    rw [Bool.and_eq_true]
    exact ⟨decide_eq_true (by omega), List.all_eq_true.2 fun p hpm => decide_eq_true (by have := hp p hpm; omega)⟩
   have e1 : Ev (fun k => xu k (l, false)) ((), bD l) := Ev.congr (fun k => uK k l false) (by
    show Ev (fun _ => Si l) _
    unfold Si
    exact Ev.yes (small l hl h12) (Ev.pure _))
   have e2 : Ev (fun k => yR k (bD l, false)) (setL l) := Ev.congr (fun k => vE k (bD l) false) (by
    show Ev (fun _ => gl (bD l)) _
    unfold gl
    exact Ev.yes (small _ (by rw [(jj l).length_eq]; exact hl) (fun p hp => h12 p ((jj l).mem_iff.1 hp))) (Ev.pure _))
   exact Ev.bind e1 (Ev.bind e2 (Ev.pure _))
 | p :: r, i, h => by
   have a := zK h (by rw [ze]; omega)
   have hlt := a.lt
   have hp := h12 p a.mem
   have ih := un l hl h12 r (i + 1) a.next
   have et : l.take (i + 1) = l.take i ++ [p] := by
    rw [List.take_add_one, List.getElem?_eq_getElem hlt]
    have := a.gt []
    simp [List.getD, hlt] at this
    rw [this]; rfl
   rw [et] at ih
   refine Ev.step (fun k => uo k _ _ _ _) ?_
   simp only [a.g, a.z, a.get, a.w, cond_true]
   exact Ev.bind (xc p hp) (Ev.yes (by rw [zb]; exact decide_eq_true (by simp; omega)) ih)
theorem gA (l : Packs) (hl : l.length ≤ 16777216) (h12 : ∀ p ∈ l, p.length ≤ 1048576) : Ev (fun k => ga k l) (setL l) :=
 Ev.step (fun k => Ys k l) (un l hl h12 l 0 rfl)
end Qq
namespace Qq
open Go Go.Vt Pt
set_option linter.unusedVariables false
set_option linter.unusedSimpArgs false
end Qq
namespace Qq
open Go Go.Vt Pt
set_option linter.unusedVariables false
set_option linter.unusedSimpArgs false
end Qq
namespace Qq
open Go Go.Vt Pt
set_option linter.unusedVariables false
set_option linter.unusedSimpArgs false
set_option linter.unnecessarySimpa false
end Qq
namespace Qq
open Go Go.Vt Pt
set_option linter.unusedVariables false
set_option linter.unusedSimpArgs false
set_option linter.unnecessarySimpa false
def cutL (p : List Int) (k : Nat) : List Int := p.drop k ++ p.take k
def Wq (p : List Int) : Packs := (List.range p.length).map (cutL p)
theorem M3 {p : List Int} {i : Nat} (hp : p.length ≤ 12) (hi : i < p.length) : MoveFit p.length (1, (i : Int)) :=
 ⟨by omega, hp, by simp, .inl (by simp; omega), fun _ => by simp; omega, fun h => by simp at h, fun h => by simp at h⟩
theorem Qy (p : List Int) (i : Nat) : fM p (1, (i : Int)) = cutL p i := by simp [fM, cutL]
theorem Zc (n : Nat) (f : Nat → List Int) : (List.range (n + 1)).map f = (List.range n).map f ++ [f n] := by rw [List.range_succ, List.map_append]; rfl
theorem Z7 (p : List Int) (hp : p.length ≤ 12) (hi : Ins p) : ∀ (m i : Nat), i + m = p.length → Ev (fun k => aj k p (p.length : Int) (i : Int) ((List.range i).map (cutL p))) (Wq p)
 | 0, i, h => by
   refine Ev.step (fun k => Z8 k _ _ _ _) (Ev.no (by simp; omega) (Ev.some ?_))
   have : i = p.length := by omega
   rw [this]; rfl
 | m + 1, i, h => by
   have ih := Z7 p hp hi m (i + 1) (by omega)
   rw [Zc] at ih
   have ew : IntKind.i64.wrap ((i : Int) + 1) = ((i + 1 : Nat) : Int) := by rw [zi (by omega) (by omega)]; omega
   refine Ev.step (fun k => Z8 k _ _ _ _) ?_
   simp only [ew]
   refine Ev.yes (by simp; omega) (Ev.bind (Zk p _ (M3 hp (by omega)) hi) ?_)
   rw [Qy]
   exact Ev.yes (by rw [zb]; exact decide_eq_true (by simp; omega)) ih
theorem TB (p : List Int) (hp : p.length ≤ 12) (hi : Ins p) : Ev (fun k => Rz k p) (Wq p) :=
 Ev.step (fun k => PI k _) (Z7 p hp hi p.length 0 (by omega))
def pickL (p : List Int) (i : Nat) : List Int := [p.getD i 0] ++ (p.take i ++ p.drop (i + 1))
def picksL (p : List Int) : Packs := (List.range p.length).map (pickL p)
theorem Z9 (p : List Int) (hp : p.length ≤ 12) : ∀ (m i : Nat), i + m = p.length → Ev (fun k => ak k p (p.length : Int) (i : Int) ((List.range i).map (pickL p))) (picksL p, true)
 | 0, i, h => by
   refine Ev.step (fun k => Ya k _ _ _ _) (Ev.no (by simp; omega) (Ev.some ?_))
   have : i = p.length := by omega
   rw [this]; rfl
 | m + 1, i, h => by
   have ih := Z9 p hp m (i + 1) (by omega)
   rw [Zc] at ih
   have hil : i < p.length := by omega
   have ew : IntKind.i64.wrap ((i : Int) + 1) = ((i + 1 : Nat) : Int) := by rw [zi (by omega) (by omega)]; omega
   refine Ev.step (fun k => Ya k _ _ _ _) ?_
   simp only [ew, fZ, Int.toNat_natCast, List.take_length, List.drop_zero, List.nil_append]
   refine Ev.yes (by simp; omega) ?_
   (repeat (first | refine Ev.yes (by (first | (simp [zb]; done) | (simp [zb]; omega) | omega)) ?_ | refine Ev.no (by (first | (simp [zb]; done) | (simp [zb]; omega) | omega)) ?_))
   have e1 : (p.take (i + 1)).drop i = [p.getD i 0] := by
    rw [List.take_add_one, List.getElem?_eq_getElem hil, List.drop_append_of_le_length (by simp; omega), List.drop_eq_nil_of_le (by simp; omega)]
    simp [List.getD, hil]
   refine Ev.bind ((WI [(p.take (i + 1)).drop i, p.take i, p.drop (i + 1)] (by rw [ze]; simp) (by simp; omega)).to (show _ = pickL p i by rw [e1]; simp [pickL])) ?_
   exact Ev.yes (by rw [zb]; exact decide_eq_true (by simp; omega)) ih
end Qq
namespace Qq
open Go Go.Vt Pt
set_option linter.unusedVariables false
set_option linter.unusedSimpArgs false
def rfi : Nat → Nat → List Bool → List Nat
 | _, _, [] => []
 | f, s, true :: r => s :: rfi f (s + 1) r
 | f, s, false :: r => f :: rfi (f + 1) s r
def yQ : List Bool → Nat
 | [] => 0 | true :: r => yQ r | false :: r => yQ r + 1
def fc : List Bool → Nat
 | [] => 0 | true :: r => fc r + 1 | false :: r => fc r
def wk : Nat → Nat → List Bool
 | 0, _ => [] | m + 1, w => Nat.beq (w % 2) 1 :: wk m (w / 2)
def Sn (n w : Nat) : List Nat := rfi 0 (yQ (wk n w)) (wk n w)
def decGo : Nat → Option Nat → List Nat → Nat
 | _, _, [] => 0
 | i, none, x :: r => bif Nat.beq x i then decGo (i + 1) none r else 2 ^ i + decGo (i + 1) (some x) r
 | i, some s, x :: r => (bif Nat.ble s x then 2 ^ i else 0) + decGo (i + 1) (some s) r
def isIdB : Nat → List Nat → Bool
 | _, [] => true | i, x :: r => Nat.beq x i && isIdB (i + 1) r
def wellW (w : Nat) : Bool := !isIdB 0 (Sn 12 w)
theorem riff12 : ((List.range 4096).all fun w => isIdB 0 (Sn 12 w) || Nat.beq (decGo 0 none (Sn 12 w)) w) = true := by kernel_rfl
theorem U2 : ((List.range 4096).filter wellW).length = 4083 := by kernel_rfl
theorem Te {α : Type} [DecidableEq α] : ∀ {l m : List α}, l.Nodup → (∀ x ∈ l, x ∈ m) → l.length ≤ m.length
 | [], m, _, _ => Nat.zero_le _
 | x :: l, m, h, hs => by
   obtain ⟨h1, h2⟩ := List.nodup_cons.1 h
   have hx := hs x (by simp)
   have := Te (l := l) (m := m.erase x) h2 fun y hy => (List.mem_erase_of_ne (fun e => h1 (by rw [e] at hy; exact hy))).2 (hs y (by simp [hy]))
   rw [List.length_erase_of_mem hx] at this
   have : 0 < m.length := List.length_pos_of_mem hx
   simp; omega
end Qq
namespace Qq
open Go Go.Vt Pt
set_option linter.unusedVariables false
set_option linter.unusedSimpArgs false
def bits : Nat → Nat → List Bool
 | 0, _ => []
 | n + 1, w => (w % 2 == 1) :: bits n (w / 2)
theorem Uy (w i : Nat) (hi : i < 64) (hw : w < 9223372036854775808) : IntKind.i64.wrap (((BitVec.ofInt IntKind.i64.bits (((w : Int)).fdiv (2 ^ (min ((i : Int)).toNat IntKind.i64.bits))) &&& BitVec.ofInt IntKind.i64.bits (1 : Int)).toNat : Int)) = ((w / 2 ^ i % 2 : Nat) : Int) := by
 have hb : IntKind.i64.bits = 64 := by decide
 rw [hb, Int.toNat_natCast, Nat.min_eq_left (by omega)]
 have e1 : ((w : Int)).fdiv (2 ^ i) = ((w / 2 ^ i : Nat) : Int) := by
  rw [Int.fdiv_eq_ediv_of_nonneg _ (by exact Int.le_of_lt (Int.pow_pos (by decide)))]
  norm_cast
 have e2 : (BitVec.ofInt 64 ((w / 2 ^ i : Nat) : Int) &&& BitVec.ofInt 64 (1 : Int)).toNat = w / 2 ^ i % 2 := by
  have h1 : (1 : Int) = ((1 : Nat) : Int) := rfl
  rw [h1, BitVec.ofInt_natCast, BitVec.ofInt_natCast, BitVec.toNat_and, BitVec.toNat_ofNat, BitVec.toNat_ofNat]
  have hlt : w / 2 ^ i < 2 ^ 64 := by
   have := Nat.div_le_self w (2 ^ i)
   omega
  rw [Nat.mod_eq_of_lt hlt]
  exact Nat.and_one_is_mod _
 rw [e1, e2, zi (by omega) (by omega)]
def upTo (n : Nat) : List Int := (List.range n).map fun (i : Nat) => (i : Int)
theorem Nq (n : Nat) : (upTo n).length = n := by simp [upTo]
theorem Q1 (n : Nat) : upTo (n + 1) = upTo n ++ [(n : Int)] := by simp [upTo, List.range_succ]
end Qq
namespace Qq
open Go Go.Vt Pt
set_option linter.unusedVariables false
set_option linter.unusedSimpArgs false
set_option linter.unnecessarySimpa false
theorem fU : ∀ (m w : Nat), (wk m w).length = m
 | 0, _ => rfl
 | m + 1, w => by rw [wk, List.length_cons, fU]
theorem UL : ∀ l : List Bool, yQ l + fc l = l.length
 | [] => rfl
 | true :: r => by have := UL r; simp [yQ, fc]; omega
 | false :: r => by have := UL r; simp [yQ, fc]; omega
def rfp (p : List Int) : Nat → Nat → List Bool → List Int
 | _, _, [] => []
 | f, s, true :: r => p.getD s 0 :: rfp p f (s + 1) r
 | f, s, false :: r => p.getD f 0 :: rfp p (f + 1) s r
def V1 (p : List Int) (w : Nat) : List Int := rfp p 0 (yQ (wk p.length w)) (wk p.length w)
theorem N3 (w i : Nat) : w / 2 ^ i / 2 = w / 2 ^ (i + 1) := by rw [Nat.div_div_eq_div_mul, Nat.pow_succ]
theorem VM (m w i : Nat) : wk (m + 1) (w / 2 ^ i) = Nat.beq (w / 2 ^ i % 2) 1 :: wk m (w / 2 ^ (i + 1)) := by rw [wk, N3]
theorem gv (p : List Int) (hp : p.length ≤ 12) (w : Nat) (hw : w ≤ 4096) : ∀ (m i f s : Nat) (out : List Int), i + m = p.length → f + yQ (wk m (w / 2 ^ i)) ≤ p.length → s + fc (wk m (w / 2 ^ i)) ≤ p.length → out.length ≤ i →
 Ev (fun k => vq k p (w : Int) (f : Int) (s : Int) (p.length : Int) (i : Int) out) (out ++ rfp p f s (wk m (w / 2 ^ i)))
 | 0, i, f, s, out, h, hf, hs, ho => by
   refine Ev.step (fun k => fj k _ _ _ _ _ _ _) (Ev.no (by simp; omega) (Ev.some ?_))
   simp [wk, rfp]
 | m + 1, i, f, s, out, h, hf, hs, ho => by
   have ih := fun f s out => gv p hp w hw m (i + 1) f s out (by omega)
   have ew : ∀ j : Nat, j ≤ 12 → IntKind.i64.wrap ((j : Int) + 1) = ((j + 1 : Nat) : Int) := fun j hj => by rw [zi (by omega) (by omega)]; omega
   rw [VM] at hf hs ⊢
   refine Ev.step (fun k => fj k _ _ _ _ _ _ _) ?_
   simp only [Uy w i (by omega) (by omega), ew i (by omega)]
   simp only [Int.toNat_natCast]
   refine Ev.yes (by simp; omega) (Ev.yes (by simp) ?_)
   cases hb : Nat.beq (w / 2 ^ i % 2) 1 with
   | true =>
     rw [hb] at hf hs
     have hb' := Nat.eq_of_beq_eq_true hb
     simp only [yQ, fc] at hf hs
     rw [ew s (by omega)]
     refine Ev.yes (by rw [hb']; rfl) (Ev.yes (by simp) (Ev.yes (by simp; omega) (Ev.yes (by rw [zb]; exact decide_eq_true (by simp; omega)) ?_)))
     exact (ih f (s + 1) (out ++ [p.getD s 0]) (by omega) (by omega) (by simp; omega)).to (by simp [rfp])
   | false =>
     rw [hb] at hf hs
     have hb' : ¬ w / 2 ^ i % 2 = 1 := fun e => by rw [e] at hb; cases hb
     simp only [yQ, fc] at hf hs
     rw [ew f (by omega)]
     have h0 : w / 2 ^ i % 2 = 0 := by omega
     refine Ev.no (by rw [h0]; rfl) (Ev.yes (by simp) (Ev.yes (by simp; omega) (Ev.yes (by rw [zb]; exact decide_eq_true (by simp; omega)) ?_)))
     exact (ih (f + 1) s (out ++ [p.getD f 0]) (by omega) (by omega) (by simp; omega)).to (by simp [rfp])
theorem vF (p : List Int) (hp : p.length ≤ 12) (w : Nat) (hw : w ≤ 4096) : ∀ (m i z : Nat), i + m = p.length → z ≤ i →
 Ev (fun k => uO k p (w : Int) 0 (z : Int) (p.length : Int) (i : Int)) (rfp p 0 (z + yQ (wk m (w / 2 ^ i))) (wk p.length w)) ∨ z + yQ (wk m (w / 2 ^ i)) ≠ yQ (wk p.length w)
 | 0, i, z, h, hz => by
   by_cases hzz : z + yQ (wk 0 (w / 2 ^ i)) = yQ (wk p.length w)
   ·left
    refine Ev.step (fun k => ui k _ _ _ _ _ _) (Ev.no (by simp; omega) ?_)
    have e : yQ (wk 0 (w / 2 ^ i)) = 0 := rfl
    rw [e] at hzz ⊢
    have hl := UL (wk p.length w)
    rw [fU] at hl
    have := gv p hp w hw p.length 0 0 z [] (by omega) (by rw [Nat.pow_zero, Nat.div_one]; omega) (by rw [Nat.pow_zero, Nat.div_one]; omega) (Nat.le_refl _)
    rw [Nat.pow_zero, Nat.div_one, List.nil_append] at this
    exact this
   ·exact .inr hzz
 | m + 1, i, z, h, hz => by
   rw [VM]
   have ew : IntKind.i64.wrap ((i : Int) + 1) = ((i + 1 : Nat) : Int) := by rw [zi (by omega) (by omega)]; omega
   cases hb : Nat.beq (w / 2 ^ i % 2) 1 with
   | true =>
     have hb' := Nat.eq_of_beq_eq_true hb
     simp only [yQ]
     refine (vF p hp w hw m (i + 1) z (by omega) (by omega)).imp_left fun ih => ?_
     refine Ev.step (fun k => ui k _ _ _ _ _ _) ?_
     simp only [Uy w i (by omega) (by omega), ew, hb']
     refine Ev.yes (by simp; omega) (Ev.yes (by simp) ?_)
     have e2 : IntKind.i64.wrap ((z : Int) + IntKind.i64.wrap (1 - ((1 : Nat) : Int))) = (z : Int) := by rw [zi (x := 1 - ((1 : Nat) : Int)) (by omega) (by omega), zi (by omega) (by omega)]; omega
     rw [e2]
     exact ih
   | false =>
     have hb' : w / 2 ^ i % 2 = 0 := by
      have : ¬ w / 2 ^ i % 2 = 1 := fun e => by rw [e] at hb; cases hb
      omega
     simp only [yQ]
     rw [show z + (yQ (wk m (w / 2 ^ (i + 1))) + 1) = (z + 1) + yQ (wk m (w / 2 ^ (i + 1))) by omega]
     refine (vF p hp w hw m (i + 1) (z + 1) (by omega) (by omega)).imp_left fun ih => ?_
     refine Ev.step (fun k => ui k _ _ _ _ _ _) ?_
     simp only [Uy w i (by omega) (by omega), ew, hb']
     refine Ev.yes (by simp; omega) (Ev.yes (by simp) ?_)
     have e2 : IntKind.i64.wrap ((z : Int) + IntKind.i64.wrap (1 - ((0 : Nat) : Int))) = ((z + 1 : Nat) : Int) := by rw [zi (x := 1 - ((0 : Nat) : Int)) (by omega) (by omega), zi (by omega) (by omega)]; omega
     rw [e2]
     exact ih
theorem Uf (p : List Int) (hp : p.length ≤ 12) (w : Nat) (hw : w ≤ 4096) : Ev (fun k => XS k (p, (w : Int))) (V1 p w) := by
 refine Ev.step (fun k => Tv k _ _) ?_
 have := vF p hp w hw p.length 0 0 (by omega) (Nat.le_refl _)
 rw [Nat.pow_zero, Nat.div_one, Nat.zero_add] at this
 exact this.resolve_right (fun h => h rfl)
def bN (p : List Int) : Packs := (List.range (2 ^ p.length)).map (V1 p)
theorem Mo {n : Nat} (h : n ≤ 12) : 2 ^ n ≤ 4096 := Nat.pow_le_pow_right (by decide) h
theorem X0 (p : List Int) (hp : p.length ≤ 12) : ∀ (m i : Nat), i + m = 2 ^ p.length → Ev (fun k => YR k p (i : Int) ((List.range i).map (V1 p))) (bN p, true)
 | m, i, h => by
   have h2 := Mo hp
   have e : IntKind.i64.wrap ((1 : Int) * 2 ^ (min (p.length : Int).toNat IntKind.i64.bits)) = ((2 ^ p.length : Nat) : Int) := by
    have hm : min (p.length : Int).toNat IntKind.i64.bits = p.length := by
     have : IntKind.i64.bits = 64 := rfl
     rw [this, Int.toNat_natCast]; omega
    rw [hm, Int.one_mul, show (2 : Int) ^ p.length = ((2 ^ p.length : Nat) : Int) by simp, zi (by omega) (by omega)]
   refine Ev.step (fun k => Sy k _ _ _) (Ev.yes (by simp) ?_)
   rw [e]
   match m, h with
   | 0, h =>
     refine Ev.no (by simp only [decide_eq_false_iff_not]; omega) (Ev.some ?_)
     have : i = 2 ^ p.length := by omega
     rw [this]; rfl
   | m + 1, h =>
     have ih := X0 p hp m (i + 1) (by omega)
     rw [Zc] at ih
     have ew : IntKind.i64.wrap ((i : Int) + 1) = ((i + 1 : Nat) : Int) := by rw [zi (by omega) (by omega)]; omega
     rw [ew]
     refine Ev.yes (by simp only [decide_eq_true_eq]; omega) (Ev.bind (Uf p hp i (by omega)) (Ev.yes (by rw [zb]; exact decide_eq_true (by simp; omega)) ih))
def nb : List Bool → Nat
 | [] => 0 | b :: r => (bif b then 1 else 0) + 2 * nb r
end Qq
namespace Qq
open Go Go.Vt Pt
set_option linter.unusedVariables false
set_option linter.unusedSimpArgs false
set_option linter.unnecessarySimpa false
theorem Xo (p : List Int) : ∀ (bits : List Bool) (f s : Nat), rfp p f s bits = (rfi f s bits).map fun i => p.getD i 0
 | [], _, _ => rfl
 | true :: r, f, s => by unfold rfp rfi; rw [Xo p r]; rfl
 | false :: r, f, s => by unfold rfp rfi; rw [Xo p r]; rfl
theorem Pb (n : Nat) : ∀ (bits : List Bool) (f s : Nat), f + yQ bits ≤ n → s + fc bits ≤ n → ∀ x ∈ rfi f s bits, x < n
 | [], _, _, _, _, x, hx => by cases hx
 | true :: r, f, s, h1, h2, x, hx => by
   simp only [yQ, fc] at h1 h2
   rcases List.mem_cons.1 hx with rfl | hx
   ·omega
   ·exact Pb n r f (s + 1) h1 (by omega) x hx
 | false :: r, f, s, h1, h2, x, hx => by
   simp only [yQ, fc] at h1 h2
   rcases List.mem_cons.1 hx with rfl | hx
   ·omega
   ·exact Pb n r (f + 1) s (by omega) h2 x hx
theorem Vp {g : Nat → Int} {n : Nat} (hg : ∀ i j, i < n → j < n → g i = g j → i = j) : ∀ {l m : List Nat}, (∀ x ∈ l, x < n) → (∀ x ∈ m, x < n) → l.map g = m.map g → l = m
 | [], [], _, _, _ => rfl
 | [], _ :: _, _, _, h => by simp at h
 | _ :: _, [], _, _, h => by simp at h
 | x :: l, y :: m, hl, hm, h => by
   simp only [List.map_cons, List.cons.injEq] at h
   rw [hg x y (hl x (by simp)) (hm y (by simp)) h.1, Vp hg (fun z hz => hl z (by simp [hz])) (fun z hz => hm z (by simp [hz])) h.2]
theorem riffs12 {p : List Int} (hl : p.length = 12) (hn : p.Nodup) : 3000 < (setL (bN p)).length := by
 have hg : ∀ i j, i < 12 → j < 12 → p.getD i 0 = p.getD j 0 → i = j := fun i j hi hj e => by
  have h1 : i < p.length := by omega
  have h2 : j < p.length := by omega
  simp only [List.getD, List.getElem?_eq_getElem h1, List.getElem?_eq_getElem h2, Option.getD_some] at e
  have hpw := List.pairwise_iff_getElem.1 (show p.Pairwise (fun a b => a ≠ b) from hn)
  rcases Nat.lt_trichotomy i j with h | h | h
  ·exact (hpw i j h1 h2 h e).elim
  ·exact h
  ·exact (hpw j i h2 h1 h e.symm).elim
 have hlt : ∀ w, ∀ x ∈ Sn 12 w, x < 12 := fun w => by
  have := UL (wk 12 w)
  rw [fU] at this
  exact Pb 12 _ 0 _ (by omega) (by omega)
 have hr : ∀ w, V1 p w = (Sn 12 w).map fun i => p.getD i 0 := fun w => by unfold V1 Sn; rw [hl, Xo]
 have hdec : ∀ w, w < 4096 → wellW w = true → decGo 0 none (Sn 12 w) = w := fun w hw hwell => by
  have := List.all_eq_true.1 riff12 w (List.mem_range.2 hw)
  unfold wellW at hwell
  rw [Bool.not_eq_true'] at hwell
  rw [hwell, Bool.false_or] at this
  exact Nat.eq_of_beq_eq_true this
 have hnd : (((List.range 4096).filter wellW).map (V1 p)).Nodup := by
  rw [List.Nodup, List.pairwise_map]
  refine List.Pairwise.imp_of_mem (fun {a b} ha hb hab e => hab ?_) ((List.nodup_range (n := 4096)).filter wellW)
  obtain ⟨a1, a2⟩ := List.mem_filter.1 ha
  obtain ⟨b1, b2⟩ := List.mem_filter.1 hb
  rw [hr, hr] at e
  have := Vp hg (hlt a) (hlt b) e
  rw [← hdec a (List.mem_range.1 a1) a2, ← hdec b (List.mem_range.1 b1) b2, this]
 have := Te hnd (m := setL (bN p)) (fun q hq => by
  obtain ⟨w, hw, rfl⟩ := List.mem_map.1 hq
  rw [YJ]
  unfold bN
  rw [hl]
  exact List.mem_map.2 ⟨w, (List.mem_filter.1 hw).1, rfl⟩)
 rw [List.length_map, U2] at this
 omega
theorem Pa {p : List Int} (hp : p.length ≤ 11) : (setL (bN p)).length ≤ 2048 := by
 refine Nat.le_trans (YK _) ?_
 unfold bN
 rw [List.length_map, List.length_range]
 exact Nat.pow_le_pow_right (by decide) hp
def SH (p : List Int) : List Int := (p.take 2).reverse.map turn ++ p.drop 2
def x5 (p : List Int) (c : Int) : Packs := if c = 1 then Wq p else if c = 2 then bN p else if c = 3 then Wq (SH p) else if c = 4 then picksL p else [p]
def chOk (p : List Int) (c : Int) : Bool := zj p && (!(p.length == 0) && (decide (0 ≤ c ∧ c ≤ 4) && (!(decide (c = 3) && decide (p.length < 2)) && !(decide (c = 2) && decide (12 ≤ p.length)))))
structure ChFit (p : List Int) (c : Int) : Prop where
 ok : zj p = true
 l1 : 1 ≤ p.length
 l12 : p.length ≤ 12
 c0 : 0 ≤ c
 c4 : c ≤ 4
 c3 : c = 3 → 2 ≤ p.length
 c2 : c = 2 → p.length ≤ 11
theorem jD (p : List Int) : (SH p).length = p.length := by unfold SH; simp; omega
theorem PV {p : List Int} (hi : Ins p) : Ins (SH p) := fun x hx => by
 unfold SH at hx
 rcases List.mem_append.1 hx with h | h
 ·obtain ⟨y, hy, rfl⟩ := List.mem_map.1 h
  exact MP (hi y (List.mem_of_mem_take (List.mem_reverse.1 hy)))
 ·exact hi x (List.mem_of_mem_drop h)
theorem bw {p : List Int} {c : Int} (hp : p.length ≤ 12) : (x5 p c).length ≤ 4096 ∧ ∀ q ∈ x5 p c, q.length ≤ 12 := by
 have h2 := Mo hp
 unfold x5
 split
 ·refine ⟨by unfold Wq; simp; omega, fun q hq => ?_⟩
  obtain ⟨i, _, rfl⟩ := List.mem_map.1 hq
  unfold cutL; simp; omega
 split
 ·refine ⟨by unfold bN; simpa using h2, fun q hq => ?_⟩
  obtain ⟨w, _, rfl⟩ := List.mem_map.1 hq
  unfold V1
  rw [Xo, List.length_map]
  have : ∀ (bits : List Bool) (f s : Nat), (rfi f s bits).length = bits.length := fun bits => by
   induction bits with
   | nil => intro f s; rfl
   | cons b r ih => intro f s; cases b <;> simp [rfi, ih]
  rw [this, fU]; exact hp
 split
 ·refine ⟨by unfold Wq; simp [jD]; omega, fun q hq => ?_⟩
  obtain ⟨i, _, rfl⟩ := List.mem_map.1 hq
  unfold cutL; simp [jD]; have := jD p; omega
 split
 ·refine ⟨by unfold picksL; simp; omega, fun q hq => ?_⟩
  obtain ⟨i, hi, rfl⟩ := List.mem_map.1 hq
  have := List.mem_range.1 hi
  unfold pickL; simp; omega
 ·exact ⟨by simp, fun q hq => by have : q = p := by simpa using hq
                                 rw [this]; exact hp⟩
theorem Nd {p : List Int} {c : Int} (hp : p.length ≤ 12) (c2 : c ≠ 2) : (x5 p c).length ≤ 12 := by
 unfold x5
 split
 ·unfold Wq; simpa using hp
 split
 ·unfold Wq; simpa [jD] using hp
 split
 ·unfold picksL; simpa using hp
 ·simp
def resOf (p : List Int) (c : Int) : Packs × Bool := if chOk p c then (setL (x5 p c), true) else ([], false)
theorem NR (p : List Int) (c : Int) (hp : p.length ≤ 12) (hi : Ins p) (h0 : 1 ≤ p.length) : Ev (fun k => MQ k (p, c)) (if (0 ≤ c ∧ c ≤ 4) ∧ ¬ (c = 3 ∧ p.length < 2) then (x5 p c, true) else ([], false)) := by
 refine Ev.step (fun k => NS k p c) ?_
 refine Ev.ite (fun e => ?_) (fun n0 => Ev.ite (fun e => ?_) (fun n1 => Ev.ite (fun e => ?_) (fun n2 => Ev.ite (fun e => ?_) (fun n3 => Ev.ite (fun e => ?_) (fun n4 => Ev.some ?_)))))
 all_goals simp only [beq_iff_eq, beq_eq_false_iff_ne, ne_eq] at *
 ·subst e
  exact Ev.bind (xc p (by omega)) (Ev.some (by simp [x5]))
 ·subst e
  exact Ev.bind (TB p hp hi) (Ev.some (by simp [x5]))
 ·subst e
  exact (X0 p hp (2 ^ p.length) 0 (by omega)).to (by simp [x5])
 ·subst e
  refine Ev.ite (fun h => Ev.some ?_) (fun h => ?_)
  ·have : p.length < 2 := by have : (p.length : Int) < 2 := by simpa using h
                             omega
   simp [this]
  ·have h2 : ¬ p.length < 2 := by have : ¬ (p.length : Int) < 2 := by simpa using h
                                  omega
   have hm := Zk p (3, ((2 : Nat) : Int)) ⟨h0, hp, by simp, .inl (by simp; omega), fun _ => by simp; omega, fun h => by simp at h, fun _ _ h3 => absurd rfl h3⟩ hi
   have ed : fM p (3, ((2 : Nat) : Int)) = SH p := by simp [fM, SH]
   rw [ed] at hm
   exact Ev.bind hm (Ev.bind (TB _ (by rw [jD]; exact hp) (PV hi)) (Ev.some (by simp [x5, h2])))
 ·subst e
  exact (Z9 p hp p.length 0 (by omega)).to (by simp [x5])
 ·rw [if_neg (by omega)]
theorem WX (p : List Int) (c : Int) (hp : p.length ≤ maxLen) (hi : Ins p) : Ev (fun k => bg k (p, c)) (resOf p c) := by
 unfold resOf
 refine Ev.step (fun k => WY k p c) (Ev.bind (xx p hp hi) (Ev.ite (fun h => Ev.some ?_) (fun h => Ev.ite (fun h2 => Ev.some ?_) (fun h2 => ?_))))
 ·have : zj p = false := by simpa using h
  simp [chOk, this]
 ·have : p.length = 0 := by have : (p.length : Int) = 0 := by simpa using h2
                            omega
  simp [chOk, this]
 ·have e1 : zj p = true := by simpa using h
  have e2 : ¬ p.length = 0 := by have : ¬ (p.length : Int) = 0 := by simpa using h2
                                 omega
  have hl := (yp e1).2.2
  have hnd : p.Nodup := by
   have := (yp e1).1
   rw [List.Nodup, List.pairwise_map] at this
   exact this.imp fun h e => h (by rw [e])
  refine Ev.bind (NR p c hl hi (by omega)) ?_
  by_cases hc : (0 ≤ c ∧ c ≤ 4) ∧ ¬ (c = 3 ∧ p.length < 2)
  ·rw [if_pos hc]
   have hs := bw (c := c) hl
   refine Ev.bind (gA _ (Nat.le_trans hs.1 (by decide)) (fun q hq => Nat.le_trans (hs.2 q hq) (by decide))) (Ev.no rfl ?_)
   refine Ev.ite (fun h3 => Ev.some ?_) (fun h3 => Ev.some ?_)
   ·have h3' : 3000 < (setL (x5 p c)).length := by have : ((setL (x5 p c)).length : Int) > 3000 := by simpa using h3
                                                   omega
    have : c = 2 ∧ 12 ≤ p.length := by
     apply Classical.byContradiction
     intro hcon
     have h5 := YK (x5 p c)
     by_cases c2 : c = 2
     ·have := Pa (p := p) (by omega)
      rw [c2] at h3'
      simp only [x5] at h3'
      simp at h3'
      omega
     ·have := Nd (p := p) hl c2
      omega
    rw [if_neg]
    unfold chOk
    simp [this.1, this.2]
   ·have h3' : ¬ 3000 < (setL (x5 p c)).length := by have : ¬ ((setL (x5 p c)).length : Int) > 3000 := by simpa using h3
                                                     omega
    have : ¬ (c = 2 ∧ 12 ≤ p.length) := fun ⟨a, b⟩ => h3' (by
     have := riffs12 (p := p) (by omega) hnd
     rw [a]
     simpa [x5] using this)
    rw [if_pos]
    unfold chOk
    rw [e1, decide_eq_true hc.1]
    have h6 := hc.2
    by_cases x3 : c = 3
    ·have : ¬ p.length < 2 := fun h => h6 ⟨x3, h⟩
     simp [e2, x3, this]
    ·by_cases x2 : c = 2
     ·have : ¬ 12 ≤ p.length := fun h => this ⟨x2, h⟩
      simp [e2, x2, this]
     ·simp [e2, x3, x2]
  ·rw [if_neg hc]
   refine Ev.bind (gA [] (by simp) (fun q hq => by cases hq)) (Ev.yes rfl (Ev.some ?_))
   rw [if_neg]
   unfold chOk
   by_cases c04 : 0 ≤ c ∧ c ≤ 4
   ·have : c = 3 ∧ p.length < 2 := Classical.byContradiction fun h => hc ⟨c04, h⟩
    simp [this.1, this.2]
   ·rw [decide_eq_false c04]; simp
end Qq
namespace Qq
open Go Go.Vt Pt
set_option linter.unusedVariables false
set_option linter.unusedSimpArgs false
set_option linter.unnecessarySimpa false
theorem T3 (x : Int) : card (turn x) = card x := by
 unfold turn
 split
 ·rfl
 ·rename_i h
  unfold card at h ⊢
  split at h
  ·rename_i h1
   rw [if_neg (by omega), if_pos (by omega), if_pos h1]; omega
  ·rename_i h1
   split at h
   ·rename_i h2
    rw [if_pos (by omega), if_neg h1, if_pos h2]
   ·omega
theorem NI (l : List Int) : (l.map turn).map card = l.map card := by rw [List.map_map]; exact List.map_congr_left fun x _ => T3 x
abbrev Pm (q p : List Int) : Prop := (q.map card).Perm (p.map card)
theorem Pm.of {q p : List Int} (h : q.Perm p) : Pm q p := h.map card
theorem Wh : ∀ (n : Nat) (f : Bool) (a b : List Int), a.length + b.length = n → (fz f a b).Perm (a ++ b)
 | n, f, [], [], h => by unfold fz; exact .refl _
 | n, f, x :: a, [], h => by
   match n, h with
   | n + 1, h =>
   unfold fz
   exact (Wh n (!f) a [] (by simp at h ⊢; omega)).cons x
 | n, f, [], y :: b, h => by
   match n, h with
   | n + 1, h =>
   unfold fz
   exact (Wh n (!f) [] b (by simp at h ⊢; omega)).cons y
 | n, true, x :: a, y :: b, h => by
   match n, h with
   | n + 1, h =>
   unfold fz
   exact (Wh n false a (y :: b) (by simp at h ⊢; omega)).cons x
 | n, false, x :: a, y :: b, h => by
   match n, h with
   | n + 1, h =>
   unfold fz
   exact ((Wh n true (x :: a) b (by simp at h ⊢; omega)).cons y).trans List.perm_middle.symm
termination_by n => n
theorem Sr (k : Int) : ∀ (r : List Int) (i : Nat) (out : List Int), (mz k i r out).Perm (r ++ out)
 | [], i, out => by unfold mz; exact .refl _
 | x :: r, i, out => by
   unfold mz
   split
   ·refine (Sr k r (i + 1) (out ++ [x])).trans ?_
    rw [← List.append_assoc]
    exact List.perm_append_comm
   ·exact (Sr k r (i + 1) (x :: out)).trans List.perm_middle
theorem ends (p : List Int) (h : 1 < p.length) : p = p.getD 0 0 :: ((p.take (p.length - 1)).drop 1 ++ [p.getD (p.length - 1) 0]) := by
 cases p with
 | nil => simp at h
 | cons x r =>
   simp at h
   have hr : r ≠ [] := by intro e; subst e; simp at h
   have e1 : (x :: r).length - 1 = r.length - 1 + 1 := by simp; omega
   rw [e1, List.take_succ_cons, List.drop_one, List.tail_cons]
   have e2 : (x :: r).getD (r.length - 1 + 1) 0 = r.getLast hr := by
    simp only [List.getD, List.getElem?_cons_succ]
    rw [List.getLast_eq_getElem, List.getElem?_eq_getElem (by omega)]
    rfl
   rw [e2, ← List.dropLast_eq_take, List.dropLast_concat_getLast hr]
   rfl
theorem Pu : ∀ (n : Nat) (p out : List Int), (kz n p out).Perm (p ++ out)
 | 0, p, out => by unfold kz; exact .refl _
 | n + 1, p, out => by
   unfold kz
   split
   ·rename_i h
    refine (Pu n _ _).trans ?_
    have e := ends p h
    generalize p.getD 0 0 = x at *
    generalize p.getD (p.length - 1) 0 = y at *
    generalize (p.take (p.length - 1)).drop 1 = m at *
    rw [e]
    refine List.perm_middle.trans (List.Perm.cons x ?_)
    simp
   ·exact .refl _
theorem SL : ∀ (n : Nat) (f : Bool) (q out : List Int), 1 ≤ q.length → 2 * q.length + (bif f then 0 else 1) ≤ n → (dz n f q out).Perm (q ++ out)
 | 0, f, q, out, h, hn => by omega
 | n + 1, f, q, out, h, hn => by
   unfold dz
   cases q with
   | nil => simp at h
   | cons x r =>
     split
     ·rename_i h1
      cases f with
      | true =>
        simp at h1 hn
        refine (SL n false r (x :: out) (by omega) (by simp; omega)).trans ?_
        exact List.perm_middle
      | false =>
        simp at h1 hn
        refine (SL n true (r ++ [x]) out (by simp) (by simp; omega)).trans ?_
        rw [List.append_assoc]
        exact List.perm_middle
     ·rename_i h1
      simp at h1
      subst h1
      exact .refl _
theorem Rm (p : List Int) (i : Nat) (h : i < p.length) : (p.take i ++ p.drop (i + 1) ++ [p.getD i 0]).Perm p := by
 have e : p = p.take i ++ (p.getD i 0 :: p.drop (i + 1)) := by
  have : p.getD i 0 = p[i] := by simp [List.getD, h]
  rw [this, ← List.drop_eq_getElem_cons h, List.take_append_drop]
 have h1 : (p.take i ++ p.drop (i + 1) ++ [p.getD i 0]).Perm (p.take i ++ (p.getD i 0 :: p.drop (i + 1))) := by
  rw [List.append_assoc]
  exact List.Perm.append_left _ (List.perm_append_comm (l₁ := p.drop (i + 1)) (l₂ := [p.getD i 0]))
 rw [← e] at h1
 exact h1
theorem U4 (p : List Int) (k : Nat) : Pm ((p.take k).reverse.map turn ++ p.drop k) p := by
 show (List.map card _).Perm _
 rw [List.map_append, NI]
 refine (((List.reverse_perm (p.take k)).map card).append_right _).trans ?_
 rw [← List.map_append, List.take_append_drop]
theorem TU {p : List Int} {m : Int × Int} (h : MoveFit p.length m) : Pm (fM p m) p := by
 have h1 := h.n1
 have ht := h.t
 unfold fM
 split
 ·refine Pm.of (List.perm_append_comm.trans ?_)
  rw [List.take_append_drop]
 split
 ·refine Pm.of (((List.reverse_perm (p.take m.2.toNat)).append_right _).trans ?_)
  rw [List.take_append_drop]
 split
 ·exact U4 p _
 split
 ·unfold faroL
  refine Pm.of ((Wh _ _ _ _ rfl).trans ?_)
  rw [List.take_append_drop]
 split
 ·exact Pm.of ((Sr m.2 p 0 []).trans (by simp))
 split
 ·exact Pm.of ((Pu p.length p []).trans (by simp))
 split
 ·exact Pm.of ((SL (2 * p.length + 1) (m.2 == 1) p [] h1 (by cases (m.2 == 1) <;> simp)).trans (by simp))
 split
 ·rename_i a1 a2 a3 a4 a5 a6 a7 a8
  have h5 := ht a1 a2 a3 a4 a5 a6 a7
  have h6 := h.k0
  have hlt : m.2.toNat < p.length := by omega
  show (List.map card _).Perm _
  rw [List.map_set, T3]
  have e : card (p.getD m.2.toNat 0) = (p.map card)[m.2.toNat]'(by simpa using hlt) := by simp [List.getD, hlt]
  rw [e, List.set_getElem_self]
 ·rename_i a1 a2 a3 a4 a5 a6 a7 a8
  have h5 := ht a1 a2 a3 a4 a5 a6 a7
  have h6 := h.k0
  exact Pm.of (Rm p _ (by omega))
theorem V2 : ∀ (bits : List Bool) (f s : Nat), (rfi f s bits).Perm (List.range' f (yQ bits) ++ List.range' s (fc bits))
 | [], f, s => by simp [rfi, yQ, fc]
 | true :: r, f, s => by
   unfold rfi yQ fc
   rw [List.range'_succ]
   exact ((V2 r f (s + 1)).cons s).trans List.perm_middle.symm
 | false :: r, f, s => by
   unfold rfi yQ fc
   rw [List.range'_succ]
   exact (V2 r (f + 1) s).cons f
theorem R8 (p : List Int) (w : Nat) : (V1 p w).Perm p := by
 unfold V1
 rw [Xo]
 have hz := UL (wk p.length w)
 rw [fU] at hz
 refine ((V2 _ _ _).map _).trans ?_
 have e : List.range' 0 (yQ (wk p.length w)) ++ List.range' (yQ (wk p.length w)) (fc (wk p.length w)) = List.range p.length := by
  have := List.range'_append_1 (s := 0) (m := yQ (wk p.length w)) (n := fc (wk p.length w))
  rw [Nat.zero_add] at this
  rw [this, List.range_eq_range']
  congr 1
 rw [e]
 have : (List.range p.length).map (fun i => p.getD i 0) = p := by
  apply List.ext_getElem
  ·simp
  ·intro i h1 h2
   simp [List.getD, h2]
 rw [this]
theorem RJ {p : List Int} {c : Int} (q : List Int) (hq : q ∈ x5 p c) : Pm q p := by
 have cut : ∀ (p q : List Int), q ∈ Wq p → q.Perm p := fun p q hq => by
  obtain ⟨i, _, rfl⟩ := List.mem_map.1 hq
  unfold cutL
  refine List.perm_append_comm.trans ?_
  rw [List.take_append_drop]
 unfold x5 at hq
 split at hq
 ·exact Pm.of (cut _ _ hq)
 split at hq
 ·obtain ⟨w, _, rfl⟩ := List.mem_map.1 hq
  exact Pm.of (R8 p w)
 split at hq
 ·exact (Pm.of (cut _ _ hq)).trans (U4 p 2)
 split at hq
 ·obtain ⟨i, hi, rfl⟩ := List.mem_map.1 hq
  have := List.mem_range.1 hi
  unfold pickL
  exact Pm.of (List.perm_append_comm.trans (Rm p i this))
 ·have : q = p := by simpa using hq
  rw [this]
theorem Ln : ∀ (r done : List Int), (done ++ r.map card).Nodup → (∀ x ∈ r, 0 ≤ card x) → pk done r = true
 | [], done, _, _ => rfl
 | x :: r, done, h, h0 => by
   unfold pk
   rw [List.map_cons] at h
   have hx : card x ∉ done := fun hm => (List.nodup_append.1 h).2.2 _ hm _ (by simp) rfl
   rw [decide_eq_true (h0 x (by simp)), Ln r (done ++ [card x]) (by simpa using h) (fun y hy => h0 y (by simp [hy]))]
   simp [hx]
theorem jS {p q : List Int} (h : zj p = true) (hq : Pm q p) : zj q = true ∧ q.length = p.length := by
 obtain ⟨h1, h2, h3⟩ := yp h
 refine ⟨Ln q [] (by simpa using hq.nodup_iff.2 h1) (fun x hx => ?_), by have := hq.length_eq; simpa using this⟩
 have := hq.mem_iff.1 (List.mem_map.2 ⟨x, hx, rfl⟩)
 obtain ⟨y, hy, e⟩ := List.mem_map.1 this
 have := (h2 y hy).1
 omega
theorem yY {p : List Int} (h : zj p = true) : Ins p := fun x hx => by
 have := ((yp h).2.1 x hx).1
 unfold card at this
 unfold In
 split at this
 ·omega
 ·split at this <;> omega
end Qq
namespace Qq
open Go Go.Vt Pt
set_option linter.unusedVariables false
set_option linter.unusedSimpArgs false
set_option linter.unnecessarySimpa false
abbrev zP : Type := Int × (Int × Int) × Int
def zp (c : Scene) (s : zP) : List Scene :=
 if s.1 = 1 then [(fM c.1 s.2.1, c.2)] else if s.1 = 3 then [(c.1, card (c.1.getD s.2.2.toNat 0))] else (setL (x5 c.1 s.2.2)).map fun q => (q, c.2)
structure SceneOk (n : Nat) (c : Scene) : Prop where
 ok : zj c.1 = true
 len : c.1.length = n
 n0 : -1 ≤ c.2
 n12 : c.2 < 12
inductive StepKind (n : Nat) (s : zP) : Prop
 | mv (h : s.1 = 1) (m : MoveFit n s.2.1)
 | ch (h : s.1 = 2) (c0 : 0 ≤ s.2.2) (c4 : s.2.2 ≤ 4) (c3 : s.2.2 = 3 → 2 ≤ n) (c2 : s.2.2 = 2 → n ≤ 11)
 | nt (h : s.1 = 3) (a0 : 0 ≤ s.2.2) (an : s.2.2 < n)
theorem wT {n : Nat} {s : zP} (h : zI (n : Int) s = true) : 1 ≤ n ∧ n ≤ 12 ∧ StepKind n s := by
 unfold zI at h
 simp only [Bool.and_eq_true, decide_eq_true_eq] at h
 obtain ⟨h1, h2, h3⟩ := h
 refine ⟨by omega, by omega, ?_⟩
 split at h3
 ·rename_i e
  simp only [Bool.and_eq_true] at h3
  exact .mv e (Qh h3.1)
 split at h3
 ·rename_i e
  simp only [Bool.and_eq_true, decide_eq_true_eq, Bool.or_eq_true, Bool.not_eq_true', beq_eq_false_iff_ne, ne_eq] at h3
  obtain ⟨_, _, a, b, c, d⟩ := h3
  exact .ch e a b (fun q => by rcases c with c | c; exact absurd q c; omega) (fun q => by rcases d with d | d; exact absurd q d; omega)
 split at h3
 ·rename_i e
  simp only [Bool.and_eq_true, decide_eq_true_eq] at h3
  exact .nt e h3.2.2.1 h3.2.2.2
 ·cases h3
theorem Mu {n : Nat} {c : Scene} {s : zP} (hc : SceneOk n c) (h1 : 1 ≤ n) (h2 : n ≤ 12) (c0 : 0 ≤ s.2.2) (c4 : s.2.2 ≤ 4) (c3 : s.2.2 = 3 → 2 ≤ n) (c2 : s.2.2 = 2 → n ≤ 11) : ChFit c.1 s.2.2 :=
 ⟨hc.ok, by rw [hc.len]; exact h1, by rw [hc.len]; exact h2, c0, c4, fun e => by rw [hc.len]; exact c3 e, fun e => by rw [hc.len]; exact c2 e⟩
theorem Zg {n : Nat} {c : Scene} {s : zP} (hc : SceneOk n c) (hs : zI (n : Int) s = true) : ∀ d ∈ zp c s, SceneOk n d := by
 obtain ⟨h1, h2, hk⟩ := wT hs
 intro d hd
 unfold zp at hd
 rcases hk with ⟨e, m⟩ | ⟨e, c0, c4, c3, c2⟩ | ⟨e, a0, an⟩
 ·rw [if_pos e] at hd
  have hd : d = (fM c.1 s.2.1, c.2) := by simpa using hd
  subst hd
  have := jS hc.ok (TU (by rw [hc.len]; exact m))
  exact ⟨this.1, this.2.trans hc.len, hc.n0, hc.n12⟩
 ·rw [if_neg (by omega), if_neg (by omega)] at hd
  obtain ⟨q, hq, rfl⟩ := List.mem_map.1 hd
  have := jS hc.ok (RJ q ((YJ _ q).1 hq))
  exact ⟨this.1, this.2.trans hc.len, hc.n0, hc.n12⟩
 ·rw [if_neg (by omega), if_pos e] at hd
  have hd : d = (c.1, card (c.1.getD s.2.2.toNat 0)) := by simpa using hd
  subst hd
  have := Zw (c.1.getD s.2.2.toNat 0)
  exact ⟨hc.ok, hc.len, this.1, by show card _ < 12; omega⟩
theorem Nc {p : List Int} {c : Int} (h : ChFit p c) : x5 p c ≠ [] := by
 have h1 := h.l1
 unfold x5
 split
 ·intro e; have := congrArg List.length e; unfold Wq at this; rw [List.length_map, List.length_range, List.length_nil] at this; omega
 split
 ·intro e; have := congrArg List.length e; simp [bN] at this
 split
 ·intro e; have := congrArg List.length e; unfold Wq at this; rw [List.length_map, List.length_range, List.length_nil, jD] at this; omega
 split
 ·intro e; have := congrArg List.length e; unfold picksL at this; rw [List.length_map, List.length_range, List.length_nil] at this; omega
 ·simp
theorem YO {n : Nat} {c : Scene} {s : zP} (hc : SceneOk n c) (hs : zI (n : Int) s = true) : 1 ≤ (zp c s).length ∧ (zp c s).length ≤ 4096 := by
 obtain ⟨h1, h2, hk⟩ := wT hs
 unfold zp
 split
 ·simp
 split
 ·simp
 ·rename_i a b
  rcases hk with ⟨e, m⟩ | ⟨e, c0, c4, c3, c2⟩ | ⟨e, a0, an⟩
  ·exact absurd e a
  ·have hf := Mu hc h1 h2 c0 c4 c3 c2
   have hs := (bw (c := s.2.2) hf.l12).1
   have := YK (x5 c.1 s.2.2)
   rw [List.length_map]
   refine ⟨?_, by omega⟩
   rcases Nat.eq_zero_or_pos (setL (x5 c.1 s.2.2)).length with h0 | h0
   ·exfalso
    have hne := Nc hf
    cases hl : x5 c.1 s.2.2 with
    | nil => exact hne hl
    | cons q r =>
      have := (YJ (x5 c.1 s.2.2) q).2 (by rw [hl]; simp)
      rw [List.eq_nil_of_length_eq_zero h0] at this
      cases this
   ·exact h0
  ·exact absurd e b
theorem uu (p : List Int) (x : Int) (l : List (List Int)) (hl : l.length ≤ 16384) : ∀ (r : List (List Int)) (i : Nat) (out : List Scene), l.drop i = r → out.length = i →
 Ev (fun k => we k (l.length : Int) (i : Int) p x out l i) (out ++ r.map fun q => (q, x))
 | [], i, out, h, ho => by
   have a := yK h
   refine Ev.step (fun k => uv k _ _ _ _ _ _ _) ?_
   simp only [a.g, cond_false]
   exact Ev.some (by simp)
 | q :: r, i, out, h, ho => by
   have a := zK h (by rw [ze]; omega)
   have hlt := a.lt
   refine Ev.step (fun k => uv k _ _ _ _ _ _ _) ?_
   simp only [a.g, a.z, a.n, a.get, a.w, cond_true]
   refine Ev.yes (by simp) (Ev.yes (by rw [zb]; simp; omega) ?_)
   exact (uu p x l hl r (i + 1) (out ++ [(q, x)]) a.next (by simp [ho])).to (by simp)
theorem X6 (c : Scene) (s : zP) (a : c.1.length ≤ maxLen) (hi : Ins c.1) :
 Ev (fun k => wo k (c, s)) (if zj c.1 && (decide (-1 ≤ c.2 ∧ c.2 < 12) && zI (c.1.length : Int) s) then zp c s else []) := by
 obtain ⟨p, x⟩ := c
 refine Ev.step (fun k => X7 k (p, x) s) (Ev.bind (xx p a hi) (Ev.ite (fun h => Ev.some ?_) (fun h => Ev.ite (fun h2 => Ev.some ?_) (fun h2 => Ev.ite (fun h3 => Ev.some ?_) (fun h3 => Ev.bind (be _ s) (Ev.ite (fun h4 => Ev.some ?_) (fun h4 => ?_)))))))
 ·have : zj p = false := by simpa using h
  simp [this]
 ·have : ¬ -1 ≤ x := by simpa using h2
  simp [this]
 ·have : ¬ x < 12 := by simpa using h3
  simp [this]
 ·have : zI (p.length : Int) s = false := by simpa using h4
  simp [this]
 ·have e1 : zj p = true := by simpa using h
  have e2 : -1 ≤ x := by have : ¬ x < -1 := by simpa using h2
                         omega
  have e3 : x < 12 := by simpa using h3
  have e4 : zI (p.length : Int) s = true := by simpa using h4
  have hc : SceneOk p.length (p, x) := ⟨e1, rfl, e2, e3⟩
  rw [if_pos (by simp [e1, e2, e3, e4])]
  obtain ⟨h1, h2, hk⟩ := wT e4
  unfold zp
  rcases hk with ⟨e, m⟩ | ⟨e, c0, c4, c3, c2⟩ | ⟨e, a0, an⟩
  ·rw [if_pos e]
   exact Ev.yes (by simp [e]) (Ev.bind (Zk p s.2.1 m hi) (Ev.pure _))
  ·rw [if_neg (by omega), if_neg (by omega)]
   have hf := Mu hc h1 h2 c0 c4 c3 c2
   have hsm : (x5 p s.2.2).length ≤ 4096 ∧ ∀ q ∈ x5 p s.2.2, q.length ≤ 12 := bw (c := s.2.2) hf.l12
   have hsl := YK (x5 p s.2.2)
   have hok : chOk p s.2.2 = true := by
    unfold chOk
    have a3 : ¬ (s.2.2 = 3 ∧ p.length < 2) := fun h => by have := c3 h.1; omega
    have a2 : ¬ (s.2.2 = 2 ∧ 12 ≤ p.length) := fun h => by have := c2 h.1; omega
    rw [e1, decide_eq_true ⟨c0, c4⟩]
    simp only [Bool.true_and, Bool.and_eq_true, Bool.not_eq_true', Bool.and_eq_false_iff, decide_eq_false_iff_not, beq_eq_false_iff_ne]
    refine ⟨by omega, ?_, ?_⟩
    ·by_cases q : s.2.2 = 3
     ·exact .inr fun h => a3 ⟨q, h⟩
     ·exact .inl q
    ·by_cases q : s.2.2 = 2
     ·exact .inr fun h => a2 ⟨q, h⟩
     ·exact .inl q
   have er : resOf p s.2.2 = (setL (x5 p s.2.2), true) := by unfold resOf; rw [if_pos hok]
   refine Ev.no (by simp [e]) (Ev.no (by simp [e]) (Ev.bind (WX p s.2.2 a hi) ?_))
   rw [er]
   exact uu p x _ (by have := hsm.1; show (setL (x5 p s.2.2)).length ≤ _; omega) _ 0 [] rfl rfl
  ·rw [if_neg (by omega), if_pos e]
   refine Ev.no (by simp [e]) (Ev.yes (by simp [e]) (Ev.bind (xc p (by omega)) (Ev.yes (by simpa using a0) (Ev.yes (by simpa using an) (Ev.bind (xy _ ?_) (Ev.pure _))))))
   have hlt : s.2.2.toNat < p.length := by omega
   have : p.getD s.2.2.toNat 0 = p[s.2.2.toNat] := by simp [List.getD, hlt]
   rw [this]
   exact hi _ (List.getElem_mem hlt)
theorem ut {n : Nat} {c : Scene} {s : zP} (hc : SceneOk n c) (hs : zI (n : Int) s = true) : Ev (fun k => wo k (c, s)) (zp c s) := by
 obtain ⟨h1, h2, hk⟩ := wT hs
 have := X6 c s (by rw [hc.len, ze]; omega) (yY hc.ok)
 rw [hc.len, hc.ok, hs, decide_eq_true ⟨hc.n0, hc.n12⟩] at this
 exact this
end Qq
namespace Qq
open Go Go.Vt Pt
set_option linter.unusedVariables false
set_option linter.unusedSimpArgs false
def xA (xs : List Int) : ByteArray := if xs = [] then ⟨#[45]⟩ else b8 (xs.map yb) ⟨#[44]⟩
theorem gE (xs : List Int) (hm : xs.length ≤ 1048576) (hi : Ins xs) : Ev (fun k => vS k xs) (xA xs) := by
 refine Ev.step (fun k => Yv k xs) ?_
 unfold xA
 refine Ev.ite (fun h => Ev.some ?_) (fun h => ?_)
 ·have : xs = [] := by simp at h; exact h
  rw [if_pos this]
 ·have : ¬ xs = [] := by simp at h; exact h
  rw [if_neg this]
  exact Ev.bind (Td xs hm hi) (Ev.bind (TE _ _ 21 (by simpa using hm) (ja hi) (by omega) (by show (1 : Nat) ≤ _; omega)) (Ev.pure _))
end Qq
namespace Qq
open Go Go.Vt Pt
set_option linter.unusedVariables false
set_option linter.unusedSimpArgs false
set_option linter.unnecessarySimpa false
def numB (l : List UInt8) : Nat := l.foldl (fun a c => a * 10 + (c.toNat - 48)) 0
theorem byte48 {d : Nat} (h : d < 10) : (UInt8.ofNat (48 + d)).toNat = 48 + d := by
 rw [UInt8.toNat_ofNat']; omega
theorem jE : ∀ (n u : Nat), u ≤ n → numB (Lib.decDigits u) = u ∧ (∀ c ∈ Lib.decDigits u, 48 ≤ c.toNat ∧ c.toNat ≤ 57) ∧ Lib.decDigits u ≠ []
 | n, u, h => by
   by_cases hu : u < 10
   ·rw [fO hu]
    refine ⟨by simp only [numB, List.foldl_cons, List.foldl_nil, byte48 hu]; omega, fun c hc => ?_, by simp⟩
    have : c = UInt8.ofNat (48 + u) := by simpa using hc
    rw [this, byte48 hu]; omega
   ·match n, h with
    | 0, h => omega
    | n + 1, h =>
    have hd : u % 10 < 10 := Nat.mod_lt _ (by omega)
    obtain ⟨h1, h2, h3⟩ := jE n (u / 10) (by omega)
    rw [Wm hu]
    refine ⟨?_, fun c hc => ?_, by simp⟩
    ·unfold numB at h1 ⊢
     rw [List.foldl_append, h1]
     simp only [List.foldl_cons, List.foldl_nil, byte48 hd]
     omega
    ·rcases List.mem_append.1 hc with hc | hc
     ·exact h2 c hc
     ·have : c = UInt8.ofNat (48 + u % 10) := by simpa using hc
      rw [this, byte48 hd]; omega
theorem To (n : Int) : ∀ c ∈ Lib.itoa n, c ≠ 44 ∧ c ≠ 47 := by
 intro c hc
 have key : c = 45 ∨ (48 ≤ c.toNat ∧ c.toNat ≤ 57) := by
  unfold Lib.itoa at hc
  split at hc
  ·rcases List.mem_cons.1 hc with rfl | hc
   ·exact .inl rfl
   ·exact .inr ((jE _ _ (Nat.le_refl _)).2.1 c hc)
  ·exact .inr ((jE _ _ (Nat.le_refl _)).2.1 c hc)
 refine ⟨fun e => ?_, fun e => ?_⟩
 ·subst e
  rcases key with h | h
  ·exact absurd h (by decide)
  ·have : (44 : UInt8).toNat = 44 := rfl
   omega
 ·subst e
  rcases key with h | h
  ·exact absurd h (by decide)
  ·have : (47 : UInt8).toNat = 47 := rfl
   omega
theorem Rx {a b : Int} (h : Lib.itoa a = Lib.itoa b) : a = b := by
 have pos : ∀ (u : Nat) (l : List UInt8), Lib.decDigits u = 45 :: l → False := fun u l e => by
  have := ((jE _ u (Nat.le_refl _)).2.1 45 (by rw [e]; simp)).1
  exact absurd this (by decide)
 have val : ∀ u v : Nat, Lib.decDigits u = Lib.decDigits v → u = v := fun u v e => by
  rw [← (jE _ u (Nat.le_refl _)).1, ← (jE _ v (Nat.le_refl _)).1, e]
 unfold Lib.itoa at h
 split at h
 ·split at h
  ·have := val _ _ (List.cons.inj h).2
   omega
  ·exact (pos _ _ h.symm).elim
 ·split at h
  ·exact (pos _ _ h).elim
  ·have := val _ _ h
   omega
theorem P2 {s : UInt8} : ∀ {A A' B B' : List UInt8}, s ∉ A → s ∉ A' → A ++ s :: B = A' ++ s :: B' → A = A' ∧ B = B'
 | [], [], B, B', _, _, h => ⟨rfl, (List.cons.inj h).2⟩
 | [], y :: A', B, B', _, h2, h => (h2 (by rw [(List.cons.inj h).1]; simp)).elim
 | x :: A, [], B, B', h1, _, h => (h1 (by rw [← (List.cons.inj h).1]; simp)).elim
 | x :: A, y :: A', B, B', h1, h2, h => by
   have e := List.cons.inj h
   obtain ⟨e1, e2⟩ := P2 (A := A) (A' := A') (fun hm => h1 (by simp [hm])) (fun hm => h2 (by simp [hm])) e.2
   exact ⟨by rw [e.1, e1], e2⟩
theorem tail_cons (s : UInt8) (x : List UInt8) (r : List (List UInt8)) : Lib.joinTail [s] (x :: r) = s :: (x ++ Lib.joinTail [s] r) := by simp [Lib.joinTail]
theorem Rw {s : UInt8} : ∀ {x y : List UInt8} {r q : List (List UInt8)}, (∀ z ∈ x :: r, s ∉ z) → (∀ z ∈ y :: q, s ∉ z) → x ++ Lib.joinTail [s] r = y ++ Lib.joinTail [s] q → x :: r = y :: q
 | x, y, [], [], _, _, h => by simpa [Lib.joinTail] using h
 | x, y, [], z :: q, h1, _, h => by
   rw [tail_cons] at h
   exact (h1 x (by simp) (by have : s ∈ x ++ Lib.joinTail [s] [] := by rw [h]; simp
                             simpa [Lib.joinTail] using this)).elim
 | x, y, z :: r, [], _, h2, h => by
   rw [tail_cons] at h
   exact (h2 y (by simp) (by have : s ∈ y ++ Lib.joinTail [s] [] := by rw [← h]; simp
                             simpa [Lib.joinTail] using this)).elim
 | x, y, z :: r, u :: q, h1, h2, h => by
   rw [tail_cons, tail_cons] at h
   obtain ⟨e1, e2⟩ := P2 (h1 x (by simp)) (h2 y (by simp)) h
   rw [e1, Rw (fun w hw => h1 w (by simp [hw])) (fun w hw => h2 w (by simp [hw])) e2]
def keyB (c : Scene) : ByteArray := (xA c.1 ++ (⟨#[47]⟩ : ByteArray)) ++ yb c.2
theorem Vw (c : Scene) (h : c.1 ≠ []) : keyB c = strB (Lib.join (c.1.map Lib.itoa) [44] ++ 47 :: Lib.itoa c.2) := by
 unfold keyB xA yb
 rw [if_neg h]
 have e1 : b8 (c.1.map yb) ⟨#[44]⟩ = strB (Lib.join (c.1.map Lib.itoa) [44]) := by
  unfold b8 Tn
  rw [List.map_map]
  congr 2
 have e2 : (⟨#[47]⟩ : ByteArray) = strB [47] := rfl
 show b8 (c.1.map yb) ⟨#[44]⟩ ++ (⟨#[47]⟩ : ByteArray) ++ strB (Lib.itoa c.2) = _
 rw [e1, e2, Rd, Rd]
 congr 1
 simp
theorem XO {s : UInt8} (hs : s ≠ 44) : ∀ {x : List UInt8} {r : List (List UInt8)}, (∀ z ∈ x :: r, s ∉ z) → s ∉ x ++ Lib.joinTail [44] r
 | x, [], h => by simpa [Lib.joinTail] using h x (by simp)
 | x, y :: r, h => by
   rw [tail_cons]
   intro hm
   rcases List.mem_append.1 hm with hm | hm
   ·exact h x (by simp) hm
   ·rcases List.mem_cons.1 hm with hm | hm
    ·exact hs hm
    ·exact XO hs (x := y) (r := r) (fun z hz => h z (by simp at hz ⊢; exact .inr hz)) hm
theorem ZX : ∀ {p q : List Int}, p.map Lib.itoa = q.map Lib.itoa → p = q
 | [], [], _ => rfl
 | [], _ :: _, h => by simp at h
 | _ :: _, [], h => by simp at h
 | x :: p, y :: q, h => by
   simp only [List.map_cons, List.cons.injEq] at h
   rw [Rx h.1, ZX h.2]
theorem NO {c d : Scene} (hc : c.1 ≠ []) (hd : d.1 ≠ []) (h : keyB c = keyB d) : c = d := by
 rw [Vw c hc, Vw d hd] at h
 have h' : Lib.join (c.1.map Lib.itoa) [44] ++ 47 :: Lib.itoa c.2 = Lib.join (d.1.map Lib.itoa) [44] ++ 47 :: Lib.itoa d.2 := by
  have := congrArg (fun b => b.data.toList) h
  simpa [strB] using this
 obtain ⟨p, n⟩ := c
 obtain ⟨q, m⟩ := d
 cases p with
 | nil => exact (hc rfl).elim
 | cons x p =>
   cases q with
   | nil => exact (hd rfl).elim
   | cons y q =>
     rw [List.map_cons, List.map_cons, Lib.join_cons, Lib.join_cons] at h'
     have nb : ∀ (x : Int) (p : List Int), ∀ z ∈ Lib.itoa x :: p.map Lib.itoa, (47 : UInt8) ∉ z ∧ (44 : UInt8) ∉ z := fun x p z hz => by
      have : ∃ n, z = Lib.itoa n := by
       rcases List.mem_cons.1 hz with rfl | hz
       ·exact ⟨x, rfl⟩
       ·obtain ⟨n, _, rfl⟩ := List.mem_map.1 hz
        exact ⟨n, rfl⟩
      obtain ⟨n, rfl⟩ := this
      exact ⟨fun hm => (To n _ hm).2 rfl, fun hm => (To n _ hm).1 rfl⟩
     obtain ⟨e1, e2⟩ := P2 (XO (by decide) fun z hz => (nb x p z hz).1) (XO (by decide) fun z hz => (nb y q z hz).1) h'
     have e3 := Rw (fun z hz => (nb x p z hz).2) (fun z hz => (nb y q z hz).2) e1
     have e4 := ZX (p := x :: p) (q := y :: q) (by simpa using e3)
     have e5 := Rx e2
     dsimp only at e5
     rw [e4, e5]
theorem XC {l : List Scene} {x : Scene} (hl : ∀ c ∈ l, c.1 ≠ []) (hx : x.1 ≠ []) : jV (l.map keyB) (keyB x) = decide (x ∈ l) := by
 rw [Bool.eq_iff_iff, decide_eq_true_eq]
 unfold jV
 rw [List.any_eq_true]
 constructor
 ·rintro ⟨k, hk, he⟩
  obtain ⟨c, hc, rfl⟩ := List.mem_map.1 hk
  rw [NO hx (hl c hc) (beqBA he)]
  exact hc
 ·intro hm
  exact ⟨keyB x, List.mem_map.2 ⟨x, hm, rfl⟩, VN _⟩
theorem VA (c : Scene) (h : c.1.length ≤ 12) (hi : Ins c.1) (hn : In c.2) : Ev (fun k => jZ k c) (keyB c) := by
 obtain ⟨p, n⟩ := c
 have h1 : (xA p).size ≤ 1000 := by
  unfold xA
  split
  ·decide
  ·have := YP (B := 21) (S := 1) (⟨#[44]⟩ : ByteArray) (by decide) (p.map yb) (ja hi)
   rw [List.length_map] at this
   rw [b8, yU]
   have h : p.length ≤ 12 := h
   omega
 have h2 := yv n hn
 have h3 : (⟨#[47]⟩ : ByteArray).size = 1 := rfl
 refine Ev.step (fun k => Qr k (p, n)) (Ev.bind (gE p (by have h : p.length ≤ 12 := h; omega) hi) (Ev.yes (decide_eq_true (by omega)) (Ev.bind (zL n hn) (Ev.yes (decide_eq_true (by rw [ByteArray.size_append]; omega)) (Ev.some rfl)))))
end Qq
namespace Qq
open Go Go.Vt Pt
set_option linter.unusedVariables false
set_option linter.unusedSimpArgs false
end Qq
namespace Qq
open Go Go.Vt Pt
set_option linter.unusedVariables false
set_option linter.unusedSimpArgs false
def ji (t : yt) : List Int × Int × Bool := if zv t then (t.1, -1, true) else ([], 0, false)
theorem UI (t : yt) (a1 : t.1.length ≤ maxLen) (ai : Ins t.1) (a2 : t.2.1.length ≤ maxLen) : Ev (fun k => fu k t) (ji t) := by
 refine Ev.step (fun k => X4 k t) (Ev.bind (wn t a1 ai a2) (Ev.ite (fun h => Ev.some ?_) (fun h => ?_)))
 ·have : zv t = false := by simpa using h
  simp [ji, this]
 ·have e : zv t = true := by simpa using h
  have hl := yu e
  refine Ev.bind (xc t.1 (by omega)) ?_
  have : (!t.1.isEmpty) = true := by
   cases hx : t.1 with
   | nil => rw [hx] at hl; simp at hl
   | cons => rfl
  rw [this]
  exact Ev.some (by simp [ji, e])
end Qq
namespace Qq
open Go Go.Vt Pt
set_option linter.unusedVariables false
set_option linter.unusedSimpArgs false
end Qq
namespace Qq
open Go Go.Vt Pt
set_option linter.unusedVariables false
set_option linter.unusedSimpArgs false
set_option linter.unnecessarySimpa false
abbrev Way : Type := Scene × List Int
def addP (s : zP) (w : List Int) : Nat → List Scene → List Way → List Way
 | _, [], acc => acc
 | j, x :: r, acc => if x ∈ acc.map Prod.fst then addP s w (j + 1) r acc else addP s w (j + 1) r (acc ++ [(x, if s.1 = 2 then w ++ [(j : Int)] else w)])
def goP (s : zP) : List Way → List Way → List Way
 | [], acc => acc
 | c :: r, acc => goP s r (addP s c.2 0 (zp c.1 s) acc)
def fL : List zP → List Way → Option (List Way)
 | [], l => some l
 | s :: r, l => if (goP s l []).length ≤ 3000 then fL r (goP s l []) else none
def UK (n : Nat) (l : List Way) : Prop := ∀ c ∈ l, SceneOk n c.1
theorem SZ {n : Nat} (s : zP) (w : List Int) : ∀ (r : List Scene) (j : Nat) (acc : List Way), (∀ x ∈ r, SceneOk n x) → UK n acc → UK n (addP s w j r acc)
 | [], _, _, _, h => h
 | x :: r, j, acc, hr, h => by
   unfold addP
   split
   ·exact SZ s w r (j + 1) acc (fun y hy => hr y (by simp [hy])) h
   ·refine SZ s w r (j + 1) _ (fun y hy => hr y (by simp [hy])) (fun c hc => ?_)
    rcases List.mem_append.1 hc with hc | hc
    ·exact h c hc
    ·have : c = (x, if s.1 = 2 then w ++ [(j : Int)] else w) := by simpa using hc
     rw [this]; exact hr x (by simp)
theorem PO {n : Nat} {s : zP} (hs : zI (n : Int) s = true) : ∀ (l acc : List Way), UK n l → UK n acc → UK n (goP s l acc)
 | [], _, _, h => h
 | c :: r, acc, hl, h => PO hs r _ (fun d hd => hl d (by simp [hd])) (SZ s c.2 _ 0 acc (Zg (hl c (by simp)) hs) h)
def Sd (m : Nat) (l : List Way) : Prop := ∀ c ∈ l, c.2.length ≤ m
theorem UD {m : Nat} (s : zP) (w : List Int) (hw : w.length ≤ m) : ∀ (r : List Scene) (j : Nat) (acc : List Way), Sd (m + 1) acc → Sd (m + 1) (addP s w j r acc)
 | [], _, _, h => h
 | x :: r, j, acc, h => by
   unfold addP
   split
   ·exact UD s w hw r (j + 1) acc h
   ·refine UD s w hw r (j + 1) _ (fun c hc => ?_)
    rcases List.mem_append.1 hc with hc | hc
    ·exact h c hc
    ·have : c = (x, if s.1 = 2 then w ++ [(j : Int)] else w) := by simpa using hc
     rw [this]
     dsimp only
     split
     ·simp; omega
     ·omega
theorem PM {m : Nat} {s : zP} : ∀ (l acc : List Way), Sd m l → Sd (m + 1) acc → Sd (m + 1) (goP s l acc)
 | [], _, _, h => h
 | c :: r, acc, hl, h => PM r _ (fun d hd => hl d (by simp [hd])) (UD s c.2 (hl c (by simp)) _ 0 acc h)
end Qq
namespace Qq
open Go Go.Vt Pt
set_option linter.unusedVariables false
set_option linter.unusedSimpArgs false
set_option linter.unnecessarySimpa false
def canF (bad : Scene → Bool) : List zP → Scene → Bool
 | [], c => bad c
 | s :: r, c => (zp c s).any (canF bad r)
def VV (F : Scene → Bool) (s : zP) (w : Way) : Way :=
 let k := (zp w.1 s).findIdx F
 ((zp w.1 s).getD k ([], 0), if s.1 = 2 then w.2 ++ [(k : Int)] else w.2)
def firstW (bad : Scene → Bool) : List zP → Way → Way
 | [], w => w
 | s :: r, w => firstW bad r (VV (canF bad r) s w)
theorem YZ (s : zP) (w : List Int) : ∀ (r : List Scene) (j : Nat) (acc : List Way), ∃ m, addP s w j r acc = acc ++ m
 | [], _, acc => ⟨[], by simp [addP]⟩
 | x :: r, j, acc => by
   unfold addP
   split
   ·exact YZ s w r (j + 1) acc
   ·obtain ⟨m, hm⟩ := YZ s w r (j + 1) (acc ++ [(x, if s.1 = 2 then w ++ [(j : Int)] else w)])
    exact ⟨_, by rw [hm, List.append_assoc]⟩
theorem PN (s : zP) : ∀ (l acc : List Way), ∃ m, goP s l acc = acc ++ m
 | [], acc => ⟨[], by simp [goP]⟩
 | c :: r, acc => by
   unfold goP
   obtain ⟨m1, h1⟩ := YZ s c.2 (zp c.1 s) 0 acc
   obtain ⟨m2, h2⟩ := PN s r (addP s c.2 0 (zp c.1 s) acc)
   exact ⟨m1 ++ m2, by rw [h2, h1, List.append_assoc]⟩
theorem RF {α : Type} {p : α → Bool} {acc m : List α} {y : α} (h : acc.find? p = some y) : (acc ++ m).find? p = some y := by rw [List.find?_append, h]; rfl
theorem PW {α : Type} {p : α → Bool} {acc : List α} (h : ∀ a ∈ acc, p a = false) : acc.find? p = none := by
 rw [List.find?_eq_none]
 intro a ha
 rw [h a ha]; simp
theorem T8 (F : Scene → Bool) (s : zP) (w : List Int) : ∀ (xs : List Scene) (j : Nat) (acc : List Way), (∀ a ∈ acc, F a.1 = false) →
 (xs.any F = true → (addP s w j xs acc).find? (fun a => F a.1) = some (xs.getD (xs.findIdx F) ([], 0), if s.1 = 2 then w ++ [((j + xs.findIdx F : Nat) : Int)] else w)) ∧
 (xs.any F = false → ∀ a ∈ addP s w j xs acc, F a.1 = false)
 | [], j, acc, h => ⟨fun e => (by simp at e), fun _ => h⟩
 | x :: r, j, acc, h => by
   have jump : ∀ acc' : List Way, (∀ a ∈ acc', F a.1 = false) → F x = false → addP s w j (x :: r) acc = addP s w (j + 1) r acc' →
    ((x :: r).any F = true → (addP s w j (x :: r) acc).find? (fun a => F a.1) = some ((x :: r).getD ((x :: r).findIdx F) ([], 0), if s.1 = 2 then w ++ [((j + (x :: r).findIdx F : Nat) : Int)] else w)) ∧
    ((x :: r).any F = false → ∀ a ∈ addP s w j (x :: r) acc, F a.1 = false) := fun acc' ha hx e => by
    obtain ⟨i1, i2⟩ := T8 F s w r (j + 1) acc' ha
    have ei : (x :: r).findIdx F = r.findIdx F + 1 := by rw [List.findIdx_cons, hx]; rfl
    rw [List.any_cons, hx, Bool.false_or, e, ei]
    refine ⟨fun q => ?_, i2⟩
    rw [i1 q]
    have e1 : j + 1 + r.findIdx F = j + (r.findIdx F + 1) := by omega
    rw [e1]
    rfl
   by_cases hm : x ∈ acc.map Prod.fst
   ·obtain ⟨a, ha, rfl⟩ := List.mem_map.1 hm
    exact jump acc h (h a ha) (by rw [addP, if_pos hm])
   ·have e : addP s w j (x :: r) acc = addP s w (j + 1) r (acc ++ [(x, if s.1 = 2 then w ++ [(j : Int)] else w)]) := by rw [addP, if_neg hm]
    cases hx : F x with
    | false =>
      refine jump _ (fun a ha => ?_) hx e
      rcases List.mem_append.1 ha with ha | ha
      ·exact h a ha
      ·have : a = (x, if s.1 = 2 then w ++ [(j : Int)] else w) := by simpa using ha
       rw [this]; exact hx
    | true =>
      refine ⟨fun _ => ?_, fun q => (by rw [List.any_cons, hx] at q; cases q)⟩
      obtain ⟨m, hm2⟩ := YZ s w r (j + 1) (acc ++ [(x, if s.1 = 2 then w ++ [(j : Int)] else w)])
      have ei : (x :: r).findIdx F = 0 := by rw [List.findIdx_cons, hx]; rfl
      rw [e, hm2, ei]
      refine RF ?_
      rw [List.find?_append, PW h]
      simp [hx]
theorem RD (F : Scene → Bool) (s : zP) : ∀ (l acc : List Way), (∀ a ∈ acc, F a.1 = false) →
 (goP s l acc).find? (fun a => F a.1) = (l.find? (fun c => (zp c.1 s).any F)).map (VV F s)
 | [], acc, h => by
   show acc.find? _ = none
   exact PW h
 | c :: r, acc, h => by
   obtain ⟨i1, i2⟩ := T8 F s c.2 (zp c.1 s) 0 acc h
   unfold goP
   rw [List.find?_cons]
   cases hc : (zp c.1 s).any F with
   | true =>
     obtain ⟨m, hm⟩ := PN s r (addP s c.2 0 (zp c.1 s) acc)
     rw [hm, RF (i1 hc)]
     unfold VV
     simp
   | false => exact RD F s r _ (i2 hc)
theorem TN (bad : Scene → Bool) : ∀ (r : List zP) (l A : List Way), fL r l = some A → A.find? (fun w => bad w.1) = (l.find? (fun w => canF bad r w.1)).map (firstW bad r)
 | [], l, A, h => by
   cases h
   show _ = (l.find? (fun w => bad w.1)).map (fun w => w)
   simp
 | s :: r, l, A, h => by
   unfold fL at h
   split at h
   ·rw [TN bad r _ A h, RD (canF bad r) s l [] (fun a ha => by cases ha)]
    rw [Option.map_map]
    rfl
   ·cases h
end Qq
namespace Qq
open Go Go.Vt Pt
set_option linter.unusedVariables false
set_option linter.unusedSimpArgs false
set_option linter.unnecessarySimpa false
theorem wZ (s : zP) (r : List zP) (l : List Way) : fL (s :: r) l = if (goP s l []).length ≤ 3000 then fL r (goP s l []) else none := rfl
def yI (t : yt) : List Way := [((t.1, -1), [])]
theorem xd {t : yt} (h : zv t = true) : SceneOk t.1.length (t.1, -1) ∧ (∀ s ∈ t.2.1, zI (t.1.length : Int) s = true) := by
 refine ⟨⟨(yu h).2.2.2, rfl, by show (-1 : Int) ≤ -1; decide, by show (-1 : Int) < 12; decide⟩, ?_⟩
 unfold zv at h
 simp only [Bool.and_eq_true] at h
 exact fun s hs => List.all_eq_true.1 h.2.2.2.1 s hs
theorem gO {t : yt} (h : zv t = true) : UK t.1.length (yI t) := by
 intro c hc
 have e : c = ((t.1, -1), []) := by simpa [yI] using hc
 rw [e]
 exact (xd h).1
theorem R3 (t : yt) : Sd 0 (yI t) := by
 intro c hc
 have e : c = ((t.1, -1), []) := by simpa [yI] using hc
 rw [e]
 simp
def addU : List Scene → List Scene → List Scene
 | [], acc => acc | x :: r, acc => if x ∈ acc then addU r acc else addU r (acc ++ [x])
def goU (s : zP) : List Scene → List Scene → List Scene
 | [], acc => acc | c :: r, acc => goU s r (addU (zp c s) acc)
theorem UC : ∀ (r acc : List Scene), acc.length ≤ (addU r acc).length ∧ (addU r acc).length ≤ acc.length + r.length
 | [], _ => ⟨Nat.le_refl _, Nat.le_refl _⟩
 | x :: r, acc => by
   unfold addU
   split
   ·have := UC r acc; simp only [List.length_cons]; omega
   ·have := UC r (acc ++ [x]); simp only [List.length_cons, List.length_append, List.length_nil] at this ⊢; omega
theorem PL (s : zP) : ∀ (l acc : List Scene), acc.length ≤ (goU s l acc).length
 | [], _ => Nat.le_refl _
 | c :: r, acc => Nat.le_trans (UC _ acc).1 (PL s r _)
theorem UE (s : zP) (w : List Int) : ∀ (r : List Scene) (j : Nat) (acc : List Way), (addP s w j r acc).map Prod.fst = addU r (acc.map Prod.fst)
 | [], _, _ => rfl
 | x :: r, j, acc => by
   unfold addP addU
   by_cases h : x ∈ acc.map Prod.fst
   ·rw [if_pos h, if_pos h, UE]
   ·rw [if_neg h, if_neg h, UE, List.map_append]; rfl
theorem PP (s : zP) : ∀ (l acc : List Way), (goP s l acc).map Prod.fst = goU s (l.map Prod.fst) (acc.map Prod.fst)
 | [], _ => rfl
 | c :: r, acc => by unfold goP goU; rw [PP, UE]; rfl
def SAll (n : Nat) (l : List Scene) : Prop := ∀ c ∈ l, SceneOk n c
theorem UQ {t : yt} (h : zv t = true) : SAll t.1.length [(t.1, -1)] := by
 intro c hc
 have e : c = (t.1, -1) := by simpa using hc
 rw [e]
 exact (xd h).1
def levU : List zP → List Scene → Option (List (List Scene))
 | [], l => some [l]
 | s :: r, l => if (goU s l []).length ≤ 3000 then (levU r (goU s l [])).map (l :: ·) else none
theorem XJ (s : zP) (r : List zP) (l : List Scene) : levU (s :: r) l = if (goU s l []).length ≤ 3000 then (levU r (goU s l [])).map (l :: ·) else none := rfl
def outU (pre : List (List Scene)) : Option (List (List Scene)) → List (List Scene) × Bool
 | some l => (pre ++ l, true) | none => ([], false)
def resU (pre : List (List Scene)) (r : List zP) (A : List Scene) : List (List Scene) × Bool := if A.length ≤ 3000 then outU pre (levU r A) else outU pre none
theorem Vv {n : Nat} (h1 : 1 ≤ n) {c : Scene} (hc : SceneOk n c) : c.1 ≠ [] := fun e => by have := hc.len; rw [e] at this; simp at this; omega
theorem V9 : ∀ (r : List zP) (l : List Way), (levU r (l.map Prod.fst)).map (fun L => L.getLastD []) = (fL r l).map (fun A => A.map Prod.fst) ∧ (∀ L, levU r (l.map Prod.fst) = some L → L.length = r.length + 1)
 | [], l => ⟨rfl, fun L h => by cases h; rfl⟩
 | s :: r, l => by
   have e : goU s (l.map Prod.fst) [] = (goP s l []).map Prod.fst := by rw [PP]; rfl
   have hlen : (goU s (l.map Prod.fst) []).length = (goP s l []).length := by rw [e, List.length_map]
   obtain ⟨h1, h2⟩ := V9 r (goP s l [])
   rw [XJ, wZ, hlen, e]
   by_cases hc : (goP s l []).length ≤ 3000
   ·rw [if_pos hc, if_pos hc]
    constructor
    ·rw [← h1]
     cases hL : levU r ((goP s l []).map Prod.fst) with
     | none => rfl
     | some L =>
       have := h2 L hL
       cases L with
       | nil => simp at this
       | cons a L => simp [List.getLastD]
    ·intro L hL
     obtain ⟨L', hL', rfl⟩ := Option.map_eq_some_iff.1 hL
     rw [List.length_cons, h2 L' hL', List.length_cons]
   ·rw [if_neg hc, if_neg hc]
    exact ⟨rfl, fun L hL => by cases hL⟩
def uZ (t : yt) : Option (List Way) := fL t.2.1 (yI t)
def xP (t : yt) : List Scene × Bool :=
 if zv t then (match uZ t with | some A => (A.map Prod.fst, true) | none => ([], false)) else ([], false)
theorem bp : ∀ (r : List zP) (l : List Way) (A : List Way), l.length ≤ 3000 → fL r l = some A → A.length ≤ 3000
 | [], l, A, hl, h => by cases h; exact hl
 | s :: r, l, A, hl, h => by
   rw [wZ] at h
   split at h
   ·rename_i hc; exact bp r _ A hc h
   ·cases h
theorem aE {n : Nat} : ∀ (r : List zP) (l : List Way) (A : List Way), (∀ s ∈ r, zI (n : Int) s = true) → UK n l → fL r l = some A → UK n A
 | [], l, A, _, hl, h => by cases h; exact hl
 | s :: r, l, A, hs, hl, h => by
   rw [wZ] at h
   split at h
   ·exact aE r _ A (fun q hq => hs q (by simp [hq])) (PO (hs s (by simp)) l [] hl (fun c hc => by cases hc)) h
   ·cases h
theorem Uz (t : yt) : (xP t).1.length ≤ 3000 ∧ SAll t.1.length (xP t).1 := by
 unfold xP
 split
 ·rename_i h
  cases hE : uZ t with
  | none => exact ⟨Nat.zero_le _, fun c hc => by cases hc⟩
  | some A =>
    obtain ⟨h1, h2, h3, h4⟩ := yu h
    have hs := xd h
    refine ⟨by show (A.map Prod.fst).length ≤ _; rw [List.length_map]; exact bp _ _ A (by simp [yI]) hE, fun c hc => ?_⟩
    obtain ⟨d, hd, rfl⟩ := List.mem_map.1 (show c ∈ A.map Prod.fst from hc)
    exact aE t.2.1 (yI t) A hs.2 (gO h) hE d hd
 ·exact ⟨Nat.zero_le _, fun c hc => by cases hc⟩
end Qq
namespace Qq
open Go Go.Vt Pt
set_option linter.unusedVariables false
set_option linter.unusedSimpArgs false
set_option linter.unnecessarySimpa false
theorem MK {n : Nat} {p0 : List Int} {c : Scene} {s : zP} (hc : SceneOk n c) (hp : Pm c.1 p0) (hs : zI (n : Int) s = true) : ∀ d ∈ zp c s, Pm d.1 p0 := by
 obtain ⟨h1, h2, hk⟩ := wT hs
 intro d hd
 unfold zp at hd
 rcases hk with ⟨e, m⟩ | ⟨e, c0, c4, c3, c2⟩ | ⟨e, a0, an⟩
 ·rw [if_pos e] at hd
  have hd : d = (fM c.1 s.2.1, c.2) := by simpa using hd
  subst hd
  exact (TU (by rw [hc.len]; exact m)).trans hp
 ·rw [if_neg (by omega), if_neg (by omega)] at hd
  obtain ⟨q, hq, rfl⟩ := List.mem_map.1 hd
  exact (RJ q ((YJ _ q).1 hq)).trans hp
 ·rw [if_neg (by omega), if_pos e] at hd
  have hd : d = (c.1, card (c.1.getD s.2.2.toNat 0)) := by simpa using hd
  subst hd
  exact hp
theorem UF {Q : Scene → Prop} (s : zP) (w : List Int) : ∀ (r : List Scene) (j : Nat) (acc : List Way), (∀ x ∈ r, Q x) → (∀ c ∈ acc, Q c.1) → ∀ c ∈ addP s w j r acc, Q c.1
 | [], _, _, _, h => h
 | x :: r, j, acc, hr, h => by
   unfold addP
   split
   ·exact UF s w r (j + 1) acc (fun y hy => hr y (by simp [hy])) h
   ·refine UF s w r (j + 1) _ (fun y hy => hr y (by simp [hy])) (fun c hc => ?_)
    rcases List.mem_append.1 hc with hc | hc
    ·exact h c hc
    ·have : c = (x, if s.1 = 2 then w ++ [(j : Int)] else w) := by simpa using hc
     rw [this]; exact hr x (by simp)
theorem PQ {Q : Scene → Prop} {s : zP} (hQ : ∀ c, Q c → ∀ d ∈ zp c s, Q d) : ∀ (l acc : List Way), (∀ c ∈ l, Q c.1) → (∀ c ∈ acc, Q c.1) → ∀ c ∈ goP s l acc, Q c.1
 | [], _, _, h => h
 | c :: r, acc, hl, h => PQ hQ r _ (fun d hd => hl d (by simp [hd])) (UF s c.2 _ 0 acc (hQ c.1 (hl c (by simp))) h)
theorem TR {Q : Scene → Prop} : ∀ (r : List zP) (l : List Way) (A : List Way), (∀ s ∈ r, ∀ c, Q c → ∀ d ∈ zp c s, Q d) → (∀ c ∈ l, Q c.1) → fL r l = some A → ∀ c ∈ A, Q c.1
 | [], l, A, _, hl, h => by cases h; exact hl
 | s :: r, l, A, hs, hl, h => by
   rw [wZ] at h
   split at h
   ·exact TR r _ A (fun q hq => hs q (by simp [hq])) (PQ (hs s (by simp)) l [] hl (fun c hc => by cases hc)) h
   ·cases h
theorem Rk (c : Int) : ∀ (q : List Int) (i : Nat), c ∈ q.map card → 0 ≤ posF c i q
 | [], _, h => by simp at h
 | x :: q, i, h => by
   unfold posF
   split
   ·omega
   ·rename_i hne
    refine Rk c q (i + 1) ?_
    rw [List.map_cons, List.mem_cons] at h
    rcases h with h | h
    ·exact (hne h.symm).elim
    ·exact h
theorem NQ {p q : List Int} (h : zj p = true) (hq : Pm q p) : WR p q = true := by
 have h2 := jS h hq
 unfold WR
 rw [h, h2.1, h2.2]
 simp only [Bool.true_and, Bool.and_eq_true, beq_self_eq_true, List.all_eq_true, decide_eq_true_eq, true_and]
 intro x hx
 have hc := ((yp h).2.1 x hx).1
 unfold pos
 rw [if_neg (by omega)]
 exact Rk _ q 0 (hq.mem_iff.2 (List.mem_map.2 ⟨x, hx, rfl⟩))
theorem UA {t : yt} (h : zv t = true) : ∀ c ∈ (xP t).1, WR t.1 c.1 = true := by
 unfold xP
 rw [if_pos h]
 cases hE : uZ t with
 | none => intro c hc; cases hc
 | some A =>
   intro c hc
   obtain ⟨d, hd, rfl⟩ := List.mem_map.1 (show c ∈ A.map Prod.fst from hc)
   have hs := xd h
   have := TR (Q := fun c => SceneOk t.1.length c ∧ Pm c.1 t.1) t.2.1 (yI t) A (fun s hss c hc d hd => ⟨Zg hc.1 (hs.2 s hss) d hd, MK hc.1 hc.2 (hs.2 s hss) d hd⟩) (fun c hc => by
    have e : c = ((t.1, -1), []) := by simpa [yI] using hc
    rw [e]
    exact ⟨hs.1, List.Perm.refl _⟩) hE d hd
   exact NQ (yu h).2.2.2 this.2
end Qq
namespace Qq
open Go Go.Vt Pt
set_option linter.unusedVariables false
def Yf (t : yt) : Int := if zv t then (countK (· == 2) t.2.1 : Int) else -1
end Qq
namespace Qq
open Go Go.Vt Pt
set_option linter.unusedVariables false
set_option linter.unusedSimpArgs false
set_option linter.unnecessarySimpa false
def runL : List Step → Scene → List Int → List Int × Int × Bool
 | [], c, _ => (c.1, c.2, true)
 | s :: r, c, ps =>
   let k := if s.1 = 2 then ps.getD 0 0 else 0
   if 0 ≤ k ∧ k < (zp c s).length then runL r ((zp c s).getD k.toNat ([], 0)) (if s.1 = 2 then ps.drop 1 else ps) else ([], 0, false)
def runTrick (t : yt) (ps : List Int) : List Int × Int × Bool :=
 if zv t = true ∧ (ps.length : Int) = Yf t then runL t.2.1 (t.1, -1) ps else ([], 0, false)
end Qq
namespace Qq
open Go Go.Vt Pt
set_option linter.unusedVariables false
set_option linter.unusedSimpArgs false
end Qq
namespace Qq
open Go Go.Vt Pt
set_option linter.unusedVariables false
set_option linter.unusedSimpArgs false
set_option linter.unnecessarySimpa false
theorem UB (d : Scene) : ∀ (r acc : List Scene), d ∈ addU r acc ↔ (d ∈ r ∨ d ∈ acc)
 | [], acc => by simp [addU]
 | x :: r, acc => by
   unfold addU
   by_cases h : x ∈ acc
   ·rw [if_pos h, UB d r acc, List.mem_cons]
    constructor
    ·rintro (h1 | h1); exact .inl (.inr h1); exact .inr h1
    ·rintro ((h1 | h1) | h1); exact .inr (h1 ▸ h); exact .inl h1; exact .inr h1
   ·rw [if_neg h, UB d r _, List.mem_cons, List.mem_append, List.mem_singleton]
    constructor
    ·rintro (h1 | h1 | h1); exact .inl (.inr h1); exact .inr h1; exact .inl (.inl h1)
    ·rintro ((h1 | h1) | h1); exact .inr (.inr h1); exact .inl h1; exact .inr (.inl h1)
theorem Zy : ∀ (r acc : List Scene), acc.Nodup → (addU r acc).Nodup
 | [], acc, h => h
 | x :: r, acc, h => by
   unfold addU
   by_cases hx : x ∈ acc
   ·rw [if_pos hx]; exact Zy r acc h
   ·rw [if_neg hx]
    refine Zy r _ ?_
    rw [List.nodup_append]
    refine ⟨h, by simp, fun a ha b hb e => hx ?_⟩
    have : b = x := by simpa using hb
    rw [← this, ← e]; exact ha
theorem SD (s : zP) (d : Scene) : ∀ (l acc : List Scene), d ∈ goU s l acc ↔ ((∃ c ∈ l, d ∈ zp c s) ∨ d ∈ acc)
 | [], acc => by simp [goU]
 | c :: r, acc => by
   unfold goU
   rw [SD s d r, UB]
   constructor
   ·rintro (⟨c', h1, h2⟩ | h1 | h1)
    ·exact .inl ⟨c', by simp [h1], h2⟩
    ·exact .inl ⟨c, by simp, h1⟩
    ·exact .inr h1
   ·rintro (⟨c', h1, h2⟩ | h1)
    ·rcases List.mem_cons.1 h1 with h1 | h1
     ·exact .inr (.inl (h1 ▸ h2))
     ·exact .inl ⟨c', h1, h2⟩
    ·exact .inr (.inr h1)
theorem TL (s : zP) : ∀ (l acc : List Scene), acc.Nodup → (goU s l acc).Nodup
 | [], acc, h => h
 | c :: r, acc, h => TL s r _ (Zy _ _ h)
end Qq
namespace Qq
open Go Go.Vt Pt
set_option linter.unusedVariables false
set_option linter.unusedSimpArgs false
set_option linter.unnecessarySimpa false
end Qq
namespace Qq
open Go Go.Vt Pt
set_option linter.unusedVariables false
set_option linter.unusedSimpArgs false
set_option linter.unnecessarySimpa false
theorem bH {α : Type} {l : List α} {i : Nat} {d : α} (h : i < l.length) : l.set i (l.getD i d) = l := by
 rw [List.getD, List.getElem?_eq_getElem h]; simp
theorem ff {n : Nat} (h1n : 1 ≤ n) (hn : n ≤ 12) (steps : List zP) (si : Nat) (l : List Scene) (hl : l.length ≤ 3000) (ci : Nat) (s : zP) (out : List (List Scene)) (rs : List zP) (rc : List Scene) (nx : List Scene) (hnx : nx.length ≤ 4096)
 (K : ∀ acc : List Scene, acc.length ≤ 3000 → SAll n acc → Ev (fun k => uj k steps (steps.length : Int) (si : Int) (l.length : Int) ((ci + 1 : Nat) : Int) out si s.1 s.2.1.1 s.2.1.2 s.2.2 (acc.map keyB) acc l) (resU out rs (goU s rc acc))) :
 ∀ (xs : List Scene) (j : Nat) (acc : List Scene), nx.drop j = xs → SAll n xs → acc.length + xs.length ≤ 8000 → SAll n acc → ci < 3000 →
   Ev (fun k => vr k steps (steps.length : Int) (si : Int) (l.length : Int) (ci : Int) (nx.length : Int) (j : Int) out si s.1 s.2.1.1 s.2.1.2 s.2.2 (acc.map keyB) acc l nx j) (resU out rs (goU s rc (addU xs acc)))
 | [], j, acc, h, hx, ha, hk, hci => by
   have a := yK h
   have ew : IntKind.i64.wrap ((ci : Int) + 1) = ((ci + 1 : Nat) : Int) := by rw [zi (by omega) (by omega)]; omega
   refine Ev.step (fun k => fl k _ _ _ _ _ _ _ _ _ _ _ _ _ _ _ _ _ _) ?_
   simp only [a.g, cond_false, ew]
   unfold addU
   refine Ev.ite (fun h2 => Ev.some ?_) (fun h2 => ?_)
   ·unfold resU
    rw [if_neg]
    ·rfl
    ·have := PL s rc acc
     have h3 : (acc.length : Int) > 3000 := by simpa using h2
     omega
   ·have h3 : ¬ (acc.length : Int) > 3000 := by simpa using h2
    exact K acc (by omega) hk
 | x :: xs, j, acc, h, hx, ha, hk, hci => by
   have a := zK h (by rw [ze]; omega)
   have hxo := hx x (by simp)
   have hxi := yY hxo.ok
   have hx0 := hxo.n0
   have hx12 := hxo.n12
   have hkx := VA x (by rw [hxo.len]; exact hn) hxi (by unfold In; omega)
   have hmp := XC (l := acc) (x := x) (fun c hc => Vv h1n (hk c hc)) (Vv h1n hxo)
   have hbeq : Nat.beq (j : Int).toNat j = true := by simp
   rw [List.length_cons] at ha
   have ih := fun acc ha hk => ff h1n hn steps si l hl ci s out rs rc nx hnx K xs (j + 1) acc a.next (fun y hy => hx y (by simp [hy])) ha hk hci
   refine Ev.step (fun k => fl k _ _ _ _ _ _ _ _ _ _ _ _ _ _ _ _ _ _) ?_
   simp only [a.g, a.z, a.n, a.get, a.w, hbeq, cond_true]
   unfold addU
   refine Ev.bind hkx ?_
   rw [hmp]
   by_cases hm : x ∈ acc
   ·rw [if_pos hm, decide_eq_true hm]
    exact Ev.no rfl (ih acc (by omega) hk)
   ·rw [if_neg hm, decide_eq_false hm]
    refine Ev.yes rfl (Ev.yes (by rw [zb]; simp; omega) ?_)
    have := ih (acc ++ [x]) (by simp; omega) (fun c hc => by
     rcases List.mem_append.1 hc with hc | hc
     ·exact hk c hc
     ·have : c = x := by simpa using hc
      rw [this]; exact hxo)
    simpa using this
theorem eX {n : Nat} (h1n : 1 ≤ n) (hn : n ≤ 12) (steps : List zP) (h12 : steps.length ≤ 12) (si : Nat) (hsi : si < steps.length) (l : List Scene) (hl : l.length ≤ 3000) (hok : SAll n l) (s : zP) (hs : zI (n : Int) s = true) (out : List (List Scene)) (hout : out.length = si + 1) (hoi : out.set si l = out) (rs : List zP)
 (K : ∀ acc : List Scene, acc.length ≤ 3000 → SAll n acc → Ev (fun k => uk k steps (steps.length : Int) ((si + 1 : Nat) : Int) (out ++ [acc])) (outU out (levU rs acc))) :
 ∀ (rc : List Scene) (ci : Nat) (acc : List Scene), l.drop ci = rc → acc.length ≤ 3000 → SAll n acc →
   Ev (fun k => uj k steps (steps.length : Int) (si : Int) (l.length : Int) (ci : Int) out si s.1 s.2.1.1 s.2.1.2 s.2.2 (acc.map keyB) acc l) (resU out rs (goU s rc acc))
 | [], ci, acc, h, ha, hk => by
   have a := yK h
   have ew : IntKind.i64.wrap ((si : Int) + 1) = ((si + 1 : Nat) : Int) := by rw [zi (by omega) (by omega)]; omega
   refine Ev.step (fun k => ce k _ _ _ _ _ _ _ _ _ _ _ _ _ _) ?_
   simp only [a.g, cond_false, ew, hoi]
   unfold goU resU
   rw [if_pos ha]
   exact Ev.yes (by rw [zb]; simp; omega) (K acc ha hk)
 | c :: rc, ci, acc, h, ha, hk => by
   have a := zK h (by rw [ze]; omega)
   have hlt := a.lt
   have hco := hok c a.mem
   have hnl := YO hco hs
   have hst : l.set (ci : Int).toNat c = l := by
    have := bH (d := (([], 0) : Scene)) hlt
    rw [a.gt] at this
    simpa using this
   refine Ev.step (fun k => ce k _ _ _ _ _ _ _ _ _ _ _ _ _ _) ?_
   simp only [a.g, a.z, a.n, a.get, hst, cond_true]
   refine Ev.bind (ut hco hs) ?_
   unfold goU
   exact ff h1n hn steps si l hl ci s out rs rc (zp c s) hnl.2
    (fun acc ha hk => eX h1n hn steps h12 si hsi l hl hok s hs out hout hoi rs K rc (ci + 1) acc a.next ha hk)
    (zp c s) 0 acc rfl (Zg hco hs) (by omega) hk (by omega)
theorem eY {n : Nat} (h1n : 1 ≤ n) (hn : n ≤ 12) (steps : List zP) (h12 : steps.length ≤ 12) : ∀ (rs : List zP) (si : Nat) (pre : List (List Scene)) (l : List Scene), steps.drop si = rs → (∀ s ∈ rs, zI (n : Int) s = true) → pre.length = si → l.length ≤ 3000 → SAll n l →
 Ev (fun k => uk k steps (steps.length : Int) (si : Int) (pre ++ [l])) (outU pre (levU rs l))
 | [], si, pre, l, h, hs, hp, hl, hok => by
   have a := yK h
   refine Ev.step (fun k => cf k _ _ _ _) ?_
   simp only [a.g, cond_false]
   exact Ev.some rfl
 | s :: rs, si, pre, l, h, hs, hp, hl, hok => by
   have a := zK h (by rw [ze]; omega)
   have hlt := a.lt
   have hso := hs s (by simp)
   have g1 : decide ((si : Int) < ((pre ++ [l]).length : Int)) = true := decide_eq_true (by simp; omega)
   have g2 : decide ((si : Int).toNat < (pre ++ [l]).length) = true := decide_eq_true (by simp; omega)
   have hg : (pre ++ [l]).getD (si : Int).toNat [] = l := by
    rw [Int.toNat_natCast, List.getD, ← hp, List.getElem?_append_right (Nat.le_refl _)]; simp
   have hoi : (pre ++ [l]).set si l = pre ++ [l] := by
    have h1 : si < (pre ++ [l]).length := by simp; omega
    have := bH (d := ([] : List Scene)) h1
    rw [show (pre ++ [l]).getD si [] = l by simpa using hg] at this
    exact this
   refine Ev.step (fun k => cf k _ _ _ _) ?_
   simp only [a.g, a.z, a.get, g1, g2, hg, cond_true]
   simp only [Int.toNat_natCast]
   have := eX h1n hn steps h12 si hlt l hl hok s hso (pre ++ [l]) (by simp [hp]) hoi rs (fun acc ha hk => eY h1n hn steps h12 rs (si + 1) (pre ++ [l]) acc a.next (fun q hq => hs q (by simp [hq])) (by simp [hp]) ha hk)
    l 0 [] rfl (by simp) (fun c hc => by cases hc)
   refine this.to ?_
   rw [XJ]
   unfold resU
   split
   ·cases levU rs (goU s l []) with
    | none => rfl
    | some L => simp [outU]
   ·rfl
theorem XP (t : yt) (h : zv t = true) (a1 : t.1.length ≤ maxLen) (ai : Ins t.1) (a2 : t.2.1.length ≤ maxLen) : Ev (fun k => YQ k t) (outU [] (levU t.2.1 [(t.1, -1)])) := by
 obtain ⟨h1, h2, h3, h4⟩ := yu h
 have hs := xd h
 refine Ev.step (fun k => Sx k t) (Ev.bind (UI t a1 ai a2) ?_)
 have e : ji t = (t.1, -1, true) := by unfold ji; rw [if_pos h]
 rw [e]
 exact eY h2 h3 t.2.1 h1 t.2.1 0 [] [(t.1, -1)] rfl hs.2 rfl (by simp) (UQ h)
theorem WQ (t : yt) (a1 : t.1.length ≤ maxLen) (ai : Ins t.1) (a2 : t.2.1.length ≤ maxLen) : Ev (fun k => bn k t) (xP t) := by
 refine Ev.step (fun k => W6 k t) (Ev.bind (wn t a1 ai a2) (Ev.ite (fun h => Ev.some ?_) (fun h => ?_)))
 ·have : zv t = false := by simpa using h
  simp [xP, this]
 ·have e : zv t = true := by simpa using h
  obtain ⟨h1, h2⟩ := V9 t.2.1 (yI t)
  have hst : (yI t).map Prod.fst = [(t.1, -1)] := rfl
  rw [hst] at h1 h2
  refine Ev.bind (XP t e a1 ai a2) ?_
  unfold xP uZ
  rw [if_pos e]
  cases hL : levU t.2.1 [(t.1, -1)] with
  | none =>
    rw [hL] at h1
    cases hE : fL t.2.1 (yI t) with
    | some A => rw [hE] at h1; cases h1
    | none => exact Ev.yes rfl (Ev.pure _)
  | some L =>
    rw [hL] at h1
    cases hE : fL t.2.1 (yI t) with
    | none => rw [hE] at h1; cases h1
    | some A =>
      rw [hE] at h1
      have hlast : L.getLastD [] = A.map Prod.fst := Option.some.inj h1
      have hlen := h2 L hL
      have h12 := (yu e).1
      have ew : IntKind.i64.wrap ((L.length : Int) - 1) = ((L.length - 1 : Nat) : Int) := by rw [zi (by omega) (by omega)]; omega
      simp only [outU, List.nil_append, ew]
      refine Ev.no rfl (Ev.yes (by simp) (Ev.yes (by simp; omega) (Ev.yes (by simp; omega) (Ev.some ?_))))
      show (L.getD ((L.length - 1 : Nat) : Int).toNat [], true) = (A.map Prod.fst, true)
      rw [← hlast, Int.toNat_natCast]
      congr 1
      cases L with
      | nil => simp at hlen
      | cons a L => rw [List.getLastD_cons, List.getD, ← List.getLast?_eq_getElem?, List.getLast?_cons]; simp [List.getLastD_eq_getLast?]
end Qq
namespace Qq
open Go Go.Vt Pt
set_option linter.unusedVariables false
set_option linter.unusedSimpArgs false
set_option linter.unnecessarySimpa false
abbrev VdR : Type := Int × List Int × List Int × Int × Bool
def SF (o : Option Way) : VdR := match o with | some w => (2, w.2, w.1.1, w.1.2, true) | none => (1, [], [], 0, true)
def wa (t : yt) : VdR :=
 if zv t then (match uZ t with | none => (3, [], [], 0, true) | some A => SF (A.find? (fun w => !uY t w.1))) else (0, [], [], 0, false)
def LevOk (n : Nat) : List zP → List (List Scene) → Prop
 | [], [L] => SAll n L ∧ L.Nodup ∧ L.length ≤ 3000
 | s :: r, L :: L2 :: Ls => (SAll n L ∧ L.Nodup ∧ L.length ≤ 3000) ∧ zI (n : Int) s = true ∧ (∀ c ∈ L, ∀ d ∈ zp c s, d ∈ L2) ∧ LevOk n r (L2 :: Ls)
 | _, _ => False
theorem Po {n : Nat} : ∀ (r : List zP) (l : List Scene) (Ls : List (List Scene)), (∀ s ∈ r, zI (n : Int) s = true) → SAll n l → l.Nodup → l.length ≤ 3000 → levU r l = some Ls → LevOk n r Ls ∧ ∃ q, Ls = l :: q
 | [], l, Ls, _, ho, hn, hl, h => by cases h; exact ⟨⟨ho, hn, hl⟩, _, rfl⟩
 | s :: r, l, Ls, hs, ho, hn, hl, h => by
   rw [XJ] at h
   split at h
   ·rename_i hc
    obtain ⟨L', hL', rfl⟩ := Option.map_eq_some_iff.1 h
    have ho2 : SAll n (goU s l []) := fun d hd => by
     rw [SD] at hd
     rcases hd with ⟨c, h1, h2⟩ | hd
     ·exact Zg (ho c h1) (hs s (by simp)) d h2
     ·cases hd
    obtain ⟨h1, q, rfl⟩ := Po r _ L' (fun u hu => hs u (by simp [hu])) ho2 (TL s l [] List.nodup_nil) hc hL'
    exact ⟨⟨⟨ho, hn, hl⟩, hs s (by simp), fun c hcl d hd => (SD s d l []).2 (.inl ⟨c, hcl, hd⟩), h1⟩, _, rfl⟩
   ·cases h
theorem LevOk.len {n : Nat} : ∀ {r : List zP} {Ls : List (List Scene)}, LevOk n r Ls → Ls.length = r.length + 1
 | [], [L], _ => rfl
 | s :: r, L :: L2 :: Ls, h => by have := LevOk.len h.2.2.2; simp at this ⊢; omega
 | [], [], h => h.elim
 | [], _ :: _ :: _, h => h.elim
 | _ :: _, [], h => h.elim
 | _ :: _, [_], h => h.elim
def rowM (bad : Scene → Bool) : List zP → List (List Scene) → List (Option (List ByteArray))
 | r, L :: Ls => some ((L.filter (canF bad r)).map keyB) :: rowM bad (r.drop 1) Ls
 | _, [] => []
theorem YM (bad : Scene → Bool) : ∀ (r : List zP) (Ls : List (List Scene)), (rowM bad r Ls).length = Ls.length
 | r, [] => rfl
 | r, L :: Ls => by unfold rowM; rw [List.length_cons, YM, List.length_cons]
theorem MS {n : Nat} (h1 : 1 ≤ n) {l : List Scene} (hl : SAll n l) {x : Scene} (hx : SceneOk n x) : setHas (some (l.map keyB)) (keyB x) = decide (x ∈ l) :=
 XC (fun c hc => Vv h1 (hl c hc)) (Vv h1 hx)
theorem Pv {n : Nat} (hn : n ≤ 12) {x : Scene} (hx : SceneOk n x) : Ev (fun k => jZ k x) (keyB x) :=
 VA x (by rw [hx.len]; exact hn) (yY hx.ok) (by have := hx.n0; have := hx.n12; unfold In; omega)
def u9 (M : List (Option (List ByteArray))) (i : Nat) (x : Scene) : Bool := setHas (M.getD (i + 1) none) (keyB x)
theorem TM {n : Nat} (hn : n ≤ 12) {x : Scene} (hx : SceneOk n x) (M : List (Option (List ByteArray))) (i : Nat) (hi : i + 1 < M.length) (hM : M.length ≤ 3000) : Ev (fun k => bd k (x, M, (i : Int))) (u9 M i x) := by
 have ew : IntKind.i64.wrap ((i : Int) + 1) = ((i + 1 : Nat) : Int) := by rw [zi (by omega) (by omega)]; omega
 refine Ev.step (fun k => WT k x M (i : Int)) ?_
 rw [ew]
 exact Ev.yes (decide_eq_true (by omega)) (Ev.yes (decide_eq_true (by omega)) (Ev.bind (Pv hn hx) (Ev.some rfl)))
theorem QH {n : Nat} (hn : n ≤ 12) {x : Scene} (hx : SceneOk n x) (M : List (Option (List ByteArray))) (i : Nat) (hi : i + 1 < M.length) (hM : M.length ≤ 3000) : Ev (fun k => je k (x, M, (i : Int))) (u9 M i x) := by
 have ew : IntKind.i64.wrap ((i : Int) + 1) = ((i + 1 : Nat) : Int) := by rw [zi (by omega) (by omega)]; omega
 refine Ev.step (fun k => Zq k x M (i : Int)) ?_
 rw [ew]
 exact Ev.yes (decide_eq_true (by omega)) (Ev.yes (decide_eq_true (by omega)) (Ev.bind (Pv hn hx) (Ev.some rfl)))
def idxF (F : Scene → Bool) (i : Nat) (r : List Scene) : Int := if r.any F then ((i + r.findIdx F : Nat) : Int) else -1
theorem XR {F : Scene → Bool} {i : Nat} {x : Scene} {r : List Scene} : idxF F i (x :: r) = if F x then (i : Int) else idxF F (i + 1) r := by
 unfold idxF
 rw [List.any_cons, List.findIdx_cons]
 cases F x with
 | true => simp
 | false =>
   simp only [Bool.false_or, cond_false]
   have : i + (r.findIdx F + 1) = i + 1 + r.findIdx F := by omega
   rw [this]; rfl
theorem Tr {n : Nat} (hn : n ≤ 12) (l : List Scene) (hl : l.length ≤ 16384) (ho : SAll n l) (M : List (Option (List ByteArray))) (j : Nat) (hj : j + 1 < M.length) (hM : M.length ≤ 3000) : ∀ (r : List Scene) (i : Nat), l.drop i = r →
 Ev (fun k => zq k l M (j : Int) (l.length : Int) (i : Int)) (idxF (u9 M j) i r)
 | [], i, h => Ev.step (fun k => z6 k _ _ _ _ _) (Ev.no (yK h).g (Ev.some rfl))
 | x :: r, i, h => by
   have a := zK h (by rw [ze]; omega)
   refine Ev.step (fun k => z6 k _ _ _ _ _) ?_
   simp only [a.g, a.z, a.get, a.w, cond_true]
   rw [XR]
   refine Ev.bind (TM hn (ho x a.mem) M j hj hM) (Ev.ite (fun h1 => Ev.some ?_) (fun h1 => ?_))
   ·rw [if_pos h1]
   ·rw [if_neg (by rw [h1]; simp)]; exact Tr hn l hl ho M j hj hM r (i + 1) a.next
theorem Ts {n : Nat} (hn : n ≤ 12) (l : List Scene) (hl : l.length ≤ 16384) (ho : SAll n l) (M : List (Option (List ByteArray))) (j : Nat) (hj : j + 1 < M.length) (hM : M.length ≤ 3000) : ∀ (r : List Scene) (i : Nat), l.drop i = r →
 Ev (fun k => zl k l M (j : Int) (l.length : Int) (i : Int)) (idxF (u9 M j) i r)
 | [], i, h => Ev.step (fun k => zQ k _ _ _ _ _) (Ev.no (yK h).g (Ev.some rfl))
 | x :: r, i, h => by
   have a := zK h (by rw [ze]; omega)
   refine Ev.step (fun k => zQ k _ _ _ _ _) ?_
   simp only [a.g, a.z, a.get, a.w, cond_true]
   rw [XR]
   refine Ev.bind (QH hn (ho x a.mem) M j hj hM) (Ev.ite (fun h1 => Ev.some ?_) (fun h1 => ?_))
   ·rw [if_pos h1]
   ·rw [if_neg (by rw [h1]; simp)]; exact Ts hn l hl ho M j hj hM r (i + 1) a.next
theorem PA (F : Scene → Bool) (i : Nat) (r : List Scene) : decide (idxF F i r ≥ 0) = r.any F := by
 unfold idxF
 cases r.any F with
 | true => simp; omega
 | false => simp
theorem QE {n : Nat} (hn : n ≤ 12) (l : List Scene) (hl : l.length ≤ 16384) (ho : SAll n l) (M : List (Option (List ByteArray))) (j : Nat) (hj : j + 1 < M.length) (hM : M.length ≤ 3000) :
 Ev (fun k => zD k (l, (M, (j : Int)))) (l.any (u9 M j)) := by
 refine Ev.step (fun k => xl k l (M, (j : Int))) (Ev.bind (Ev.step (fun k => xB k l (M, (j : Int))) (Tr hn l hl ho M j hj hM l 0 rfl)) (Ev.some ?_))
 exact PA _ _ _
end Qq
namespace Qq
open Go Go.Vt Pt
set_option linter.unusedVariables false
set_option linter.unusedSimpArgs false
set_option linter.unnecessarySimpa false
def zk (t : yt) (c : Scene) : Bool := !jJ t c
theorem LevOk.drop {n : Nat} : ∀ {r : List zP} {Ls : List (List Scene)} (i : Nat), i ≤ r.length → LevOk n r Ls → LevOk n (r.drop i) (Ls.drop i)
 | r, Ls, 0, _, h => h
 | s :: r, L :: L2 :: Ls, i + 1, hi, h => LevOk.drop (r := r) (Ls := L2 :: Ls) i (by simpa using hi) h.2.2.2
 | [], _, i + 1, hi, _ => by simp at hi
 | _ :: _, [], _, _, h => h.elim
 | _ :: _, [_], _, _, h => h.elim
theorem LevOk.head {n : Nat} {r : List zP} {L : List Scene} {Ls : List (List Scene)} (h : LevOk n r (L :: Ls)) : SAll n L ∧ L.Nodup ∧ L.length ≤ 3000 := by
 cases r with
 | nil => cases Ls with
   | nil => exact h
   | cons => exact h.elim
 | cons s r => cases Ls with
   | nil => exact h.elim
   | cons => exact h.1
theorem U1 (bad : Scene → Bool) : ∀ (r : List zP) (Ls : List (List Scene)) (i : Nat), (rowM bad r Ls).drop i = rowM bad (r.drop i) (Ls.drop i)
 | r, Ls, 0 => rfl
 | r, [], i + 1 => by simp [rowM]
 | r, L :: Ls, i + 1 => by
   show (rowM bad (r.drop 1) Ls).drop i = rowM bad (r.drop (i + 1)) (Ls.drop i)
   rw [U1 bad (r.drop 1) Ls i, List.drop_drop, Nat.add_comm 1 i]
theorem Rt {n : Nat} (h1 : 1 ≤ n) (bad : Scene → Bool) {s : zP} {r : List zP} {L L2 : List Scene} {Ls : List (List Scene)} (h : LevOk n (s :: r) (L :: L2 :: Ls)) {M : List (Option (List ByteArray))} {i : Nat}
 (hM : M.drop (i + 1) = rowM bad r (L2 :: Ls)) {c : Scene} (hc : c ∈ L) : ∀ x ∈ zp c s, u9 M i x = canF bad r x := by
 intro x hx
 have hx2 := h.2.2.1 c hc x hx
 have ho := (LevOk.head h.2.2.2).1
 have hg : M.getD (i + 1) none = some ((L2.filter (canF bad r)).map keyB) := by
  have : M[i + 1]? = some (some ((L2.filter (canF bad r)).map keyB)) := by
   have h0 : (M.drop (i + 1))[0]? = M[i + 1]? := by rw [List.getElem?_drop]
   rw [← h0, hM]; rfl
  rw [List.getD, this]; rfl
 unfold u9
 rw [hg, MS h1 (fun c hc => ho c (List.mem_filter.1 hc).1) (ho x hx2), Bool.eq_iff_iff, decide_eq_true_eq, List.mem_filter]
 exact ⟨fun h => h.2, fun h => ⟨hx2, h⟩⟩
theorem Wz {α : Type} {f g : α → Bool} : ∀ {l : List α}, (∀ x ∈ l, f x = g x) → l.any f = l.any g
 | [], _ => rfl
 | x :: l, h => by rw [List.any_cons, List.any_cons, h x (by simp), Wz (fun y hy => h y (by simp [hy]))]
theorem VD {α : Type} {f g : α → Bool} : ∀ {l : List α}, (∀ x ∈ l, f x = g x) → l.findIdx f = l.findIdx g
 | [], _ => rfl
 | x :: l, h => by rw [List.findIdx_cons, List.findIdx_cons, h x (by simp), VD (fun y hy => h y (by simp [hy]))]
section
variable (t : yt)
theorem MG {n : Nat} (h1 : 1 ≤ n) {pre post : List (Option (List ByteArray))} {done : List Scene} {c : Scene} (hd : SAll n done) (hc : SceneOk n c) (hn : c ∉ done) (F : Scene → Bool) :
 (bif jV (((pre ++ some ((done.filter F).map keyB) :: post).getD pre.length none).getD []) (keyB c) then (((pre ++ some ((done.filter F).map keyB) :: post).getD pre.length none).getD []) else (((pre ++ some ((done.filter F).map keyB) :: post).getD pre.length none).getD []) ++ [keyB c]) = (done.filter F).map keyB ++ [keyB c] := by
 have hg : ((pre ++ some ((done.filter F).map keyB) :: post).getD pre.length none) = some ((done.filter F).map keyB) := by simp [List.getD]
 rw [hg]
 show (bif jV ((done.filter F).map keyB) (keyB c) then _ else _) = _
 have hs : SAll n (done.filter F) := fun d hd2 => hd d (List.mem_filter.1 hd2).1
 rw [XC (fun d hd2 => Vv h1 (hs d hd2)) (Vv h1 hc), decide_eq_false (fun h => hn (List.mem_filter.1 h).1)]
 rfl
end
theorem Uq (t : yt) {n : Nat} (h1n : 1 ≤ n) (hn : n ≤ 12) (a1 : t.1.length ≤ maxLen) (ai : Ins t.1) (a2 : t.2.1.length ≤ 12) (hlen : n = t.1.length) (V : List (List Scene)) (hV : LevOk n t.2.1 V) (i : Nat) (L : List Scene) (Lr : List (List Scene)) (hL : V.drop i = L :: Lr)
 (K : Ev (fun k => vt k V t.1 t.2.1 t.2.2.1 t.2.2.2.1 t.2.2.2.2 (List.replicate i none ++ rowM (zk t) (t.2.1.drop i) (L :: Lr)) ((i : Int) - 1)) (rowM (zk t) t.2.1 V)) :
 ∀ (r : List Scene) (j : Nat) (done : List Scene), L.drop j = r → L.take j = done →
   Ev (fun k => xb k V L (L.length : Int) (j : Int) t.1 t.2.1 t.2.2.1 t.2.2.2.1 t.2.2.2.2 (List.replicate i none ++ some ((done.filter (canF (zk t) (t.2.1.drop i))).map keyB) :: rowM (zk t) (t.2.1.drop (i + 1)) Lr) (i : Int)) (rowM (zk t) t.2.1 V) := by
 have hVl := hV.len
 have hi : i < V.length := by
  rcases Nat.lt_or_ge i V.length with h | h
  ·exact h
  ·rw [List.drop_of_length_le h] at hL; cases hL
 have hdr := LevOk.drop i (by omega) hV
 rw [hL] at hdr
 obtain ⟨ho, hnd, hl3⟩ := hdr.head
 have hLr : Lr = V.drop (i + 1) := by rw [← List.drop_drop, hL]; rfl
 have hMl : ∀ x : Option (List ByteArray), (List.replicate i none ++ x :: rowM (zk t) (t.2.1.drop (i + 1)) Lr).length = V.length := fun x => by
  rw [List.length_append, List.length_replicate, List.length_cons, YM, hLr, List.length_drop]; omega
 have hwl : IntKind.i64.wrap ((V.length : Int) - 1) = (V.length : Int) - 1 := zi (by omega) (by omega)
 intro r
 induction r with
 | nil =>
   intro j done h hd
   have a := yK h
   have hall : done = L := by rw [← hd]; exact List.take_of_length_le a.ge
   refine Ev.step (fun k => fm k _ _ _ _ _ _ _ _ _ _ _) (Ev.no a.g ?_)
   rw [show IntKind.i64.wrap ((i : Int) - (1 : Int)) = (i : Int) - 1 from zi (by omega) (by omega), hall]
   have e : rowM (zk t) (t.2.1.drop i) (L :: Lr) = some ((L.filter (canF (zk t) (t.2.1.drop i))).map keyB) :: rowM (zk t) (t.2.1.drop (i + 1)) Lr := by
    show _ :: rowM (zk t) ((t.2.1.drop i).drop 1) Lr = _
    rw [List.drop_drop]
   rw [e] at K
   exact K
 | cons c r ih =>
   intro j done h hd
   have a := zK h (by rw [ze]; omega)
   have hlt := a.lt
   have hc := ho c a.mem
   have hg : L[j] = c := by have := a.gt (([], 0) : Scene); simpa [List.getD, hlt] using this
   have hdo : SAll n done := fun d hd2 => ho d (List.mem_of_mem_take (hd ▸ hd2))
   have hcn : c ∉ done := by
    intro hm
    rw [← hd] at hm
    obtain ⟨q, hq, hq2⟩ := List.mem_take_iff_getElem.1 hm
    have hql : q < j := by omega
    exact List.pairwise_iff_getElem.1 hnd q j (by omega) hlt hql (hq2.trans hg.symm)
   have hnext : L.take (j + 1) = done ++ [c] := by rw [List.take_add_one, hd, List.getElem?_eq_getElem hlt, hg]; rfl
   have ih2 := ih (j + 1) (done ++ [c]) a.next hnext
   have lenI : ((List.replicate i none : List (Option (List ByteArray))).length) = i := List.length_replicate
   have pk := MG h1n (pre := List.replicate i none) (post := rowM (zk t) (t.2.1.drop (i + 1)) Lr) hdo hc hcn (canF (zk t) (t.2.1.drop i))
   rw [lenI] at pk
   have hset : ∀ x y : Option (List ByteArray), (List.replicate i none ++ x :: rowM (zk t) (t.2.1.drop (i + 1)) Lr).set i y = List.replicate i none ++ y :: rowM (zk t) (t.2.1.drop (i + 1)) Lr := fun x y => by
    rw [List.set_append_right _ _ (by simp)]; simp
   have hgs : ∀ l : List ByteArray, ((List.replicate i none ++ some l :: rowM (zk t) (t.2.1.drop (i + 1)) Lr).getD i none).isSome = true := fun l => by simp [List.getD]
   have add : canF (zk t) (t.2.1.drop i) c = true → Ev (fun k => (jZ k c).bind fun y => xb k V L (L.length : Int) ((j + 1 : Nat) : Int) t.1 t.2.1 t.2.2.1 t.2.2.2.1 t.2.2.2.2 ((List.replicate i none ++ some ((done.filter (canF (zk t) (t.2.1.drop i))).map keyB) :: rowM (zk t) (t.2.1.drop (i + 1)) Lr).set i (some (bif jV (((List.replicate i none ++ some ((done.filter (canF (zk t) (t.2.1.drop i))).map keyB) :: rowM (zk t) (t.2.1.drop (i + 1)) Lr).getD i none).getD []) y then (((List.replicate i none ++ some ((done.filter (canF (zk t) (t.2.1.drop i))).map keyB) :: rowM (zk t) (t.2.1.drop (i + 1)) Lr).getD i none).getD []) else (((List.replicate i none ++ some ((done.filter (canF (zk t) (t.2.1.drop i))).map keyB) :: rowM (zk t) (t.2.1.drop (i + 1)) Lr).getD i none).getD []) ++ [y]))) (i : Int)) (rowM (zk t) t.2.1 V) := fun hF => by
    refine Ev.bind (Pv hn hc) ?_
    rw [pk, hset]
    have : (done ++ [c]).filter (canF (zk t) (t.2.1.drop i)) = done.filter (canF (zk t) (t.2.1.drop i)) ++ [c] := by rw [List.filter_append, List.filter_cons_of_pos hF]; rfl
    rw [this, List.map_append] at ih2
    exact ih2
   have skip : canF (zk t) (t.2.1.drop i) c = false → Ev (fun k => xb k V L (L.length : Int) ((j + 1 : Nat) : Int) t.1 t.2.1 t.2.2.1 t.2.2.2.1 t.2.2.2.2 (List.replicate i none ++ some ((done.filter (canF (zk t) (t.2.1.drop i))).map keyB) :: rowM (zk t) (t.2.1.drop (i + 1)) Lr) (i : Int)) (rowM (zk t) t.2.1 V) := fun hF => by
    have : (done ++ [c]).filter (canF (zk t) (t.2.1.drop i)) = done.filter (canF (zk t) (t.2.1.drop i)) := by rw [List.filter_append, List.filter_cons_of_neg (by rw [hF]; simp)]; simp
    rw [this] at ih2
    exact ih2
   have hml := hMl (some ((done.filter (canF (zk t) (t.2.1.drop i))).map keyB))
   refine Ev.step (fun k => fm k _ _ _ _ _ _ _ _ _ _ _) ?_
   simp only [a.g, a.z, a.n, a.get, a.gt, a.w, hwl, cond_true, Int.toNat_natCast]
   have gets : ∀ {f : Nat → Option (List (Option (List ByteArray)))} {z : List (Option (List ByteArray))}, Ev f z → Ev (fun k => bif decide ((0 : Int) ≤ (i : Int)) then bif decide ((i : Int) < ((List.replicate i none ++ some ((done.filter (canF (zk t) (t.2.1.drop i))).map keyB) :: rowM (zk t) (t.2.1.drop (i + 1)) Lr).length : Int)) then bif decide (i < (List.replicate i none ++ some ((done.filter (canF (zk t) (t.2.1.drop i))).map keyB) :: rowM (zk t) (t.2.1.drop (i + 1)) Lr).length) then bif ((List.replicate i none ++ some ((done.filter (canF (zk t) (t.2.1.drop i))).map keyB) :: rowM (zk t) (t.2.1.drop (i + 1)) Lr).getD i none).isSome then bif decide ((0 : Int) ≤ (i : Int)) then bif decide ((i : Int) < ((List.replicate i none ++ some ((done.filter (canF (zk t) (t.2.1.drop i))).map keyB) :: rowM (zk t) (t.2.1.drop (i + 1)) Lr).length : Int)) then bif Nat.beq i i then f k else none else none else none else none else none else none else none) z := fun h =>
    Ev.yes (by simp) (Ev.yes (by rw [hml]; simp; omega) (Ev.yes (by rw [hml]; simp; omega) (Ev.yes (hgs _) (Ev.yes (by simp) (Ev.yes (by rw [hml]; simp; omega) (Ev.yes (by simp) h))))))
   refine Ev.ite (fun hl => ?_) (fun hl => ?_)
   ·have hil : i + 1 = V.length := by simp at hl; omega
    have hdi : t.2.1.drop i = [] := by rw [List.drop_eq_nil_iff]; omega
    have hF : canF (zk t) (t.2.1.drop i) c = !jJ t c := by rw [hdi]; rfl
    refine Ev.bind (fF t c a1 ai (by rw [ze]; omega) (by rw [hc.len, ze]; omega) (yY hc.ok)) (Ev.ite (fun hb => ?_) (fun hb => ?_))
    ·exact gets (add (hF.trans hb))
    ·exact skip (hF.trans hb)
   ·have hil : i + 1 < V.length := by
     have : ¬ (i : Int) = (V.length : Int) - 1 := by simpa using hl
     omega
    have his : i < t.2.1.length := by omega
    cases hLr2 : Lr with
    | nil => rw [hLr] at hLr2; have := List.drop_eq_nil_iff.1 hLr2; omega
    | cons L2 Lq =>
      have hds : t.2.1.drop i = t.2.1[i] :: t.2.1.drop (i + 1) := List.drop_eq_getElem_cons his
      have hgd : ∀ d, t.2.1.getD i d = t.2.1[i] := fun d => by simp [List.getD, his]
      rw [hLr2, hds] at hdr
      have hso := hdr.2.1
      have hno := Zg hc hso
      have hnl := (YO hc hso).2
      have hany := Rt h1n (zk t) hdr (M := List.replicate i none ++ some ((done.filter (canF (zk t) (t.2.1.drop i))).map keyB) :: rowM (zk t) (t.2.1.drop (i + 1)) Lr) (i := i) (by
       rw [List.drop_append, List.length_replicate, List.drop_of_length_le (by simp), show i + 1 - i = 1 by omega, hLr2]; rfl) a.mem
      have hF : canF (zk t) (t.2.1.drop i) c = (zp c t.2.1[i]).any (u9 (List.replicate i none ++ some ((done.filter (canF (zk t) (t.2.1.drop i))).map keyB) :: rowM (zk t) (t.2.1.drop (i + 1)) Lr) i) := by
       conv => lhs; rw [hds]
       exact (Wz hany).symm
      refine Ev.yes (by simp) (Ev.yes (by simp; omega) ?_)
      simp only [hgd]
      refine Ev.bind (ut hc hso) (Ev.bind (QE hn _ (by omega) hno _ i (by rw [← hLr2, hml]; omega) (by rw [← hLr2, hml]; omega)) ?_)
      rw [← hLr2]
      refine Ev.ite (fun hb => ?_) (fun hb => ?_)
      ·exact gets (add (hF.trans hb))
      ·exact skip (hF.trans hb)
theorem aC (t : yt) {n : Nat} (h1n : 1 ≤ n) (hn : n ≤ 12) (a1 : t.1.length ≤ maxLen) (ai : Ins t.1) (a2 : t.2.1.length ≤ 12) (hlen : n = t.1.length) (V : List (List Scene)) (hV : LevOk n t.2.1 V) : ∀ (i : Nat), i ≤ V.length →
 Ev (fun k => vt k V t.1 t.2.1 t.2.2.1 t.2.2.2.1 t.2.2.2.2 (List.replicate i none ++ rowM (zk t) (t.2.1.drop i) (V.drop i)) ((i : Int) - 1)) (rowM (zk t) t.2.1 V)
 | 0, _ => by
   refine Ev.step (fun k => fo k _ _ _ _ _ _ _ _) (Ev.no (decide_eq_false (by omega)) (Ev.some ?_))
   simp
 | i + 1, hi => by
   have ih := aC t h1n hn a1 ai a2 hlen V hV i (by omega)
   have hVl := hV.len
   cases hL : V.drop i with
   | nil => rw [List.drop_eq_nil_iff] at hL; omega
   | cons L Lr =>
     rw [hL] at ih
     have hLr : V.drop (i + 1) = Lr := by rw [← List.drop_drop, hL]; rfl
     have hVi : V[i]'(by omega) = L := by
      have := List.drop_eq_getElem_cons (l := V) (i := i) (by omega)
      rw [hL] at this
      exact (List.cons.inj this).1.symm
     have hg : V.getD i [] = L := by rw [List.getD, List.getElem?_eq_getElem (by omega), hVi]; rfl
     have key := Uq t h1n hn a1 ai a2 hlen V hV i L Lr hL ih L 0 [] rfl rfl
     have hxl : (List.replicate (i + 1) (none : Option (List ByteArray)) ++ rowM (zk t) (t.2.1.drop (i + 1)) (V.drop (i + 1))).length = V.length := by
      rw [List.length_append, List.length_replicate, YM, List.length_drop]; omega
     have hset : (List.replicate (i + 1) (none : Option (List ByteArray)) ++ rowM (zk t) (t.2.1.drop (i + 1)) (V.drop (i + 1))).set i (some []) = List.replicate i none ++ some ((([] : List Scene).filter (canF (zk t) (t.2.1.drop i))).map keyB) :: rowM (zk t) (t.2.1.drop (i + 1)) Lr := by
      rw [hLr, List.replicate_succ', List.append_assoc, List.set_append_right _ _ (by simp)]
      simp
     have ei : (((i + 1 : Nat) : Int) - 1) = (i : Int) := by omega
     rw [ei]
     refine Ev.step (fun k => fo k _ _ _ _ _ _ _ _) ?_
     simp only [Int.toNat_natCast, hset, hg]
     exact Ev.yes (decide_eq_true (by omega)) (Ev.yes (decide_eq_true (by omega)) (Ev.yes (decide_eq_true (by omega)) (Ev.yes (decide_eq_true (by omega)) (Ev.yes (decide_eq_true (by omega)) (Ev.yes (decide_eq_true (by omega)) key)))))
theorem Tz (t : yt) {n : Nat} (h1n : 1 ≤ n) (hn : n ≤ 12) (a1 : t.1.length ≤ maxLen) (ai : Ins t.1) (a2 : t.2.1.length ≤ 12) (hlen : n = t.1.length) (V : List (List Scene)) (hV : LevOk n t.2.1 V) : Ev (fun k => XW k (t, V)) (rowM (zk t) t.2.1 V) := by
 have hVl := hV.len
 have h := aC t h1n hn a1 ai a2 hlen V hV V.length (Nat.le_refl _)
 have e : List.replicate V.length (none : Option (List ByteArray)) ++ rowM (zk t) (t.2.1.drop V.length) (V.drop V.length) = List.replicate V.length none := by
  rw [List.drop_of_length_le (Nat.le_refl V.length)]; simp [rowM]
 rw [e] at h
 refine Ev.step (fun k => TA k t V) (Ev.yes (by simp) (Ev.yes (decide_eq_true (by rw [zb]; omega)) (Ev.yes (by simp) ?_)))
 rw [zi (by omega) (by omega), Int.toNat_natCast]
 exact h
theorem Qn {F G : Scene → Bool} {i : Nat} {r : List Scene} (h : ∀ x ∈ r, F x = G x) : idxF F i r = idxF G i r := by unfold idxF; rw [Wz h, VD h]
theorem Yg (t : yt) {n : Nat} (h1n : 1 ≤ n) (hn : n ≤ 12) (a2 : t.2.1.length ≤ 12) (V : List (List Scene)) (hV : LevOk n t.2.1 V) (z1 z2 z3 : Int) : ∀ (r : List zP) (i : Nat) (c : Scene) (ps : List Int), t.2.1.drop i = r → (∃ L Lr, V.drop i = L :: Lr ∧ c ∈ L) → canF (zk t) r c = true → ps.length ≤ i →
 Ev (fun k => xD k t.2.1 (t.2.1.length : Int) (i : Int) z1 z2 c.1 c.2 (rowM (zk t) t.2.1 V) 2 z3 ps) (SF (some (firstW (zk t) r (c, ps))))
 | [], i, c, ps, h, hc, hF, hp => by
   have a := yK h
   obtain ⟨L, Lr, hL, hcL⟩ := hc
   have hVl := hV.len
   have hi : i < V.length := by
    rcases Nat.lt_or_ge i V.length with h | h
    ·exact h
    ·rw [List.drop_of_length_le h] at hL; cases hL
   have hdr := LevOk.drop i (by omega) hV
   rw [hL] at hdr
   have hco := hdr.head.1 c hcL
   refine Ev.step (fun k => uB k _ _ _ _ _ _ _ _ _ _ _) (Ev.no a.g (Ev.bind (Ev.step (fun k => WU k (c.1, c.2)) (Ev.bind (xc c.1 (by rw [hco.len]; omega)) (Ev.pure _))) (Ev.some rfl)))
 | s :: r, i, c, ps, h, hc, hF, hp => by
   have a := zK h (by rw [ze]; omega)
   have hlt := a.lt
   obtain ⟨L, Lr, hL, hcL⟩ := hc
   have hVl := hV.len
   have hdr := LevOk.drop i (by omega) hV
   rw [hL, h] at hdr
   cases Lr with
   | nil => exact hdr.elim
   | cons L2 Lq =>
     have hco := hdr.head.1 c hcL
     have hso := hdr.2.1
     have hno := Zg hco hso
     have hnl := (YO hco hso).2
     have hV2 : V.drop (i + 1) = L2 :: Lq := by rw [← List.drop_drop, hL]; rfl
     have hany := Rt h1n (zk t) hdr (M := rowM (zk t) t.2.1 V) (i := i) (by rw [U1, hV2, a.next]) hcL
     have hml := YM (zk t) t.2.1 V
     have hidx : idxF (u9 (rowM (zk t) t.2.1 V) i) 0 (zp c s) = (((zp c s).findIdx (canF (zk t) r) : Nat) : Int) := by
      rw [Qn hany]
      unfold idxF
      rw [if_pos (show (zp c s).any (canF (zk t) r) = true from hF), Nat.zero_add]
     obtain ⟨x, hx, hxF⟩ := List.any_eq_true.1 hF
     have hil : (zp c s).findIdx (canF (zk t) r) < (zp c s).length := List.findIdx_lt_length_of_exists ⟨x, hx, hxF⟩
     have hilI : (((zp c s).findIdx (canF (zk t) r) : Nat) : Int) < ((zp c s).length : Int) := by omega
     have hget : (zp c s).getD ((zp c s).findIdx (canF (zk t) r)) ([], 0) = (zp c s)[(zp c s).findIdx (canF (zk t) r)] := by rw [List.getD, List.getElem?_eq_getElem hil]; rfl
     have hd2 : (zp c s).getD ((zp c s).findIdx (canF (zk t) r)) ([], 0) ∈ zp c s := by rw [hget]; exact List.getElem_mem hil
     have hdF : canF (zk t) r ((zp c s).getD ((zp c s).findIdx (canF (zk t) r)) ([], 0)) = true := by rw [hget]; exact List.findIdx_getElem (w := hil)
     have ih := fun ps hps => Yg t h1n hn a2 V hV z1 z2 z3 r (i + 1) ((zp c s).getD ((zp c s).findIdx (canF (zk t) r)) ([], 0)) ps a.next ⟨L2, Lq, hV2, hdr.2.2.1 c hcL _ hd2⟩ hdF hps
     refine Ev.step (fun k => uB k _ _ _ _ _ _ _ _ _ _ _) ?_
     simp only [a.g, a.z, a.get, a.w, cond_true]
     have eidx : Ev (fun k => zC k (zp c s, (rowM (zk t) t.2.1 V, (i : Int)))) (idxF (u9 (rowM (zk t) t.2.1 V) i) 0 (zp c s)) :=
      Ev.step (fun k => xj k _ _) (Ts hn (zp c s) (by omega) hno (rowM (zk t) t.2.1 V) i (by rw [hml]; omega) (by rw [hml]; omega) (zp c s) 0 rfl)
     rw [hidx] at eidx
     refine Ev.bind (ut hco hso) (Ev.bind eidx ?_)
     simp only [Int.toNat_natCast]
     refine Ev.ite (fun h2 => ?_) (fun h2 => ?_)
     ·have e2 : s.1 = 2 := by simpa using h2
      refine Ev.yes (decide_eq_true (by rw [zb]; simp; omega)) (Ev.yes (decide_eq_true (by omega)) (Ev.yes (decide_eq_true hilI) (Ev.yes (decide_eq_true hil) ?_)))
      have := ih (ps ++ [(((zp c s).findIdx (canF (zk t) r) : Nat) : Int)]) (by simp; omega)
      have es : VV (canF (zk t) r) s (c, ps) = ((zp c s).getD ((zp c s).findIdx (canF (zk t) r)) ([], 0), ps ++ [(((zp c s).findIdx (canF (zk t) r) : Nat) : Int)]) := by
       unfold VV
       dsimp only
       rw [if_pos e2]
      show Ev _ (SF (some (firstW (zk t) r (VV (canF (zk t) r) s (c, ps)))))
      rw [es]
      exact this
     ·have e2 : ¬ s.1 = 2 := by simpa using h2
      refine Ev.yes (decide_eq_true (by omega)) (Ev.yes (decide_eq_true hilI) (Ev.yes (decide_eq_true hil) ?_))
      have := ih ps (by omega)
      have es : VV (canF (zk t) r) s (c, ps) = ((zp c s).getD ((zp c s).findIdx (canF (zk t) r)) ([], 0), ps) := by
       unfold VV
       dsimp only
       rw [if_neg e2]
      show Ev _ (SF (some (firstW (zk t) r (VV (canF (zk t) r) s (c, ps)))))
      rw [es]
      exact this
theorem Tt (t : yt) {n : Nat} (hn : n ≤ 12) (a1 : t.1.length ≤ maxLen) (ai : Ins t.1) (a2 : t.2.1.length ≤ 12) (l : List Scene) (hl : l.length ≤ 16384) (ho : SAll n l) : ∀ (r : List Scene) (i : Nat), l.drop i = r →
 Ev (fun k => zm k l t.1 t.2.1 t.2.2.1 t.2.2.2.1 t.2.2.2.2 (l.length : Int) (i : Int)) (idxF (zk t) i r)
 | [], i, h => Ev.step (fun k => zR k _ _ _ _ _ _ _ _) (Ev.no (yK h).g (Ev.some rfl))
 | x :: r, i, h => by
   have a := zK h (by rw [ze]; omega)
   have hx := ho x a.mem
   refine Ev.step (fun k => zR k _ _ _ _ _ _ _ _) ?_
   simp only [a.g, a.z, a.get, a.w, cond_true]
   rw [XR]
   have e1 : Ev (fun k => jf k (x, t)) (zk t x) := Ev.step (fun k => Zr k x t) (Ev.bind (fF t x a1 ai (by rw [ze]; omega) (by rw [hx.len, ze]; omega) (yY hx.ok)) (Ev.some rfl))
   refine Ev.bind e1 (Ev.ite (fun h1 => Ev.some ?_) (fun h1 => ?_))
   ·rw [if_pos h1]
   ·rw [if_neg (by rw [h1]; simp)]; exact Tt t hn a1 ai a2 l hl ho r (i + 1) a.next
theorem We (t : yt) (a1 : t.1.length ≤ maxLen) (ai : Ins t.1) (a2 : t.2.1.length ≤ maxLen) : Ev (fun k => fI k t) (wa t) := by
 refine Ev.step (fun k => Wf k t) (Ev.bind (wn t a1 ai a2) (Ev.ite (fun h => Ev.some ?_) (fun h => ?_)))
 ·have : zv t = false := by simpa using h
  simp [wa, this]
 ·have e : zv t = true := by simpa using h
  obtain ⟨h12, h1n, hn, hp⟩ := yu e
  have hs := xd e
  obtain ⟨q1, q2⟩ := V9 t.2.1 (yI t)
  have hst : (yI t).map Prod.fst = [(t.1, -1)] := rfl
  rw [hst] at q1 q2
  refine Ev.bind (XP t e a1 ai a2) ?_
  unfold wa uZ
  rw [if_pos e]
  cases hL : levU t.2.1 [(t.1, -1)] with
  | none =>
    rw [hL] at q1
    cases hE : fL t.2.1 (yI t) with
    | some A => rw [hE] at q1; cases q1
    | none => exact Ev.yes rfl (Ev.pure _)
  | some V =>
    rw [hL] at q1
    cases hE : fL t.2.1 (yI t) with
    | none => rw [hE] at q1; cases q1
    | some A =>
      rw [hE] at q1
      have hlast : V.getLastD [] = A.map Prod.fst := Option.some.inj q1
      obtain ⟨hV, Q, hQ⟩ := Po t.2.1 [(t.1, -1)] V hs.2 (UQ e) (by simp) (by simp) hL
      have hVl := hV.len
      have hA3 := bp _ _ A (by simp [yI]) hE
      have hAo := aE t.2.1 (yI t) A hs.2 (gO e) hE
      have hAS : SAll t.1.length (A.map Prod.fst) := fun c hc => by
       obtain ⟨d, hd, rfl⟩ := List.mem_map.1 hc
       exact hAo d hd
      have hlst : V.getD (V.length - 1) [] = A.map Prod.fst := by
       rw [← hlast]
       cases V with
       | nil => simp at hVl
       | cons a L => rw [List.getLastD_cons, List.getD, ← List.getLast?_eq_getElem?, List.getLast?_cons]; simp [List.getLastD_eq_getLast?]
      have ew : IntKind.i64.wrap ((V.length : Int) - 1) = ((V.length - 1 : Nat) : Int) := by rw [zi (by omega) (by omega)]; omega
      have h0 : V.getD 0 [] = [(t.1, -1)] := by rw [hQ]; rfl
      have hbad : ∀ w ∈ A, (!uY t w.1) = zk t w.1 := fun w hw => by
       have harr := UA e w.1 (by
        unfold xP uZ
        rw [if_pos e, hE]
        exact List.mem_map_of_mem hw)
       unfold zk jJ
       rw [e, harr]; rfl
      have hfind : A.find? (fun w => !uY t w.1) = A.find? (fun w => zk t w.1) := by
       have : ∀ (l : List Way), (∀ w ∈ l, (!uY t w.1) = zk t w.1) → l.find? (fun w => !uY t w.1) = l.find? (fun w => zk t w.1) := by
        intro l
        induction l with
        | nil => intro _; rfl
        | cons w l ih => intro h; rw [List.find?_cons, List.find?_cons, h w (by simp), ih (fun u hu => h u (by simp [hu]))]
       exact this A hbad
      have hef := TN (zk t) t.2.1 (yI t) A hE
      have hany : (A.map Prod.fst).any (zk t) = canF (zk t) t.2.1 (t.1, -1) := by
       have h1 : (A.map Prod.fst).any (zk t) = (A.find? (fun w => zk t w.1)).isSome := by
        rw [List.any_map, Bool.eq_iff_iff, List.find?_isSome, List.any_eq_true]
        rfl
       rw [h1, hef]
       show (((yI t).find? (fun w => canF (zk t) t.2.1 w.1)).map (firstW (zk t) t.2.1)).isSome = _
       unfold yI
       rw [List.find?_cons]
       cases canF (zk t) t.2.1 (t.1, -1) <;> rfl
      simp only [outU, List.nil_append, ew, Int.toNat_natCast, h0, hlst]
      refine Ev.no rfl (Ev.yes (decide_eq_true (by omega)) (Ev.yes (decide_eq_true (by omega)) (Ev.yes (by simp) (Ev.yes (decide_eq_true (by omega)) (Ev.yes (decide_eq_true (by omega)) (Ev.yes (decide_eq_true (by omega)) ?_))))))
      have hcont : Ev (fun k => zy k (A.map Prod.fst, t)) ((A.map Prod.fst).any (zk t)) :=
       Ev.step (fun k => yV k _ _) (Ev.bind (Ev.step (fun k => xk k _ _) (Tt t hn a1 ai h12 (A.map Prod.fst) (by rw [List.length_map]; omega) hAS _ 0 rfl)) (Ev.some (PA _ _ _)))
      refine Ev.bind hcont ?_
      rw [hany, hfind, hef]
      cases hF : canF (zk t) t.2.1 (t.1, -1) with
      | false =>
        have : (yI t).find? (fun w => canF (zk t) t.2.1 w.1) = none := by unfold yI; rw [List.find?_cons, hF]; rfl
        rw [this]
        exact Ev.yes rfl (Ev.pure _)
      | true =>
        have : (yI t).find? (fun w => canF (zk t) t.2.1 w.1) = some ((t.1, -1), []) := by unfold yI; rw [List.find?_cons, hF]
        rw [this]
        refine Ev.no rfl (Ev.bind (Tz t h1n hn a1 ai h12 rfl V hV) ?_)
        exact Yg t h1n hn h12 V hV 0 0 0 t.2.1 0 (t.1, -1) [] rfl ⟨[(t.1, -1)], Q, by rw [hQ]; rfl, by simp⟩ hF (by simp)
end Qq
namespace Qq
open Go Go.Vt Pt
set_option linter.unusedVariables false
set_option linter.unusedSimpArgs false
set_option linter.unnecessarySimpa false
theorem TO : ∀ (r : List zP) (l A : List Way) (m : Nat), Sd m l → fL r l = some A → Sd (m + r.length) A
 | [], l, A, m, h, e => by cases e; exact h
 | s :: r, l, A, m, h, e => by
   rw [wZ] at e
   split at e
   ·have := TO r _ A (m + 1) (PM l [] h (fun c hc => by cases hc)) e
    rw [show m + (s :: r).length = m + 1 + r.length by simp; omega]
    exact this
   ·cases e
theorem QI (t : yt) : (wa t).2.1.length ≤ 12 ∧ (wa t).2.2.1.length ≤ 12 := by
 unfold wa
 split
 ·rename_i h
  cases hE : uZ t with
  | none => exact ⟨by simp, by simp⟩
  | some A =>
    obtain ⟨h1, h2, h3, h4⟩ := yu h
    have hs := xd h
    have hw := TO t.2.1 (yI t) A 0 (R3 t) hE
    have ho := aE t.2.1 (yI t) A hs.2 (gO h) hE
    show (SF (A.find? (fun w => !uY t w.1))).2.1.length ≤ 12 ∧ (SF (A.find? (fun w => !uY t w.1))).2.2.1.length ≤ 12
    cases hf : A.find? (fun w => !uY t w.1) with
    | none => exact ⟨Nat.zero_le _, Nat.zero_le _⟩
    | some w =>
      have hm := List.mem_of_find?_eq_some hf
      exact ⟨by have := hw w hm; show w.2.length ≤ 12; omega, by show w.1.1.length ≤ 12; rw [(ho w hm).len]; exact h3⟩
 ·exact ⟨by simp, by simp⟩
end Qq
namespace Qq
open Go Go.Vt Pt
set_option linter.unusedVariables false
set_option linter.unusedSimpArgs false
set_option linter.unnecessarySimpa false
def jG (t : yt) : Int := if (xP t).2 = true then ((xP t).1.length : Int) else -1
end Qq
namespace Qq
open Go Go.Vt Pt
set_option linter.unusedVariables false
set_option linter.unusedSimpArgs false
abbrev Cur : Type := List Int × Int × Int
def wQ (c : Cur) : Prop := c.1.length ≤ 9223372036854775807 ∧ 0 ≤ c.2.1 ∧ c.2.1 ≤ c.1.length
theorem and255 (x : BitVec 64) : (x &&& BitVec.ofInt 64 255).toNat ≤ 255 := by
 rw [BitVec.toNat_and]
 exact Nat.and_le_right
theorem wrap255 (x : BitVec IntKind.i64.bits) : 0 ≤ IntKind.i64.wrap (((x &&& BitVec.ofInt IntKind.i64.bits (255 : Int)).toNat : Nat) : Int) ∧ IntKind.i64.wrap (((x &&& BitVec.ofInt IntKind.i64.bits (255 : Int)).toNat : Nat) : Int) ≤ 255 := by
 have h : (x &&& BitVec.ofInt IntKind.i64.bits (255 : Int)).toNat ≤ 255 := and255 x
 rw [zi (by omega) (by omega)]
 omega
theorem vV (c : Cur) (h : wQ c) : ∃ (y : Int) (c' : Cur), Ev (fun k => vn k c) (y, c') ∧ 0 ≤ y ∧ y ≤ 255 ∧ wQ c' := by
 obtain ⟨h1, h2, h3⟩ := h
 by_cases hl : c.2.1 < c.1.length
 ·refine ⟨_, _, Ev.step (fun k => ZS k c) (Ev.yes (decide_eq_true hl) (Ev.yes (decide_eq_true h2) (Ev.yes (decide_eq_true hl) (Ev.pure _)))), (wrap255 _).1, (wrap255 _).2, ?_⟩
  refine ⟨h1, ?_, ?_⟩ <;> (dsimp only; rw [zi (by omega) (by omega)]; omega)
 ·exact ⟨_, _, Ev.step (fun k => ZS k c) (Ev.no (decide_eq_false hl) (Ev.pure _)), (wrap255 _).1, (wrap255 _).2, ⟨h1, h2, h3⟩⟩
theorem Vb {a n : Int} (ha : 0 ≤ a) (hn : 0 < n) : 0 ≤ a.tmod n ∧ a.tmod n < n := by
 rw [Int.tmod_eq_emod_of_nonneg ha]
 exact ⟨Int.emod_nonneg _ (by omega), Int.emod_lt_of_pos _ hn⟩
theorem zN (c : Cur) (h : wQ c) (n : Int) : ∃ (y : Int) (c' : Cur), Ev (fun k => zh k (c, n)) (y, c') ∧ 0 ≤ y ∧ (0 < n → y < n) ∧ wQ c' := by
 by_cases h0 : n ≤ 0
 ·exact ⟨0, c, Ev.step (fun k => jQ k c n) (Ev.yes (decide_eq_true h0) (Ev.pure _)), Int.le_refl _, fun h => by omega, h⟩
 ·have hn : 0 < n := by omega
  by_cases h1 : n ≤ 256
  ·obtain ⟨y, c', e, a1, a2, a3⟩ := vV c h
   have hb := Vb a1 hn
   exact ⟨_, _, Ev.step (fun k => jQ k c n) (Ev.no (decide_eq_false h0) (Ev.yes (decide_eq_true h1) (Ev.bind e (Ev.yes (by simp; omega) (Ev.pure _))))), hb.1, fun _ => hb.2, a3⟩
  ·obtain ⟨y, c1, e, a1, a2, a3⟩ := vV c h
   obtain ⟨z, c2, f, b1, b2, b3⟩ := vV c1 a3
   obtain ⟨u, c3, g, d1, d2, d3⟩ := vV c2 b3
   obtain ⟨v, c4, i, f1, f2, f3⟩ := vV c3 d3
   have w1 : IntKind.i64.wrap (y * (16777216 : Int)) = y * 16777216 := zi (by omega) (by omega)
   have w2 : IntKind.i64.wrap (z * (65536 : Int)) = z * 65536 := zi (by omega) (by omega)
   have w3 : IntKind.i64.wrap (u * (256 : Int)) = u * 256 := zi (by omega) (by omega)
   have hnn : 0 ≤ IntKind.i64.wrap ((IntKind.i64.wrap ((IntKind.i64.wrap ((IntKind.i64.wrap (y * (16777216 : Int))) + (IntKind.i64.wrap (z * (65536 : Int))))) + (IntKind.i64.wrap (u * (256 : Int))))) + v) := by
    rw [w1, w2, w3, zi (x := y * 16777216 + z * 65536) (by omega) (by omega), zi (x := y * 16777216 + z * 65536 + u * 256) (by omega) (by omega), zi (by omega) (by omega)]
    omega
   have hb := Vb hnn hn
   exact ⟨_, _, Ev.step (fun k => jQ k c n) (Ev.no (decide_eq_false h0) (Ev.no (decide_eq_false h1) (Ev.bind e (Ev.bind f (Ev.bind g (Ev.bind i (Ev.yes (by simp; omega) (Ev.pure _)))))))), hb.1, fun _ => hb.2, f3⟩
theorem Zh (c : Cur) (h : wQ c) (n : Int) : ∃ (b : Bool) (c' : Cur), Ev (fun k => gY k (c, n)) (b, c') ∧ wQ c' := by
 obtain ⟨y, c', e, _, _, a3⟩ := zN c h n
 exact ⟨_, _, Ev.step (fun k => UX k c n) (Ev.bind e (Ev.pure _)), a3⟩
theorem ZZ (code : List Int) (hm : code.length ≤ 9223372036854775807) : ∀ (r : List Int) (i : Nat) (h : Int), code.drop i = r → ∃ h' : Int, Ev (fun k => jP k code h (i : Int)) (code, ((0 : Int), h'))
 | [], i, h, hr => by
   have a := yK hr
   exact ⟨h, Ev.step (fun k => u6 k _ _ _) (Ev.no a.g (Ev.pure _))⟩
 | x :: r, i, h, hr => by
   have a := zK hr (by rw [ze]; exact hm)
   by_cases h4 : (i : Int) < 4000
   ·obtain ⟨h', ih⟩ := ZZ code hm r (i + 1) _ a.next
    refine ⟨h', Ev.step (fun k => u6 k _ _ _) (Ev.yes a.g (Ev.yes (decide_eq_true h4) (Ev.yes a.z (Ev.yes a.g ?_))))⟩
    rw [a.w]
    exact ih
   ·exact ⟨h, Ev.step (fun k => u6 k _ _ _) (Ev.yes a.g (Ev.no (decide_eq_false h4) (Ev.pure _)))⟩
theorem Tm (code : List Int) (hm : code.length ≤ 9223372036854775807) : ∃ c : Cur, Ev (fun k => YL k code) c ∧ wQ c := by
 obtain ⟨h', e⟩ := ZZ code hm _ 0 (IntKind.i64.wrap ((2070 : Int) + (code.length : Int))) rfl
 exact ⟨_, Ev.step (fun k => Sk k code) e, hm, Int.le_refl _, by simp⟩
theorem ZY (n : Int) (hn : n ≤ 1000000) : ∀ (m : Nat) (i : Int) (c : Cur), 0 ≤ i → n ≤ i + m → wQ c → ∃ c' : Cur, Ev (fun k => jO k n i c.1 c.2.1 c.2.2) c' ∧ wQ c'
 | 0, i, c, h0, hm, hc => ⟨c, Ev.step (fun k => u5 k _ _ _ _ _) (Ev.no (decide_eq_false (by omega)) (Ev.pure _)), hc⟩
 | m + 1, i, c, h0, hm, hc => by
   by_cases h : i < n
   ·obtain ⟨y, c1, e, _, _, a3⟩ := vV c hc
    obtain ⟨c2, e2, hc2⟩ := ZY n hn m (i + 1) c1 (by omega) (by omega) a3
    refine ⟨c2, Ev.step (fun k => u5 k _ _ _ _ _) (Ev.yes (decide_eq_true h) (Ev.bind e ?_)), hc2⟩
    rw [zi (by omega) (by omega)]
    exact e2
   ·exact ⟨c, Ev.step (fun k => u5 k _ _ _ _ _) (Ev.no (decide_eq_false h) (Ev.pure _)), hc⟩
theorem Ps (code : List Int) (hm : code.length ≤ 9223372036854775807) (n : Int) (hn : n ≤ 1000000) : ∃ c : Cur, Ev (fun k => VY k (code, n)) c ∧ wQ c := by
 obtain ⟨c, e, hc⟩ := Tm code hm
 obtain ⟨c2, e2, hc2⟩ := ZY n hn n.toNat 0 c (by omega) (by omega) hc
 exact ⟨c2, Ev.step (fun k => Sj k code n) (Ev.bind e e2), hc2⟩
end Qq
namespace Qq
open Go Go.Vt Pt
set_option linter.unusedVariables false
set_option linter.unusedSimpArgs false
theorem gu (n : Nat) (hn : n ≤ 12) : ∀ (m i : Nat) (out : List Int) (c : Cur), i + m = n → out.length = i → out.Perm (upTo i) → wQ c →
 ∃ (p : List Int) (c' : Cur), Ev (fun k => wA k (n : Int) (i : Int) out c.1 c.2.1 c.2.2) (p, c') ∧ p.Perm (upTo n) ∧ wQ c'
 | 0, i, out, c, h, hl, hp, hc => by
   have hi : i = n := by omega
   subst hi
   exact ⟨out, c, Ev.step (fun k => uN k _ _ _ _ _ _) (Ev.no (decide_eq_false (by omega)) (Ev.pure _)), hp, hc⟩
 | m + 1, i, out, c, h, hl, hp, hc => by
   have hw : IntKind.i64.wrap ((i : Int) + (1 : Int)) = ((i + 1 : Nat) : Int) := by rw [zi (by omega) (by omega)]; simp
   obtain ⟨y, c1, e, a1, a2, a3⟩ := zN c hc ((i + 1 : Nat) : Int)
   have hy := a2 (by omega)
   obtain ⟨j, rfl⟩ : ∃ j : Nat, y = (j : Int) := ⟨y.toNat, by omega⟩
   have hj : j < i + 1 := by omega
   have hvl : (out ++ [(i : Int)]).length = i + 1 := by simp [hl]
   have hi' : i < (out ++ [(i : Int)]).length := by omega
   have hj' : j < (out ++ [(i : Int)]).length := by omega
   have hvi : (out ++ [(i : Int)])[i] = (i : Int) := by rw [List.getElem_append_right (by omega)]; simp
   have hgd : (out ++ [(i : Int)]).getD j 0 = (out ++ [(i : Int)])[j] := by rw [List.getD, List.getElem?_eq_getElem hj']; rfl
   have hperm := List.set_set_perm hi' hj'
   rw [hvi] at hperm
   have hperm2 : (((out ++ [(i : Int)]).set i ((out ++ [(i : Int)]).getD j 0)).set j (i : Int)).Perm (upTo (i + 1)) := by
    rw [hgd, Q1]
    exact hperm.trans (hp.append_right _)
   obtain ⟨p, c2, e2, b1, b2⟩ := gu n hn m (i + 1) _ c1 (by omega) (by simp [hl]) hperm2 a3
   refine ⟨p, c2, Ev.step (fun k => uN k _ _ _ _ _ _) (Ev.yes (decide_eq_true (by omega)) ?_), b1, b2⟩
   rw [hw]
   refine Ev.bind e ?_
   simp only [Int.toNat_natCast]
   refine Ev.yes (by rw [zb]; simp; omega) (Ev.yes (by simp) (Ev.yes (by rw [hvl]; simp; omega) (Ev.yes (by rw [hvl]; simp; omega) (Ev.yes (by simp) (Ev.yes (by rw [hvl]; simp; omega) (Ev.yes (by rw [hvl]; simp) (Ev.yes (by simp) (Ev.yes (by simp [hl]; omega) (Ev.yes (by simp [hl]; omega) e2)))))))))
theorem Ub (c : Cur) (hc : wQ c) (n : Nat) (hn : n ≤ 12) : ∃ (p : List Int) (c' : Cur), Ev (fun k => gW k (c, (n : Int))) (p, c') ∧ p.Perm (upTo n) ∧ wQ c' := by
 obtain ⟨p, c', e, h1, h2⟩ := gu n hn n 0 [] c (by omega) rfl (by simp [upTo]) hc
 exact ⟨p, c', Ev.step (fun k => Xe k _ _) e, h1, h2⟩
theorem Mq : ∀ (r done : List Int), (done ++ r.map card).Nodup → (∀ x ∈ r, 0 ≤ card x) → pk done r = true
 | [], done, _, _ => rfl
 | x :: r, done, hn, h0 => by
   unfold pk
   have hx : card x ∉ done := fun hm => by
    rw [List.map_cons, List.nodup_append] at hn
    exact hn.2.2 _ hm _ (by simp) rfl
   have hc : done.contains (card x) = false := by simpa using hx
   rw [hc, Mq r (done ++ [card x]) (by simpa using hn) (fun y hy => h0 y (List.mem_cons_of_mem _ hy))]
   simp [h0 x (by simp)]
theorem Sq {p : List Int} (hn : (p.map card).Nodup) (h0 : ∀ x ∈ p, 0 ≤ card x) : zj p = true := Mq p [] (by simpa using hn) h0
structure PkI (q p : List Int) : Prop where
 m : p.map card = q
 b : ∀ x ∈ p, -12 ≤ x ∧ x ≤ 11
theorem P5 {x : Int} (h1 : -12 ≤ x) (h2 : x ≤ 11) : card (-1 - x) = card x := by
 unfold card
 by_cases h : 0 ≤ x
 ·rw [if_neg (by omega), if_pos (by omega), if_pos (by omega)]; omega
 ·rw [if_pos (by omega), if_neg (by omega), if_pos (by omega)]
theorem PkI.flip {q p : List Int} (h : PkI q p) {i : Nat} (hi : i < p.length) : PkI q (p.set i (-1 - p.getD i 0)) := by
 have hg : p.getD i 0 = p[i] := by rw [List.getD, List.getElem?_eq_getElem hi]; rfl
 have hb := h.b p[i] (List.getElem_mem hi)
 refine ⟨?_, fun x hx => ?_⟩
 ·rw [hg, List.map_set, P5 hb.1 hb.2, ← h.m]
  have : card p[i] = (p.map card)[i]'(by simpa using hi) := by simp
  rw [this, List.set_getElem_self]
 ·rcases List.mem_or_eq_of_mem_set hx with h1 | h1
  ·exact h.b x h1
  ·rw [h1, hg]; omega
theorem jW (q : List Int) (n : Nat) (hn : n ≤ 12) : ∀ (m i : Nat) (p : List Int) (c : Cur), i + m = n → p.length = n → PkI q p → wQ c →
 ∃ (p' : List Int) (c' : Cur), Ev (fun k => vm k (n : Int) (i : Int) p c.1 c.2.1 c.2.2) (p', c') ∧ PkI q p' ∧ p'.length = n ∧ wQ c'
 | 0, i, p, c, h, hl, hp, hc => by
   exact ⟨p, c, Ev.step (fun k => ud k _ _ _ _ _ _) (Ev.no (decide_eq_false (by omega)) (Ev.pure _)), hp, hl, hc⟩
 | m + 1, i, p, c, h, hl, hp, hc => by
   have hw : IntKind.i64.wrap ((i : Int) + (1 : Int)) = ((i + 1 : Nat) : Int) := by rw [zi (by omega) (by omega)]; simp
   obtain ⟨b, c1, e, a3⟩ := Zh c hc 3
   have hi : i < p.length := by omega
   cases b with
   | true =>
     have hf := hp.flip hi
     have hg : p.getD i 0 = p[i] := by rw [List.getD, List.getElem?_eq_getElem hi]; rfl
     have hb := hp.b p[i] (List.getElem_mem hi)
     obtain ⟨p', c2, e2, b1, b2, b3⟩ := jW q n hn m (i + 1) _ c1 (by omega) (by simpa using hl) hf a3
     refine ⟨p', c2, Ev.step (fun k => ud k _ _ _ _ _ _) (Ev.yes (decide_eq_true (by omega)) (Ev.bind e ?_)), b1, b2, b3⟩
     simp only [Int.toNat_natCast]
     have hw2 : IntKind.i64.wrap ((-1 : Int) - p.getD i 0) = -1 - p.getD i 0 := by rw [hg]; exact zi (by omega) (by omega)
     rw [hw, hw2]
     exact Ev.yes rfl (Ev.yes (by simp) (Ev.yes (by simp; omega) (Ev.yes (by simp; omega) (Ev.yes (by simp) (Ev.yes (by simp; omega) (Ev.yes (by simp; omega) e2))))))
   | false =>
     obtain ⟨p', c2, e2, b1, b2, b3⟩ := jW q n hn m (i + 1) p c1 (by omega) hl hp a3
     refine ⟨p', c2, Ev.step (fun k => ud k _ _ _ _ _ _) (Ev.yes (decide_eq_true (by omega)) (Ev.bind e ?_)), b1, b2, b3⟩
     rw [hw]
     exact Ev.no rfl e2
theorem Rb {n : Nat} {x : Int} (h : x ∈ upTo n) : 0 ≤ x ∧ x < n := by
 unfold upTo at h
 obtain ⟨i, hi, rfl⟩ := List.mem_map.1 h
 have := List.mem_range.1 hi
 omega
theorem RP (n : Nat) : (upTo n).Nodup := by
 unfold upTo
 exact List.Pairwise.map _ (fun a b h e => h (by omega)) List.nodup_range
theorem NC {n : Nat} (hn : n ≤ 12) {p : List Int} (h : p.Perm (upTo n)) : PkI p p := by
 have hb : ∀ x ∈ p, 0 ≤ x ∧ x ≤ 11 := fun x hx => by have := Rb (h.mem_iff.1 hx); omega
 refine ⟨?_, fun x hx => by have := hb x hx; omega⟩
 conv => rhs; rw [← List.map_id p]
 exact List.map_congr_left fun x hx => by unfold card; rw [if_pos (hb x hx)]; rfl
structure Drawn (most : Nat) (p : List Int) : Prop where
 ok : zj p = true
 pos : 1 ≤ p.length
 le : p.length ≤ most
theorem Vs (c : Cur) (hc : wQ c) (most : Nat) (h1 : 1 ≤ most) (h12 : most ≤ 12) : ∃ (p : List Int) (c' : Cur), Ev (fun k => bJ k (c, (most : Int))) (p, c') ∧ Drawn most p ∧ wQ c' := by
 obtain ⟨y, c1, e1, a1, a2, a3⟩ := zN c hc (most : Int)
 have hy := a2 (by omega)
 obtain ⟨j, rfl⟩ : ∃ j : Nat, y = (j : Int) := ⟨y.toNat, by omega⟩
 have hw : IntKind.i64.wrap ((1 : Int) + (j : Int)) = ((j + 1 : Nat) : Int) := by rw [zi (by omega) (by omega)]; omega
 obtain ⟨p, c2, e2, b1, b2⟩ := Ub c1 a3 (j + 1) (by omega)
 have hl : p.length = j + 1 := by rw [b1.length_eq, Nq]
 obtain ⟨b, c3, e3, d3⟩ := Zh c2 b2 2
 have hI := NC (by omega) b1
 have hnd : p.Nodup := b1.nodup_iff.2 (RP _)
 have h0 : ∀ x ∈ p, 0 ≤ x := fun x hx => (Rb (b1.mem_iff.1 hx)).1
 have fin : ∀ p', PkI p p' → p'.length = j + 1 → Drawn most p' := fun p' hp' hl' => by
  refine ⟨Sq (by rw [hp'.m]; exact hnd) (fun x hx => h0 _ ?_), by omega, by omega⟩
  rw [← hp'.m]; exact List.mem_map_of_mem hx
 cases b with
 | true =>
   obtain ⟨p', c4, e4, f1, f2, f3⟩ := jW p (j + 1) (by omega) (j + 1) 0 p c3 (by omega) hl hI d3
   refine ⟨p', c4, Ev.step (fun k => ZO k _ _) (Ev.bind e1 ?_), fin p' f1 f2, f3⟩
   dsimp only
   rw [hw]
   refine Ev.bind e2 (Ev.bind e3 (Ev.yes rfl ?_))
   dsimp only
   rw [hl]
   exact e4
 | false =>
   refine ⟨p, c3, Ev.step (fun k => ZO k _ _) (Ev.bind e1 ?_), fin p hI hl, d3⟩
   dsimp only
   rw [hw]
   exact Ev.bind e2 (Ev.bind e3 (Ev.no rfl (Ev.pure _)))
end Qq
namespace Qq
open Go Go.Vt Pt
set_option linter.unusedVariables false
set_option linter.unusedSimpArgs false
set_option linter.unnecessarySimpa false
end Qq
namespace Qq
open Go Go.Vt Pt
set_option linter.unusedVariables false
set_option linter.unusedSimpArgs false
structure KL (l : Packs) : Prop where
 ne : l ≠ []
 len : l.length ≤ 3000
 ss : SS l
 arr : ∃ p, zj p = true ∧ 1 ≤ p.length ∧ ∀ q ∈ l, Pm q p
theorem KL.ok {l : Packs} (h : KL l) {q : List Int} (hq : q ∈ l) : zj q = true ∧ 1 ≤ q.length ∧ q.length ≤ 12 := by
 obtain ⟨p, h1, h2, h3⟩ := h.arr
 obtain ⟨k1, k2⟩ := jS h1 (h3 q hq)
 exact ⟨k1, by omega, (yp k1).2.2⟩
end Qq
namespace Qq
open Go Go.Vt Pt
set_option linter.unusedVariables false
set_option linter.unusedSimpArgs false
end Qq
namespace Qq
open Go Go.Vt Pt
set_option linter.unusedVariables false
set_option linter.unusedSimpArgs false
theorem Ql (c : Cur) (hc : wQ c) (n : Nat) (h1 : 1 ≤ n) (h12 : n ≤ 12) : ∃ (m : Int × Int) (c' : Cur), Ev (fun k => gV k (c, (n : Int))) (m, c') ∧ yZ (n : Int) m = true ∧ wQ c' := by
 obtain ⟨y, c1, e1, a1, a2, a3⟩ := zN c hc 9
 have hy := a2 (by omega)
 have hw : IntKind.i64.wrap ((1 : Int) + y) = 1 + y := zi (by omega) (by omega)
 have hw2 : IntKind.i64.wrap ((n : Int) + (1 : Int)) = (n : Int) + 1 := zi (by omega) (by omega)
 obtain ⟨u, cu, eu, u1, u2, u3⟩ := zN c1 a3 ((n : Int) + 1)
 obtain ⟨v, cv, ev, v1, v2, v3⟩ := zN c1 a3 2
 obtain ⟨w, cw, ew, w1, w2, w3⟩ := zN c1 a3 (n : Int)
 have hu := u2 (by omega)
 have hv := v2 (by omega)
 have hww := w2 (by omega)
 have dn : decide ((1 : Int) ≤ (n : Int)) = true := decide_eq_true (by omega)
 have dm : decide ((n : Int) ≤ (12 : Int)) = true := decide_eq_true (by omega)
 have st : ∀ {z : (Int × Int) × Cur}, Ev (fun k => (zh k (c, (9 : Int))).bind fun y1 =>
  bif ((IntKind.i64.wrap ((1 : Int) + y1.1)) == (1 : Int)) then ((zh k (y1.2, (IntKind.i64.wrap ((n : Int) + (1 : Int))))).bind fun y2 => some (((IntKind.i64.wrap ((1 : Int) + y1.1)), y2.1), y2.2))
  else (bif ((IntKind.i64.wrap ((1 : Int) + y1.1)) == (2 : Int)) then ((zh k (y1.2, (IntKind.i64.wrap ((n : Int) + (1 : Int))))).bind fun y3 => some (((IntKind.i64.wrap ((1 : Int) + y1.1)), y3.1), y3.2))
  else (bif ((IntKind.i64.wrap ((1 : Int) + y1.1)) == (3 : Int)) then ((zh k (y1.2, (IntKind.i64.wrap ((n : Int) + (1 : Int))))).bind fun y4 => some (((IntKind.i64.wrap ((1 : Int) + y1.1)), y4.1), y4.2))
  else (bif ((IntKind.i64.wrap ((1 : Int) + y1.1)) == (4 : Int)) then ((zh k (y1.2, (2 : Int))).bind fun y5 => some (((IntKind.i64.wrap ((1 : Int) + y1.1)), y5.1), y5.2))
  else (bif ((IntKind.i64.wrap ((1 : Int) + y1.1)) == (5 : Int)) then ((zh k (y1.2, (2 : Int))).bind fun y6 => some (((IntKind.i64.wrap ((1 : Int) + y1.1)), y6.1), y6.2))
  else (bif ((IntKind.i64.wrap ((1 : Int) + y1.1)) == (7 : Int)) then ((zh k (y1.2, (2 : Int))).bind fun y7 => some (((IntKind.i64.wrap ((1 : Int) + y1.1)), y7.1), y7.2))
  else (bif ((IntKind.i64.wrap ((1 : Int) + y1.1)) == (8 : Int)) then ((zh k (y1.2, (n : Int))).bind fun y8 => some (((IntKind.i64.wrap ((1 : Int) + y1.1)), y8.1), y8.2))
  else (bif ((IntKind.i64.wrap ((1 : Int) + y1.1)) == (9 : Int)) then ((zh k (y1.2, (n : Int))).bind fun y9 => some (((IntKind.i64.wrap ((1 : Int) + y1.1)), y9.1), y9.2))
  else (some (((IntKind.i64.wrap ((1 : Int) + y1.1)), (0 : Int)), y1.2)))))))))) z → Ev (fun k => gV k (c, (n : Int))) z := fun h => Ev.step (fun k => UU k c (n : Int)) h
 have hcase : y = 0 ∨ y = 1 ∨ y = 2 ∨ y = 3 ∨ y = 4 ∨ y = 5 ∨ y = 6 ∨ y = 7 ∨ y = 8 := by omega
 rcases hcase with rfl | rfl | rfl | rfl | rfl | rfl | rfl | rfl | rfl
 ·refine ⟨(1, u), cu, st (Ev.bind e1 (Ev.yes rfl ?_)), ?_, u3⟩
  ·rw [hw2]; exact Ev.bind eu (Ev.some rfl)
  ·unfold yZ; simp [dn, dm]; omega
 ·refine ⟨(2, u), cu, st (Ev.bind e1 (Ev.no rfl (Ev.yes rfl ?_))), ?_, u3⟩
  ·rw [hw2]; exact Ev.bind eu (Ev.some rfl)
  ·unfold yZ; simp [dn, dm]; omega
 ·refine ⟨(3, u), cu, st (Ev.bind e1 (Ev.no rfl (Ev.no rfl (Ev.yes rfl ?_)))), ?_, u3⟩
  ·rw [hw2]; exact Ev.bind eu (Ev.some rfl)
  ·unfold yZ; simp [dn, dm]; omega
 ·refine ⟨(4, v), cv, st (Ev.bind e1 (Ev.no rfl (Ev.no rfl (Ev.no rfl (Ev.yes rfl ?_))))), ?_, v3⟩
  ·exact Ev.bind ev (Ev.some rfl)
  ·unfold yZ; simp [dn, dm]; omega
 ·refine ⟨(5, v), cv, st (Ev.bind e1 (Ev.no rfl (Ev.no rfl (Ev.no rfl (Ev.no rfl (Ev.yes rfl ?_)))))), ?_, v3⟩
  ·exact Ev.bind ev (Ev.some rfl)
  ·unfold yZ; simp [dn, dm]; omega
 ·refine ⟨(6, 0), c1, st (Ev.bind e1 (Ev.no rfl (Ev.no rfl (Ev.no rfl (Ev.no rfl (Ev.no rfl (Ev.no rfl (Ev.no rfl (Ev.no rfl ?_))))))))), ?_, a3⟩
  ·exact Ev.some rfl
  ·unfold yZ; simp [dn, dm] <;> omega
 ·refine ⟨(7, v), cv, st (Ev.bind e1 (Ev.no rfl (Ev.no rfl (Ev.no rfl (Ev.no rfl (Ev.no rfl (Ev.yes rfl ?_))))))), ?_, v3⟩
  ·exact Ev.bind ev (Ev.some rfl)
  ·unfold yZ; simp [dn, dm]; omega
 ·refine ⟨(8, w), cw, st (Ev.bind e1 (Ev.no rfl (Ev.no rfl (Ev.no rfl (Ev.no rfl (Ev.no rfl (Ev.no rfl (Ev.yes rfl ?_)))))))), ?_, w3⟩
  ·exact Ev.bind ew (Ev.some rfl)
  ·unfold yZ; simp [dn, dm]; omega
 ·refine ⟨(9, w), cw, st (Ev.bind e1 (Ev.no rfl (Ev.no rfl (Ev.no rfl (Ev.no rfl (Ev.no rfl (Ev.no rfl (Ev.no rfl (Ev.yes rfl ?_))))))))), ?_, w3⟩
  ·exact Ev.bind ew (Ev.some rfl)
  ·unfold yZ; simp [dn, dm]; omega
theorem Vf (xs ys : List Int) (hx : xs.length ≤ 9223372036854775807) (hl : xs.length = ys.length) : ∀ (r : List Int) (i : Nat), xs.drop i = r → xs.take i = ys.take i → Ev (fun k => bz k ys xs (xs.length : Int) (i : Int)) (decide (xs = ys))
 | [], i, h, ht => by
   have a := yK h
   have e : xs = ys := by
    rw [List.take_of_length_le a.ge, List.take_of_length_le (by rw [← hl]; exact a.ge)] at ht
    exact ht
   exact Ev.step (fun k => ZD k _ _ _ _) (Ev.no a.g (Ev.some (by simp [e])))
 | x :: r, i, h, ht => by
   have a := zK h (by rw [ze]; exact hx)
   have lt := a.lt
   have gy : decide ((i : Int) < (ys.length : Int)) = true := decide_eq_true (by omega)
   refine Ev.step (fun k => ZD k _ _ _ _) ?_
   simp only [a.g, a.z, a.get, a.w, gy, cond_true, Int.toNat_natCast]
   have hg : xs.getD i 0 = x := a.gt 0
   have hy : i < ys.length := by omega
   have hgy : ys.getD i 0 = ys[i] := by simp [List.getD, hy]
   by_cases e : x = ys.getD i 0
   ·refine Ev.no (by rw [hg, e]; simp) (Vf xs ys hx hl r (i + 1) a.next ?_)
    rw [Q4 h, ht, List.take_add_one, List.getElem?_eq_getElem hy, e, hgy]; rfl
   ·refine Ev.yes (by rw [hg]; simp at e ⊢; exact e) (Ev.some ?_)
    have : xs ≠ ys := fun h2 => e (by rw [← hg, h2])
    simp [this]
theorem MD (xs ys : List Int) (hx : xs.length ≤ 9223372036854775807) : Ev (fun k => Q0 k (xs, ys)) (decide (xs = ys)) := by
 refine Ev.step (fun k => QZ k xs ys) ?_
 by_cases h : xs.length = ys.length
 ·exact Ev.no (by simp [h]) (Vf xs ys hx h _ 0 rfl (by simp))
 ·have : xs ≠ ys := fun e => h (by rw [e])
  exact Ev.yes (by simp; omega) (Ev.some (by simp [this]))
end Qq
namespace Qq
open Go Go.Vt Pt
set_option linter.unusedVariables false
set_option linter.unusedSimpArgs false
theorem jm (n : Nat) (hn : 1 ≤ n) (hm : n ≤ 12) : ∀ (d i : Nat), i + d = n → Ev (fun k => va k (n : Int) (i : Int) (upTo i)) (upTo n)
 | 0, i, h => by
   have e : i = n := by omega
   subst e
   refine Ev.step (fun k => jn k _ _ _) ?_
   rw [Lv (by omega)]
   refine Ev.no rfl (Ev.yes ?_ (Ev.pure _))
   have : (upTo i).length = i := by simp [upTo]
   cases hx : upTo i with
   | nil => rw [hx] at this; simp at this; omega
   | cons => rfl
 | d + 1, i, h => by
   have u := LJ (n := (n : Int)) (i := i) (by omega) (by omega)
   refine Ev.step (fun k => jn k _ _ _) ?_
   simp only [u.g, u.w, cond_true]
   refine Ev.yes (by rw [zb]; simp [upTo]; omega) ?_
   have := jm n hn hm d (i + 1) (by omega)
   have e : upTo (i + 1) = upTo i ++ [(i : Int)] := by simp [upTo, List.range_succ]
   rw [e] at this
   exact this
theorem wB : Ev (fun k => wU k 4) (upTo 4) := by
 refine Ev.step (fun k => WL k _) (Ev.bind (Uc _ _ _) (Ev.no rfl ?_))
 exact jm 4 (by omega) (by omega) 4 0 rfl
end Qq
namespace Qq
open Go Go.Vt Pt
set_option linter.unusedVariables false
set_option linter.unusedSimpArgs false
set_option linter.unnecessarySimpa false
theorem Qj (c : Cur) (hc : wQ c) (n : Nat) (h1 : 1 ≤ n) (h7 : n ≤ 7) : ∃ (s : Step) (c' : Cur), Ev (fun k => jk k (c, (n : Int))) ((s.1, (s.2.1.1, (s.2.1.2, s.2.2))), c') ∧ zI (n : Int) s = true ∧ wQ c' := by
 obtain ⟨y, c1, e1, a1, a2, a3⟩ := zN c hc 4
 have hy := a2 (by omega)
 have dn : decide ((1 : Int) ≤ (n : Int)) = true := decide_eq_true (by omega)
 have dm : decide ((n : Int) ≤ (12 : Int)) = true := decide_eq_true (by omega)
 have st : ∀ {z : (Int × Int × Int × Int) × Cur}, Ev (fun k => (zh k (c, (4 : Int))).bind fun y1 =>
  bif (y1.1 == (0 : Int)) then
   ((bK k (y1.2, [(0 : Int), (1 : Int), (1 : Int), (3 : Int), (4 : Int)])).bind fun y2 =>
   bif (y2.1 == (3 : Int)) then
    (bif decide ((n : Int) < (2 : Int)) then
      (some (((2 : Int), ((0 : Int), ((0 : Int), (1 : Int)))), y2.2))
    else (some (((2 : Int), ((0 : Int), ((0 : Int), y2.1))), y2.2)))
   else (some (((2 : Int), ((0 : Int), ((0 : Int), y2.1))), y2.2)))
  else (bif (y1.1 == (1 : Int)) then
   ((zh k (y1.2, (n : Int))).bind fun y3 =>
   some (((3 : Int), ((0 : Int), ((0 : Int), y3.1))), y3.2))
   else ((gV k (y1.2, (n : Int))).bind fun y4 =>
    some (((1 : Int), (y4.1.1, (y4.1.2, (0 : Int)))), y4.2)))) z → Ev (fun k => jk k (c, (n : Int))) z := fun h => Ev.step (fun k => UT k c (n : Int)) h
 have hcase : y = 0 ∨ y = 1 ∨ 2 ≤ y := by omega
 rcases hcase with rfl | rfl | h2
 ·obtain ⟨u, cu, eu, u1, u2, u3⟩ := zN c1 a3 5
  have hu := u2 (by omega)
  have ep : Ev (fun k => bK k (c1, [(0 : Int), (1 : Int), (1 : Int), (3 : Int), (4 : Int)])) (([(0 : Int), (1 : Int), (1 : Int), (3 : Int), (4 : Int)].getD u.toNat 0), cu) := by
   refine Ev.step (fun k => UW k c1 _) (Ev.bind eu (Ev.yes (decide_eq_true u1) (Ev.yes (decide_eq_true (by simpa using hu)) (Ev.pure _))))
  have hcu : u = 0 ∨ u = 1 ∨ u = 2 ∨ u = 3 ∨ u = 4 := by omega
  have one : Ev (fun k => jk k (c, (n : Int))) (((2 : Int), ((0 : Int), ((0 : Int), (1 : Int)))), cu) → ∃ (s : Step) (c' : Cur), Ev (fun k => jk k (c, (n : Int))) ((s.1, (s.2.1.1, (s.2.1.2, s.2.2))), c') ∧ zI (n : Int) s = true ∧ wQ c' := fun h => ⟨(2, (0, 0), 1), cu, h, by unfold zI; simp [dn, dm], u3⟩
  rcases hcu with rfl | rfl | rfl | rfl | rfl
  ·exact ⟨(2, (0, 0), 0), cu, st (Ev.bind e1 (Ev.yes rfl (Ev.bind ep (Ev.no rfl (Ev.pure _))))), by unfold zI; simp [dn, dm], u3⟩
  ·exact one (st (Ev.bind e1 (Ev.yes rfl (Ev.bind ep (Ev.no rfl (Ev.pure _))))))
  ·exact one (st (Ev.bind e1 (Ev.yes rfl (Ev.bind ep (Ev.no rfl (Ev.pure _))))))
  ·by_cases h2 : (n : Int) < 2
   ·exact one (st (Ev.bind e1 (Ev.yes rfl (Ev.bind ep (Ev.yes rfl (Ev.yes (decide_eq_true h2) (Ev.pure _)))))))
   ·exact ⟨(2, (0, 0), 3), cu, st (Ev.bind e1 (Ev.yes rfl (Ev.bind ep (Ev.yes rfl (Ev.no (decide_eq_false h2) (Ev.pure _)))))), by unfold zI; simp [dn, dm]; omega, u3⟩
  ·exact ⟨(2, (0, 0), 4), cu, st (Ev.bind e1 (Ev.yes rfl (Ev.bind ep (Ev.no rfl (Ev.pure _))))), by unfold zI; simp [dn, dm], u3⟩
 ·obtain ⟨u, cu, eu, u1, u2, u3⟩ := zN c1 a3 (n : Int)
  have hu := u2 (by omega)
  exact ⟨(3, (0, 0), u), cu, st (Ev.bind e1 (Ev.no rfl (Ev.yes rfl (Ev.bind eu (Ev.pure _))))), by unfold zI; simp [dn, dm]; omega, u3⟩
 ·obtain ⟨m, cm, em, m1, m2⟩ := Ql c1 a3 n h1 (by omega)
  refine ⟨(1, m, 0), cm, st (Ev.bind e1 (Ev.no (by simp; omega) (Ev.no (by simp; omega) (Ev.bind em (Ev.pure _))))), ?_, m2⟩
  unfold zI
  rw [dn, dm]
  simp [m1]
theorem Pe {p : List Int} (h : zj p = true) (h1 : 1 ≤ p.length) : 0 ≤ pos p (card (p.getD 0 0)) := by
 cases p with
 | nil => simp at h1
 | cons x r =>
   have := ((yp h).2.1 x (by simp)).1
   show 0 ≤ pos (x :: r) (card x)
   unfold pos
   rw [if_neg (by omega)]
   unfold posF
   rw [if_pos rfl]
   omega
structure Made (t : yt) : Prop where
 ok : zv t = true
 le : t.1.length ≤ 4
 st : t.2.1.length ≤ 4
theorem TK (st : List Step) (s : Step) : wi (st ++ [s]) = (wi st || s.1 == 3) := by unfold wi; simp
theorem XG {p : List Int} {st : List Step} {c a b : Int} (hp : zj p = true) (h1 : 1 ≤ p.length) (h4 : p.length ≤ 4) (hs : st.length ≤ 4) (hk : ∀ s ∈ st, zI (p.length : Int) s = true) (hc : wj p.length p (wi st) c a b = true) : Made (p, st, c, a, b) := by
 refine ⟨?_, h4, hs⟩
 unfold zv
 have hz : (p.length == 0) = false := by simp; intro e; rw [e] at h1; simp at h1
 have e12 : decide (st.length ≤ 12) = true := decide_eq_true (by omega)
 simp only [hp, hz, e12, Bool.true_and, Bool.not_false]
 rw [hc, Bool.and_true]
 exact List.all_eq_true.2 hk
theorem bY (p : List Int) (hp : zj p = true) (h1 : 1 ≤ p.length) (h4 : p.length ≤ 4) : ∀ (m : Nat) (st : List Step) (c : Cur), st.length + m ≤ 4 → (∀ s ∈ st, zI (p.length : Int) s = true) → wQ c →
 ∃ (t : yt) (c' : Cur), Ev (fun k => xL k (p.length : Int) (wi st) (m : Int) 0 0 0 0 0 0 p st c.1 c.2.1 c.2.2) (t, c') ∧ Made t ∧ wQ c'
 | 0, st, c, hl, hs, hc => by
   obtain ⟨y, c1, e1, a1, a2, a3⟩ := zN c hc 4
   have hy := a2 (by omega)
   have hw : IntKind.i64.wrap ((p.length : Int) + (1 : Int)) = (p.length : Int) + 1 := zi (by omega) (by omega)
   have st0 : ∀ {z : yt × Cur} {f : Nat → Option (yt × Cur)}, (∀ k, xL (k + 1) (p.length : Int) (wi st) ((0 : Nat) : Int) 0 0 0 0 0 0 p st c.1 c.2.1 c.2.2 = f k) → Ev f z → Ev (fun k => xL k (p.length : Int) (wi st) ((0 : Nat) : Int) 0 0 0 0 0 0 p st c.1 c.2.1 c.2.2) z := fun h1 h2 => Ev.step h1 h2
   have hcase : y = 0 ∨ y = 1 ∨ y = 2 ∨ y = 3 := by omega
   rcases hcase with rfl | rfl | rfl | rfl
   ·cases hn : wi st with
    | true =>
      obtain ⟨u, cu, eu, u1, u2, u3⟩ := zN c1 a3 (p.length : Int)
      have hu := u2 (by omega)
      refine ⟨(p, st, 1, u, 0), cu, Ev.step (fun k => xn k _ _ _ _ _ _ _ _ _ _ _ _ _ _) (Ev.no rfl (Ev.bind e1 (Ev.yes rfl (Ev.yes rfl (Ev.bind eu (Ev.pure _)))))), XG hp h1 h4 (by omega) hs ?_, u3⟩
      unfold wj
      rw [hn]
      simp; omega
    | false =>
      refine ⟨(p, st, 0, 0, 0), c1, Ev.step (fun k => xn k _ _ _ _ _ _ _ _ _ _ _ _ _ _) (Ev.no rfl (Ev.bind e1 (Ev.yes rfl (Ev.no rfl (Ev.pure _))))), XG hp h1 h4 (by omega) hs ?_, a3⟩
      unfold wj
      simp
   ·obtain ⟨u, cu, eu, u1, u2, u3⟩ := zN c1 a3 ((p.length : Int) + 1)
    have hu := u2 (by omega)
    refine ⟨(p, st, 2, u, 0), cu, Ev.step (fun k => xn k _ _ _ _ _ _ _ _ _ _ _ _ _ _) (Ev.no rfl (Ev.bind e1 (Ev.no rfl (Ev.yes rfl ?_)))), XG hp h1 h4 (by omega) hs ?_, u3⟩
    ·rw [hw]; exact Ev.bind eu (Ev.pure _)
    ·unfold wj
     simp; omega
   ·obtain ⟨u, cu, eu, u1, u2, u3⟩ := zN c1 a3 (p.length : Int)
    have hu := u2 (by omega)
    refine ⟨(p, st, 3, card (p.getD 0 0), u), cu, Ev.step (fun k => xn k _ _ _ _ _ _ _ _ _ _ _ _ _ _) (Ev.no rfl (Ev.bind e1 (Ev.no rfl (Ev.no rfl (Ev.yes rfl (Ev.yes (decide_eq_true (by omega)) (Ev.yes (decide_eq_true (by omega)) (Ev.bind (Sl _) (Ev.bind eu (Ev.pure _)))))))))), XG hp h1 h4 (by omega) hs ?_, u3⟩
    have := Pe hp h1
    unfold wj
    simp only [this]
    simp; omega
   ·refine ⟨(p, st, 4, 0, 0), c1, Ev.step (fun k => xn k _ _ _ _ _ _ _ _ _ _ _ _ _ _) (Ev.no rfl (Ev.bind e1 (Ev.no rfl (Ev.no rfl (Ev.no rfl (Ev.pure _)))))), XG hp h1 h4 (by omega) hs ?_, a3⟩
    unfold wj
    simp
 | m + 1, st, c, hl, hs, hc => by
   obtain ⟨s, c1, e1, s1, hc1⟩ := Qj c hc p.length h1 (by omega)
   obtain ⟨t, c2, e2, ht, hc2⟩ := bY p hp h1 h4 m (st ++ [s]) c1 (by simp; omega) (fun q hq => by
    rcases List.mem_append.1 hq with hq | hq
    ·exact hs q hq
    ·have : q = s := by simpa using hq
     rw [this]; exact s1) hc1
   have hw : IntKind.i64.wrap (((m + 1 : Nat) : Int) - (1 : Int)) = (m : Int) := by rw [zi (by omega) (by omega)]; omega
   refine ⟨t, c2, Ev.step (fun k => xn k _ _ _ _ _ _ _ _ _ _ _ _ _ _) (Ev.yes (decide_eq_true (by omega)) (Ev.bind e1 ?_)), ht, hc2⟩
   rw [hw]
   rw [TK] at e2
   cases hn : wi st with
   | true =>
     rw [hn, Bool.true_or] at e2
     exact Ev.yes rfl (Ev.yes (by rw [zb]; simp; omega) e2)
   | false =>
     rw [hn, Bool.false_or] at e2
     exact Ev.no rfl (Ev.yes (by rw [zb]; simp; omega) e2)
theorem Su (c : Cur) (hc : wQ c) : ∃ (t : yt) (c' : Cur), Ev (fun k => Zb k c) (t, c') ∧ Made t ∧ wQ c' := by
 obtain ⟨y, c1, e1, a1, a2, a3⟩ := zN c hc 4
 have hy := a2 (by omega)
 have hcase : y = 0 ∨ y = 1 ∨ y = 2 ∨ y = 3 := by omega
 rcases hcase with rfl | rfl | rfl | rfl
 ·exact ⟨_, c1, Ev.step (fun k => vO k c) (Ev.bind e1 (Ev.yes rfl (Ev.bind wB (Ev.pure _)))), ⟨by decide, by decide, by decide⟩, a3⟩
 ·exact ⟨_, c1, Ev.step (fun k => vO k c) (Ev.bind e1 (Ev.no rfl (Ev.yes rfl (Ev.bind wB (Ev.pure _))))), ⟨by decide, by decide, by decide⟩, a3⟩
 ·exact ⟨_, c1, Ev.step (fun k => vO k c) (Ev.bind e1 (Ev.no rfl (Ev.no rfl (Ev.yes rfl (Ev.bind wB (Ev.pure _)))))), ⟨by decide, by decide, by decide⟩, a3⟩
 ·exact ⟨_, c1, Ev.step (fun k => vO k c) (Ev.bind e1 (Ev.no rfl (Ev.no rfl (Ev.no rfl (Ev.bind wB (Ev.pure _)))))), ⟨by decide, by decide, by decide⟩, a3⟩
theorem Qk (c : Cur) (hc : wQ c) : ∃ (t : yt) (c' : Cur), Ev (fun k => Xd k c) (t, c') ∧ Made t ∧ wQ c' := by
 obtain ⟨b, c1, e1, hc1⟩ := Zh c hc 3
 cases b with
 | true =>
   obtain ⟨t, c2, e2, ht, hc2⟩ := Su c1 hc1
   exact ⟨t, c2, Ev.step (fun k => ZM k c) (Ev.bind e1 (Ev.yes rfl (Ev.bind e2 (Ev.pure _)))), ht, hc2⟩
 | false =>
   obtain ⟨p, c2, e2, hp, hc2⟩ := Vs c1 hc1 4 (by omega) (by omega)
   obtain ⟨y, c3, e3, a1, a2, hc3⟩ := zN c2 hc2 5
   have hy := a2 (by omega)
   obtain ⟨j, rfl⟩ : ∃ j : Nat, y = (j : Int) := ⟨y.toNat, by omega⟩
   obtain ⟨t, c4, e4, ht, hc4⟩ := bY p hp.ok hp.pos hp.le j [] c3 (by simp; omega) (fun s hs => by cases hs) hc3
   exact ⟨t, c4, Ev.step (fun k => ZM k c) (Ev.bind e1 (Ev.no rfl (Ev.bind e2 (Ev.bind e3 e4)))), ht, hc4⟩
theorem Se (code : List Int) (hm : code.length ≤ 9223372036854775807) : ∃ t : yt, Ev (fun k => cU k code) t ∧ Made t := by
 obtain ⟨c, e, hc⟩ := Tm code hm
 obtain ⟨t, c2, e2, ht, _⟩ := Qk c hc
 exact ⟨t, Ev.step (fun k => WM k code) (Ev.bind e (Ev.bind e2 (Ev.pure _))), ht⟩
end Qq
namespace Qq
open Go Go.Vt Pt
set_option linter.unusedVariables false
set_option linter.unusedSimpArgs false
set_option linter.unnecessarySimpa false
theorem WP (t : yt) (a1 : t.1.length ≤ maxLen) (ai : Ins t.1) (a2 : t.2.1.length ≤ maxLen) : Ev (fun k => bm k t) (jG t) := by
 refine Ev.step (fun k => W5 k t) (Ev.bind (WQ t a1 ai a2) (Ev.ite (fun h => Ev.some ?_) (fun h => Ev.some ?_)))
 ·unfold jG; rw [if_neg (by simpa using h)]
 ·unfold jG; rw [if_pos (by simpa using h)]
end Qq
namespace Qq
open Go Go.Vt Pt
set_option linter.unusedVariables false
set_option linter.unusedSimpArgs false
def gT (c : Scene) : ByteArray := if zj c.1 then (if 0 ≤ c.2 ∧ c.2 ≤ 11 then (zu c.1 ++ ⟨#[32, 110, 111, 116, 101, 100, 32]⟩) ++ yb c.2 else zu c.1) else ⟨#[]⟩
theorem NP (n : Int) : 1 ≤ (Lib.itoa n).length := by
 have h : ∀ u : Nat, 1 ≤ (Lib.decDigits u).length := by
  intro u
  by_cases h : u < 10
  ·rw [fO h]; simp
  ·rw [Wm h]; simp
 unfold Lib.itoa
 split
 ·simp
 ·exact h _
theorem N9 (x : Int) : 1 ≤ (cardB x).size := by
 have := NP (card x)
 unfold cardB
 split
 ·rw [ByteArray.size_append, yb, yU]; omega
 ·rw [yb, yU]; exact this
theorem Wi {p : List Int} (h : zj p = true) : 1 ≤ (zu p).size := by
 unfold zu
 rw [if_pos h]
 cases p with
 | nil => rw [if_pos rfl]; decide
 | cons x r =>
   rw [if_neg (by simp), b8, yU, Tn, List.map_cons, List.map_cons, Lib.join_cons, List.length_append, fT]
   have := N9 x
   omega
theorem WV (c : Scene) (b1 : c.1.length ≤ maxLen) (bi : Ins c.1) : Ev (fun k => bf k c) (gT c) := by
 unfold gT
 have sp := xW c.1
 refine Ev.step (fun k => WW k c) (Ev.bind (wX c.1 b1 bi) (Ev.ite (fun h => ?_) (fun h => Ev.some ?_)))
 ·have e : zj c.1 = true := by
   cases hp : zj c.1 with
   | true => rfl
   | false =>
     unfold zu at h
     rw [hp] at h
     simp at h
  rw [if_pos e]
  refine Ev.ite (fun h1 => Ev.ite (fun h2 => ?_) (fun h2 => Ev.some ?_)) (fun h1 => Ev.some ?_)
  ·have hc : 0 ≤ c.2 ∧ c.2 ≤ 11 := by simp at h1 h2; omega
   rw [if_pos hc]
   have hin : In c.2 := by unfold In; omega
   have s1 := yv _ hin
   refine Ev.bind (zL _ hin) (Ev.yes (cO (m := 7) (by decide) s1 (by decide)) (Ev.yes (cO sp (vZ (m := 7) (by decide) s1) (by decide)) (Ev.some ?_)))
   rw [ByteArray.append_assoc]
  ·rw [if_neg (by simp at h1 h2; omega)]
  ·rw [if_neg (by simp at h1; omega)]
 ·cases hp : zj c.1 with
  | true =>
    have h1 := Wi hp
    have h2 : (zu c.1).toList = (⟨#[]⟩ : ByteArray).toList := by simpa using h
    rw [ByteArray.toList_eq, ByteArray.toList_eq] at h2
    have h3 : (w5 (zu c.1)).length = 0 := by unfold w5; rw [h2]; rfl
    rw [fT] at h3
    omega
  | false =>
    unfold zu
    rw [hp]; rfl
end Qq
namespace Qq
open Go Go.Vt Pt
set_option linter.unusedVariables false
set_option linter.unusedSimpArgs false
theorem YA (c a b : Int) (ha : In a) (hb : In b) : (uD c a b).size ≤ 60 := by
 have sa := yv a ha
 have sb := yv b hb
 unfold uD
 split
 ·decide
 split
 ·exact Nat.le_trans (vZ (m := 9) (by decide) sa) (by decide)
 split
 ·exact Nat.le_trans (vZ (m := 3) (by decide) sa) (by decide)
 split
 ·have s1 := vZ (a := (⟨#[99, 97, 114, 100, 32]⟩ : ByteArray)) (m := 5) (by decide) sa
  have s2 := vZ (b := (⟨#[32, 97, 116, 32]⟩ : ByteArray)) (n := 4) s1 (by decide)
  exact Nat.le_trans (vZ s2 sb) (by decide)
 split
 ·decide
 ·decide
def claimB (t : yt) : ByteArray := (⟨#[99, 108, 97, 105, 109, 32]⟩ : ByteArray) ++ uD t.2.2.1 t.2.2.2.1 t.2.2.2.2
def startB (t : yt) : ByteArray := (⟨#[115, 116, 97, 114, 116, 32]⟩ : ByteArray) ++ zu t.1
def fX (t : yt) : List ByteArray := if zv t then ([startB t] ++ t.2.1.map yc) ++ [claimB t] else []
theorem uR (t : yt) (hst : t.2.1.length ≤ 12) (ha : In t.2.2.2.1) (hb : In t.2.2.2.2) : ∀ (r : List Step) (i : Nat), t.2.1.drop i = r →
 Ev (fun k => wJ k t.2.1 (t.2.1.length : Int) (i : Int) t.1 t.2.1 t.2.2.1 t.2.2.2.1 t.2.2.2.2 ([startB t] ++ (t.2.1.take i).map yc)) (([startB t] ++ t.2.1.map yc) ++ [claimB t])
 | [], i, h => by
   have q := yK h
   refine Ev.step (fun k => uS k _ _ _ _ _ _ _ _ _) ?_
   simp only [q.g, cond_false]
   rw [List.take_of_length_le q.ge]
   exact Ev.bind (Yw t.1 t.2.1 _ _ _ ha hb) (Ev.yes (cO (m := 6) (by decide) (YA _ _ _ ha hb) (by decide)) (Ev.yes (by rw [zb]; simp; omega) (Ev.pure _)))
 | s :: r, i, h => by
   have q := zK h (by rw [ze]; omega)
   have hlt := q.lt
   have ih := uR t hst ha hb r (i + 1) q.next
   have e : t.2.1[i] = s := by have := q.get (0, ((0, 0), 0)); rw [Int.toNat_natCast, List.getD, List.getElem?_eq_getElem hlt] at this; exact this
   rw [List.take_succ_eq_append_getElem hlt, List.map_append, e, ← List.append_assoc] at ih
   refine Ev.step (fun k => uS k _ _ _ _ _ _ _ _ _) ?_
   simp only [q.g, q.z, q.get, q.w, cond_true]
   exact Ev.bind (uy s) (Ev.yes (by rw [zb]; simp; omega) ih)
theorem X1 (t : yt) (a1 : t.1.length ≤ maxLen) (ai : Ins t.1) (a2 : t.2.1.length ≤ maxLen) (ha : In t.2.2.2.1) (hb : In t.2.2.2.2) : Ev (fun k => fr k t) (fX t) := by
 unfold fX
 refine Ev.step (fun k => X2 k t) (Ev.bind (wn t a1 ai a2) (Ev.ite (fun h => Ev.some ?_) (fun h => ?_)))
 ·have : zv t = false := by simpa using h
  rw [this]; rfl
 ·have e : zv t = true := by simpa using h
  rw [if_pos e]
  have := uR t (yu e).1 ha hb t.2.1 0 rfl
  rw [List.take_zero, List.map_nil, List.append_nil] at this
  exact Ev.bind (wX t.1 a1 ai) (Ev.yes (cO (m := 6) (by decide) (xW t.1) (by decide)) this)
end Qq
namespace Qq
open Go Go.Vt Pt
set_option linter.unusedVariables false
set_option linter.unusedSimpArgs false
end Qq
namespace Qq
open Go Go.Vt Pt
set_option linter.unusedVariables false
set_option linter.unusedSimpArgs false
end Qq
namespace Qq
open Go Go.Vt Pt
set_option linter.unusedVariables false
set_option linter.unusedSimpArgs false
theorem M8 (m : Int) (h1 : 1 ≤ m) (h12 : m ≤ 12) : (bif decide ((bif decide ((12 : Int) < m) then (12 : Int) else m) > (1 : Int)) then (bif decide ((12 : Int) < m) then (12 : Int) else m) else (1 : Int)) = m := by
 have e1 : decide ((12 : Int) < m) = false := by simp; omega
 rw [e1, cond_false]
 by_cases h : m > 1
 ·have e2 : decide (m > (1 : Int)) = true := by simp [h]
  rw [e2, cond_true]
 ·have e2 : decide (m > (1 : Int)) = false := by simp; omega
  rw [e2, cond_false]; omega
theorem UJ (code : List Int) (hm : code.length ≤ 9223372036854775807) (n : Int) (hn : n ≤ 1000000) (most : Nat) (h1 : 1 ≤ most) (h12 : most ≤ 12) : ∃ p, Ev (fun k => fa k (code, n, (most : Int))) p ∧ Drawn most p := by
 obtain ⟨c, e, hc⟩ := Ps code hm n hn
 obtain ⟨p, c2, e2, hp, _⟩ := Vs c hc most h1 h12
 refine ⟨p, Ev.step (fun k => Xg k code n _) (Ev.bind e ?_), hp⟩
 rw [M8 _ (by omega) (by omega)]
 exact Ev.bind e2 (Ev.pure _)
end Qq
