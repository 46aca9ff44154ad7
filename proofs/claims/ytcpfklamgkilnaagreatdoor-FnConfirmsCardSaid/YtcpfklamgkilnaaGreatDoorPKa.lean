/-
  What the laws lean on: what the functions come to.
  Conditions: numbers and lengths are such as a machine bears.
-/
import Derived.Test.YtcpfklamgkilnaaGreatDoorPt
import Derived.Test.YtcpfklamgkilnaaGreatDoorVd
import Derived.Laws.BitsLemmas
import Derived.Lib.ItoaLen
import Derived.Test.YtcpfklamgkilnaaGreatDoorCmf
namespace Go.Vt
end Go.Vt
namespace Qq
open Go Go.Vt
set_option linter.unusedVariables false
set_option linter.unusedSimpArgs false
theorem zg : maxLen = 9223372036854775807 := by unfold maxLen; decide
theorem zc : rowMax = 4294967296 := rfl
theorem zj {x : Int} (h1 : -9223372036854775808 ≤ x) (h2 : x ≤ 9223372036854775807) : IntKind.i64.wrap x = x := by
 rw [IntKind.wrap_i64]; omega
def In (x : Int) : Prop := -9223372036854775808 ≤ x ∧ x ≤ 9223372036854775807
theorem In.of_fits {x : Int} (h : Fits (.int .i64) x) : In x := by
 have h' : IntKind.i64.min ≤ x ∧ x ≤ IntKind.i64.max := h
 have e1 : IntKind.i64.min = -9223372036854775808 := by decide
 have e2 : IntKind.i64.max = 9223372036854775807 := by decide
 unfold In; rw [e1, e2] at h'; exact h'
def Ins (xs : List Int) : Prop := ∀ x ∈ xs, In x
structure AtCons {α : Type} (xs : List α) (i : Nat) (y : α) (rest : List α) : Prop where
 lt : i < xs.length
 g : decide ((i : Int) < (xs.length : Int)) = true
 z : decide ((0 : Int) ≤ (i : Int)) = true
 n : decide ((i : Int).toNat < xs.length) = true
 get : ∀ d, xs.getD (i : Int).toNat d = y
 w : IntKind.i64.wrap ((i : Int) + 1) = ((i + 1 : Nat) : Int)
 next : xs.drop (i + 1) = rest
 mem : y ∈ xs
 gt : ∀ d, xs.getD i d = y
 le : decide ((i : Int) ≤ (xs.length : Int)) = true
theorem zy {α : Type} {xs : List α} {i : Nat} {y : α} {rest : List α} (h : xs.drop i = y :: rest) (hm : xs.length ≤ maxLen) : AtCons xs i y rest := by
 rw [zg] at hm
 have lt : i < xs.length := by
  rcases Nat.lt_or_ge i xs.length with h1 | h1
  ·exact h1
  ·rw [List.drop_eq_nil_of_le h1] at h; cases h
 have e := List.drop_eq_getElem_cons lt
 rw [e] at h
 have hy : xs[i] = y := by injection h
 refine ⟨lt, by simp; omega, by simp, by simp; omega, fun d => by simp [List.getD, lt, hy], by rw [zj (by omega) (by omega)]; simp, by injection h, by rw [← hy]; exact List.getElem_mem lt, fun d => by simp [List.getD, lt, hy], by simp; omega⟩
structure AtNil {α : Type} (xs : List α) (i : Nat) : Prop where
 ge : xs.length ≤ i
 g : decide ((i : Int) < (xs.length : Int)) = false
theorem zZ {α : Type} {xs : List α} {i : Nat} (h : xs.drop i = []) : AtNil xs i := by
 have ge : xs.length ≤ i := List.drop_eq_nil_iff.1 h
 exact ⟨ge, by simp; omega⟩
structure AtUp (n : Int) (i : Nat) : Prop where
 lt : (i : Int) < n
 g : decide ((i : Int) < n) = true
 z : decide ((0 : Int) ≤ (i : Int)) = true
 w : IntKind.i64.wrap ((i : Int) + 1) = ((i + 1 : Nat) : Int)
theorem Fu {n : Int} {i : Nat} (h : (i : Int) < n) (hn : n ≤ 9223372036854775807) : AtUp n i :=
 ⟨h, by simp [h], by simp, by rw [zj (by omega) (by omega)]; simp⟩
theorem Km {n : Int} {i : Nat} (h : n ≤ (i : Int)) : decide ((i : Int) < n) = false := by simp [h]
end Qq
namespace Qq
open Go Go.Vt Pt
set_option linter.unusedVariables false
set_option linter.unusedSimpArgs false
def strB (l : List UInt8) : ByteArray := ⟨l.toArray⟩
theorem LA (a b : List UInt8) : strB a ++ strB b = strB (a ++ b) := by unfold strB; apply ByteArray.ext; simp
theorem zK (a : List UInt8) : (strB a).size = a.length := by simp [strB, ByteArray.size]
def yt (n : Int) : ByteArray := strB (Lib.itoa n)
theorem aS {u : Nat} (h : u < 10) : Lib.decDigits u = [UInt8.ofNat (48 + u)] := by rw [Lib.decDigits, dif_pos h]
theorem Sk {u : Nat} (h : ¬ u < 10) : Lib.decDigits u = Lib.decDigits (u / 10) ++ [UInt8.ofNat (48 + u % 10)] := by rw [Lib.decDigits, dif_neg h]
theorem EO (n : Int) (hn : In n) : Ev (fun k => strconv_Itoa k n) (yt n) := by
 refine Ev.congr (fun k => UQ k n) ?_
 unfold itoaF
 refine Ev.yes ?_ (Ev.pure _)
 unfold In at hn
 simp; exact hn
theorem zD (n : Int) (hn : In n) : Ev (fun k => zB k n) (yt n) :=
 Ev.step (fun k => Rj k n) (Ev.bind (EO n hn) (Ev.pure _))
theorem zX (n : Int) (hn : In n) : (yt n).size ≤ 21 := by
 unfold In at hn
 rw [yt, zK]
 exact Lib.itoa_length_le n hn.1 hn.2
end Qq
namespace Qq
open Go Go.Vt Pt
set_option linter.unusedVariables false
set_option linter.unusedSimpArgs false
theorem ji {d : Nat} (h : d < 10) : (UInt8.ofNat (48 + d)).toNat = 48 + d := by rw [UInt8.toNat_ofNat']; omega
theorem FQ (u : Nat) : Lib.decDigits u ≠ [] := by
 by_cases h : u < 10
 ·rw [aS h]; simp
 ·rw [Sk h]; simp
theorem NR (u : Nat) : ∀ b ∈ Lib.decDigits u, 48 ≤ b.toNat ∧ b.toNat ≤ 57 := by
 induction u using Nat.strongRecOn with
 | _ u ih =>
   intro b hb
   by_cases h : u < 10
   ·rw [aS h] at hb
    rw [List.mem_singleton.1 hb, ji h]; omega
   ·rw [Sk h] at hb
    rcases List.mem_append.1 hb with h1 | h1
    ·exact ih _ (by omega) b h1
    ·rw [List.mem_singleton.1 h1, ji (Nat.mod_lt _ (by omega))]
     have := Nat.mod_lt u (show 0 < 10 by omega)
     omega
theorem ZK : ∀ (l m : List UInt8) (acc : Nat), Lib.parseUint10 acc (l ++ m) = match Lib.parseUint10 acc l with | .ok v => Lib.parseUint10 v m | e => e
 | [], m, acc => rfl
 | c :: r, m, acc => by
   simp only [List.cons_append, Lib.parseUint10]
   split
   ·split
    ·rfl
    ·split
     ·rfl
     ·exact ZK r m _
   ·rfl
theorem Tf (u : Nat) : u < 18446744073709551616 → Lib.parseUint10 0 (Lib.decDigits u) = .ok u := by
 induction u using Nat.strongRecOn with
 | _ u ih =>
   intro hu
   by_cases h : u < 10
   ·rw [aS h]
    simp only [Lib.parseUint10]
    rw [if_pos (by rw [ji h]; omega), if_neg (by omega), if_neg (by rw [ji h]; omega), ji h]
    simp
   ·have hm := Nat.mod_lt u (show 0 < 10 by omega)
    rw [Sk h, ZK, ih (u / 10) (by omega) (by omega)]
    simp only [Lib.parseUint10]
    rw [if_pos (by rw [ji hm]; omega), if_neg (by omega), if_neg (by rw [ji hm]; omega), ji hm]
    congr 1; omega
theorem Gd (n : Int) (hn : In n) : Lib.atoiAll (Lib.itoa n) = .ok n := by
 unfold In at hn
 unfold Lib.itoa
 by_cases h : n < 0
 ·rw [if_pos h]
  have h45 : (45 : UInt8).toNat = 45 := rfl
  simp only [Lib.atoiAll, h45]
  rw [if_pos (Or.inr trivial)]
  unfold Lib.parseMag
  rw [if_neg (FQ _), Tf _ (by omega)]
  simp only
  rw [if_neg (fun e => e.1 trivial), if_neg (fun e => by have := e.2; omega), if_pos trivial]
  congr 1
  omega
 ·rw [if_neg h]
  have hne := FQ n.toNat
  have hd := NR n.toNat
  cases hl : Lib.decDigits n.toNat with
  | nil => exact absurd hl hne
  | cons c r =>
    have hc := hd c (by rw [hl]; simp)
    simp only [Lib.atoiAll]
    rw [if_neg (by omega), ← hl]
    unfold Lib.parseMag
    rw [if_neg hne, Tf _ (by omega)]
    simp only
    have h45 : ¬ c.toNat = 45 := by omega
    rw [if_neg (fun e => by have := e.2; omega), if_neg (fun e => h45 e.1), if_neg h45]
    congr 1
    omega
theorem j7 (s : ByteArray) : strB s.data.toList = s := by unfold strB; apply ByteArray.ext; simp
theorem vV (l : List UInt8) : (strB l).data.toList = l := by unfold strB; simp
def yJ (s : ByteArray) : Int × Bool := match Lib.atoiAll s.data.toList with | .ok v => if yt v = s then (v, true) else (0, false) | _ => (0, false)
theorem ce (n : Int) (hn : In n) : yJ (yt n) = (n, true) := by
 unfold yJ
 rw [yt, vV, Gd n hn]
 simp only
 rw [if_pos (by rw [yt])]
theorem PS {s : ByteArray} (h : ∀ n, In n → s ≠ yt n) : yJ s = (0, false) := by
 unfold yJ
 cases hc : Lib.atoiAll s.data.toList with
 | ok v =>
   simp only
   rw [if_neg (fun e => h v (Lib.atoiAll_bounds hc) e.symm)]
 | _ => rfl
theorem PU (s : ByteArray) : (∃ n, In n ∧ s = yt n ∧ yJ s = (n, true)) ∨ (yJ s = (0, false) ∧ ∀ n, In n → s ≠ yt n) := by
 by_cases h : ∃ n, In n ∧ s = yt n
 ·obtain ⟨n, h1, h2⟩ := h
  exact .inl ⟨n, h1, h2, by rw [h2]; exact ce n h1⟩
 ·have h' : ∀ n, In n → s ≠ yt n := fun n h1 h2 => h ⟨n, h1, h2⟩
  exact .inr ⟨PS h', h'⟩
theorem Ho {m n : Int} (hm : In m) (hn : In n) (h : yt m = yt n) : m = n := by
 have := ce m hm
 rw [h, ce n hn] at this
 injection this with h1; exact h1.symm
theorem Nc (n : Int) : ∀ b ∈ Lib.itoa n, b ≠ 32 := by
 intro b hb
 unfold Lib.itoa at hb
 have h1 : ∀ u, b ∈ Lib.decDigits u → b ≠ 32 := fun u h e => by have := NR u b h; subst e; have e2 : (32 : UInt8).toNat = 32 := rfl; omega
 split at hb
 ·rcases List.mem_cons.1 hb with rfl | h
  ·decide
  ·exact h1 _ h
 ·exact h1 _ hb
def xN (cur : List UInt8) : List UInt8 → List (List UInt8)
 | [] => [cur]
 | c :: r => if c = 32 then cur :: xN [] r else xN (cur ++ [c]) r
def cutB (s : ByteArray) : List ByteArray := (xN [] s.data.toList).map strB
theorem Kg (cur l : List UInt8) : xN cur l ≠ [] := by
 induction l generalizing cur with
 | nil => simp [xN]
 | cons c r ih => unfold xN; split; simp; exact ih _
def Nb : List (List UInt8) → List UInt8
 | [] => [] | [a] => a | a :: b :: r => a ++ 32 :: Nb (b :: r)
theorem RU (a : List UInt8) {l : List (List UInt8)} (h : l ≠ []) : Nb (a :: l) = a ++ 32 :: Nb l := by
 cases l with
 | nil => exact absurd rfl h
 | cons b r => rfl
theorem MI (cur l : List UInt8) : Nb (xN cur l) = cur ++ l := by
 induction l generalizing cur with
 | nil => simp [xN, Nb]
 | cons c r ih =>
   unfold xN
   split
   ·rename_i h
    rw [RU _ (Kg _ _), ih, h]; rfl
   ·rw [ih]; simp
theorem X3 (a cur : List UInt8) (h : ∀ b ∈ a, b ≠ 32) : xN cur a = [cur ++ a] := by
 induction a generalizing cur with
 | nil => simp [xN]
 | cons c r ih =>
   unfold xN
   rw [if_neg (h c (by simp)), ih _ (fun b hb => h b (List.mem_cons_of_mem _ hb))]
   simp
theorem Lc (a cur m : List UInt8) (h : ∀ b ∈ a, b ≠ 32) : xN cur (a ++ 32 :: m) = (cur ++ a) :: xN [] m := by
 induction a generalizing cur with
 | nil =>
   show (if (32 : UInt8) = 32 then cur :: xN [] m else xN (cur ++ [32]) m) = _
   rw [if_pos rfl, List.append_nil]
 | cons c r ih =>
   rw [List.cons_append, xN, if_neg (h c (by simp)), ih _ (fun b hb => h b (List.mem_cons_of_mem _ hb))]
   simp
end Qq
namespace Qq
open Go Go.Vt Pt
set_option linter.unusedVariables false
set_option linter.unusedSimpArgs false
theorem uU (l : List UInt8) (a b : Nat) : (strB l).extract a b = strB ((l.take b).drop a) := by
 apply ByteArray.ext
 apply Array.ext'
 simp [strB, List.drop_take]
theorem EH (c d : UInt8) : (((c.toNat : Nat) : Int) == ((d.toNat : Nat) : Int)) = decide (c = d) := by
 by_cases h : c = d
 ·subst h; simp
 ·have : ¬ c.toNat = d.toNat := fun e => h (UInt8.toNat_inj.1 e)
  have h2 : ¬ (((c.toNat : Nat) : Int) = ((d.toNat : Nat) : Int)) := by omega
  simp only [h, decide_false]
  exact beq_eq_false_iff_ne.2 h2
theorem N5 (c : UInt8) : ((c.toNat : Int)).toNat.toUInt8 = c := by rw [Int.toNat_natCast]; exact UInt8.ofNat_toNat
theorem Rs {l : List UInt8} {i : Nat} {c : UInt8} {r : List UInt8} (h : l.drop i = c :: r) : l.take (i + 1) = l.take i ++ [c] := by
 have lt : i < l.length := by
  rcases Nat.lt_or_ge i l.length with h1 | h1
  ·exact h1
  ·rw [List.drop_eq_nil_of_le h1] at h; cases h
 rw [List.take_succ_eq_append_getElem lt]
 have e := List.drop_eq_getElem_cons lt
 rw [e] at h
 injection h with h1 h2
 rw [h1]
def sp : ByteArray := ⟨#[32]⟩
theorem SJ (c : UInt8) : Ev (fun k => strings_IndexByte k (sp, (c.toNat : Int))) (if c = 32 then 0 else -1) := by
 refine Ev.congr (fun k => jA k _ _) (Ev.some ?_)
 rw [N5]
 show Lib.indexByte [32] c = _
 unfold Lib.indexByte
 by_cases h : c = 32
 ·subst h; rfl
 ·have : ((32 : UInt8) == c) = false := by simp; exact fun e => h e.symm
  rw [if_neg h, if_neg (by rw [this]; simp)]
  rfl
theorem jr (l : List UInt8) (hm : l.length ≤ 1048576) : ∀ (r : List UInt8) (i f : Nat) (out : List ByteArray), l.drop i = r → f ≤ i → i ≤ l.length → out.length ≤ i →
 Ev (fun k => wJ k (strB l) sp (f : Int) (i : Int) out) (out ++ (xN ((l.take i).drop f) r).map strB)
 | [], i, f, out, h, hf, hi, ho => by
   have a := zZ h
   have hil : i = l.length := Nat.le_antisymm hi a.ge
   refine Ev.step (fun k => w9 k _ _ _ _ _) ?_
   simp only [zK, a.g, cond_false, uU]
   refine Ev.yes (by simp) (Ev.yes (by simp; omega) (Ev.yes (by simp) (Ev.yes (by rw [zc]; simp; omega) (Ev.some ?_))))
   rw [hil]
   simp [xN]
 | c :: r, i, f, out, h, hf, hi, ho => by
   have a := zy h (by rw [zg]; omega)
   have lt := a.lt
   refine Ev.step (fun k => w9 k _ _ _ _ _) ?_
   simp only [zK, vV, a.g, a.z, a.get, a.w, cond_true, uU]
   refine Ev.bind (SJ c) ?_
   unfold xN
   by_cases hc : c = 32
   ·rw [if_pos hc, if_pos hc]
    refine Ev.yes rfl (Ev.yes (by simp) (Ev.yes (by simp; omega) (Ev.yes (by simp; omega) (Ev.yes (by rw [zc]; simp; omega) ?_))))
    refine (jr l hm r (i + 1) (i + 1) _ a.next (Nat.le_refl _) (by omega) (by simp; omega)).to ?_
    rw [show (l.take (i + 1)).drop (i + 1) = [] from List.drop_eq_nil_of_le (by rw [List.length_take]; omega)]
    simp
   ·rw [if_neg hc, if_neg hc]
    refine Ev.no rfl ?_
    refine (jr l hm r (i + 1) f _ a.next (by omega) (by omega) (by omega)).to ?_
    rw [Rs h, List.drop_append_of_le_length (by simp; omega)]
theorem cF (s : ByteArray) (hm : s.size ≤ 1048576) : Ev (fun k => uv k (s, sp)) (cutB s) := by
 refine Ev.step (fun k => XF k s sp) ?_
 have := jr s.data.toList (by simpa using hm) _ 0 0 [] rfl (Nat.le_refl _) (Nat.zero_le _) (Nat.le_refl _)
 rw [j7] at this
 exact this
theorem zU (a b : ByteArray) : (a.toList == b.toList) = decide (a = b) := by
 by_cases h : a = b
 ·subst h; simp
 ·have : ¬ a.toList = b.toList := fun e => h (by
   rw [ByteArray.toList_eq, ByteArray.toList_eq] at e
   exact ByteArray.ext (Array.ext' e))
  simp [h, this]
theorem xZ (s : ByteArray) (hm : s.size ≤ 1048576) : Ev (fun k => wK k s) (yJ s) := by
 refine Ev.step (fun k => QU k s) (Ev.bind (x := atoiR s.data.toList) (Ev.congr (fun k => UR k s) ?_) ?_)
 ·unfold atoiF
  exact Ev.yes (by simp; omega) (Ev.pure _)
 ·unfold atoiR yJ
  cases hc : Lib.atoiAll s.data.toList with
  | ok v =>
    refine Ev.no rfl (Ev.bind (zD v (Lib.atoiAll_bounds hc)) ?_)
    simp only [zU]
    by_cases h : yt v = s
    ·rw [if_pos h]
     exact Ev.no (by simp [h]) (Ev.pure _)
    ·rw [if_neg h]
     exact Ev.yes (by simp [h]) (Ev.pure _)
  | _ => exact Ev.yes rfl (Ev.pure _)
def fin (s : ByteArray) (neg : Bool) (u : Nat) : Int × Bool :=
 bif neg then (if yt (-(u : Int)) = s then (-(u : Int), true) else (0, false)) else if u = 9223372036854775808 then (0, false) else if yt (u : Int) = s then ((u : Int), true) else (0, false)
theorem Sq (s : ByteArray) : ∀ a ∈ cutB s, a.size ≤ s.size := by
 have H : ∀ (l cur : List UInt8), ∀ a ∈ xN cur l, a.length ≤ cur.length + l.length := by
  intro l
  induction l with
  | nil => intro cur a ha; simp [xN] at ha; subst ha; simp
  | cons c r ih =>
    intro cur a ha
    unfold xN at ha
    split at ha
    ·rcases List.mem_cons.1 ha with rfl | h
     ·simp
     ·have := ih [] a h; simp at this ⊢; omega
    ·have := ih _ a ha; simp at this ⊢; omega
 intro a ha
 obtain ⟨l, hl, rfl⟩ := List.mem_map.1 ha
 have := H _ _ l hl
 rw [zK]
 simpa using this
end Qq
namespace Qq
open Go Go.Vt Pt
set_option linter.unusedVariables false
set_option linter.unusedSimpArgs false
end Qq
namespace Qq
open Go Go.Vt Pt
set_option linter.unusedVariables false
set_option linter.unusedSimpArgs false
def wT (x : ByteArray) : List UInt8 := x.data.toList
theorem eL (x : ByteArray) : (wT x).length = x.size := by unfold wT; simp
def SZ (l : List ByteArray) (sep : ByteArray) : List UInt8 := Lib.join (l.map wT) (wT sep)
def xw (l : List ByteArray) (sep : ByteArray) : ByteArray := strB (SZ l sep)
theorem Vx {B S : Nat} (sep : List UInt8) (hs : sep.length ≤ S) : ∀ (r : List ByteArray), (∀ x ∈ r, x.size ≤ B) → (Lib.joinTail sep (r.map wT)).length ≤ r.length * (B + S)
 | [], _ => by simp [Lib.joinTail]
 | x :: r, h => by
   have ih := Vx sep hs r (fun y hy => h y (by simp [hy]))
   have hx := h x (by simp)
   have e : Lib.joinTail sep ((x :: r).map wT) = (sep ++ wT x) ++ Lib.joinTail sep (r.map wT) := by simp [Lib.joinTail]
   rw [e, List.length_append, List.length_append, eL, List.length_cons, Nat.add_mul, Nat.one_mul]
   omega
theorem cu {B S : Nat} (sep : ByteArray) (hs : sep.size ≤ S) (l : List ByteArray) (h : ∀ x ∈ l, x.size ≤ B) : (SZ l sep).length ≤ l.length * (B + S) := by
 cases l with
 | nil => simp [SZ, Lib.join_nil]
 | cons x r =>
   have hx := h x (by simp)
   have := Vx (B := B) (S := S) (wT sep) (by rw [eL]; exact hs) r (fun y hy => h y (by simp [hy]))
   unfold SZ
   rw [List.map_cons, Lib.join_cons, List.length_append, eL, List.length_cons, Nat.add_mul, Nat.one_mul]
   omega
theorem T2 (l : List ByteArray) (sep : ByteArray) (B : Nat) (hl : l.length ≤ 1048576) (hB : ∀ x ∈ l, x.size ≤ B) (hBB : B ≤ 100) (hs : sep.size ≤ 100) : Ev (fun k => jE k (l, sep)) (xw l sep) := by
 refine Ev.step (fun k => Nx k l sep) (Ev.bind (Ev.congr (fun k => bO k l sep) ?_) (Ev.pure _))
 unfold joinF
 have jl := cu (B := B) (S := 100) sep hs l hB
 have hmul : l.length * (B + 100) ≤ 1048576 * 200 := Nat.mul_le_mul hl (by omega)
 refine Ev.yes ?_ (Ev.pure _)
 rw [Bool.and_eq_true, decide_eq_true_eq, decide_eq_true_eq]
 exact ⟨by omega, by show (SZ l sep).length ≤ _; omega⟩
theorem b6 (xs : List Int) (hm : xs.length ≤ 1048576) (hi : Ins xs) : ∀ (r : List Int) (i : Nat), xs.drop i = r → Ev (fun k => uN k xs (xs.length : Int) (i : Int) ((xs.take i).map yt)) (xs.map yt)
 | [], i, h => by
   have a := zZ h
   refine Ev.step (fun k => fW k _ _ _ _) ?_
   simp only [a.g, cond_false]
   exact Ev.some (by rw [List.take_of_length_le a.ge])
 | x :: r, i, h => by
   have a := zy h (by rw [zg]; omega)
   have hlt := a.lt
   have hx : In x := hi x (List.mem_of_mem_drop (h ▸ List.mem_cons_self))
   refine Ev.step (fun k => fW k _ _ _ _) ?_
   simp only [a.g, a.z, a.get, a.w, cond_true]
   refine Ev.bind (zD x hx) (Ev.yes (by rw [zc]; simp; omega) ?_)
   have := b6 xs hm hi r (i + 1) a.next
   rw [List.take_succ_eq_append_getElem hlt, List.map_append] at this
   have e : xs[i] = x := by have := a.get 0; rw [Int.toNat_natCast, List.getD, List.getElem?_eq_getElem hlt] at this; exact this
   rw [e] at this
   exact this
theorem Vp (xs : List Int) (hm : xs.length ≤ 1048576) (hi : Ins xs) : Ev (fun k => cx k xs) (xs.map yt) :=
 Ev.step (fun k => S8 k xs) (b6 xs hm hi xs 0 rfl)
theorem wZ {xs : List Int} (hi : Ins xs) : ∀ x ∈ xs.map yt, x.size ≤ 21 := by
 intro x hx
 obtain ⟨n, hn, rfl⟩ := List.mem_map.1 hx
 exact zX n (hi n hn)
end Qq
namespace Qq
open Go Go.Vt Pt
set_option linter.unusedVariables false
set_option linter.unusedSimpArgs false
def cutN (cur : List UInt8) : List UInt8 → List (List UInt8)
 | [] => [cur]
 | c :: r => if c = 10 then cur :: cutN [] r else cutN (cur ++ [c]) r
theorem EC (cur l : List UInt8) : cutN cur l ≠ [] := by
 induction l generalizing cur with
 | nil => simp [cutN]
 | cons c r ih => unfold cutN; split; simp; exact ih _
def MJ : List (List UInt8) → List UInt8
 | [] => [] | [a] => a | a :: b :: r => a ++ 10 :: MJ (b :: r)
theorem EB (a cur : List UInt8) (h : ∀ b ∈ a, b ≠ 10) : cutN cur a = [cur ++ a] := by
 induction a generalizing cur with
 | nil => simp [cutN]
 | cons c r ih =>
   unfold cutN
   rw [if_neg (h c (by simp)), ih _ (fun b hb => h b (List.mem_cons_of_mem _ hb))]
   simp
theorem ED (a cur m : List UInt8) (h : ∀ b ∈ a, b ≠ 10) : cutN cur (a ++ 10 :: m) = (cur ++ a) :: cutN [] m := by
 induction a generalizing cur with
 | nil =>
   show (if (10 : UInt8) = 10 then cur :: cutN [] m else cutN (cur ++ [10]) m) = _
   rw [if_pos rfl, List.append_nil]
 | cons c r ih =>
   rw [List.cons_append, cutN, if_neg (h c (by simp)), ih _ (fun b hb => h b (List.mem_cons_of_mem _ hb))]
   simp
theorem Qa : ∀ (l : List (List UInt8)), l ≠ [] → (∀ a ∈ l, ∀ b ∈ a, b ≠ 10) → cutN [] (MJ l) = l
 | [], h, _ => absurd rfl h
 | [a], _, h => by rw [MJ, EB a [] (h a (by simp))]; rfl
 | a :: b :: r, _, h => by
   rw [MJ, ED a [] _ (h a (by simp)), Qa (b :: r) (by simp) (fun x hx => h x (List.mem_cons_of_mem _ hx))]; rfl
def cW (s : ByteArray) : List ByteArray := (cutN [] s.data.toList).map strB
def nl : ByteArray := ⟨#[10]⟩
theorem SK (c : UInt8) : Ev (fun k => strings_IndexByte k (nl, (c.toNat : Int))) (if c = 10 then 0 else -1) := by
 refine Ev.congr (fun k => jA k _ _) (Ev.some ?_)
 rw [N5]
 show Lib.indexByte [10] c = _
 unfold Lib.indexByte
 by_cases h : c = 10
 ·subst h; rfl
 ·have : ((10 : UInt8) == c) = false := by simp; exact fun e => h e.symm
  rw [if_neg h, if_neg (by rw [this]; simp)]
  rfl
theorem vl (l : List UInt8) (hm : l.length ≤ 1048576) : ∀ (r : List UInt8) (i f : Nat) (out : List ByteArray), l.drop i = r → f ≤ i → i ≤ l.length → out.length ≤ i →
 Ev (fun k => wJ k (strB l) nl (f : Int) (i : Int) out) (out ++ (cutN ((l.take i).drop f) r).map strB)
 | [], i, f, out, h, hf, hi, ho => by
   have a := zZ h
   have hil : i = l.length := Nat.le_antisymm hi a.ge
   refine Ev.step (fun k => w9 k _ _ _ _ _) ?_
   simp only [zK, a.g, cond_false, uU]
   refine Ev.yes (by simp) (Ev.yes (by simp; omega) (Ev.yes (by simp) (Ev.yes (by rw [zc]; simp; omega) (Ev.some ?_))))
   rw [hil]
   simp [cutN]
 | c :: r, i, f, out, h, hf, hi, ho => by
   have a := zy h (by rw [zg]; omega)
   have lt := a.lt
   refine Ev.step (fun k => w9 k _ _ _ _ _) ?_
   simp only [zK, vV, a.g, a.z, a.get, a.w, cond_true, uU]
   refine Ev.bind (SK c) ?_
   unfold cutN
   by_cases hc : c = 10
   ·rw [if_pos hc, if_pos hc]
    refine Ev.yes rfl (Ev.yes (by simp) (Ev.yes (by simp; omega) (Ev.yes (by simp; omega) (Ev.yes (by rw [zc]; simp; omega) ?_))))
    refine (vl l hm r (i + 1) (i + 1) _ a.next (Nat.le_refl _) (by omega) (by simp; omega)).to ?_
    rw [show (l.take (i + 1)).drop (i + 1) = [] from List.drop_eq_nil_of_le (by rw [List.length_take]; omega)]
    simp
   ·rw [if_neg hc, if_neg hc]
    refine Ev.no rfl ?_
    refine (vl l hm r (i + 1) f _ a.next (by omega) (by omega) (by omega)).to ?_
    rw [Rs h, List.drop_append_of_le_length (by simp; omega)]
theorem V6 (s : ByteArray) (hm : s.size ≤ 1048576) : Ev (fun k => uv k (s, nl)) (cW s) := by
 refine Ev.step (fun k => XF k s nl) ?_
 have := vl s.data.toList (by simpa using hm) _ 0 0 [] rfl (Nat.le_refl _) (Nat.zero_le _) (Nat.le_refl _)
 rw [j7] at this
 exact this
theorem RT : ∀ (l : List (List UInt8)), Lib.join l [10] = MJ l
 | [] => rfl
 | [a] => by rw [Lib.join_cons]; simp [Lib.joinTail, MJ]
 | a :: b :: r => by
   have ih := RT (b :: r)
   rw [Lib.join_cons] at ih ⊢
   rw [MJ, ← ih]
   simp [Lib.joinTail]
theorem Lb (l : List ByteArray) (h : l ≠ []) (hs : ∀ a ∈ l, ∀ b ∈ a.data.toList, b ≠ 10) : cW (xw l nl) = l := by
 unfold cW xw SZ
 have e2 : wT nl = [10] := rfl
 rw [vV, e2, RT, Qa (l.map wT) (by simpa using h) (fun a ha => by
  obtain ⟨x, hx, rfl⟩ := List.mem_map.1 ha
  exact hs x hx), List.map_map]
 conv => rhs; rw [← List.map_id l]
 apply List.map_congr_left
 intro a _
 exact j7 a
theorem cR (l : List ByteArray) (sep : ByteArray) (hl : l.length ≤ 140737488355328) (hj : (xw l sep).size ≤ 140737488355328) : Ev (fun k => jE k (l, sep)) (xw l sep) := by
 refine Ev.step (fun k => Nx k l sep) (Ev.bind (Ev.congr (fun k => bO k l sep) ?_) (Ev.pure _))
 unfold joinF
 rw [xw, zK] at hj
 refine Ev.yes ?_ (Ev.pure _)
 rw [Bool.and_eq_true, decide_eq_true_eq, decide_eq_true_eq]
 exact ⟨hl, hj⟩
def j8 (s : ByteArray) : List ByteArray := if (cW s).getLastD ⟨#[]⟩ = ⟨#[]⟩ then (cW s).dropLast else cW s
end Qq
namespace Qq
open Go Go.Vt Pt
set_option linter.unusedVariables false
set_option linter.unusedSimpArgs false
def vT (n : Int) (m : Int × Int) : Bool :=
 decide (1 ≤ n) && (decide (n ≤ 12) && (decide (0 ≤ m.2) &&
  (if m.1 = 1 then decide (m.2 ≤ n) else if m.1 = 2 then decide (m.2 ≤ n) else if m.1 = 3 then decide (m.2 ≤ n) else
   if m.1 = 4 then decide (m.2 ≤ 1) else if m.1 = 5 then decide (m.2 ≤ 1) else if m.1 = 7 then decide (m.2 ≤ 1) else
   if m.1 = 6 then m.2 == 0 else if m.1 = 8 then decide (m.2 < n) else if m.1 = 9 then decide (m.2 < n) else false)))
theorem cP (n : Int) (m : Int × Int) : Ev (fun k => Zp k (n, m)) (vT n m) := by
 obtain ⟨a, b⟩ := m
 refine Ev.step (fun k => MR k n (a, b)) ?_
 unfold vT
 refine Ev.ite (fun h => Ev.some ?_) (fun h => ?_)
 ·have : ¬ 1 ≤ n := by simpa using h
  simp [this]
 have h1 : 1 ≤ n := by simpa using h
 refine Ev.ite (fun h => Ev.some ?_) (fun h => ?_)
 ·have : ¬ n ≤ 12 := by simpa using h
  simp [this]
 have h2 : n ≤ 12 := by simpa using h
 refine Ev.ite (fun h => Ev.some ?_) (fun h => ?_)
 ·have : ¬ 0 ≤ b := by simpa using h
  simp [this]
 have h3 : 0 ≤ b := by simpa using h
 clear h
 simp only [h1, h2, h3, decide_true, Bool.true_and]
 iterate 9 (refine Ev.ite (fun h => ?_) (fun h => ?_); · exact Ev.some (by simp at *; simp [*]))
 exact Ev.some (by simp at *; simp [*])
def yj (n : Int) (s : Int × (Int × Int) × Int) : Bool :=
 decide (1 ≤ n) && (decide (n ≤ 12) &&
  (if s.1 = 1 then vT n s.2.1 && s.2.2 == 0 else
   if s.1 = 2 then s.2.1.1 == 0 && (s.2.1.2 == 0 && (decide (0 ≤ s.2.2) && (decide (s.2.2 ≤ 4) && ((!(s.2.2 == 3) || decide (2 ≤ n)) && (!(s.2.2 == 2) || decide (n ≤ 7)))))) else
   if s.1 = 3 then s.2.1.1 == 0 && (s.2.1.2 == 0 && (decide (0 ≤ s.2.2) && decide (s.2.2 < n))) else false))
theorem YH (n : Int) (s : Int × (Int × Int) × Int) : Ev (fun k => XE k (n, s)) (yj n s) := by
 obtain ⟨t, ⟨a, b⟩, c⟩ := s
 refine Ev.step (fun k => MP k n (t, (a, b), c)) ?_
 unfold yj
 refine Ev.ite (fun h => Ev.some ?_) (fun h => ?_)
 ·have : ¬ 1 ≤ n := by simpa using h
  simp [this]
 have h1 : 1 ≤ n := by simpa using h
 refine Ev.ite (fun h => Ev.some ?_) (fun h => ?_)
 ·have : ¬ n ≤ 12 := by simpa using h
  simp [this]
 have h2 : n ≤ 12 := by simpa using h
 clear h
 simp only [h1, h2, decide_true, Bool.true_and]
 refine Ev.ite (fun h => ?_) (fun h => ?_)
 ·have e : t = 1 := by simpa using h
  subst e
  exact Ev.bind (cP n (a, b)) (Ev.ite (fun h => Ev.some (by simp at *; simp [*])) (fun h => Ev.some (by simp at *; simp [*])))
 have t1 : ¬ t = 1 := by simpa using h
 simp only [t1, if_false]
 repeat (first | (refine Ev.ite (fun h => ?_) (fun h => ?_)) | focus (refine Ev.some ?_; simp_all; done) | focus (refine Ev.some ?_; simp_all; omega) | focus (refine Ev.some ?_; rw [Bool.eq_iff_iff]; simp at *; omega))
end Qq
namespace Qq
open Go Go.Vt Pt
set_option linter.unusedVariables false
set_option linter.unusedSimpArgs false
abbrev Step : Type := Int × (Int × Int) × Int
abbrev Trick : Type := List Int × List Step × Int × Int × Int
abbrev Scene : Type := List Int × Int
end Qq
namespace Qq
open Go Go.Vt Pt
set_option linter.unusedVariables false
set_option linter.unusedSimpArgs false
def idx (x : Int) : Nat → List Int → Int
 | _, [] => -1
 | i, y :: r => if x = y then (i : Int) else idx x (i + 1) r
theorem Hs (x : Int) : ∀ (r : List Int) (i : Nat), decide (idx x i r ≥ 0) = r.contains x
 | [], i => by simp [idx]
 | y :: r, i => by
   unfold idx
   by_cases h : x = y
   ·simp [h]
   ·rw [if_neg h, Hs x r (i + 1)]; simp [h]
theorem Za (x : Int) (xs : List Int) (hm : xs.length ≤ maxLen) : ∀ (r : List Int) (i : Nat), xs.drop i = r → Ev (fun k => xV k xs x (xs.length : Int) (i : Int)) (idx x i r)
 | [], i, h => by
   have a := zZ h
   refine Ev.step (fun k => ul k xs x _ i) ?_
   simp only [a.g, cond_false]
   exact Ev.pure _
 | y :: r, i, h => by
   have a := zy h hm
   refine Ev.step (fun k => ul k xs x _ i) ?_
   simp only [a.g, a.z, a.get, a.w, cond_true]
   unfold idx
   refine Ev.ite (fun h => Ev.some ?_) (fun h => (Za x xs hm r (i + 1) a.next).to ?_)
   ·have : x = y := by simpa using h
    simp [this]
   ·have : ¬ x = y := by simpa using h
    rw [if_neg this]
theorem VW (xs : List Int) (x : Int) (hm : xs.length ≤ maxLen) : Ev (fun k => w7 k (xs, x)) (idx x 0 xs) :=
 Ev.step (fun k => Yp k xs x) (Za x xs hm xs 0 rfl)
theorem Zc (xs : List Int) (x : Int) (hm : xs.length ≤ maxLen) : Ev (fun k => xW k (xs, x)) (xs.contains x) :=
 Ev.step (fun k => bI k xs x) (Ev.bind (VW xs x hm) (Ev.some (Hs x xs 0)))
end Qq
namespace Qq
open Go Go.Vt Pt
set_option linter.unusedVariables false
set_option linter.unusedSimpArgs false
def SU (n : Int) : List Int → List Int → Bool
 | _, [] => true
 | done, x :: r => decide (0 ≤ x) && (decide (x < n) && (!(done.contains x) && SU n (done ++ [x]) r))
def QE (n : Int) (p : List Int) : Bool := decide (1 ≤ n) && (decide (n ≤ 12) && SU n [] p)
theorem UM {α : Type} {xs : List α} {i : Nat} {y : α} {r : List α} (h : xs.drop i = y :: r) : xs.take (i + 1) = xs.take i ++ [y] := by
 have lt : i < xs.length := by
  rcases Nat.lt_or_ge i xs.length with h1 | h1
  ·exact h1
  ·rw [List.drop_eq_nil_of_le h1] at h; cases h
 rw [List.drop_eq_getElem_cons lt] at h
 rw [List.take_succ_eq_append_getElem lt]
 injection h with h1 h2
 rw [h1]
theorem bm (n : Int) (xs : List Int) (hm : xs.length ≤ maxLen) : ∀ (r : List Int) (i : Nat), xs.drop i = r → Ev (fun k => jO k n xs xs (xs.length : Int) (i : Int)) (SU n (xs.take i) r)
 | [], i, h => by
   have a := zZ h
   refine Ev.step (fun k => bn k n xs xs _ i) ?_
   simp only [a.g, cond_false]
   exact Ev.pure _
 | x :: r, i, h => by
   have a := zy h hm
   have g : decide ((i : Int) ≤ (xs.length : Int)) = true := by have := a.lt; simp; omega
   refine Ev.step (fun k => bn k n xs xs _ i) ?_
   simp only [a.g, a.z, a.get, a.gt, a.w, g, cond_true, List.drop_zero, Int.toNat_natCast]
   unfold SU
   refine Ev.ite (fun h1 => Ev.some ?_) (fun h1 => Ev.ite (fun h2 => Ev.some ?_) (fun h2 => Ev.bind (Zc (xs.take i) x (by rw [List.length_take]; omega)) (Ev.ite (fun h' => Ev.some ?_) (fun h' => ?_))))
   ·have : ¬ 0 ≤ x := by simpa using h1
    simp [this]
   ·have : ¬ x < n := by simpa using h2
    simp [this]
   ·simp only [h', Bool.not_true, Bool.false_and, Bool.and_false]
   ·have e1 : decide (0 ≤ x) = true := by simpa using h1
    have e2 : decide (x < n) = true := by simpa using h2
    rw [e1, e2, h']
    refine (bm n xs hm r (i + 1) a.next).to ?_
    rw [UM ‹xs.drop i = x :: r›]; rfl
theorem QK (n : Int) (p : List Int) (hm : p.length ≤ maxLen) : Ev (fun k => WC k (n, p)) (QE n p) := by
 refine Ev.step (fun k => QL k n p) (Ev.ite (fun h => Ev.some ?_) (fun h => Ev.ite (fun h' => Ev.some ?_) (fun h' => ?_)))
 ·have : ¬ 1 ≤ n := by simpa using h
  simp [QE, this]
 ·have : ¬ n ≤ 12 := by simpa using h'
  simp [QE, this]
 ·have e1 : 1 ≤ n := by simpa using h
  have e2 : n ≤ 12 := by simpa using h'
  simp only [QE, e1, e2, decide_true, Bool.true_and]
  exact bm n p hm p 0 rfl
theorem To : ∀ (n : Nat) (l : List Int), l.Nodup → (∀ x ∈ l, 0 ≤ x ∧ x < (n : Int)) → l.length ≤ n
 | 0, l, _, h => by
   cases l with
   | nil => simp
   | cons x l => have := h x (by simp); omega
 | n + 1, l, hd, h => by
   have h1 := To n (l.erase (n : Int)) (hd.erase _) (fun x hx => by
    have hx' := (hd.mem_erase_iff).1 hx
    have := h x hx'.2
    have : x ≠ (n : Int) := hx'.1
    omega)
   have h2 := List.length_erase (a := (n : Int)) (l := l)
   split at h2 <;> omega
theorem Yx (n : Int) : ∀ (r done : List Int), done.Nodup → SU n done r = true → (done ++ r).Nodup ∧ ∀ x ∈ r, 0 ≤ x ∧ x < n
 | [], done, hd, h => by simp [hd]
 | x :: r, done, hd, h => by
   unfold SU at h
   simp only [Bool.and_eq_true, decide_eq_true_eq, Bool.not_eq_true'] at h
   obtain ⟨h1, h2, h3, h4⟩ := h
   have hx : x ∉ done := by simpa using h3
   obtain ⟨k1, k2⟩ := Yx n r (done ++ [x]) (by
    rw [List.nodup_append]
    exact ⟨hd, by simp, fun a ha b hb e => by simp at hb; subst hb; subst e; exact hx ha⟩) h4
   refine ⟨by simpa using k1, fun y hy => ?_⟩
   rcases List.mem_cons.1 hy with rfl | hy
   ·exact ⟨h1, h2⟩
   ·exact k2 y hy
theorem aa {n : Int} {p : List Int} (h : QE n p = true) : 1 ≤ n ∧ n ≤ 12 ∧ p.Nodup ∧ (∀ x ∈ p, 0 ≤ x ∧ x < n) ∧ (p.length : Int) ≤ n := by
 unfold QE at h
 simp only [Bool.and_eq_true, decide_eq_true_eq] at h
 obtain ⟨h1, h2, h3⟩ := h
 obtain ⟨k1, k2⟩ := Yx n p [] (by simp) h3
 have k3 := To n.toNat p (by simpa using k1) (fun x hx => by have := k2 x hx; omega)
 exact ⟨h1, h2, by simpa using k1, k2, by omega⟩
end Qq
namespace Qq
open Go Go.Vt Pt
set_option linter.unusedVariables false
set_option linter.unusedSimpArgs false
def card (x : Int) : Int := if 0 ≤ x ∧ x ≤ 11 then x else if -12 ≤ x ∧ x ≤ -1 then -1 - x else -1
theorem W4 (x : Int) : -1 ≤ card x ∧ card x ≤ 11 := by unfold card; split; · omega
                                                       split <;> omega
theorem xx (x : Int) (hx : In x) : Ev (fun k => vd k x) (card x) := by
 obtain ⟨a, b⟩ := hx
 refine Ev.step (fun k => MS k x) ?_
 refine Ev.ite (fun h => ?_) (fun h => ?_)
 ·have h1 : x < 0 := by simpa using h
  rw [zj (by omega) (by omega)]
  have h2 : ¬ (0 ≤ x ∧ x ≤ 11) := by omega
  refine Ev.ite (fun h' => Ev.some ?_) (fun h' => Ev.some ?_)
  ·have h3 : ¬ (-12 ≤ x ∧ x ≤ -1) := by simp at h'; omega
   unfold card; rw [if_neg h2, if_neg h3]
  ·have h3 : (-12 ≤ x ∧ x ≤ -1) := by simp at h'; omega
   unfold card; rw [if_neg h2, if_pos h3]
 ·have h1 : ¬ x < 0 := by simpa using h
  have h3 : ¬ (-12 ≤ x ∧ x ≤ -1) := by omega
  refine Ev.ite (fun h' => Ev.some ?_) (fun h' => Ev.some ?_)
  ·have h2 : ¬ (0 ≤ x ∧ x ≤ 11) := by simp at h'; omega
   unfold card; rw [if_neg h2, if_neg h3]
  ·have h2 : (0 ≤ x ∧ x ≤ 11) := by simp at h'; omega
   unfold card; rw [if_pos h2]
def pk : List Int → List Int → Bool
 | _, [] => true
 | done, x :: r => decide (0 ≤ card x) && (!(done.contains (card x)) && pk (done ++ [card x]) r)
def zl (p : List Int) : Bool := pk [] p
theorem LO : ∀ (r done : List Int), done.Nodup → pk done r = true → (done ++ r.map card).Nodup ∧ ∀ x ∈ r, 0 ≤ card x
 | [], done, hd, h => by simp [hd]
 | x :: r, done, hd, h => by
   unfold pk at h
   simp only [Bool.and_eq_true, decide_eq_true_eq, Bool.not_eq_true'] at h
   obtain ⟨h1, h3, h4⟩ := h
   have hx : card x ∉ done := by simpa using h3
   obtain ⟨k1, k2⟩ := LO r (done ++ [card x]) (by
    rw [List.nodup_append]
    exact ⟨hd, by simp, fun a ha b hb e => by simp at hb; subst hb; subst e; exact hx ha⟩) h4
   refine ⟨by simpa using k1, fun y hy => ?_⟩
   rcases List.mem_cons.1 hy with rfl | hy
   ·exact h1
   ·exact k2 y hy
theorem yF {p : List Int} (h : zl p = true) : (p.map card).Nodup ∧ (∀ x ∈ p, 0 ≤ card x ∧ card x ≤ 11) ∧ p.length ≤ 12 := by
 obtain ⟨k1, k2⟩ := LO p [] (by simp) h
 have k1' : (p.map card).Nodup := by simpa using k1
 have k3 := To 12 (p.map card) k1' (fun x hx => by
  obtain ⟨y, hy, rfl⟩ := List.mem_map.1 hx
  have := k2 y hy
  have := W4 y
  omega)
 exact ⟨k1', fun x hx => ⟨k2 x hx, (W4 x).2⟩, by simpa using k3⟩
def metL (done : List Int) : List Bool := (List.range 12).map fun (c : Nat) => done.contains (c : Int)
theorem Xi (done : List Int) : (metL done).length = 12 := by simp [metL]
theorem GR (done : List Int) (c : Nat) (h : c < 12) (d : Bool) : (metL done).getD c d = done.contains (c : Int) := by
 simp [metL, List.getD, h]
theorem GQ (done : List Int) (c : Nat) (h : c < 12) : (metL done).set c true = metL (done ++ [(c : Int)]) := by
 apply List.ext_getElem?
 intro x
 rw [List.getElem?_set]
 by_cases hx : x < 12
 ·by_cases e : c = x
  ·subst e; simp [metL, h]
  ·have : ¬ x = c := fun h => e h.symm
   simp [metL, hx, e, this]; intro h; omega
 ·rw [if_neg (by omega), List.getElem?_eq_none (by rw [Xi]; omega), List.getElem?_eq_none (by rw [Xi]; omega)]
theorem bu (xs : List Int) (hm : xs.length ≤ maxLen) (hi : Ins xs) : ∀ (r : List Int) (i : Nat) (done : List Int), xs.drop i = r → Ev (fun k => jP k xs (xs.length : Int) (i : Int) (metL done)) (pk done r)
 | [], i, done, h => by
   have a := zZ h
   refine Ev.step (fun k => bw k _ _ _ _) ?_
   simp only [a.g, cond_false]
   exact Ev.pure _
 | x :: r, i, done, h => by
   have a := zy h hm
   refine Ev.step (fun k => bw k _ _ _ _) ?_
   simp only [a.g, a.z, a.get, a.w, cond_true]
   unfold pk
   refine Ev.bind (xx x (hi x a.mem)) (Ev.ite (fun c => Ev.some ?_) (fun c => ?_))
   ·have : ¬ 0 ≤ card x := by simpa using c
    simp [this]
   ·have hc : 0 ≤ card x := by simpa using c
    have hc2 := (W4 x).2
    have en : card x = ((card x).toNat : Int) := by omega
    have g1 : decide (0 ≤ card x) = true := by simp [hc]
    have g2 : decide (card x < ((metL done).length : Int)) = true := by rw [Xi]; simp; omega
    have g3 : decide ((card x).toNat < (metL done).length) = true := by rw [Xi]; simp; omega
    have g4 : (Nat.beq (metL done).length 12 && true) = true := by rw [Xi]; rfl
    have g5 := GR done (card x).toNat (by omega) false
    rw [← en] at g5
    have g6 := GQ done (card x).toNat (by omega)
    rw [← en] at g6
    simp only [g1, g2, g3, g4, g5, g6, cond_true, Bool.true_and]
    refine Ev.ite (fun c2 => Ev.some ?_) (fun c2 => ?_)
    ·rw [c2]; rfl
    ·rw [c2]
     exact bu xs hm hi r (i + 1) _ a.next
theorem xt (p : List Int) (hm : p.length ≤ maxLen) (hi : Ins p) : Ev (fun k => we k p) (zl p) :=
 Ev.step (fun k => QV k p) (bu p hm hi p 0 [] rfl)
def posF (c : Int) : Nat → List Int → Int
 | _, [] => -1
 | i, y :: r => if card y = c then (i : Int) else posF c (i + 1) r
def pos (p : List Int) (c : Int) : Int := if c < 0 then -1 else posF c 0 p
theorem ar (c : Int) (xs : List Int) (hm : xs.length ≤ maxLen) (hi : Ins xs) : ∀ (r : List Int) (i : Nat), xs.drop i = r → Ev (fun k => zA k xs c (xs.length : Int) (i : Int)) (posF c i r)
 | [], i, h => by
   have a := zZ h
   refine Ev.step (fun k => yv k _ _ _ _) ?_
   simp only [a.g, cond_false]
   exact Ev.pure _
 | x :: r, i, h => by
   have a := zy h hm
   have ih := ar c xs hm hi r (i + 1) a.next
   refine Ev.step (fun k => yv k _ _ _ _) ?_
   simp only [a.g, a.z, a.get, a.w, cond_true]
   unfold posF
   have h1 : Ev (fun k => fF k (x, c)) (card x == c) := Ev.step (fun k => WK k x c) (Ev.bind (xx x (hi x a.mem)) (Ev.pure _))
   refine Ev.bind h1 (Ev.ite (fun h => Ev.some ?_) (fun h => ih.to ?_))
   ·have : card x = c := by simpa using h
    rw [if_pos this]
   ·have : ¬ card x = c := by simpa using h
    rw [if_neg this]
theorem gy (p : List Int) (c : Int) (hm : p.length ≤ maxLen) (hi : Ins p) : Ev (fun k => je k (p, c)) (pos p c) := by
 refine Ev.step (fun k => TT k p c) ?_
 unfold pos
 refine Ev.ite (fun h => Ev.some ?_) (fun h => Ev.bind (Ev.step (fun k => wk k p c) (ar c p hm hi p 0 rfl)) (Ev.some ?_))
 ·have : c < 0 := by simpa using h
  rw [if_pos this]
 ·have : ¬ c < 0 := by simpa using h
  rw [if_neg this]
def Ww (p q : List Int) : Bool := zl p && (zl q && (p.length == q.length && p.all fun x => decide (0 ≤ pos q (card x))))
def noPos (q : List Int) : Nat → List Int → Int
 | _, [] => -1
 | i, x :: r => if pos q (card x) < 0 then (i : Int) else noPos q (i + 1) r
theorem P1 (q : List Int) : ∀ (r : List Int) (i : Nat), (!(decide (noPos q i r ≥ 0))) = r.all fun x => decide (0 ≤ pos q (card x))
 | [], i => by simp [noPos]
 | x :: r, i => by
   unfold noPos
   by_cases h : pos q (card x) < 0
   ·rw [if_pos h]
    have : ¬ 0 ≤ pos q (card x) := by omega
    simp [this]
   ·rw [if_neg h, P1 q r (i + 1)]
    have : 0 ≤ pos q (card x) := by omega
    simp [this]
theorem aP (q xs : List Int) (hm : xs.length ≤ maxLen) (hi : Ins xs) (hq : q.length ≤ maxLen) (hiq : Ins q) : ∀ (r : List Int) (i : Nat), xs.drop i = r → Ev (fun k => zw k xs q (xs.length : Int) (i : Int)) (noPos q i r)
 | [], i, h => by
   have a := zZ h
   refine Ev.step (fun k => ye k _ _ _ _) ?_
   simp only [a.g, cond_false]
   exact Ev.pure _
 | x :: r, i, h => by
   have a := zy h hm
   have ih := aP q xs hm hi hq hiq r (i + 1) a.next
   refine Ev.step (fun k => ye k _ _ _ _) ?_
   simp only [a.g, a.z, a.get, a.w, cond_true]
   unfold noPos
   have h1 : Ev (fun k => ux k (x, q)) (decide (pos q (card x) < 0)) := Ev.step (fun k => ZC k x q) (Ev.bind (xx x (hi x a.mem)) (Ev.bind (gy q _ hq hiq) (Ev.pure _)))
   refine Ev.bind h1 (Ev.ite (fun h => Ev.some ?_) (fun h => ih.to ?_))
   ·have : pos q (card x) < 0 := by simpa using h
    rw [if_pos this]
   ·have : ¬ pos q (card x) < 0 := by simpa using h
    rw [if_neg this]
theorem ff (p q : List Int) (hp : p.length ≤ maxLen) (hip : Ins p) (hq : q.length ≤ maxLen) (hiq : Ins q) : Ev (fun k => uf k (p, q)) (Ww p q) := by
 unfold Ww
 refine Ev.step (fun k => XL k p q) (Ev.bind (xt p hp hip) (Ev.ite (fun h => Ev.some ?_) (fun h => Ev.bind (xt q hq hiq) (Ev.ite (fun h2 => Ev.some ?_) (fun h2 => Ev.ite (fun h3 => Ev.some ?_) (fun h3 => ?_))))))
 ·have : zl p = false := by simpa using h
  rw [this]; rfl
 ·have : zl q = false := by simpa using h2
  rw [this]; simp
 ·have : (p.length == q.length) = false := by simp at h3 ⊢; omega
  rw [this]; simp
 ·have e1 : zl p = true := by simpa using h
  have e2 : zl q = true := by simpa using h2
  have e3 : (p.length == q.length) = true := by simp at h3 ⊢; omega
  rw [e1, e2, e3, ← P1 q p 0]
  exact Ev.bind (Ev.step (fun k => xu k p q) (Ev.bind (Ev.step (fun k => xO k p q) (aP q p hp hip hq hiq p 0 rfl)) (Ev.pure _))) (Ev.some (by simp))
end Qq
namespace Qq
open Go Go.Vt Pt
set_option linter.unusedVariables false
set_option linter.unusedSimpArgs false
def bd (n : Int) (p : List Int) (noted : Bool) (c a b : Int) : Bool :=
 if c = 0 then a == 0 && b == 0 else
 if c = 4 then a == 0 && b == 0 else
 if c = 1 then noted && (decide (0 ≤ a) && (decide (a < n) && b == 0)) else
 if c = 2 then decide (0 ≤ a) && (decide (a ≤ n) && b == 0) else
 if c = 3 then decide (0 ≤ pos p a) && (decide (0 ≤ b) && decide (b < n)) else false
def bQ (n : Int) (l : List Step) : Bool := l.all (yj n)
def hasNote (l : List Step) : Bool := l.any fun s => s.1 == 3
def zi (t : Trick) : Bool :=
 zl t.1 && (!(t.1.length == 0) && (decide (t.2.1.length ≤ 12) && (bQ t.1.length t.2.1 && bd t.1.length t.1 (hasNote t.2.1) t.2.2.1 t.2.2.2.1 t.2.2.2.2)))
theorem Ld (xs : List Step) (hm : xs.length ≤ maxLen) (p : List Int) (hp : p.length ≤ maxLen) (hi : Ins p) (c a b n : Int) (hn : n = p.length) : ∀ (r : List Step) (i : Nat) (nt : Bool), xs.drop i = r →
 Ev (fun k => jb k n nt xs (xs.length : Int) (i : Int) p xs c a b) (bQ n r && bd n p (nt || hasNote r) c a b)
 | [], i, nt, h => by
   have q := zZ h
   refine Ev.step (fun k => ak k _ _ _ _ _ _ _ _ _ _) ?_
   simp only [q.g, cond_false]
   have e : (bQ n [] && bd n p (nt || hasNote []) c a b) = bd n p nt c a b := by simp [bQ, hasNote]
   rw [e]
   unfold bd
   refine Ev.ite (fun h => ?_) (fun h => ?_)
   ·have e : c = 0 := by simpa using h
    rw [if_pos e]
    refine Ev.ite (fun h => Ev.some ?_) (fun h => Ev.some ?_) <;> simp [h]
   have e0 : ¬ c = 0 := by simpa using h
   rw [if_neg e0]
   refine Ev.ite (fun h => ?_) (fun h => ?_)
   ·have e : c = 4 := by simpa using h
    rw [if_pos e]
    refine Ev.ite (fun h => Ev.some ?_) (fun h => Ev.some ?_) <;> simp [h]
   have e4 : ¬ c = 4 := by simpa using h
   rw [if_neg e4]
   refine Ev.ite (fun h => ?_) (fun h => ?_)
   ·have e : c = 1 := by simpa using h
    rw [if_pos e]
    repeat (first | (refine Ev.ite (fun h => ?_) (fun h => ?_)) | focus (refine Ev.some ?_; simp_all; done) | focus (refine Ev.some ?_; simp_all; omega))
   have e1 : ¬ c = 1 := by simpa using h
   rw [if_neg e1]
   refine Ev.ite (fun h => ?_) (fun h => ?_)
   ·have e : c = 2 := by simpa using h
    rw [if_pos e]
    repeat (first | (refine Ev.ite (fun h => ?_) (fun h => ?_)) | focus (refine Ev.some ?_; simp_all; done) | focus (refine Ev.some ?_; simp_all; omega))
   have e2 : ¬ c = 2 := by simpa using h
   rw [if_neg e2]
   refine Ev.ite (fun h => ?_) (fun h => Ev.some ?_)
   ·have e : c = 3 := by simpa using h
    rw [if_pos e]
    refine Ev.bind (gy p a hp hi) (Ev.ite (fun h' => Ev.ite (fun h2 => Ev.some ?_) (fun h2 => Ev.some ?_)) (fun h' => Ev.some ?_))
    ·have h3 : 0 ≤ pos p a := by simpa using h'
     have h4 : 0 ≤ b := by simpa using h2
     simp [h3, h4]
    ·have h4 : ¬ 0 ≤ b := by simpa using h2
     simp [h4]
    ·have h3 : ¬ 0 ≤ pos p a := by simpa using h'
     simp [h3]
   ·have e3 : ¬ c = 3 := by simpa using h
    rw [if_neg e3]
 | s :: r, i, nt, h => by
   have q := zy h hm
   refine Ev.step (fun k => ak k _ _ _ _ _ _ _ _ _ _) ?_
   simp only [q.g, q.z, q.get, q.w, cond_true]
   refine Ev.bind (YH n s) (Ev.ite (fun h => Ev.some ?_) (fun h => Ev.ite (fun h2 => ?_) (fun h2 => ?_)))
   ·have : yj n s = false := by simpa using h
    simp [bQ, this]
   ·have e : yj n s = true := by simpa using h
    refine (Ld xs hm p hp hi c a b n hn r (i + 1) true q.next).to ?_
    simp [bQ, e, h2]
   ·have e : yj n s = true := by simpa using h
    refine (Ld xs hm p hp hi c a b n hn r (i + 1) (s.1 == 3) q.next).to ?_
    simp [bQ, e, h2, hasNote]
theorem xr (t : Trick) (h1 : t.1.length ≤ maxLen) (hi : Ins t.1) (h2 : t.2.1.length ≤ maxLen) : Ev (fun k => wy k t) (zi t) := by
 obtain ⟨p, st, c, a, b⟩ := t
 unfold zi
 refine Ev.step (fun k => Nt k _) (Ev.bind (xt p h1 hi) (Ev.ite (fun h => Ev.some ?_) (fun h => Ev.ite (fun h' => Ev.some ?_) (fun h' => Ev.ite (fun h3 => Ev.some ?_) (fun h3 => ?_)))))
 ·have : zl p = false := by simpa using h
  simp [this]
 ·have : p.length = 0 := by simp at h'; simp [h']
  simp [this]
 ·have : ¬ st.length ≤ 12 := by simp at h3; omega
  simp [this]
 ·refine (Ld st h2 p h1 hi c a b _ rfl st 0 false rfl).to ?_
  have e1 : zl p = true := by simpa using h
  have e2 : (p.length == 0) = false := by simp at h' ⊢; exact h'
  have e3 : st.length ≤ 12 := by simp at h3; omega
  simp [e1, e3, e2]
def countK (b : Int → Bool) (l : List Step) : Nat := l.countP fun s => b s.1
theorem cX (b : Int → Bool) (s : Step) (l : List Step) : countK b (s :: l) = countK b l + (if b s.1 then 1 else 0) := by unfold countK; rw [List.countP_cons]
theorem zu {t : Trick} (h : zi t = true) : t.2.1.length ≤ 12 ∧ 1 ≤ t.1.length ∧ t.1.length ≤ 12 ∧ zl t.1 = true := by
 unfold zi at h
 simp only [Bool.and_eq_true, decide_eq_true_eq] at h
 have := yF h.1
 have h2 := h.2.1
 refine ⟨h.2.2.1, ?_, this.2.2, h.1⟩
 have : ¬ t.1.length = 0 := by simpa using h2
 omega
end Qq
namespace Qq
open Go Go.Vt Pt
set_option linter.unusedVariables false
set_option linter.unusedSimpArgs false
theorem wD (xs ys : List Int) (hx : xs.length ≤ maxLen) (hy : ys.length ≤ maxLen) : ∀ (r s : List Int) (i : Nat), xs.drop i = r → ys.drop i = s → s.length = r.length → Ev (fun k => zM k xs ys (xs.length : Int) (i : Int)) (r == s)
 | [], [], i, h1, h2, hl => by
   have a := zZ h1
   refine Ev.step (fun k => yI k xs ys _ i) ?_
   simp only [a.g, cond_false]
   exact Ev.pure _
 | x :: r, y :: s, i, h1, h2, hl => by
   have a := zy h1 hx
   have b := zy h2 hy
   refine Ev.step (fun k => yI k xs ys _ i) ?_
   simp only [a.g, a.z, b.g, a.get, b.get, a.w, cond_true]
   have ih := wD xs ys hx hy r s (i + 1) a.next b.next (by simpa using hl)
   refine Ev.ite (fun h => Ev.some ?_) (fun h => ih.to ?_)
   ·have : ¬ x = y := by simpa using h
    simp [this]
   ·have : x = y := by simpa using h
    simp [this]
 | [], _ :: _, _, _, _, hl => by simp at hl
 | _ :: _, [], _, _, _, hl => by simp at hl
theorem fp (xs ys : List Int) (hx : xs.length ≤ maxLen) (hy : ys.length ≤ maxLen) : Ev (fun k => yD k (xs, ys)) (xs == ys) := by
 refine Ev.step (fun k => vh k xs ys) (Ev.ite (fun h => Ev.some ?_) (fun h => wD xs ys hx hy xs ys 0 rfl rfl ?_))
 ·have h' : ¬ xs.length = ys.length := by simp at h; omega
  have : ¬ xs = ys := fun e => h' (by rw [e])
  simp [this]
 ·simp at h; omega
end Qq
namespace Qq
open Go Go.Vt Pt
set_option linter.unusedVariables false
set_option linter.unusedSimpArgs false
def isUp (x : Int) : Bool := decide (-12 ≤ x) && decide (x ≤ -1)
theorem Nz (x : Int) (hx : In x) : Ev (fun k => L8 k x) (isUp x) := by
 refine Ev.step (fun k => HA k x) (Ev.ite (fun h => Ev.bind (xx x hx) (Ev.some ?_)) (fun h => Ev.some ?_))
 ·have h' : x < 0 := by simpa using h
  unfold isUp card
  rw [Bool.eq_iff_iff, if_neg (by omega)]
  by_cases h2 : -12 ≤ x ∧ x ≤ -1
  ·rw [if_pos h2]; simp; omega
  ·rw [if_neg h2]; simp; omega
 ·have h' : ¬ x < 0 := by simpa using h
  unfold isUp
  symm; simp; omega
def countUp (p : List Int) : Nat := p.countP isUp
theorem gG (xs : List Int) (hi : Ins xs) (hm : xs.length ≤ maxLen) : ∀ (r : List Int) (i : Nat) (v : Nat), xs.drop i = r → v ≤ i → Ev (fun k => jf k (v : Int) xs (xs.length : Int) (i : Int)) ((v : Int) + countUp r)
 | [], i, v, h, hv => by
   have q := zZ h
   refine Ev.step (fun k => aI k _ _ _ _) ?_
   simp only [q.g, cond_false]
   exact Ev.some (by simp [countUp])
 | s :: r, i, v, h, hv => by
   have q := zy h hm
   have := q.lt
   have hs : In s := hi s (List.mem_of_mem_drop (h ▸ List.mem_cons_self))
   rw [zg] at hm
   refine Ev.step (fun k => aI k _ _ _ _) ?_
   simp only [q.g, q.z, q.get, q.w, cond_true]
   have e : countUp (s :: r) = countUp r + (if isUp s then 1 else 0) := by unfold countUp; rw [List.countP_cons]
   rw [e]
   refine Ev.bind (Nz s hs) (Ev.ite (fun h => ?_) (fun h => ?_))
   ·rw [zj (by omega) (by omega)]
    refine (gG xs hi (by rw [zg]; exact hm) r (i + 1) (v + 1) q.next (by omega)).to ?_
    rw [if_pos h]; omega
   ·refine (gG xs hi (by rw [zg]; exact hm) r (i + 1) v q.next (by omega)).to ?_
    rw [h]; simp
theorem J5 (c : Int) : ∀ (r : List Int) (i a : Nat), (r.map card).Nodup → i ≤ a → a < i + r.length → (posF c i r = (a : Int) ↔ card (r.getD (a - i) 0) = c)
 | [], i, a, _, h1, h2 => by simp at h2; omega
 | y :: r, i, a, hn, h1, h2 => by
   rw [List.map_cons, List.nodup_cons] at hn
   unfold posF
   by_cases e : a = i
   ·subst e
    simp only [Nat.sub_self, List.getD_cons_zero]
    by_cases hc : card y = c
    ·simp [hc]
    ·rw [if_neg hc]
     constructor
     ·intro h
      exfalso
      have : ∀ (r : List Int) (j : Nat), a < j → posF c j r ≠ (a : Int) := by
       intro r
       induction r with
       | nil => intro j hj; show (-1 : Int) ≠ _; omega
       | cons z r ih =>
         intro j hj
         unfold posF
         split
         ·omega
         ·exact ih (j + 1) (by omega)
      exact this r (a + 1) (by omega) h
     ·intro h; exact absurd h hc
   ·have g : (y :: r).getD (a - i) 0 = r.getD (a - (i + 1)) 0 := by
     have : a - i = (a - (i + 1)) + 1 := by omega
     rw [this, List.getD_cons_succ]
    rw [g]
    have hlt : a - (i + 1) < r.length := by rw [List.length_cons] at h2; omega
    by_cases hc : card y = c
    ·rw [if_pos hc]
     constructor
     ·intro h; omega
     ·intro h
      exfalso
      apply hn.1
      rw [hc, ← h]
      rw [List.getD, List.getElem?_eq_getElem hlt]
      exact List.mem_map_of_mem (List.getElem_mem hlt)
    ·rw [if_neg hc]
     exact J5 c r (i + 1) a hn.2 (by omega) (by rw [List.length_cons] at h2; omega)
theorem FK {p : List Int} {c a : Int} (hp : zl p = true) (hc : 0 ≤ c) (h0 : 0 ≤ a) (h1 : a < p.length) : (pos p c == a) = (card (p.getD a.toNat 0) == c) := by
 have hf := yF hp
 have := J5 c p 0 a.toNat hf.1 (by omega) (by omega)
 have e : ((a.toNat : Nat) : Int) = a := by omega
 rw [e, Nat.sub_zero] at this
 unfold pos
 rw [if_neg (by omega), Bool.eq_iff_iff]
 simpa using this
def jK (t : Trick) (c : Scene) : Bool :=
 if t.2.2.1 = 1 then decide (c.2 ≥ 0) && pos c.1 c.2 == t.2.2.2.1 else
 if t.2.2.1 = 2 then (countUp c.1 : Int) == t.2.2.2.1 else
 if t.2.2.1 = 3 then pos c.1 t.2.2.2.1 == t.2.2.2.2 else
 if t.2.2.1 = 4 then c.1 == t.1 else true
def eK (t : Trick) (c : Scene) : Bool := zi t && (Ww t.1 c.1 && jK t c)
theorem Hp {p q : List Int} (h : Ww p q = true) : zl q = true ∧ q.length = p.length := by
 unfold Ww at h
 simp only [Bool.and_eq_true, beq_iff_eq] at h
 exact ⟨h.2.1, h.2.2.1.symm⟩
theorem aL (t : Trick) (c : Scene) (a1 : t.1.length ≤ maxLen) (ai : Ins t.1) (a2 : t.2.1.length ≤ maxLen) (b1 : c.1.length ≤ maxLen) (bi : Ins c.1) : Ev (fun k => fj k (t, c)) (eK t c) := by
 unfold eK
 refine Ev.step (fun k => T8 k t c) (Ev.bind (xr t a1 ai a2) (Ev.ite (fun h => Ev.some ?_) (fun h => ?_)))
 ·have : zi t = false := by simpa using h
  rw [this]; rfl
 have e : zi t = true := by simpa using h
 rw [e, Bool.true_and]
 refine Ev.bind (ff t.1 c.1 a1 ai b1 bi) (Ev.ite (fun h => Ev.some ?_) (fun h => ?_))
 ·have : Ww t.1 c.1 = false := by simpa using h
  rw [this]; rfl
 have e2 : Ww t.1 c.1 = true := by simpa using h
 rw [e2, Bool.true_and]
 obtain ⟨hq, hlen⟩ := Hp e2
 have hclaim : bd t.1.length t.1 (hasNote t.2.1) t.2.2.1 t.2.2.2.1 t.2.2.2.2 = true := by
  unfold zi at e
  simp only [Bool.and_eq_true] at e
  exact e.2.2.2.2
 unfold jK
 refine Ev.ite (fun h => ?_) (fun h => ?_)
 ·have ec : t.2.2.1 = 1 := by simpa using h
  rw [if_pos ec]
  unfold bd at hclaim
  rw [if_neg (by omega), if_neg (by omega), if_pos ec] at hclaim
  simp only [Bool.and_eq_true, decide_eq_true_eq, beq_iff_eq] at hclaim
  refine Ev.ite (fun h => ?_) (fun h => Ev.some (by rw [h]; rfl))
  have hc : 0 ≤ c.2 := by simpa using h
  have hlt : t.2.2.2.1 < (c.1.length : Int) := by rw [hlen]; exact hclaim.2.2.1
  refine Ev.yes (by simpa using hclaim.2.1) (Ev.yes (by simpa using hlt) ?_)
  have hin : In (c.1.getD t.2.2.2.1.toNat 0) := by
   have : t.2.2.2.1.toNat < c.1.length := by have := hclaim.2.1; omega
   rw [List.getD, List.getElem?_eq_getElem this]
   exact bi _ (List.getElem_mem this)
  refine Ev.bind (xx _ hin) (Ev.some ?_)
  rw [h, Bool.true_and, FK hq hc hclaim.2.1 hlt]
 ·have e1 : ¬ t.2.2.1 = 1 := by simpa using h
  rw [if_neg e1]
  refine Ev.ite (fun h => ?_) (fun h => ?_)
  ·have e : t.2.2.1 = 2 := by simpa using h
   rw [if_pos e]
   refine Ev.bind (Ev.step (fun k => NA k c.1) (gG c.1 bi b1 c.1 0 0 rfl (by omega))) (Ev.some (by simp))
  ·have e2 : ¬ t.2.2.1 = 2 := by simpa using h
   rw [if_neg e2]
   refine Ev.ite (fun h => ?_) (fun h => ?_)
   ·have ec : t.2.2.1 = 3 := by simpa using h
    rw [if_pos ec]
    unfold bd at hclaim
    rw [if_neg (by omega), if_neg (by omega), if_neg (by omega), if_neg (by omega), if_pos ec] at hclaim
    simp only [Bool.and_eq_true, decide_eq_true_eq] at hclaim
    have hc : 0 ≤ t.2.2.2.1 := by
     have := hclaim.1
     unfold pos at this
     split at this
     ·omega
     ·omega
    have hlt : t.2.2.2.2 < (c.1.length : Int) := by rw [hlen]; exact hclaim.2.2
    refine Ev.yes (by simpa using hclaim.2.1) (Ev.yes (by simpa using hlt) ?_)
    have hin : In (c.1.getD t.2.2.2.2.toNat 0) := by
     have : t.2.2.2.2.toNat < c.1.length := by have := hclaim.2.1; omega
     rw [List.getD, List.getElem?_eq_getElem this]
     exact bi _ (List.getElem_mem this)
    refine Ev.bind (xx _ hin) (Ev.some ?_)
    rw [FK hq hc hclaim.2.1 hlt]
   ·have e3 : ¬ t.2.2.1 = 3 := by simpa using h
    rw [if_neg e3]
    refine Ev.ite (fun h => ?_) (fun h => ?_)
    ·have e : t.2.2.1 = 4 := by simpa using h
     rw [if_pos e]
     exact Ev.bind (fp c.1 t.1 b1 a1) (Ev.pure _)
    ·have e : ¬ t.2.2.1 = 4 := by simpa using h
     rw [if_neg e]
     exact Ev.pure _
end Qq
namespace Qq
open Go Go.Vt Pt
set_option linter.unusedVariables false
set_option linter.unusedSimpArgs false
def gM (c a b : Int) : ByteArray :=
 if c = 0 then ⟨#[110, 111, 116, 104, 105, 110, 103]⟩ else
 if c = 1 then (⟨#[110, 111, 116, 101, 100, 32, 97, 116, 32]⟩ : ByteArray) ++ yt a else
 if c = 2 then (⟨#[117, 112, 32]⟩ : ByteArray) ++ yt a else
 if c = 3 then (((⟨#[99, 97, 114, 100, 32]⟩ : ByteArray) ++ yt a) ++ (⟨#[32, 97, 116, 32]⟩ : ByteArray)) ++ yt b else
 if c = 4 then ⟨#[111, 114, 100, 101, 114]⟩ else ⟨#[]⟩
theorem wn {a b : ByteArray} {m n : Nat} (ha : a.size ≤ m) (hb : b.size ≤ n) : (a ++ b).size ≤ m + n := by rw [ByteArray.size_append]; omega
theorem bG {a b : ByteArray} {m n : Nat} (ha : a.size ≤ m) (hb : b.size ≤ n) (h : m + n ≤ 9223372036854775807) : decide (a.size + b.size ≤ 9223372036854775807) = true := decide_eq_true (by omega)
theorem Ue (p : List Int) (st : List Step) (c a b : Int) (ha : In a) (hb : In b) : Ev (fun k => cS k (p, st, c, a, b)) (gM c a b) := by
 have sa := zX a ha
 have sb := zX b hb
 unfold gM
 refine Ev.step (fun k => Uf k _) (Ev.ite (fun h => ?_) (fun h => ?_))
 ·rw [if_pos (by simpa using h)]; exact Ev.pure _
 rw [if_neg (by simpa using h)]
 refine Ev.ite (fun h => ?_) (fun h => ?_)
 ·rw [if_pos (by simpa using h)]
  exact Ev.bind (zD a ha) (Ev.yes (bG (m := 9) (by decide) sa (by decide)) (Ev.pure _))
 rw [if_neg (by simpa using h)]
 refine Ev.ite (fun h => ?_) (fun h => ?_)
 ·rw [if_pos (by simpa using h)]
  exact Ev.bind (zD a ha) (Ev.yes (bG (m := 3) (by decide) sa (by decide)) (Ev.pure _))
 rw [if_neg (by simpa using h)]
 refine Ev.ite (fun h => ?_) (fun h => ?_)
 ·rw [if_pos (by simpa using h)]
  have s1 := wn (a := (⟨#[99, 97, 114, 100, 32]⟩ : ByteArray)) (m := 5) (by decide) sa
  have s2 := wn (b := (⟨#[32, 97, 116, 32]⟩ : ByteArray)) (n := 4) s1 (by decide)
  exact Ev.bind (zD a ha) (Ev.yes (bG (m := 5) (by decide) sa (by decide)) (Ev.yes (bG s1 (n := 4) (by decide) (by decide)) (Ev.bind (zD b hb) (Ev.yes (bG s2 sb (by decide)) (Ev.pure _)))))
 rw [if_neg (by simpa using h)]
 refine Ev.ite (fun h => ?_) (fun h => ?_)
 ·rw [if_pos (by simpa using h)]; exact Ev.pure _
 ·rw [if_neg (by simpa using h)]; exact Ev.pure _
def ZG (x : Int) : ByteArray := if isUp x then yt (card x) ++ ⟨#[94]⟩ else yt (card x)
theorem Lo (x : Int) : In (card x) := by have := W4 x; unfold In; omega
theorem Js (x : Int) : (ZG x).size ≤ 22 := by
 have h := zX (card x) (Lo x)
 unfold ZG
 split
 ·exact wn h (n := 1) (by decide)
 ·omega
def yo (p : List Int) : ByteArray := if zl p then (if p = [] then ⟨#[101, 109, 112, 116, 121]⟩ else xw (p.map ZG) ⟨#[32]⟩) else ⟨#[]⟩
theorem Yi (p : List Int) : ∀ x ∈ p.map ZG, x.size ≤ 22 := by
 intro x hx
 obtain ⟨n, _, rfl⟩ := List.mem_map.1 hx
 exact Js n
theorem EK {xs : List Int} {i : Nat} {x : Int} {r : List Int} (a : AtCons xs i x r) : (xs.take (i + 1)).map ZG = (xs.take i).map ZG ++ [ZG x] := by
 have hlt := a.lt
 have e : xs[i] = x := by have := a.get 0; rw [Int.toNat_natCast, List.getD, List.getElem?_eq_getElem hlt] at this; exact this
 rw [List.take_succ_eq_append_getElem hlt, List.map_append, e]; rfl
theorem jG (xs : List Int) (hm : xs.length ≤ 12) (hi : Ins xs) : ∀ (r : List Int) (i : Nat), xs.drop i = r → Ev (fun k => xK k xs (xs.length : Int) (i : Int) ((xs.take i).map ZG)) (xw (xs.map ZG) ⟨#[32]⟩)
 | [], i, h => by
   have a := zZ h
   refine Ev.step (fun k => jH k _ _ _ _) ?_
   simp only [a.g, cond_false]
   rw [List.take_of_length_le a.ge]
   exact Ev.bind (T2 _ _ 22 (by simp; omega) (Yi xs) (by omega) (by decide)) (Ev.pure _)
 | x :: r, i, h => by
   have a := zy h (by rw [zg]; omega)
   have hx : In x := hi x (List.mem_of_mem_drop (h ▸ List.mem_cons_self))
   have ih := jG xs hm hi r (i + 1) a.next
   rw [EK a] at ih
   refine Ev.step (fun k => jH k _ _ _ _) ?_
   simp only [a.g, a.z, a.get, a.w, cond_true]
   have hs := zX (card x) (Lo x)
   refine Ev.bind (xx x hx) (Ev.bind (zD _ (Lo x)) (Ev.bind (Nz x hx) (Ev.ite (fun h => ?_) (fun h => ?_))))
   ·have e : ZG x = yt (card x) ++ ⟨#[94]⟩ := by unfold ZG; rw [if_pos h]
    rw [e] at ih
    exact Ev.yes (bG hs (n := 1) (by decide) (by decide)) (Ev.yes (by rw [zc]; simp; omega) ih)
   ·have e : ZG x = yt (card x) := by unfold ZG; rw [h]; rfl
    rw [e] at ih
    exact Ev.yes (by rw [zc]; simp; omega) ih
theorem em (p : List Int) (hm : p.length ≤ maxLen) (hi : Ins p) : Ev (fun k => uQ k p) (yo p) := by
 unfold yo
 refine Ev.step (fun k => WN k p) (Ev.bind (xt p hm hi) (Ev.ite (fun h => Ev.some ?_) (fun h => ?_)))
 ·have : zl p = false := by simpa using h
  rw [this]; rfl
 ·have e : zl p = true := by simpa using h
  rw [if_pos e]
  refine Ev.ite (fun h => Ev.some ?_) (fun h => ?_)
  ·have : p = [] := by simp at h; exact h
   rw [if_pos this]
  ·have : ¬ p = [] := by simp at h; exact h
   rw [if_neg this]
   exact jG p (yF e).2.2 hi p 0 rfl
theorem wL (p : List Int) : (yo p).size ≤ 2000 := by
 unfold yo
 split
 ·rename_i h
  split
  ·decide
  ·have h12 := (yF h).2.2
   have := cu (B := 22) (S := 1) (⟨#[32]⟩ : ByteArray) (by decide) (p.map ZG) (Yi p)
   rw [List.length_map] at this
   rw [xw, zK]
   omega
 ·decide
end Qq
namespace Qq
open Go Go.Vt Pt
set_option linter.unusedVariables false
set_option linter.unusedSimpArgs false
end Qq
namespace Qq
open Go Go.Vt Pt
set_option linter.unusedVariables false
set_option linter.unusedSimpArgs false
def upB (l : List UInt8) : Bool := l.getLast? == some 94
def N6 (l : List UInt8) : List UInt8 := bif upB l then l.dropLast else l
def SV (a : ByteArray) : Option Int :=
 if (yJ (strB (N6 a.data.toList))).2 = true ∧ 0 ≤ (yJ (strB (N6 a.data.toList))).1 then some (bif upB a.data.toList then -1 - (yJ (strB (N6 a.data.toList))).1 else (yJ (strB (N6 a.data.toList))).1) else none
def allO (f : ByteArray → Option Int) : List ByteArray → Option (List Int)
 | [] => some []
 | a :: r => (f a).bind fun x => (allO f r).map fun l => x :: l
def endI (out : List Int) : Option (List Int) → List Int × Bool
 | none => ([], false)
 | some ys => if zl (out ++ ys) = true then (out ++ ys, true) else ([], false)
theorem NN (out : List Int) (x : Int) (o : Option (List Int)) : endI out (o.map fun l => x :: l) = endI (out ++ [x]) o := by
 cases o with
 | none => rfl
 | some ys => simp [endI]
theorem Qn (m : List UInt8) (c : UInt8) : upB (m ++ [c]) = decide (c = 94) := by
 unfold upB
 rw [List.getLast?_append]
 by_cases h : c = 94 <;> simp [h]
theorem Fq (m : List UInt8) : N6 (m ++ [94]) = m := by
 unfold N6
 rw [Qn]; simp
theorem Ga (m : List UInt8) {c : UInt8} (h : c ≠ 94) : N6 (m ++ [c]) = m ++ [c] := by
 unfold N6
 rw [Qn]; simp [h]
theorem EY (m : List UInt8) (c : UInt8) (h : (m ++ [c]).length ≤ 1048576) : IntKind.i64.wrap (((m ++ [c]).length : Int) - (1 : Int)) = (m.length : Int) := by
 rw [List.length_append, List.length_singleton] at h
 rw [zj (by simp) (by simp; omega)]; simp
theorem GF (m : List UInt8) (c : UInt8) : (m ++ [c]).getD ((m.length : Int)).toNat 0 = c := by
 rw [Int.toNat_natCast]; simp [List.getD]
theorem GG (m : List UInt8) (c : UInt8) : (strB (m ++ [c])).extract 0 ((m.length : Int)).toNat = strB m := by
 rw [uU, Int.toNat_natCast]; simp
theorem byte94 (c : UInt8) : (((c.toNat : Nat) : Int) == (94 : Int)) = decide (c = 94) := EH c 94
theorem up_w {n : Int} (h : 0 ≤ n) (hn : In n) : IntKind.i64.wrap ((-1 : Int) - n) = -1 - n := by unfold In at hn; exact zj (by omega) (by omega)
theorem PQ (s : ByteArray) : In (yJ s).1 := by
 rcases PU s with ⟨n, hn, _, hp⟩ | ⟨hp, _⟩
 ·rw [hp]; exact hn
 ·rw [hp]; unfold In; decide
theorem J7 : SV ⟨#[]⟩ = none := by decide
theorem Fa (m : List UInt8) (c : UInt8) : strB (m ++ [c]) ≠ ⟨#[]⟩ := by
 intro e
 have := congrArg (fun x => x.data.toList) e
 simp [vV] at this
theorem gA (xs : List ByteArray) (hm : xs.length ≤ 1048577) (hsz : ∀ a ∈ xs, a.size ≤ 1048576) : ∀ (r : List ByteArray) (i : Nat) (out : List Int), xs.drop i = r → out.length = i → i ≤ xs.length → Ins out →
 Ev (fun k => yh k (xs.length : Int) (i : Int) out xs) (endI out (allO SV r))
 | [], i, out, h, ho, hle, hi => by
   have a := zZ h
   refine Ev.step (fun k => gB k _ _ _ _) ?_
   simp only [a.g, cond_false]
   refine Ev.bind (xt out (by rw [zg]; omega) hi) ?_
   show Ev _ (if zl (out ++ []) = true then (out ++ [], true) else ([], false))
   rw [List.append_nil]
   cases hp : zl out with
   | false => exact Ev.yes rfl (Ev.some (by simp))
   | true => exact Ev.no rfl (Ev.some (by simp))
 | b :: r, i, out, h, ho, hle, hi => by
   have a := zy h (by rw [zg]; omega)
   have lt := a.lt
   have hb := hsz b a.mem
   have go : ∀ x, In x → Ev (fun k => yh k (xs.length : Int) ((i + 1 : Nat) : Int) (out ++ [x]) xs) (endI (out ++ [x]) (allO SV r)) := fun x hx =>
    gA xs hm hsz r (i + 1) (out ++ [x]) a.next (by simp [ho]) (by omega) (by
     intro y hy
     rcases List.mem_append.1 hy with h1 | h1
     ·exact hi y h1
     ·rw [List.mem_singleton.1 h1]; exact hx)
   refine Ev.step (fun k => gB k _ _ _ _) ?_
   simp only [a.g, a.z, a.n, a.get, a.w, cond_true, zU]
   have e0 : allO SV (b :: r) = (SV b).bind fun x => (allO SV r).map fun l => x :: l := rfl
   rw [e0]
   have hrow : ∀ x : Int, decide (out.length + [x].length ≤ rowMax) = true := fun x => by rw [zc]; simp; omega
   rcases List.eq_nil_or_concat b.data.toList with hl | ⟨m, c, hl⟩
   ·have hbe : b = ⟨#[]⟩ := by rw [← j7 b, hl]; rfl
    subst hbe
    rw [J7]
    refine Ev.no (by simp) (Ev.bind (xZ _ (by decide)) (Ev.yes rfl (Ev.pure _)))
   ·rw [List.concat_eq_append] at hl
    have hbe : b = strB (m ++ [c]) := by rw [← hl, j7]
    subst hbe
    rw [zK] at hb
    have hw := EY m c hb
    have hlen : (m ++ [c]).length = m.length + 1 := by simp
    simp only [zK, vV, hw, GF, GG, byte94]
    refine Ev.yes (by simp [Fa]) (Ev.yes (by simp) (Ev.yes (by rw [hlen]; simp; omega) ?_))
    unfold SV
    rw [vV, Qn]
    by_cases hc : c = 94
    ·subst hc
     rw [Fq]
     refine Ev.yes rfl (Ev.yes (by simp) (Ev.yes (by rw [hlen]; simp; omega) (Ev.bind (xZ (strB m) (by rw [zK]; omega)) ?_)))
     have hin := PQ (strB m)
     cases hp : (yJ (strB m)).2 with
     | false => exact Ev.yes rfl (Ev.some (by simp [hp, endI]))
     | true =>
       by_cases h0 : 0 ≤ (yJ (strB m)).1
       ·rw [if_pos ⟨rfl, h0⟩, Option.bind_some, NN]
        refine Ev.no rfl (Ev.no (by simp; omega) (Ev.yes rfl (Ev.yes (hrow _) ?_)))
        rw [up_w h0 hin]
        exact go _ (by unfold In at hin ⊢; omega)
       ·rw [if_neg (fun e => h0 e.2)]
        exact Ev.no rfl (Ev.yes (by simp; omega) (Ev.pure _))
    ·rw [Ga m hc]
     refine Ev.no (by simp [hc]) (Ev.bind (xZ (strB (m ++ [c])) (by rw [zK]; omega)) ?_)
     have hin := PQ (strB (m ++ [c]))
     cases hp : (yJ (strB (m ++ [c]))).2 with
     | false => exact Ev.yes rfl (Ev.some (by simp [hp, endI]))
     | true =>
       by_cases h0 : 0 ≤ (yJ (strB (m ++ [c]))).1
       ·rw [if_pos ⟨rfl, h0⟩, Option.bind_some, NN]
        have hd : decide (c = 94) = false := by simp [hc]
        rw [hd]
        exact Ev.no rfl (Ev.no (by simp; omega) (Ev.no rfl (Ev.yes (hrow _) (go _ hin))))
       ·rw [if_neg (fun e => h0 e.2)]
        exact Ev.no rfl (Ev.yes (by simp; omega) (Ev.pure _))
theorem Zl : ∀ (l : List (List UInt8)), Lib.join l [32] = Nb l
 | [] => rfl
 | [a] => by rw [Lib.join_cons]; simp [Lib.joinTail, Nb]
 | a :: b :: r => by
   have ih := Zl (b :: r)
   rw [Lib.join_cons] at ih ⊢
   rw [Nb, ← ih]
   simp [Lib.joinTail]
theorem Hn (s : ByteArray) : xw (cutB s) sp = s := by
 unfold xw SZ cutB
 have e : ((xN [] s.data.toList).map strB).map wT = xN [] s.data.toList := by
  rw [List.map_map]
  conv => rhs; rw [← List.map_id (xN [] s.data.toList)]
  apply List.map_congr_left
  intro a _
  exact vV a
 have e2 : wT sp = [32] := rfl
 rw [e, e2, Zl, MI]
 exact j7 s
def yx (s : ByteArray) : List Int × Bool := if s = ⟨#[101, 109, 112, 116, 121]⟩ then ([], true) else endI [] (allO SV (cutB s))
theorem Ki (s : ByteArray) : (cutB s).length ≤ s.size + 1 := by
 have H : ∀ (l cur : List UInt8), (xN cur l).length ≤ l.length + 1 := by
  intro l
  induction l with
  | nil => intro cur; simp [xN]
  | cons c r ih =>
    intro cur
    unfold xN
    split
    ·have := ih []; simp; omega
    ·have := ih (cur ++ [c]); simp; omega
 unfold cutB
 rw [List.length_map]
 have := H s.data.toList []
 simpa using this
theorem Ua (s : ByteArray) (hm : s.size ≤ 1048576) : Ev (fun k => cL k s) (yx s) := by
 refine Ev.step (fun k => Ub k s) ?_
 unfold yx
 rw [zU]
 by_cases h : s = ⟨#[101, 109, 112, 116, 121]⟩
 ·rw [if_pos h]; exact Ev.yes (by simp [h]) (Ev.pure _)
 ·rw [if_neg h]
  refine Ev.no (by simp [h]) (Ev.bind (cF s hm) ?_)
  exact gA (cutB s) (by have := Ki s; omega) (fun a ha => by have := Sq s a ha; omega) _ 0 [] rfl rfl (Nat.zero_le _) (fun x hx => by cases hx)
theorem Td (s : ByteArray) : (yx s).1.length ≤ 12 := by
 unfold yx
 split
 ·simp
 ·cases allO SV (cutB s) with
  | none => exact Nat.zero_le _
  | some ys =>
    show (if zl ([] ++ ys) = true then ([] ++ ys, true) else ([], false)).1.length ≤ 12
    rw [List.nil_append]
    by_cases h : zl ys = true
    ·rw [if_pos h]; exact (yF h).2.2
    ·rw [if_neg h]; exact Nat.zero_le _
end Qq
namespace Qq
open Go Go.Vt Pt
set_option linter.unusedVariables false
set_option linter.unusedSimpArgs false
def vU : List ByteArray := [⟨#[99, 117, 116]⟩, ⟨#[100, 101, 97, 108]⟩, ⟨#[102, 108, 105, 112]⟩, ⟨#[102, 97, 114, 111]⟩, ⟨#[109, 111, 110, 103, 101]⟩, ⟨#[109, 105, 108, 107]⟩, ⟨#[100, 117, 99, 107]⟩, ⟨#[116, 117, 114, 110]⟩, ⟨#[117, 110, 100, 101, 114]⟩]
def w8 (kind : Int) : ByteArray := if 1 ≤ kind ∧ kind ≤ 9 then vU.getD (kind - 1).toNat ⟨#[]⟩ else ⟨#[]⟩
theorem Xh (kind : Int) : (w8 kind).size ≤ 5 := by
 unfold w8
 split
 ·rename_i h
  obtain ⟨n, hn⟩ : ∃ n : Nat, (kind - 1).toNat = n := ⟨_, rfl⟩
  have : n < 9 := by omega
  rw [hn]
  clear hn h
  revert n
  decide
 ·decide
theorem QX (kind : Int) : Ev (fun k => WM k kind) (w8 kind) := by
 refine Ev.step (fun k => QY k kind) (Ev.ite (fun h => Ev.some ?_) (fun h => Ev.ite (fun h2 => Ev.some ?_) (fun h2 => ?_)))
 ·have : ¬ (1 ≤ kind ∧ kind ≤ 9) := by simp at h; omega
  rw [w8, if_neg this]
 ·have : ¬ (1 ≤ kind ∧ kind ≤ 9) := by simp at h2; omega
  rw [w8, if_neg this]
 ·have : 1 ≤ kind ∧ kind ≤ 9 := by simp at h h2; omega
  refine Ev.bind (Ev.step (fun k => ZU k) (Ev.pure _)) ?_
  rw [zj (by omega) (by omega)]
  refine Ev.yes (by simp; omega) (Ev.yes (by simp; omega) (Ev.yes (by simp; omega) (Ev.some ?_)))
  rw [w8, if_pos this]
  rfl
def xM (m : Int × Int) : ByteArray := if vT 12 m then (w8 m.1 ++ ⟨#[32]⟩) ++ yt m.2 else ⟨#[]⟩
theorem Vq {n : Int} {m : Int × Int} (h : vT n m = true) (hn : n = 12) : 0 ≤ m.2 ∧ m.2 ≤ 12 := by
 subst hn
 unfold vT at h
 simp only [Bool.and_eq_true, decide_eq_true_eq] at h
 obtain ⟨_, _, h3, h4⟩ := h
 refine ⟨h3, ?_⟩
 repeat (first | (split at h4) | (simp at h4; omega) | (simp at h4))
theorem aG (m : Int × Int) : Ev (fun k => vz k m) (xM m) := by
 refine Ev.step (fun k => T5 k m) (Ev.bind (cP 12 m) (Ev.ite (fun h => Ev.some ?_) (fun h => ?_)))
 ·have : vT 12 m = false := by simpa using h
  simp [xM, this]
 ·have e : vT 12 m = true := by simpa using h
  have hf := Vq e rfl
  have hi : In m.2 := by unfold In; omega
  have h1 := Xh m.1
  have h2 := zX m.2 hi
  refine Ev.bind (QX m.1) (Ev.yes (by show decide ((w8 m.1).size + 1 ≤ _) = true; simp; omega) (Ev.bind (zD m.2 hi) (Ev.yes ?_ (Ev.some ?_))))
  ·rw [ByteArray.size_append]
   show decide ((w8 m.1).size + 1 + _ ≤ _) = true
   simp; omega
  ·simp [xM, e]
end Qq
namespace Qq
open Go Go.Vt Pt
set_option linter.unusedVariables false
set_option linter.unusedSimpArgs false
def idxN (s : ByteArray) (d : Int) : Int → List ByteArray → Int
 | _, [] => d | i, a :: r => if a = s then i else idxN s d (i + 1) r
theorem Nk (s : ByteArray) (d : Int) : ∀ (l : List ByteArray) (i : Int), idxN s (d + 1) (i + 1) l = idxN s d i l + 1
 | [], i => rfl
 | a :: r, i => by
   unfold idxN
   split
   ·rfl
   ·exact Nk s d r (i + 1)
theorem RW (s : ByteArray) (d : Int) : ∀ (l : List ByteArray) (i : Int), idxN s d i l = d ∨ (i ≤ idxN s d i l ∧ idxN s d i l < i + l.length)
 | [], i => .inl rfl
 | a :: r, i => by
   unfold idxN
   split
   ·exact .inr ⟨by omega, by simp; omega⟩
   ·rcases RW s d r (i + 1) with h | ⟨h1, h2⟩
    ·exact .inl h
    ·exact .inr ⟨by omega, by simp; omega⟩
theorem gV (s : ByteArray) (xs : List ByteArray) (hm : xs.length ≤ 100) : ∀ (r : List ByteArray) (i : Nat), xs.drop i = r → Ev (fun k => xg k xs s (xs.length : Int) (i : Int)) (idxN s (-1) (i : Int) r)
 | [], i, h => by
   have a := zZ h
   refine Ev.step (fun k => wV k _ _ _ _) ?_
   simp only [a.g, cond_false]
   exact Ev.pure _
 | c :: r, i, h => by
   have a := zy h (by rw [zg]; omega)
   refine Ev.step (fun k => wV k _ _ _ _) ?_
   simp only [a.g, a.z, a.n, a.get, a.w, cond_true, zU]
   unfold idxN
   by_cases hc : c = s
   ·rw [if_pos hc]; exact Ev.yes (by simp [hc]) (Ev.pure _)
   ·rw [if_neg hc]; exact Ev.no (by simp; exact fun e => hc e.symm) ((gV s xs hm r (i + 1) a.next).to (by push_cast; rfl))
def wY (s : ByteArray) : Int := idxN s 0 0 (⟨#[]⟩ :: vU)
theorem Ya (s : ByteArray) : Ev (fun k => cQ k s) (wY s) := by
 refine Ev.step (fun k => Ri k s) (Ev.bind (x := vU) (Ev.step (fun k => ZU k) (Ev.pure _)) ?_)
 refine Ev.bind (Ev.step (fun k => bH k _ _) (gV s vU (by decide) _ 0 rfl)) (Ev.some ?_)
 show IntKind.i64.wrap (idxN s (-1) 0 vU + 1) = wY s
 have hb := RW s (-1) vU 0
 have hl : vU.length = 9 := rfl
 rw [zj (by omega) (by omega), ← Nk]
 show idxN s 0 1 vU = idxN s 0 0 (⟨#[]⟩ :: vU)
 by_cases he : (⟨#[]⟩ : ByteArray) = s
 ·subst he
  rfl
 ·show _ = (if _ then _ else _)
  rw [if_neg he]
  rfl
theorem V3 (kind : Int) : ∀ b ∈ (w8 kind).data.toList, b ≠ 32 := by
 unfold w8
 split
 ·rename_i h
  obtain ⟨n, hn⟩ : ∃ n : Nat, (kind - 1).toNat = n := ⟨_, rfl⟩
  have : n < 9 := by omega
  rw [hn]
  clear hn h
  revert n
  decide
 ·decide
theorem LZ (a b : ByteArray) : (a ++ b).data.toList = a.data.toList ++ b.data.toList := by simp
theorem Kh (a : ByteArray) (n : Int) (h : ∀ b ∈ a.data.toList, b ≠ 32) : cutB ((a ++ sp) ++ yt n) = [a, yt n] := by
 unfold cutB
 have e : ((a ++ sp) ++ yt n).data.toList = a.data.toList ++ 32 :: Lib.itoa n := by
  rw [LZ, LZ]
  show (a.data.toList ++ [32]) ++ (strB (Lib.itoa n)).data.toList = _
  rw [vV]; simp
 rw [e, Lc _ _ _ h, X3 _ _ (Nc n)]
 simp [j7, yt]
theorem EE {s : ByteArray} (h : (cutB s).length ≠ 1) : s ≠ ⟨#[]⟩ := by
 rintro rfl
 exact h rfl
def zI (s : ByteArray) : Int × Int × Bool :=
 let a := (cutB s).getD 0 ⟨#[]⟩; let p := yJ ((cutB s).getD 1 ⟨#[]⟩)
 if (cutB s).length = 2 ∧ p.2 = true ∧ xM (wY a, p.1) = s then (wY a, p.1, true) else (0, 0, false)
theorem Ug {s : ByteArray} {m : Int × Int} (h : xM m = s) (hs : s ≠ ⟨#[]⟩) : cutB s = [w8 m.1, yt m.2] ∧ In m.2 := by
 unfold xM at h
 split at h
 ·rename_i hk
  have hf := Vq hk rfl
  subst h
  exact ⟨Kh _ _ (V3 _), by unfold In; omega⟩
 ·exact absurd h.symm hs
theorem Z7 (s : ByteArray) (hm : s.size ≤ 1048576) : Ev (fun k => cM k s) (zI s) := by
 refine Ev.step (fun k => Rg k s) (Ev.bind (cF s hm) ?_)
 unfold zI
 have hsz := Sq s
 by_cases h2 : (cutB s).length = 2
 ·have hne : s ≠ ⟨#[]⟩ := EE (by omega)
  match hc : cutB s, h2 with
  | [a, b], _ =>
    rw [hc] at hsz
    refine Ev.no (by simp) (Ev.yes (by simp) (Ev.yes (by simp) (Ev.bind (xZ b (by have := hsz b (by simp); omega)) (Ev.yes (by simp) (Ev.yes (by simp) (Ev.bind (Ya a) ?_))))))
    show Ev _ (if ([a, b] : List ByteArray).length = 2 ∧ (yJ b).2 = true ∧ xM (wY a, (yJ b).1) = s then (wY a, (yJ b).1, true) else (0, 0, false))
    simp only [List.length_cons, List.length_nil, true_and, zU]
    refine Ev.no (by simp [hne]) (Ev.bind (aG _) ?_)
    by_cases hf : xM (wY a, (yJ b).1) = s
    ·have h3 := Ug hf hne
     rw [hc] at h3
     have hb : b = yt (yJ b).1 := by have := h3.1; simp at this; exact this.2
     have hp : yJ b = ((yJ b).1, true) := by
      have := ce _ h3.2
      simp only at this
      rw [← hb] at this
      exact this
     have hp2 : (yJ b).2 = true := by rw [hp]
     exact Ev.no (by simp [hf]) (Ev.some (by simp [hf, hp2]))
    ·exact Ev.yes (by simp [hf]) (Ev.some (by simp [hf]))
 ·rw [if_neg (fun e => h2 e.1)]
  exact Ev.yes (by simp; omega) (Ev.pure _)
end Qq
namespace Qq
open Go Go.Vt Pt
set_option linter.unusedVariables false
set_option linter.unusedSimpArgs false
def Lf : List ByteArray := [⟨#[102, 105, 120, 101, 100]⟩, ⟨#[97, 110, 121, 99, 117, 116]⟩, ⟨#[114, 105, 102, 102, 108, 101]⟩, ⟨#[97, 110, 121, 112, 97, 105, 114]⟩, ⟨#[112, 105, 99, 107]⟩]
def xc (kind : Int) : ByteArray := if 0 ≤ kind ∧ kind ≤ 4 then Lf.getD kind.toNat ⟨#[]⟩ else ⟨#[]⟩
theorem aN (kind : Int) : Ev (fun k => vB k kind) (xc kind) := by
 refine Ev.step (fun k => T9 k kind) (Ev.ite (fun h => Ev.some ?_) (fun h => Ev.ite (fun h2 => Ev.some ?_) (fun h2 => ?_)))
 ·have : ¬ (0 ≤ kind ∧ kind ≤ 4) := by simp at h; omega
  rw [xc, if_neg this]
 ·have : ¬ (0 ≤ kind ∧ kind ≤ 4) := by simp at h2; omega
  rw [xc, if_neg this]
 ·have : 0 ≤ kind ∧ kind ≤ 4 := by simp at h h2; omega
  refine Ev.yes (by simp; omega) (Ev.yes (by simp; omega) (Ev.yes (by simp; omega) (Ev.some ?_)))
  rw [xc, if_pos this]
  rfl
def isRif (s : Int × (Int × Int) × Int) : Bool := (s.1 == 2) && ((s.2.1.1 == 0) && ((s.2.1.2 == 0) && (s.2.2 == 2)))
def stepRest (s : Int × (Int × Int) × Int) : ByteArray := if s.1 = 1 then xM s.2.1 else if s.1 = 2 then xc s.2.2 else (⟨#[110, 111, 116, 101, 32]⟩ : ByteArray) ++ yt s.2.2
def wh (s : Int × (Int × Int) × Int) : ByteArray := if yj 12 s || isRif s then stepRest s else ⟨#[]⟩
theorem KK {n : Int} {s : Int × (Int × Int) × Int} (h : yj n s = true) (h1 : ¬ s.1 = 1) (h2 : ¬ s.1 = 2) (hn : n ≤ 12) : In s.2.2 := by
 unfold yj at h
 simp only [Bool.and_eq_true, decide_eq_true_eq, h1, h2, if_false] at h
 obtain ⟨_, _, h⟩ := h
 split at h
 ·simp at h
  unfold In; omega
 ·cases h
theorem Nm (s : Int × (Int × Int) × Int) (hi : ¬ s.1 = 1 → ¬ s.1 = 2 → In s.2.2) : Ev (fun k => bif (s.1 == (1 : Int)) then ((vz k s.2.1).bind fun y => some y)
 else (bif (s.1 == (2 : Int)) then ((vB k s.2.2).bind fun y => some y)
  else ((zB k s.2.2).bind fun y => bif decide ((⟨#[110, 111, 116, 101, 32]⟩ : ByteArray).size + y.size ≤ 9223372036854775807) then (some ((⟨#[110, 111, 116, 101, 32]⟩ : ByteArray) ++ y)) else (none)))) (stepRest s) := by
 unfold stepRest
 refine Ev.ite (fun h => ?_) (fun h => ?_)
 ·have e : s.1 = 1 := by simpa using h
  rw [if_pos e]
  exact Ev.bind (aG s.2.1) (Ev.pure _)
 ·have e1 : ¬ s.1 = 1 := by simpa using h
  rw [if_neg e1]
  refine Ev.ite (fun h => ?_) (fun h => ?_)
  ·have e : s.1 = 2 := by simpa using h
   rw [if_pos e]
   exact Ev.bind (aN s.2.2) (Ev.pure _)
  ·have e2 : ¬ s.1 = 2 := by simpa using h
   rw [if_neg e2]
   have hs := zX s.2.2 (hi e1 e2)
   exact Ev.bind (zD _ (hi e1 e2)) (Ev.yes (by show decide (5 + _ ≤ _) = true; simp; omega) (Ev.pure _))
theorem aD (s : Int × (Int × Int) × Int) : Ev (fun k => fg k s) (wh s) := by
 unfold wh
 refine Ev.step (fun k => T4 k s) (Ev.bind (YH 12 s) (Ev.ite (fun h => Ev.ite (fun h2 => Ev.some ?_) (fun h2 => ?_)) (fun h => ?_)))
 ·have e : yj 12 s = false := by simpa using h
  have hr : isRif s = false := by
   simp at h2
   simp [isRif]
   intro a b c
   rcases h2 with h2 | h2 | h2 | h2
   ·exact absurd a h2
   ·exact absurd b h2
   ·exact absurd c h2
   ·exact h2
  simp [e, hr]
 ·have hr : isRif s = true := by
   simp at h2
   simp [isRif, h2]
  rw [hr, Bool.or_true, if_pos rfl]
  exact Nm s (fun h1 h3 => by simp at h2; exact absurd h2.1 h3)
 ·have e : yj 12 s = true := by simpa using h
  rw [e, Bool.true_or, if_pos rfl]
  exact Nm s (fun h1 h2 => KK e h1 h2 (by omega))
end Qq
namespace Qq
open Go Go.Vt Pt
set_option linter.unusedVariables false
set_option linter.unusedSimpArgs false
abbrev StepR : Type := Int × Int × Int × Int × Bool
def chF (s : ByteArray) : Nat → Int → Option Int
 | 0, _ => none
 | n + 1, i => if xc i = s then some i else chF s n (i + 1)
theorem Kj (s : ByteArray) : ∀ (n : Nat) (i k : Int), chF s n i = some k → xc k = s
 | 0, i, k, h => by cases h
 | n + 1, i, k, h => by
   unfold chF at h
   split at h
   ·rename_i e
    injection h with h; subst h; exact e
   ·exact Kj s n _ k h
theorem X7 (kind : Int) : ∀ b ∈ (xc kind).data.toList, b ≠ 32 := by
 unfold xc
 split
 ·rename_i h
  obtain ⟨n, hn⟩ : ∃ n : Nat, kind.toNat = n := ⟨_, rfl⟩
  have : n < 5 := by omega
  rw [hn]
  clear hn h
  revert n
  decide
 ·decide
theorem Jo (s : ByteArray) {k : Int} (h : xc k = s) : (cutB s).length = 1 := by
 subst h
 unfold cutB
 rw [X3 _ _ (X7 k)]
 rfl
def Yz (a : Int) : ByteArray := (⟨#[110, 111, 116, 101, 32]⟩ : ByteArray) ++ yt a
def noteF (a : Int) : ByteArray := wh (3, (0, 0), a)
theorem GO {a : Int} (h : 0 ≤ a ∧ a < 12) : noteF a = Yz a := by
 unfold noteF wh
 have e : yj 12 (3, (0, 0), a) = true := by
  unfold yj
  simp [h.1, h.2]
 rw [e]
 rfl
theorem PZ (a : Int) : cutB (Yz a) = [⟨#[110, 111, 116, 101]⟩, yt a] := by
 have e : Yz a = ((⟨#[110, 111, 116, 101]⟩ : ByteArray) ++ sp) ++ yt a := rfl
 rw [e, Kh _ _ (by decide)]
theorem Hb {a b : Int} (ha : In a) (hb : In b) (h : Yz a = Yz b) : a = b := by
 have := congrArg cutB h
 rw [PZ, PZ] at this
 simp at this
 exact Ho ha hb this
noncomputable def SQ (s : ByteArray) : StepR :=
 open Classical in
 if (zI s).2.2 = true then (1, (zI s).1, (zI s).2.1, 0, true) else
 if h : ∃ a, (0 ≤ a ∧ a < 12) ∧ s = Yz a then (3, 0, 0, Classical.choose h, true) else (0, 0, 0, 0, false)
noncomputable def yY (s : ByteArray) : StepR := match chF s 5 0 with | some k => (2, 0, 0, k, true) | none => SQ s
theorem RF {s : ByteArray} {a : Int} (hm : ¬ (zI s).2.2 = true) (h : 0 ≤ a ∧ a < 12) (hs : s = Yz a) : SQ s = (3, 0, 0, a, true) := by
 unfold SQ
 have hx : ∃ a, (0 ≤ a ∧ a < 12) ∧ s = Yz a := ⟨a, h, hs⟩
 rw [if_neg hm, dif_pos hx]
 have hc := Classical.choose_spec hx
 have : Classical.choose hx = a := Hb (by unfold In; omega) (by unfold In; omega) (by rw [← hc.2, hs])
 rw [this]
theorem RG {s : ByteArray} (hm : ¬ (zI s).2.2 = true) (h : ¬ ∃ a, (0 ≤ a ∧ a < 12) ∧ s = Yz a) : SQ s = (0, 0, 0, 0, false) := by
 unfold SQ
 rw [if_neg hm, dif_neg h]
theorem fb (s : ByteArray) (hm : ¬ (zI s).2.2 = true) : ∀ (n : Nat) (i : Int), i + n = 12 → 0 ≤ i → (∀ a, 0 ≤ a → a < i → s ≠ Yz a) → Ev (fun k => uc k s i 0 0 0 0) (SQ s)
 | 0, i, h, h0, hno => by
   refine Ev.step (fun k => fc k _ _ _ _ _ _) (Ev.no (by simp; omega) (Ev.some ?_))
   exact (RG hm (fun ⟨a, ha, hs⟩ => hno a ha.1 (by omega) hs)).symm
 | n + 1, i, h, h0, hno => by
   refine Ev.step (fun k => fc k _ _ _ _ _ _) (Ev.yes (by simp; omega) (Ev.bind (aD _) ?_))
   have e : wh (3, (0, 0), i) = Yz i := GO ⟨h0, by omega⟩
   rw [e]
   simp only [zU]
   by_cases hs : Yz i = s
   ·refine Ev.yes (by simp [hs]) (Ev.some ?_)
    exact (RF hm ⟨h0, by omega⟩ hs.symm).symm
   ·refine Ev.no (by simp [hs]) ?_
    rw [zj (by omega) (by omega)]
    exact fb s hm n (i + 1) (by omega) (by omega) (fun a h1 h2 => by
     rcases Int.lt_or_le a i with h3 | h3
     ·exact hno a h1 h3
     ·have : a = i := by omega
      subst this; exact fun e => hs e.symm)
theorem eh (s : ByteArray) (hm : ¬ (zI s).2.2 = true) : ∀ (n : Nat) (i : Int), i + n = 5 → 0 ≤ i → Ev (fun k => uO k s i 0 0 0 0) (match chF s n i with | some k => (2, 0, 0, k, true) | none => SQ s)
 | 0, i, h, h0 => by
   refine Ev.step (fun k => ej k _ _ _ _ _ _) (Ev.no (by simp; omega) ?_)
   exact fb s hm 12 0 (by omega) (by omega) (fun a h1 h2 => by omega)
 | n + 1, i, h, h0 => by
   refine Ev.step (fun k => ej k _ _ _ _ _ _) (Ev.yes (by simp; omega) (Ev.bind (aN i) ?_))
   simp only [zU]
   unfold chF
   by_cases hs : xc i = s
   ·rw [if_pos hs]
    exact Ev.yes (by simp [hs]) (Ev.pure _)
   ·rw [if_neg hs]
    refine Ev.no (by simp [hs]) ?_
    rw [zj (by omega) (by omega)]
    exact eh s hm n (i + 1) (by omega) (by omega)
theorem Re (s : ByteArray) (hs : s.size ≤ 1048576) : Ev (fun k => YL k s) (yY s) := by
 refine Ev.step (fun k => Rf k s) (Ev.bind (Z7 s hs) ?_)
 unfold yY
 by_cases hm : (zI s).2.2 = true
 ·refine Ev.yes hm (Ev.some ?_)
  cases hc : chF s 5 0 with
  | some k =>
    exfalso
    have h1 := Jo s (Kj s 5 0 k hc)
    unfold zI at hm
    dsimp only at hm
    split at hm
    ·rename_i h2; omega
    ·cases hm
  | none => unfold SQ; rw [if_pos hm]
 ·exact Ev.no (by simpa using hm) (eh s hm 5 0 (by omega) (by omega))
end Qq
namespace Qq
open Go Go.Vt Pt
set_option linter.unusedVariables false
set_option linter.unusedSimpArgs false
theorem yc (xs : List Int) (hm : xs.length ≤ 1048576) : Ev (fun k => zv k xs) xs := by
 refine Ev.step (fun k => Yr k xs) (Ev.ite (fun h => ?_) (fun h => ?_))
 ·exact Ev.yes (by rw [zc]; simp; omega) (Ev.some (by simp))
 ·have : xs = [] := by simpa using h
  subst this
  exact Ev.both (Ev.pure _) (Ev.yes (by simp) (Ev.some rfl))
end Qq
namespace Qq
open Go Go.Vt Pt
set_option linter.unusedVariables false
set_option linter.unusedSimpArgs false
set_option linter.unnecessarySimpa false
theorem Zf {α : Type} (l : List α) : l.take ((l.length : Int)).toNat = l := by simp
def turn (x : Int) : Int := if card x < 0 then x else -1 - x
theorem Ek {x : Int} (h : In x) : In (turn x) := by
 unfold turn
 unfold In at *
 split
 ·exact h
 ·omega
theorem XD (x : Int) (hx : In x) : Ev (fun k => Zo k x) (turn x) := by
 have h1 := hx.1
 have h2 := hx.2
 refine Ev.step (fun k => QR k x) (Ev.bind (xx x hx) ?_)
 rw [zj (by omega) (by omega)]
 refine Ev.ite (fun h => Ev.some ?_) (fun h => Ev.some ?_)
 ·have : card x < 0 := by simpa using h
  simp [turn, this]
 ·have : ¬ card x < 0 := by simpa using h
  simp only [turn, if_neg this]
def fz : Bool → List Int → List Int → List Int
 | _, [], [] => []
 | f, x :: a, [] => x :: fz (!f) a []
 | f, [], y :: b => y :: fz (!f) [] b
 | true, x :: a, y :: b => x :: fz false a (y :: b)
 | false, x :: a, y :: b => y :: fz true (x :: a) b
termination_by _ a b => a.length + b.length
theorem VD : ∀ (n : Nat) (f : Bool) (a b out : List Int), a.length + b.length = n → out.length + n ≤ 12 → Ev (fun k => xI k a b f out) (out ++ fz f a b)
 | 0, f, a, b, out, h, ho => by
   have ea : a = [] := List.length_eq_zero_iff.1 (by omega)
   have eb : b = [] := List.length_eq_zero_iff.1 (by omega)
   subst ea eb
   refine Ev.step (fun k => VE k _ _ _ _) (Ev.no (by simp) (Ev.no (by simp) (Ev.some ?_)))
   unfold fz; simp
 | n + 1, f, a, b, out, h, ho => by
   have ih := fun f a b out h1 h2 => VD n f a b out h1 h2
   refine Ev.step (fun k => VE k _ _ _ _) ?_
   simp only [Zf]
   cases a with
   | nil =>
     cases b with
     | nil => simp at h
     | cons y b =>
       simp at h
       refine Ev.no (by simp) (Ev.yes (by (first | (simp [zc]; done) | (simp [zc]; omega) | omega)) ?_)
       cases f with
       | true =>
         refine Ev.yes rfl (Ev.no (by simp) ?_)
         (repeat (first | refine Ev.yes (by (first | (simp [zc]; done) | (simp [zc]; omega) | omega)) ?_ | refine Ev.no (by (first | (simp [zc]; done) | (simp [zc]; omega) | omega)) ?_))
         refine (ih false [] b (out ++ [y]) (by simp; omega) (by simp; omega)).to ?_
         conv => rhs; unfold fz
         simp
       | false =>
         refine Ev.no rfl (Ev.no (by (first | (simp [zc]; done) | (simp [zc]; omega) | omega)) ?_)
         (repeat (first | refine Ev.yes (by (first | (simp [zc]; done) | (simp [zc]; omega) | omega)) ?_ | refine Ev.no (by (first | (simp [zc]; done) | (simp [zc]; omega) | omega)) ?_))
         refine (ih true [] b (out ++ [y]) (by simp; omega) (by simp; omega)).to ?_
         conv => rhs; unfold fz
         simp
   | cons x a =>
     refine Ev.yes (by (first | (simp [zc]; done) | (simp [zc]; omega) | omega)) ?_
     cases f with
     | true =>
       refine Ev.yes rfl ?_
       (repeat (first | refine Ev.yes (by (first | (simp [zc]; done) | (simp [zc]; omega) | omega)) ?_ | refine Ev.no (by (first | (simp [zc]; done) | (simp [zc]; omega) | omega)) ?_))
       refine (ih false a b (out ++ [x]) (by simp at h ⊢; omega) (by simp; omega)).to ?_
       cases b with
       | nil => conv => rhs; unfold fz
                simp
       | cons y b => conv => rhs; unfold fz
                     simp
     | false =>
       refine Ev.no rfl ?_
       cases b with
       | nil =>
         simp at h
         refine Ev.yes (by simp) ?_
         (repeat (first | refine Ev.yes (by (first | (simp [zc]; done) | (simp [zc]; omega) | omega)) ?_ | refine Ev.no (by (first | (simp [zc]; done) | (simp [zc]; omega) | omega)) ?_))
         refine (ih true a [] (out ++ [x]) (by simp; omega) (by simp; omega)).to ?_
         conv => rhs; unfold fz
         simp
       | cons y b =>
         simp at h
         refine Ev.no (by (first | (simp [zc]; done) | (simp [zc]; omega) | omega)) ?_
         (repeat (first | refine Ev.yes (by (first | (simp [zc]; done) | (simp [zc]; omega) | omega)) ?_ | refine Ev.no (by (first | (simp [zc]; done) | (simp [zc]; omega) | omega)) ?_))
         refine (ih true (x :: a) b (out ++ [y]) (by simp; omega) (by simp; omega)).to ?_
         conv => rhs; unfold fz
         simp
def MZ (p : List Int) (k : Int) : List Int := fz (k == 0) (p.take (p.length / 2)) (p.drop (p.length / 2))
theorem half (n : Nat) (h : n ≤ 4194304) : IntKind.i64.wrap ((n : Int).tdiv 2) = ((n / 2 : Nat) : Int) := by
 have : (n : Int).tdiv 2 = ((n / 2 : Nat) : Int) := by rw [Int.tdiv_eq_ediv_of_nonneg (by omega)]; omega
 rw [this, zj (by omega) (by omega)]
theorem Np (p : List Int) (hp : p.length ≤ 12) (k : Int) : Ev (fun f => L6 f (p, k)) (MZ p k) := by
 refine Ev.step (fun f => Hx f _ _) ?_
 simp only [half p.length (by omega), Zf, Int.toNat_natCast, List.take_length, List.drop_zero]
 (repeat (first | refine Ev.yes (by (first | (simp [zc]; done) | (simp [zc]; omega) | omega)) ?_ | refine Ev.no (by (first | (simp [zc]; done) | (simp [zc]; omega) | omega)) ?_))
 refine (VD p.length (k == 0) _ _ [] (by simp; omega) (by simp; omega)).to ?_
 rw [List.nil_append]
 rfl
def mz (k : Int) : Nat → List Int → List Int → List Int
 | _, [], out => out
 | i, x :: r, out => if i = 0 ∨ (i : Int) % 2 = k then mz k (i + 1) r (out ++ [x]) else mz k (i + 1) r (x :: out)
theorem Xu (p : List Int) (hp : p.length ≤ 12) (k : Int) (hk : k = 0 ∨ k = 1) : ∀ (r : List Int) (i : Nat) (out : List Int), p.drop i = r → out.length = i → Ev (fun f => jW f k p (p.length : Int) (i : Int) out) (mz k i r out)
 | [], i, out, h, ho => by
   have a := zZ h
   refine Ev.step (fun f => Xv f _ _ _ _ _) ?_
   simp only [a.g, cond_false]
   exact Ev.pure _
 | x :: r, i, out, h, ho => by
   have a := zy h (by rw [zg]; omega)
   have hlt := a.lt
   have ih := fun out ho => Xu p hp k hk r (i + 1) out a.next ho
   refine Ev.step (fun f => Xv f _ _ _ _ _) ?_
   simp only [a.g, a.z, a.get, a.w, cond_true]
   rw [zj (x := (i : Int) + k) (by omega) (by omega), Int.tmod_eq_emod_of_nonneg (by omega)]
   unfold mz
   refine Ev.ite (fun c => Ev.ite (fun c2 => ?_) (fun c2 => ?_)) (fun c => ?_)
   ·have h1 : (i : Int) > 0 := by simpa using c
    have h2 : ((i : Int) + k) % 2 = 1 := by simpa using c2
    rw [if_neg (by rintro (h | h) <;> omega)]
    exact Ev.yes (by (first | (simp [zc]; done) | (simp [zc]; omega) | omega)) (ih _ (by simp; omega))
   ·have h1 : (i : Int) > 0 := by simpa using c
    have h2 : ¬ ((i : Int) + k) % 2 = 1 := by simpa using c2
    rw [if_pos (.inr (by omega))]
    exact Ev.yes (by (first | (simp [zc]; done) | (simp [zc]; omega) | omega)) (ih _ (by simp; omega))
   ·have h1 : ¬ (i : Int) > 0 := by simpa using c
    rw [if_pos (.inl (by omega))]
    exact Ev.yes (by (first | (simp [zc]; done) | (simp [zc]; omega) | omega)) (ih _ (by simp; omega))
def kz : Nat → List Int → List Int → List Int
 | 0, p, out => p ++ out
 | n + 1, p, out => if 1 < p.length then kz n ((p.take (p.length - 1)).drop 1) (p.getD 0 0 :: p.getD (p.length - 1) 0 :: out) else p ++ out
theorem VC : ∀ (n : Nat) (p out : List Int), p.length ≤ n → p.length + out.length ≤ 12 → Ev (fun f => Xw f p out) (kz n p out)
 | n, p, out, h, ho => by
   refine Ev.step (fun f => Nn f _ _) ?_
   by_cases c : 1 < p.length
   ·match n, h with
    | 0, h => exact absurd c (by omega)
    | n + 1, h =>
    have e : ((p.length : Int) - 1) = ((p.length - 1 : Nat) : Int) := by omega
    unfold kz
    rw [if_pos c]
    simp only [e, zj (x := ((p.length - 1 : Nat) : Int)) (by omega) (by omega), Int.toNat_natCast]
    refine Ev.yes (by simp; omega) ?_
    (repeat (first | refine Ev.yes (by (first | (simp [zc]; done) | (simp [zc]; omega) | omega)) ?_ | refine Ev.no (by (first | (simp [zc]; done) | (simp [zc]; omega) | omega)) ?_))
    exact VC n _ _ (by simp; omega) (by simp; omega)
   ·have : kz n p out = p ++ out := by cases n <;> simp [kz, c]
    rw [this]
    refine Ev.no (by simp; omega) (Ev.bind (yc p (by omega)) (Ev.yes (by rw [zc]; exact decide_eq_true (by omega)) (Ev.some rfl)))
def dz : Nat → Bool → List Int → List Int → List Int
 | 0, _, q, out => q.getD 0 0 :: out
 | n + 1, f, q, out => if 1 < q.length then (bif f then dz n false (q.drop 1) (q.getD 0 0 :: out) else dz n true (q.drop 1 ++ [q.getD 0 0]) out) else q.getD 0 0 :: out
theorem Xz : ∀ (n : Nat) (f : Bool) (q out : List Int), 1 ≤ q.length → 2 * q.length + (bif f then 0 else 1) ≤ n → q.length + out.length ≤ 12 →
 ∃ y, Ev (fun k => fY k f out q) y ∧ y.reverse = dz n f q out.reverse ∧ y.length = q.length + out.length
 | 0, f, q, out, h1, h, ho => by omega
 | n + 1, f, q, out, h1, h, ho => by
   have ih := fun f q out h1 h ho => Xz n f q out h1 h ho
   unfold dz
   by_cases c : 1 < q.length
   ·rw [if_pos c]
    cases f with
    | true =>
      obtain ⟨y, e1, e2, e3⟩ := ih false (q.drop 1) (out ++ [q.getD 0 0]) (by simp; omega) (by simp at h ⊢; omega) (by simp; omega)
      refine ⟨y, Ev.step (fun k => cC k _ _ _) ?_, ?_, by simp at e3; omega⟩
      ·simp only [Zf]
       refine Ev.yes (by simp; omega) (Ev.yes rfl ?_)
       (repeat (first | refine Ev.yes (by (first | (simp [zc]; done) | (simp [zc]; omega) | omega)) ?_ | refine Ev.no (by (first | (simp [zc]; done) | (simp [zc]; omega) | omega)) ?_))
       exact e1
      ·rw [e2]; simp
    | false =>
      obtain ⟨y, e1, e2, e3⟩ := ih true (q.drop 1 ++ [q.getD 0 0]) out (by simp) (by simp at h ⊢; omega) (by simp; omega)
      refine ⟨y, Ev.step (fun k => cC k _ _ _) ?_, ?_, by simp at e3; omega⟩
      ·have ed : (q ++ [q.getD 0 0]).drop 1 = q.drop 1 ++ [q.getD 0 0] := List.drop_append_of_le_length h1
       simp only [Zf, ed]
       refine Ev.yes (by simp; omega) (Ev.no rfl ?_)
       (repeat (first | refine Ev.yes (by (first | (simp [zc]; done) | (simp [zc]; omega) | omega)) ?_ | refine Ev.no (by (first | (simp [zc]; done) | (simp [zc]; omega) | omega)) ?_))
       exact e1
      ·rw [e2]; rfl
   ·rw [if_neg c]
    match q, h1, c with
    | [x], _, _ =>
      refine ⟨out ++ [x], Ev.step (fun k => cC k _ _ _) (Ev.no (by simp) (Ev.yes (by (first | (simp [zc]; done) | (simp [zc]; omega) | omega)) (Ev.some rfl))), by simp, by simp; omega⟩
    | _ :: _ :: _, _, c => simp at c
end Qq
namespace Qq
open Go Go.Vt Pt
set_option linter.unusedVariables false
set_option linter.unusedSimpArgs false
abbrev Packs : Type := List (List Int)
def FitS (l : Packs) : Prop := l.length ≤ maxLen ∧ ∀ p ∈ l, p.length ≤ maxLen ∧ Ins p
theorem FitS.of {l : Packs} (h : Fits (.slice (.slice (.int .i64))) l) : FitS l :=
 ⟨h.1, fun p hp => ⟨(h.2 p hp).1, fun x hx => In.of_fits ((h.2 p hp).2 x hx)⟩⟩
end Qq
namespace Qq
open Go Go.Vt Pt
set_option linter.unusedVariables false
set_option linter.unusedSimpArgs false
theorem Er {p : List Int} (h : Ins p) (i : Nat) : In (p.getD i 0) := by
 rw [List.getD]
 cases hi : p[i]? with
 | none => exact ⟨by decide, by decide⟩
 | some x => exact h x (List.mem_of_getElem? hi)
end Qq
namespace Qq
open Go Go.Vt Pt
set_option linter.unusedVariables false
set_option linter.unusedSimpArgs false
set_option linter.unnecessarySimpa false
theorem Wh (ls : List (List Int)) (hl : ls.length ≤ maxLen) : ∀ (r : List (List Int)) (i : Nat) (out : List Int), ls.drop i = r → out.length + r.flatten.length ≤ 1048576 → Ev (fun k => xn k ls (ls.length : Int) (i : Int) out) (out ++ r.flatten)
 | [], i, out, h, ho => by
   have a := zZ h
   refine Ev.step (fun k => vo k _ _ _ _) ?_
   simp only [a.g, cond_false]
   exact Ev.some (by simp)
 | x :: r, i, out, h, ho => by
   have a := zy h hl
   have hlt := a.lt
   simp only [List.flatten_cons, List.length_append] at ho
   refine Ev.step (fun k => vo k _ _ _ _) ?_
   simp only [a.g, a.z, a.get, a.w, cond_true]
   refine Ev.yes (by rw [zc]; exact decide_eq_true (by omega)) ?_
   exact (Wh ls hl r (i + 1) (out ++ x) a.next (by simp; simp at ho; omega)).to (by simp)
theorem VX (ls : List (List Int)) (hl : ls.length ≤ maxLen) (ht : ls.flatten.length ≤ 1048576) : ∀ (r : List (List Int)) (i : Nat) (n : Nat), ls.drop i = r → n + r.flatten.length ≤ 1048576 → Ev (fun k => xA k ls (n : Int) ls (ls.length : Int) (i : Int)) ls.flatten
 | [], i, n, h, hn => by
   have a := zZ h
   refine Ev.step (fun k => vL k _ _ _ _ _) ?_
   simp only [a.g, cond_false]
   have hg : Ev (fun k => ga k ([], (n : Int))) [] := Ev.congr (fun k => Y3 k [] (n : Int)) (by
    show Ev (fun _ => MT (n : Int)) []
    unfold MT
    simp at hn
    exact Ev.yes (by simp; omega) (Ev.pure _))
   exact Ev.bind hg ((Wh ls hl ls 0 [] rfl (by simpa using ht)).to (by simp))
 | x :: r, i, n, h, hn => by
   have a := zy h hl
   have hlt := a.lt
   simp only [List.flatten_cons, List.length_append] at hn
   refine Ev.step (fun k => vL k _ _ _ _ _) ?_
   have e : (n : Int) + (x.length : Int) = ((n + x.length : Nat) : Int) := by omega
   simp only [a.g, a.z, a.get, a.w, cond_true, e, zj (x := ((n + x.length : Nat) : Int)) (by omega) (by omega)]
   refine Ev.no (by simp; omega) ?_
   exact VX ls hl ht r (i + 1) (n + x.length) a.next (by omega)
theorem SL (ls : List (List Int)) (hl : ls.length ≤ maxLen) (ht : ls.flatten.length ≤ 1048576) : Ev (fun k => ym k ls) ls.flatten :=
 Ev.step (fun k => ZA k _) (VX ls hl ht ls 0 0 rfl (by omega))
theorem Yw (p : List Int) (hp : p.length ≤ 1048576) : Ev (fun k => fV k p) p.reverse := by
 have hr : Ev (fun k => vK k p) ((), p.reverse) := Ev.congr (fun k => bU k p) (by
  unfold reverseF
  exact Ev.yes (by simp; omega) (Ev.pure _))
 exact Ev.step (fun k => QI k _) (Ev.bind (yc p hp) (Ev.bind hr (Ev.pure _)))
theorem ZR (K : Nat) : ∀ (m : Nat) (pre r : List Int), m ≤ r.length → pre.length + m = K → pre.length + r.length ≤ 12 → Ins r → Ev (fun k => cz k (K : Int) (pre.length : Int) (pre ++ r)) (pre ++ (r.take m).map turn ++ r.drop m)
 | 0, pre, r, hm, hK, h12, hi => by
   refine Ev.step (fun k => ZS k _ _ _) (Ev.no (by simp; omega) (Ev.some (by simp)))
 | m + 1, pre, [], hm, hK, h12, hi => by simp at hm
 | m + 1, pre, x :: r, hm, hK, h12, hi => by
   simp at hm h12
   have hx : In x := hi x (by simp)
   have hg : (pre ++ x :: r).getD (pre.length : Int).toNat 0 = x := by simp [List.getD]
   have hs : (pre ++ x :: r).set (pre.length : Int).toNat (turn x) = pre ++ turn x :: r := by simp
   have ew : IntKind.i64.wrap ((pre.length : Int) + 1) = ((pre.length + 1 : Nat) : Int) := by rw [zj (by omega) (by omega)]; omega
   refine Ev.step (fun k => ZS k _ _ _) ?_
   simp only [hg, hs, ew]
   refine Ev.yes (by simp; omega) (Ev.yes (by simp) (Ev.yes (by (first | (simp [zc]; done) | (simp [zc]; omega) | omega)) (Ev.yes (by (first | (simp [zc]; done) | (simp [zc]; omega) | omega)) (Ev.bind (XD x hx) ?_))))
   simp only [hs]
   refine Ev.yes (by simp) (Ev.yes (by (first | (simp [zc]; done) | (simp [zc]; omega) | omega)) (Ev.yes (by (first | (simp [zc]; done) | (simp [zc]; omega) | omega)) ?_))
   have := ZR K m (pre ++ [turn x]) r hm (by simp; omega) (by simp; omega) (fun y hy => hi y (by simp [hy]))
   simp only [List.length_append, List.length_singleton, List.append_assoc, List.singleton_append] at this
   exact this.to (by simp)
def xz (p : List Int) (m : Int × Int) : List Int :=
 if m.1 = 1 then p.drop m.2.toNat ++ p.take m.2.toNat
 else if m.1 = 2 then (p.take m.2.toNat).reverse ++ p.drop m.2.toNat
 else if m.1 = 3 then (p.take m.2.toNat).reverse.map turn ++ p.drop m.2.toNat
 else if m.1 = 4 then MZ p m.2
 else if m.1 = 5 then mz m.2 0 p []
 else if m.1 = 6 then kz p.length p []
 else if m.1 = 7 then dz (2 * p.length + 1) (m.2 == 1) p []
 else if m.1 = 8 then p.set m.2.toNat (turn (p.getD m.2.toNat 0))
 else p.take m.2.toNat ++ p.drop (m.2.toNat + 1) ++ [p.getD m.2.toNat 0]
structure MoveFit (n : Nat) (m : Int × Int) : Prop where
 n1 : 1 ≤ n
 n12 : n ≤ 12
 k0 : 0 ≤ m.2
 kn : m.2 ≤ n ∨ m.2 ≤ 1
 c : m.1 = 1 ∨ m.1 = 2 ∨ m.1 = 3 → m.2 ≤ n
 f : m.1 = 4 ∨ m.1 = 5 ∨ m.1 = 7 → m.2 = 0 ∨ m.2 = 1
 t : m.1 ≠ 1 → m.1 ≠ 2 → m.1 ≠ 3 → m.1 ≠ 4 → m.1 ≠ 5 → m.1 ≠ 6 → m.1 ≠ 7 → m.2 < n
theorem Wv {n : Nat} {m : Int × Int} (h : vT (n : Int) m = true) : MoveFit n m := by
 unfold vT at h
 simp only [Bool.and_eq_true, decide_eq_true_eq] at h
 obtain ⟨h1, h2, h3, h4⟩ := h
 have key : (m.1 = 1 ∧ m.2 ≤ n) ∨ (m.1 = 2 ∧ m.2 ≤ n) ∨ (m.1 = 3 ∧ m.2 ≤ n) ∨ (m.1 = 4 ∧ m.2 ≤ 1) ∨ (m.1 = 5 ∧ m.2 ≤ 1) ∨ (m.1 = 7 ∧ m.2 ≤ 1) ∨ (m.1 = 6 ∧ m.2 = 0) ∨ (m.1 = 8 ∧ m.2 < n) ∨ (m.1 = 9 ∧ m.2 < n) := by
  repeat' (split at h4)
  all_goals simp at h4
  all_goals simp [*]
 exact ⟨by omega, by omega, h3, by omega, by omega, by omega, by omega⟩
theorem fX (p : List Int) (m : Int × Int) (h : MoveFit p.length m) (hi : Ins p) : Ev (fun k => YD k (p, m)) (xz p m) := by
 have hp := h.n12
 have hp1 := h.n1
 obtain ⟨a, b⟩ := m
 have h0 := h.k0
 obtain ⟨j, rfl⟩ : ∃ j : Nat, b = (j : Int) := ⟨b.toNat, by have := h0; simp at this; omega⟩
 have hc := h.c
 have hf := h.f
 have ht := h.t
 dsimp only at hc hf ht
 clear h h0
 refine Ev.step (fun k => K2 k p (a, (j : Int))) ?_
 unfold xz
 simp only [Zf, Int.toNat_natCast, List.take_length, List.drop_zero, List.nil_append]
 have hlen2 : ∀ (x y : List Int), x.length + y.length ≤ 1048576 → Ev (fun k => ym k [x, y]) (x ++ y) := fun x y hxy => (SL [x, y] (by rw [zg]; simp) (by simpa using hxy)).to (by simp)
 refine Ev.ite (fun c => ?_) (fun c1 => Ev.ite (fun c => ?_) (fun c2 => Ev.ite (fun c => ?_) (fun c3 => Ev.ite (fun c => ?_) (fun c4 => Ev.ite (fun c => ?_) (fun c5 => Ev.ite (fun c => ?_) (fun c6 => Ev.ite (fun c => ?_) (fun c7 => Ev.ite (fun c => ?_) (fun c8 => ?_))))))))
 all_goals simp only [beq_iff_eq, beq_eq_false_iff_ne, ne_eq] at *
 ·have := hc (by omega)
  rw [if_pos c]
  (repeat (first | refine Ev.yes (by (first | (simp [zc]; done) | (simp [zc]; omega) | omega)) ?_ | refine Ev.no (by (first | (simp [zc]; done) | (simp [zc]; omega) | omega)) ?_))
  exact Ev.bind (hlen2 _ _ (by simp; omega)) (Ev.pure _)
 ·have := hc (by omega)
  rw [if_neg c1, if_pos c]
  (repeat (first | refine Ev.yes (by (first | (simp [zc]; done) | (simp [zc]; omega) | omega)) ?_ | refine Ev.no (by (first | (simp [zc]; done) | (simp [zc]; omega) | omega)) ?_))
  refine Ev.bind (Yw _ (by simp; omega)) ?_
  (repeat (first | refine Ev.yes (by (first | (simp [zc]; done) | (simp [zc]; omega) | omega)) ?_ | refine Ev.no (by (first | (simp [zc]; done) | (simp [zc]; omega) | omega)) ?_))
  exact Ev.bind (hlen2 _ _ (by simp; omega)) (Ev.pure _)
 ·have := hc (by omega)
  rw [if_neg c1, if_neg c2, if_pos c]
  (repeat (first | refine Ev.yes (by (first | (simp [zc]; done) | (simp [zc]; omega) | omega)) ?_ | refine Ev.no (by (first | (simp [zc]; done) | (simp [zc]; omega) | omega)) ?_))
  refine Ev.bind (Yw _ (by simp; omega)) ?_
  (repeat (first | refine Ev.yes (by (first | (simp [zc]; done) | (simp [zc]; omega) | omega)) ?_ | refine Ev.no (by (first | (simp [zc]; done) | (simp [zc]; omega) | omega)) ?_))
  refine Ev.bind (hlen2 _ _ (by simp; omega)) ?_
  have hr : (p.take j).reverse.length = j := by simp; omega
  have := ZR j j [] ((p.take j).reverse ++ p.drop j) (by simp; omega) (by simp) (by simp; omega) (fun x hx => by
   rcases List.mem_append.1 hx with h | h
   ·exact hi x (List.mem_of_mem_take (List.mem_reverse.1 h))
   ·exact hi x (List.mem_of_mem_drop h))
  refine this.to ?_
  rw [List.nil_append, List.take_append_of_le_length (by omega), List.drop_append_of_le_length (by omega), List.take_of_length_le (by omega), List.drop_eq_nil_of_le (by omega), List.nil_append]
 ·rw [if_neg c1, if_neg c2, if_neg c3, if_pos c]
  exact Ev.bind (Np p hp _) (Ev.pure _)
 ·rw [if_neg c1, if_neg c2, if_neg c3, if_neg c4, if_pos c]
  exact Ev.bind (Ev.step (fun k => K3 k _ _) (Xu p hp _ (hf (by omega)) p 0 [] rfl rfl)) (Ev.pure _)
 ·rw [if_neg c1, if_neg c2, if_neg c3, if_neg c4, if_neg c5, if_pos c]
  exact Ev.bind (Ev.step (fun k => Hw k _) (VC p.length p [] (Nat.le_refl _) (by simp; omega))) (Ev.pure _)
 ·rw [if_neg c1, if_neg c2, if_neg c3, if_neg c4, if_neg c5, if_neg c6, if_pos c]
  obtain ⟨y, e1, e2, e3⟩ := Xz (2 * p.length + 1) ((j : Int) == 1) p [] hp1 (by cases ((j : Int) == 1) <;> simp) (by simp; omega)
  refine Ev.bind (Ev.step (fun k => K6 k _ _) (Ev.bind (yc p (by omega)) e1)) (Ev.bind (Yw y (by simp at e3; omega)) (Ev.some ?_))
  rw [e2]; rfl
 ·rw [if_neg c1, if_neg c2, if_neg c3, if_neg c4, if_neg c5, if_neg c6, if_neg c7, if_pos c]
  have := ht c1 c2 c3 c4 c5 c6 c7
  have hin : In (p.getD j 0) := Er hi _
  refine Ev.bind (yc p (by omega)) ?_
  (repeat (first | refine Ev.yes (by (first | (simp [zc]; done) | (simp [zc]; omega) | omega)) ?_ | refine Ev.no (by (first | (simp [zc]; done) | (simp [zc]; omega) | omega)) ?_))
  refine Ev.bind (XD _ hin) ?_
  (repeat (first | refine Ev.yes (by (first | (simp [zc]; done) | (simp [zc]; omega) | omega)) ?_ | refine Ev.no (by (first | (simp [zc]; done) | (simp [zc]; omega) | omega)) ?_))
  exact Ev.pure _
 ·rw [if_neg c1, if_neg c2, if_neg c3, if_neg c4, if_neg c5, if_neg c6, if_neg c7, if_neg c8]
  have := ht c1 c2 c3 c4 c5 c6 c7
  have hjl : j < p.length := by omega
  have e : IntKind.i64.wrap ((j : Int) + 1) = ((j + 1 : Nat) : Int) := by rw [zj (by omega) (by omega)]; omega
  simp only [e, Int.toNat_natCast]
  (repeat (first | refine Ev.yes (by (first | (simp [zc]; done) | (simp [zc]; omega) | omega)) ?_ | refine Ev.no (by (first | (simp [zc]; done) | (simp [zc]; omega) | omega)) ?_))
  refine Ev.bind ((SL [p.take j, p.drop (j + 1), (p.take (j + 1)).drop j] (by rw [zg]; simp) (by simp; omega)).to ?_) (Ev.pure _)
  have : (p.take (j + 1)).drop j = [p.getD j 0] := by
   rw [List.take_add_one, List.getElem?_eq_getElem hjl, List.drop_append_of_le_length (by simp; omega), List.drop_eq_nil_of_le (by simp; omega)]
   simp [List.getD, hjl]
  rw [this]
  simp
end Qq
namespace Qq
open Go Go.Vt Pt
set_option linter.unusedVariables false
set_option linter.unusedSimpArgs false
set_option linter.unnecessarySimpa false
theorem Hi {a b : List Int} : leI a b = true ↔ ¬ cmpI b a < 0 := by unfold leI; simp
theorem MF {a b : List Int} (h : leI a b = true) (hn : a ≠ b) : cmpI a b < 0 := by
 by_cases k : cmpI a b < 0
 ·exact k
 ·exact (hn (Ss a b k (Hi.1 h))).elim
theorem le_of_lt {a b : List Int} (h : cmpI a b < 0) : leI a b = true := Hi.2 fun k => vm a (jX a b a h k)
def SS (l : Packs) : Prop := l.Pairwise fun a b => cmpI a b < 0
theorem PA : ∀ {l m : Packs}, SS l → SS m → (∀ x, x ∈ l ↔ x ∈ m) → l = m
 | [], [], _, _, _ => rfl
 | [], y :: m, _, _, h => by have := (h y).2 (by simp); simp at this
 | x :: l, [], _, _, h => by have := (h x).1 (by simp); simp at this
 | x :: l, y :: m, hl, hm, h => by
   obtain ⟨hl1, hl2⟩ := List.pairwise_cons.1 hl
   obtain ⟨hm1, hm2⟩ := List.pairwise_cons.1 hm
   have e : x = y := by
    rcases List.mem_cons.1 ((h x).1 (by simp)) with e | hx
    ·exact e
    ·rcases List.mem_cons.1 ((h y).2 (by simp)) with e | hy
     ·exact e.symm
     ·exact (vm x (jX x y x (hl1 y hy) (hm1 x hx))).elim
   subst e
   have : l = m := PA hl2 hm2 fun z => by
    constructor
    ·intro hz
     rcases List.mem_cons.1 ((h z).1 (List.mem_cons_of_mem _ hz)) with e | hz2
     ·subst e; exact (vm _ (hl1 _ hz)).elim
     ·exact hz2
    ·intro hz
     rcases List.mem_cons.1 ((h z).2 (List.mem_cons_of_mem _ hz)) with e | hz2
     ·subst e; exact (vm _ (hm1 _ hz)).elim
     ·exact hz2
   rw [this]
theorem VO : ∀ (r : Packs) (p : List Int), (p :: r).Pairwise (fun a b => leI a b = true) → SS (p :: yO p r) ∧ ∀ z, z ∈ p :: yO p r ↔ z ∈ p :: r
 | [], p, _ => ⟨List.pairwise_singleton _ _, fun z => Iff.rfl⟩
 | y :: r, p, h => by
   obtain ⟨h1, h2⟩ := List.pairwise_cons.1 h
   obtain ⟨i1, i2⟩ := VO r y h2
   unfold yO
   by_cases e : y = p
   ·subst e
    rw [if_pos rfl]
    refine ⟨i1, fun z => ?_⟩
    rw [i2]; simp
   ·rw [if_neg e]
    have hlt : cmpI p y < 0 := MF (h1 y (by simp)) (Ne.symm e)
    refine ⟨List.pairwise_cons.2 ⟨fun z hz => ?_, i1⟩, fun z => ?_⟩
    ·rcases List.mem_cons.1 hz with rfl | hz
     ·exact hlt
     ·exact jX _ _ _ hlt ((List.pairwise_cons.1 i1).1 z hz)
    ·rw [List.mem_cons, i2, ← List.mem_cons]
theorem Kd {l : Packs} (h : l.Pairwise (fun a b => leI a b = true)) : SS (Ye l) ∧ ∀ z, z ∈ Ye l ↔ z ∈ l := by
 cases l with
 | nil => exact ⟨List.Pairwise.nil, fun _ => Iff.rfl⟩
 | cons x r => exact VO r x h
def setL (l : Packs) : Packs := Ye (Y1 l)
theorem F5 (l : Packs) : SS (setL l) := (Kd (bS l)).1
theorem Y6 (l : Packs) (z : List Int) : z ∈ setL l ↔ z ∈ l := ((Kd (bS l)).2 z).trans (fO l).mem_iff
theorem F6 {l m : Packs} (h : SS m) (hm : ∀ z, z ∈ m ↔ z ∈ l) : m = setL l := PA h (F5 l) fun z => (hm z).trans (Y6 l z).symm
theorem XZ : ∀ (r : Packs) (p : List Int), (yO p r).length ≤ r.length
 | [], _ => Nat.le_refl _
 | y :: r, p => by unfold yO; have := XZ r y; split <;> simp <;> omega
theorem Uo (l : Packs) : (setL l).length ≤ l.length := by
 have h1 : (Y1 l).length = l.length := (fO l).length_eq
 unfold setL
 rw [← h1]
 cases Y1 l with
 | nil => exact Nat.le_refl _
 | cons x r => have := XZ r x; simp [Ye]; omega
theorem gq (l : Packs) (hl : l.length ≤ 16777216) (h12 : ∀ p ∈ l, p.length ≤ 1048576) : ∀ (r : Packs) (i : Nat), l.drop i = r → Ev (fun k => va k l (l.length : Int) (i : Int) (l.take i)) (setL l)
 | [], i, h => by
   have a := zZ h
   refine Ev.step (fun k => gr k _ _ _ _) ?_
   simp only [a.g, cond_false]
   rw [List.take_of_length_le a.ge]
   have small : ∀ m : Packs, m.length ≤ 16777216 → (∀ p ∈ m, p.length ≤ 1048576) → Vf m = true := fun m hm hp => by
    unfold Vf
    rw [Bool.and_eq_true]
    exact ⟨decide_eq_true (by omega), List.all_eq_true.2 fun p hpm => decide_eq_true (by have := hp p hpm; omega)⟩
   have e1 : Ev (fun k => xU k (l, false)) ((), Y1 l) := Ev.congr (fun k => gU k l false) (by
    show Ev (fun _ => Mo l) _
    unfold Mo
    exact Ev.yes (small l hl h12) (Ev.pure _))
   have e2 : Ev (fun k => xk k (Y1 l, false)) (setL l) := Ev.congr (fun k => jo k (Y1 l) false) (by
    show Ev (fun _ => cY (Y1 l)) _
    unfold cY
    exact Ev.yes (small _ (by rw [(fO l).length_eq]; exact hl) (fun p hp => h12 p ((fO l).mem_iff.1 hp))) (Ev.pure _))
   exact Ev.bind e1 (Ev.bind e2 (Ev.pure _))
 | p :: r, i, h => by
   have a := zy h (by rw [zg]; omega)
   have hlt := a.lt
   have hp := h12 p a.mem
   have ih := gq l hl h12 r (i + 1) a.next
   have et : l.take (i + 1) = l.take i ++ [p] := by
    rw [List.take_add_one, List.getElem?_eq_getElem hlt]
    have := a.gt []
    simp [List.getD, hlt] at this
    rw [this]; rfl
   rw [et] at ih
   refine Ev.step (fun k => gr k _ _ _ _) ?_
   simp only [a.g, a.z, a.get, a.w, cond_true]
   exact Ev.bind (yc p hp) (Ev.yes (by rw [zc]; exact decide_eq_true (by simp; omega)) ih)
theorem bq (l : Packs) (hl : l.length ≤ 16777216) (h12 : ∀ p ∈ l, p.length ≤ 1048576) : Ev (fun k => cG k l) (setL l) :=
 Ev.step (fun k => V7 k l) (gq l hl h12 l 0 rfl)
end Qq
namespace Qq
open Go Go.Vt Pt
set_option linter.unusedVariables false
set_option linter.unusedSimpArgs false
end Qq
namespace Qq
open Go Go.Vt Pt
set_option linter.unusedVariables false
set_option linter.unusedSimpArgs false
end Qq
namespace Qq
open Go Go.Vt Pt
set_option linter.unusedVariables false
set_option linter.unusedSimpArgs false
set_option linter.unnecessarySimpa false
theorem ND : ∀ (n : Nat) (f : Bool) (a b : List Int), a.length + b.length = n → (fz f a b).length = n
 | n, f, [], [], h => by unfold fz; simpa using h
 | n, f, x :: a, [], h => by
   match n, h with
   | n + 1, h =>
   unfold fz
   rw [List.length_cons, ND n (!f) a [] (by simp at h ⊢; omega)]
 | n, f, [], y :: b, h => by
   match n, h with
   | n + 1, h =>
   unfold fz
   rw [List.length_cons, ND n (!f) [] b (by simp at h ⊢; omega)]
 | n, true, x :: a, y :: b, h => by
   match n, h with
   | n + 1, h =>
   unfold fz
   rw [List.length_cons, ND n false a (y :: b) (by simp at h ⊢; omega)]
 | n, false, x :: a, y :: b, h => by
   match n, h with
   | n + 1, h =>
   unfold fz
   rw [List.length_cons, ND n true (x :: a) b (by simp at h ⊢; omega)]
termination_by n => n
end Qq
namespace Qq
open Go Go.Vt Pt
set_option linter.unusedVariables false
set_option linter.unusedSimpArgs false
set_option linter.unnecessarySimpa false
def cutL (p : List Int) (k : Nat) : List Int := p.drop k ++ p.take k
def So (p : List Int) : Packs := (List.range p.length).map (cutL p)
theorem EA {p : List Int} {i : Nat} (hp : p.length ≤ 12) (hi : i < p.length) : MoveFit p.length (1, (i : Int)) :=
 ⟨by omega, hp, by simp, .inl (by simp; omega), fun _ => by simp; omega, fun h => by simp at h, fun h => by simp at h⟩
theorem Jg (p : List Int) (i : Nat) : xz p (1, (i : Int)) = cutL p i := by simp [xz, cutL]
theorem Wr (n : Nat) (f : Nat → List Int) : (List.range (n + 1)).map f = (List.range n).map f ++ [f n] := by rw [List.range_succ, List.map_append]; rfl
theorem VF (p : List Int) (hp : p.length ≤ 12) (hi : Ins p) : ∀ (m i : Nat), i + m = p.length → Ev (fun k => XA k p (p.length : Int) (i : Int) ((List.range i).map (cutL p))) (So p)
 | 0, i, h => by
   refine Ev.step (fun k => VG k _ _ _ _) (Ev.no (by simp; omega) (Ev.some ?_))
   have : i = p.length := by omega
   rw [this]; rfl
 | m + 1, i, h => by
   have ih := VF p hp hi m (i + 1) (by omega)
   rw [Wr] at ih
   have ew : IntKind.i64.wrap ((i : Int) + 1) = ((i + 1 : Nat) : Int) := by rw [zj (by omega) (by omega)]; omega
   refine Ev.step (fun k => VG k _ _ _ _) ?_
   simp only [ew]
   refine Ev.yes (by simp; omega) (Ev.bind (fX p _ (EA hp (by omega)) hi) ?_)
   rw [Jg]
   exact Ev.yes (by rw [zc]; exact decide_eq_true (by simp; omega)) ih
theorem Ns (p : List Int) (hp : p.length ≤ 12) (hi : Ins p) : Ev (fun k => L7 k p) (So p) :=
 Ev.step (fun k => Hz k _) (VF p hp hi p.length 0 (by omega))
def pickL (p : List Int) (i : Nat) : List Int := [p.getD i 0] ++ (p.take i ++ p.drop (i + 1))
def picksL (p : List Int) : Packs := (List.range p.length).map (pickL p)
theorem VH (p : List Int) (hp : p.length ≤ 12) : ∀ (m i : Nat), i + m = p.length → Ev (fun k => XB k p (p.length : Int) (i : Int) ((List.range i).map (pickL p))) (picksL p, true)
 | 0, i, h => by
   refine Ev.step (fun k => VI k _ _ _ _) (Ev.no (by simp; omega) (Ev.some ?_))
   have : i = p.length := by omega
   rw [this]; rfl
 | m + 1, i, h => by
   have ih := VH p hp m (i + 1) (by omega)
   rw [Wr] at ih
   have hil : i < p.length := by omega
   have ew : IntKind.i64.wrap ((i : Int) + 1) = ((i + 1 : Nat) : Int) := by rw [zj (by omega) (by omega)]; omega
   refine Ev.step (fun k => VI k _ _ _ _) ?_
   simp only [ew, Zf, Int.toNat_natCast, List.take_length, List.drop_zero, List.nil_append]
   refine Ev.yes (by simp; omega) ?_
   (repeat (first | refine Ev.yes (by (first | (simp [zc]; done) | (simp [zc]; omega) | omega)) ?_ | refine Ev.no (by (first | (simp [zc]; done) | (simp [zc]; omega) | omega)) ?_))
   have e1 : (p.take (i + 1)).drop i = [p.getD i 0] := by
    rw [List.take_add_one, List.getElem?_eq_getElem hil, List.drop_append_of_le_length (by simp; omega), List.drop_eq_nil_of_le (by simp; omega)]
    simp [List.getD, hil]
   refine Ev.bind ((SL [(p.take (i + 1)).drop i, p.take i, p.drop (i + 1)] (by rw [zg]; simp) (by simp; omega)).to (show _ = pickL p i by rw [e1]; simp [pickL])) ?_
   exact Ev.yes (by rw [zc]; exact decide_eq_true (by simp; omega)) ih
end Qq
namespace Qq
open Go Go.Vt Pt
set_option linter.unusedVariables false
set_option linter.unusedSimpArgs false
def rfi : Nat → Nat → List Bool → List Nat
 | _, _, [] => []
 | f, s, true :: r => s :: rfi f (s + 1) r
 | f, s, false :: r => f :: rfi (f + 1) s r
def xj : List Bool → Nat
 | [] => 0 | true :: r => xj r | false :: r => xj r + 1
def b5 : List Bool → Nat
 | [] => 0 | true :: r => b5 r + 1 | false :: r => b5 r
def vn : Nat → Nat → List Bool
 | 0, _ => [] | m + 1, w => Nat.beq (w % 2) 1 :: vn m (w / 2)
def Mw (n w : Nat) : List Nat := rfi 0 (xj (vn n w)) (vn n w)
def decGo : Nat → Option Nat → List Nat → Nat
 | _, _, [] => 0
 | i, none, x :: r => bif Nat.beq x i then decGo (i + 1) none r else 2 ^ i + decGo (i + 1) (some x) r
 | i, some s, x :: r => (bif Nat.ble s x then 2 ^ i else 0) + decGo (i + 1) (some s) r
def isIdB : Nat → List Nat → Bool
 | _, [] => true | i, x :: r => Nat.beq x i && isIdB (i + 1) r
def wellW (w : Nat) : Bool := !isIdB 0 (Mw 12 w)
theorem riff12 : ((List.range 4096).all fun w => isIdB 0 (Mw 12 w) || Nat.beq (decGo 0 none (Mw 12 w)) w) = true := by kernel_rfl
theorem PN : ((List.range 4096).filter wellW).length = 4083 := by kernel_rfl
theorem P0 {α : Type} [DecidableEq α] : ∀ {l m : List α}, l.Nodup → (∀ x ∈ l, x ∈ m) → l.length ≤ m.length
 | [], m, _, _ => Nat.zero_le _
 | x :: l, m, h, hs => by
   obtain ⟨h1, h2⟩ := List.nodup_cons.1 h
   have hx := hs x (by simp)
   have := P0 (l := l) (m := m.erase x) h2 fun y hy => (List.mem_erase_of_ne (fun e => h1 (by rw [e] at hy; exact hy))).2 (hs y (by simp [hy]))
   rw [List.length_erase_of_mem hx] at this
   have : 0 < m.length := List.length_pos_of_mem hx
   simp; omega
end Qq
namespace Qq
open Go Go.Vt Pt
set_option linter.unusedVariables false
set_option linter.unusedSimpArgs false
def bits : Nat → Nat → List Bool
 | 0, _ => []
 | n + 1, w => (w % 2 == 1) :: bits n (w / 2)
theorem fo : ∀ n w, (bits n w).length = n
 | 0, _ => rfl
 | n + 1, w => by simp [bits, fo n]
theorem Kk : ∀ (n w i : Nat), i < n → (bits n w)[i]? = some (w / 2 ^ i % 2 == 1)
 | 0, _, _, h => by omega
 | n + 1, w, 0, h => by simp [bits]
 | n + 1, w, i + 1, h => by
   show (bits n (w / 2))[i]? = _
   rw [Kk n (w / 2) i (by omega), Nat.div_div_eq_div_mul, Nat.pow_succ, Nat.mul_comm 2 (2 ^ i)]
theorem N7 {n w i : Nat} (h : i < n) : (bits n w).drop i = (w / 2 ^ i % 2 == 1) :: (bits n w).drop (i + 1) := by
 have hl : i < (bits n w).length := by rw [fo]; exact h
 rw [List.drop_eq_getElem_cons hl]
 have := Kk n w i h
 rw [List.getElem?_eq_getElem hl] at this
 injection this with e
 rw [e]
theorem Wb (w i : Nat) (hi : i < 64) (hw : w < 9223372036854775808) : IntKind.i64.wrap (((BitVec.ofInt IntKind.i64.bits (((w : Int)).fdiv (2 ^ (min ((i : Int)).toNat IntKind.i64.bits))) &&& BitVec.ofInt IntKind.i64.bits (1 : Int)).toNat : Int)) = ((w / 2 ^ i % 2 : Nat) : Int) := by
 have hb : IntKind.i64.bits = 64 := by decide
 rw [hb, Int.toNat_natCast, Nat.min_eq_left (by omega)]
 have e1 : ((w : Int)).fdiv (2 ^ i) = ((w / 2 ^ i : Nat) : Int) := by
  rw [Int.fdiv_eq_ediv_of_nonneg _ (by exact Int.le_of_lt (Int.pow_pos (by decide)))]
  norm_cast
 have e2 : (BitVec.ofInt 64 ((w / 2 ^ i : Nat) : Int) &&& BitVec.ofInt 64 (1 : Int)).toNat = w / 2 ^ i % 2 := by
  have h1 : (1 : Int) = ((1 : Nat) : Int) := rfl
  rw [h1, BitVec.ofInt_natCast, BitVec.ofInt_natCast, BitVec.toNat_and, BitVec.toNat_ofNat, BitVec.toNat_ofNat]
  have hlt : w / 2 ^ i < 2 ^ 64 := by
   have := Nat.div_le_self w (2 ^ i)
   omega
  rw [Nat.mod_eq_of_lt hlt]
  exact Nat.and_one_is_mod _
 rw [e1, e2, zj (by omega) (by omega)]
def vG (l : List Bool) : Nat := l.count false
def ones (l : List Bool) : Nat := l.count true
theorem zo : ∀ l : List Bool, vG l + ones l = l.length
 | [] => rfl
 | b :: l => by
   have := zo l
   unfold vG ones at *
   cases b <;> simp <;> omega
def riff : List Bool → Nat → Nat → List Int
 | [], _, _ => []
 | false :: l, a, b => (a : Int) :: riff l (a + 1) b
 | true :: l, a, b => (b : Int) :: riff l a (b + 1)
theorem Us : ∀ (l : List Bool) (a b : Nat), (riff l a b).length = l.length
 | [], _, _ => rfl
 | false :: l, a, b => by simp [riff, Us l]
 | true :: l, a, b => by simp [riff, Us l]
def upTo (n : Nat) : List Int := (List.range n).map fun (i : Nat) => (i : Int)
theorem vI (n : Nat) : (upTo n).length = n := by simp [upTo]
theorem Lv {n i : Nat} (h : i < n) (d : Int) : (upTo n).getD i d = i := by simp [upTo, List.getD, h]
theorem JK (n : Nat) : upTo (n + 1) = upTo n ++ [(n : Int)] := by simp [upTo, List.range_succ]
theorem Vz (n : Nat) (hn : n ≤ 1048576) : ∀ (m i : Nat), i + m = n → Ev (fun k => Xq k (n : Int) (i : Int) (upTo i)) (upTo n)
 | 0, i, h => by
   refine Ev.step (fun k => VA k n i _) ?_
   rw [Km (by omega)]
   have : i = n := by omega
   subst this
   exact Ev.pure _
 | m + 1, i, h => by
   have a := Fu (n := (n : Int)) (i := i) (by omega) (by omega)
   refine Ev.step (fun k => VA k n i _) ?_
   simp only [a.g, a.w, cond_true]
   refine Ev.yes (by rw [vI, zc]; simp; omega) ?_
   rw [← JK]
   exact Vz n hn m (i + 1) (by omega)
theorem Xr (n : Nat) (hn : n ≤ 1048576) : Ev (fun k => TG k (n : Int)) (upTo n) :=
 Ev.step (fun k => Hu k n) (Vz n hn n 0 (by omega))
theorem gj (n w a0 : Nat) (hn : n ≤ 12) (hw : w < 9223372036854775808) : ∀ (m i a b : Nat) (acc : List Int), i + m = n → acc.length = i → a + vG ((bits n w).drop i) ≤ n → b + ones ((bits n w).drop i) ≤ n →
 Ev (fun k => vr k (upTo n) (w : Int) (a : Int) (b : Int) (n : Int) (i : Int) acc) (acc ++ riff ((bits n w).drop i) a b)
 | 0, i, a, b, acc, h, hl, ha, hb => by
   refine Ev.step (fun k => vZ k _ _ _ _ _ _ _) ?_
   rw [Km (by omega)]
   have : (bits n w).drop i = [] := List.drop_eq_nil_of_le (by rw [fo]; omega)
   rw [this]
   exact Ev.some (by simp [riff])
 | m + 1, i, a, b, acc, h, hl, ha, hb => by
   have u := Fu (n := (n : Int)) (i := i) (by omega) (by omega)
   have hd := N7 (n := n) (w := w) (i := i) (by omega)
   refine Ev.step (fun k => vZ k _ _ _ _ _ _ _) ?_
   rw [Wb w i (by omega) hw]
   simp only [u.g, u.z, u.w, cond_true]
   rw [hd] at ha hb ⊢
   cases hbit : (w / 2 ^ i % 2 == 1) with
   | true =>
     rw [hbit] at ha hb
     simp only [vG, ones, List.count_cons] at ha hb
     simp at ha hb
     have e : (((w / 2 ^ i % 2 : Nat) : Int) == 1) = true := by
      have : w / 2 ^ i % 2 = 1 := by simpa using hbit
      rw [this]; rfl
     refine Ev.yes e (Ev.yes (by simp) (Ev.yes (by rw [vI]; simp; omega) (Ev.yes (by simp [zc]; omega) ?_)))
     rw [zj (by omega) (by omega), Int.toNat_natCast, Lv (by omega)]
     have := gj n w a0 hn hw m (i + 1) a (b + 1) (acc ++ [(b : Int)]) (by omega) (by simp [hl]) (by simpa [vG] using ha) (by simp only [ones]; omega)
     simpa [riff] using this
   | false =>
     rw [hbit] at ha hb
     simp only [vG, ones, List.count_cons] at ha hb
     simp at ha hb
     have e : (((w / 2 ^ i % 2 : Nat) : Int) == 1) = false := by
      have h1 : ¬ w / 2 ^ i % 2 = 1 := by simpa using hbit
      have h2 : w / 2 ^ i % 2 = 0 := by omega
      rw [h2]; rfl
     refine Ev.no e (Ev.yes (by simp) (Ev.yes (by rw [vI]; simp; omega) (Ev.yes (by simp [zc]; omega) ?_)))
     rw [zj (by omega) (by omega), Int.toNat_natCast, Lv (by omega)]
     have := gj n w a0 hn hw m (i + 1) (a + 1) b (acc ++ [(a : Int)]) (by omega) (by simp [hl]) (by simp only [vG]; omega) (by simpa [ones] using hb)
     simpa [riff] using this
theorem gk (n w : Nat) (hn : n ≤ 12) (hw : w < 9223372036854775808) : ∀ (m i z : Nat), i + m = n → z ≤ i → z + vG ((bits n w).drop i) = vG (bits n w) →
 Ev (fun k => u7 k (upTo n) (w : Int) 0 (z : Int) (n : Int) (i : Int)) (riff (bits n w) 0 (vG (bits n w)))
 | 0, i, z, h, hz, hs => by
   refine Ev.step (fun k => wx k _ _ _ _ _ _) ?_
   rw [Km (by omega)]
   have e : (bits n w).drop i = [] := List.drop_eq_nil_of_le (by rw [fo]; omega)
   rw [e] at hs
   have hs' : z = vG (bits n w) := by simpa [vG] using hs
   have h1 := zo (bits n w)
   rw [fo] at h1
   have := gj n w 0 hn hw n 0 0 z [] (by omega) rfl (by rw [List.drop_zero]; omega) (by rw [List.drop_zero]; omega)
   rw [vI, hs'] at *
   simpa using this
 | m + 1, i, z, h, hz, hs => by
   have u := Fu (n := (n : Int)) (i := i) (by omega) (by omega)
   have hd := N7 (n := n) (w := w) (i := i) (by omega)
   refine Ev.step (fun k => wx k _ _ _ _ _ _) ?_
   rw [Wb w i (by omega) hw]
   simp only [u.g, u.z, u.w, cond_true]
   rw [hd] at hs
   have hlt : w / 2 ^ i % 2 < 2 := Nat.mod_lt _ (by decide)
   rw [zj (x := 1 - _) (by omega) (by omega), zj (by omega) (by omega)]
   cases hbit : (w / 2 ^ i % 2 == 1) with
   | true =>
     have h1 : w / 2 ^ i % 2 = 1 := by simpa using hbit
     rw [hbit] at hs
     simp only [vG, List.count_cons] at hs
     simp at hs
     rw [h1]
     have := gk n w hn hw m (i + 1) z (by omega) (by omega) (by simpa [vG] using hs)
     simpa using this
   | false =>
     have h0 : ¬ w / 2 ^ i % 2 = 1 := by simpa using hbit
     have h1 : w / 2 ^ i % 2 = 0 := by omega
     rw [hbit] at hs
     simp only [vG, List.count_cons] at hs
     simp at hs
     rw [h1]
     have := gk n w hn hw m (i + 1) (z + 1) (by omega) (by omega) (by simp only [vG]; omega)
     simpa using this
theorem Nl (n w : Nat) (hn : n ≤ 12) (hw : w < 9223372036854775808) : Ev (fun k => ae k (upTo n, (w : Int))) (riff (bits n w) 0 (vG (bits n w))) := by
 refine Ev.step (fun k => VB k _ _) ?_
 rw [vI]
 exact gk n w hn hw n 0 0 (by omega) (by omega) (by simp)
end Qq
namespace Qq
open Go Go.Vt Pt
set_option linter.unusedVariables false
set_option linter.unusedSimpArgs false
set_option linter.unnecessarySimpa false
theorem aY : ∀ (m w : Nat), (vn m w).length = m
 | 0, _ => rfl
 | m + 1, w => by rw [vn, List.length_cons, aY]
theorem Pr : ∀ l : List Bool, xj l + b5 l = l.length
 | [] => rfl
 | true :: r => by have := Pr r; simp [xj, b5]; omega
 | false :: r => by have := Pr r; simp [xj, b5]; omega
def rfp (p : List Int) : Nat → Nat → List Bool → List Int
 | _, _, [] => []
 | f, s, true :: r => p.getD s 0 :: rfp p f (s + 1) r
 | f, s, false :: r => p.getD f 0 :: rfp p (f + 1) s r
def Qu (p : List Int) (w : Nat) : List Int := rfp p 0 (xj (vn p.length w)) (vn p.length w)
theorem Fh (w i : Nat) : w / 2 ^ i / 2 = w / 2 ^ (i + 1) := by rw [Nat.div_div_eq_div_mul, Nat.pow_succ]
theorem Qg (m w i : Nat) : vn (m + 1) (w / 2 ^ i) = Nat.beq (w / 2 ^ i % 2) 1 :: vn m (w / 2 ^ (i + 1)) := by rw [vn, Fh]
theorem bj (p : List Int) (hp : p.length ≤ 12) (w : Nat) (hw : w ≤ 4096) : ∀ (m i f s : Nat) (out : List Int), i + m = p.length → f + xj (vn m (w / 2 ^ i)) ≤ p.length → s + b5 (vn m (w / 2 ^ i)) ≤ p.length → out.length ≤ i →
 Ev (fun k => vr k p (w : Int) (f : Int) (s : Int) (p.length : Int) (i : Int) out) (out ++ rfp p f s (vn m (w / 2 ^ i)))
 | 0, i, f, s, out, h, hf, hs, ho => by
   refine Ev.step (fun k => vZ k _ _ _ _ _ _ _) (Ev.no (by simp; omega) (Ev.some ?_))
   simp [vn, rfp]
 | m + 1, i, f, s, out, h, hf, hs, ho => by
   have ih := fun f s out => bj p hp w hw m (i + 1) f s out (by omega)
   have ew : ∀ j : Nat, j ≤ 12 → IntKind.i64.wrap ((j : Int) + 1) = ((j + 1 : Nat) : Int) := fun j hj => by rw [zj (by omega) (by omega)]; omega
   rw [Qg] at hf hs ⊢
   refine Ev.step (fun k => vZ k _ _ _ _ _ _ _) ?_
   simp only [Wb w i (by omega) (by omega), ew i (by omega)]
   simp only [Int.toNat_natCast]
   refine Ev.yes (by simp; omega) (Ev.yes (by simp) ?_)
   cases hb : Nat.beq (w / 2 ^ i % 2) 1 with
   | true =>
     rw [hb] at hf hs
     have hb' := Nat.eq_of_beq_eq_true hb
     simp only [xj, b5] at hf hs
     rw [ew s (by omega)]
     refine Ev.yes (by rw [hb']; rfl) (Ev.yes (by simp) (Ev.yes (by simp; omega) (Ev.yes (by rw [zc]; exact decide_eq_true (by simp; omega)) ?_)))
     exact (ih f (s + 1) (out ++ [p.getD s 0]) (by omega) (by omega) (by simp; omega)).to (by simp [rfp])
   | false =>
     rw [hb] at hf hs
     have hb' : ¬ w / 2 ^ i % 2 = 1 := fun e => by rw [e] at hb; cases hb
     simp only [xj, b5] at hf hs
     rw [ew f (by omega)]
     have h0 : w / 2 ^ i % 2 = 0 := by omega
     refine Ev.no (by rw [h0]; rfl) (Ev.yes (by simp) (Ev.yes (by simp; omega) (Ev.yes (by rw [zc]; exact decide_eq_true (by simp; omega)) ?_)))
     exact (ih (f + 1) s (out ++ [p.getD f 0]) (by omega) (by omega) (by simp; omega)).to (by simp [rfp])
theorem jq (p : List Int) (hp : p.length ≤ 12) (w : Nat) (hw : w ≤ 4096) : ∀ (m i z : Nat), i + m = p.length → z ≤ i →
 Ev (fun k => u7 k p (w : Int) 0 (z : Int) (p.length : Int) (i : Int)) (rfp p 0 (z + xj (vn m (w / 2 ^ i))) (vn p.length w)) ∨ z + xj (vn m (w / 2 ^ i)) ≠ xj (vn p.length w)
 | 0, i, z, h, hz => by
   by_cases hzz : z + xj (vn 0 (w / 2 ^ i)) = xj (vn p.length w)
   ·left
    refine Ev.step (fun k => wx k _ _ _ _ _ _) (Ev.no (by simp; omega) ?_)
    have e : xj (vn 0 (w / 2 ^ i)) = 0 := rfl
    rw [e] at hzz ⊢
    have hl := Pr (vn p.length w)
    rw [aY] at hl
    have := bj p hp w hw p.length 0 0 z [] (by omega) (by rw [Nat.pow_zero, Nat.div_one]; omega) (by rw [Nat.pow_zero, Nat.div_one]; omega) (Nat.le_refl _)
    rw [Nat.pow_zero, Nat.div_one, List.nil_append] at this
    exact this
   ·exact .inr hzz
 | m + 1, i, z, h, hz => by
   rw [Qg]
   have ew : IntKind.i64.wrap ((i : Int) + 1) = ((i + 1 : Nat) : Int) := by rw [zj (by omega) (by omega)]; omega
   cases hb : Nat.beq (w / 2 ^ i % 2) 1 with
   | true =>
     have hb' := Nat.eq_of_beq_eq_true hb
     simp only [xj]
     refine (jq p hp w hw m (i + 1) z (by omega) (by omega)).imp_left fun ih => ?_
     refine Ev.step (fun k => wx k _ _ _ _ _ _) ?_
     simp only [Wb w i (by omega) (by omega), ew, hb']
     refine Ev.yes (by simp; omega) (Ev.yes (by simp) ?_)
     have e2 : IntKind.i64.wrap ((z : Int) + IntKind.i64.wrap (1 - ((1 : Nat) : Int))) = (z : Int) := by rw [zj (x := 1 - ((1 : Nat) : Int)) (by omega) (by omega), zj (by omega) (by omega)]; omega
     rw [e2]
     exact ih
   | false =>
     have hb' : w / 2 ^ i % 2 = 0 := by
      have : ¬ w / 2 ^ i % 2 = 1 := fun e => by rw [e] at hb; cases hb
      omega
     simp only [xj]
     rw [show z + (xj (vn m (w / 2 ^ (i + 1))) + 1) = (z + 1) + xj (vn m (w / 2 ^ (i + 1))) by omega]
     refine (jq p hp w hw m (i + 1) (z + 1) (by omega) (by omega)).imp_left fun ih => ?_
     refine Ev.step (fun k => wx k _ _ _ _ _ _) ?_
     simp only [Wb w i (by omega) (by omega), ew, hb']
     refine Ev.yes (by simp; omega) (Ev.yes (by simp) ?_)
     have e2 : IntKind.i64.wrap ((z : Int) + IntKind.i64.wrap (1 - ((0 : Nat) : Int))) = ((z + 1 : Nat) : Int) := by rw [zj (x := 1 - ((0 : Nat) : Int)) (by omega) (by omega), zj (by omega) (by omega)]; omega
     rw [e2]
     exact ih
theorem QH (p : List Int) (hp : p.length ≤ 12) (w : Nat) (hw : w ≤ 4096) : Ev (fun k => ae k (p, (w : Int))) (Qu p w) := by
 refine Ev.step (fun k => VB k _ _) ?_
 have := jq p hp w hw p.length 0 0 (by omega) (Nat.le_refl _)
 rw [Nat.pow_zero, Nat.div_one, Nat.zero_add] at this
 exact this.resolve_right (fun h => h rfl)
def Y9 (p : List Int) : Packs := (List.range (2 ^ p.length)).map (Qu p)
theorem FE {n : Nat} (h : n ≤ 12) : 2 ^ n ≤ 4096 := Nat.pow_le_pow_right (by decide) h
theorem TM (p : List Int) (hp : p.length ≤ 12) : ∀ (m i : Nat), i + m = 2 ^ p.length → Ev (fun k => Uv k p (i : Int) ((List.range i).map (Qu p))) (Y9 p, true)
 | m, i, h => by
   have h2 := FE hp
   have e : IntKind.i64.wrap ((1 : Int) * 2 ^ (min (p.length : Int).toNat IntKind.i64.bits)) = ((2 ^ p.length : Nat) : Int) := by
    have hm : min (p.length : Int).toNat IntKind.i64.bits = p.length := by
     have : IntKind.i64.bits = 64 := rfl
     rw [this, Int.toNat_natCast]; omega
    rw [hm, Int.one_mul, show (2 : Int) ^ p.length = ((2 ^ p.length : Nat) : Int) by simp, zj (by omega) (by omega)]
   refine Ev.step (fun k => MO k _ _ _) (Ev.yes (by simp) ?_)
   rw [e]
   match m, h with
   | 0, h =>
     refine Ev.no (by simp only [decide_eq_false_iff_not]; omega) (Ev.some ?_)
     have : i = 2 ^ p.length := by omega
     rw [this]; rfl
   | m + 1, h =>
     have ih := TM p hp m (i + 1) (by omega)
     rw [Wr] at ih
     have ew : IntKind.i64.wrap ((i : Int) + 1) = ((i + 1 : Nat) : Int) := by rw [zj (by omega) (by omega)]; omega
     rw [ew]
     refine Ev.yes (by simp only [decide_eq_true_eq]; omega) (Ev.bind (QH p hp i (by omega)) (Ev.yes (by rw [zc]; exact decide_eq_true (by simp; omega)) ih))
def nb : List Bool → Nat
 | [] => 0 | b :: r => (bif b then 1 else 0) + 2 * nb r
end Qq
namespace Qq
open Go Go.Vt Pt
set_option linter.unusedVariables false
set_option linter.unusedSimpArgs false
set_option linter.unnecessarySimpa false
theorem U7 (p : List Int) : ∀ (bits : List Bool) (f s : Nat), rfp p f s bits = (rfi f s bits).map fun i => p.getD i 0
 | [], _, _ => rfl
 | true :: r, f, s => by unfold rfp rfi; rw [U7 p r]; rfl
 | false :: r, f, s => by unfold rfp rfi; rw [U7 p r]; rfl
theorem J2 (n : Nat) : ∀ (bits : List Bool) (f s : Nat), f + xj bits ≤ n → s + b5 bits ≤ n → ∀ x ∈ rfi f s bits, x < n
 | [], _, _, _, _, x, hx => by cases hx
 | true :: r, f, s, h1, h2, x, hx => by
   simp only [xj, b5] at h1 h2
   rcases List.mem_cons.1 hx with rfl | hx
   ·omega
   ·exact J2 n r f (s + 1) h1 (by omega) x hx
 | false :: r, f, s, h1, h2, x, hx => by
   simp only [xj, b5] at h1 h2
   rcases List.mem_cons.1 hx with rfl | hx
   ·omega
   ·exact J2 n r (f + 1) s (by omega) h2 x hx
theorem RN {g : Nat → Int} {n : Nat} (hg : ∀ i j, i < n → j < n → g i = g j → i = j) : ∀ {l m : List Nat}, (∀ x ∈ l, x < n) → (∀ x ∈ m, x < n) → l.map g = m.map g → l = m
 | [], [], _, _, _ => rfl
 | [], _ :: _, _, _, h => by simp at h
 | _ :: _, [], _, _, h => by simp at h
 | x :: l, y :: m, hl, hm, h => by
   simp only [List.map_cons, List.cons.injEq] at h
   rw [hg x y (hl x (by simp)) (hm y (by simp)) h.1, RN hg (fun z hz => hl z (by simp [hz])) (fun z hz => hm z (by simp [hz])) h.2]
theorem riffs12 {p : List Int} (hl : p.length = 12) (hn : p.Nodup) : 3000 < (setL (Y9 p)).length := by
 have hg : ∀ i j, i < 12 → j < 12 → p.getD i 0 = p.getD j 0 → i = j := fun i j hi hj e => by
  have h1 : i < p.length := by omega
  have h2 : j < p.length := by omega
  simp only [List.getD, List.getElem?_eq_getElem h1, List.getElem?_eq_getElem h2, Option.getD_some] at e
  have hpw := List.pairwise_iff_getElem.1 (show p.Pairwise (fun a b => a ≠ b) from hn)
  rcases Nat.lt_trichotomy i j with h | h | h
  ·exact (hpw i j h1 h2 h e).elim
  ·exact h
  ·exact (hpw j i h2 h1 h e.symm).elim
 have hlt : ∀ w, ∀ x ∈ Mw 12 w, x < 12 := fun w => by
  have := Pr (vn 12 w)
  rw [aY] at this
  exact J2 12 _ 0 _ (by omega) (by omega)
 have hr : ∀ w, Qu p w = (Mw 12 w).map fun i => p.getD i 0 := fun w => by unfold Qu Mw; rw [hl, U7]
 have hdec : ∀ w, w < 4096 → wellW w = true → decGo 0 none (Mw 12 w) = w := fun w hw hwell => by
  have := List.all_eq_true.1 riff12 w (List.mem_range.2 hw)
  unfold wellW at hwell
  rw [Bool.not_eq_true'] at hwell
  rw [hwell, Bool.false_or] at this
  exact Nat.eq_of_beq_eq_true this
 have hnd : (((List.range 4096).filter wellW).map (Qu p)).Nodup := by
  rw [List.Nodup, List.pairwise_map]
  refine List.Pairwise.imp_of_mem (fun {a b} ha hb hab e => hab ?_) ((List.nodup_range (n := 4096)).filter wellW)
  obtain ⟨a1, a2⟩ := List.mem_filter.1 ha
  obtain ⟨b1, b2⟩ := List.mem_filter.1 hb
  rw [hr, hr] at e
  have := RN hg (hlt a) (hlt b) e
  rw [← hdec a (List.mem_range.1 a1) a2, ← hdec b (List.mem_range.1 b1) b2, this]
 have := P0 hnd (m := setL (Y9 p)) (fun q hq => by
  obtain ⟨w, hw, rfl⟩ := List.mem_map.1 hq
  rw [Y6]
  unfold Y9
  rw [hl]
  exact List.mem_map.2 ⟨w, (List.mem_filter.1 hw).1, rfl⟩)
 rw [List.length_map, PN] at this
 omega
theorem J1 {p : List Int} (hp : p.length ≤ 11) : (setL (Y9 p)).length ≤ 2048 := by
 refine Nat.le_trans (Uo _) ?_
 unfold Y9
 rw [List.length_map, List.length_range]
 exact Nat.pow_le_pow_right (by decide) hp
def MX (p : List Int) : List Int := (p.take 2).reverse.map turn ++ p.drop 2
def wN (p : List Int) (c : Int) : Packs := if c = 1 then So p else if c = 2 then Y9 p else if c = 3 then So (MX p) else if c = 4 then picksL p else [p]
def chOk (p : List Int) (c : Int) : Bool := zl p && (!(p.length == 0) && (decide (0 ≤ c ∧ c ≤ 4) && (!(decide (c = 3) && decide (p.length < 2)) && !(decide (c = 2) && decide (12 ≤ p.length)))))
structure ChFit (p : List Int) (c : Int) : Prop where
 ok : zl p = true
 l1 : 1 ≤ p.length
 l12 : p.length ≤ 12
 c0 : 0 ≤ c
 c4 : c ≤ 4
 c3 : c = 3 → 2 ≤ p.length
 c2 : c = 2 → p.length ≤ 11
theorem eF (p : List Int) : (MX p).length = p.length := by unfold MX; simp; omega
theorem HL {p : List Int} (hi : Ins p) : Ins (MX p) := fun x hx => by
 unfold MX at hx
 rcases List.mem_append.1 hx with h | h
 ·obtain ⟨y, hy, rfl⟩ := List.mem_map.1 h
  exact Ek (hi y (List.mem_of_mem_take (List.mem_reverse.1 hy)))
 ·exact hi x (List.mem_of_mem_drop h)
theorem YW {p : List Int} {c : Int} (hp : p.length ≤ 12) : (wN p c).length ≤ 4096 ∧ ∀ q ∈ wN p c, q.length ≤ 12 := by
 have h2 := FE hp
 unfold wN
 split
 ·refine ⟨by unfold So; simp; omega, fun q hq => ?_⟩
  obtain ⟨i, _, rfl⟩ := List.mem_map.1 hq
  unfold cutL; simp; omega
 split
 ·refine ⟨by unfold Y9; simpa using h2, fun q hq => ?_⟩
  obtain ⟨w, _, rfl⟩ := List.mem_map.1 hq
  unfold Qu
  rw [U7, List.length_map]
  have : ∀ (bits : List Bool) (f s : Nat), (rfi f s bits).length = bits.length := fun bits => by
   induction bits with
   | nil => intro f s; rfl
   | cons b r ih => intro f s; cases b <;> simp [rfi, ih]
  rw [this, aY]; exact hp
 split
 ·refine ⟨by unfold So; simp [eF]; omega, fun q hq => ?_⟩
  obtain ⟨i, _, rfl⟩ := List.mem_map.1 hq
  unfold cutL; simp [eF]; have := eF p; omega
 split
 ·refine ⟨by unfold picksL; simp; omega, fun q hq => ?_⟩
  obtain ⟨i, hi, rfl⟩ := List.mem_map.1 hq
  have := List.mem_range.1 hi
  unfold pickL; simp; omega
 ·exact ⟨by simp, fun q hq => by have : q = p := by simpa using hq
                                 rw [this]; exact hp⟩
theorem Gf {p : List Int} {c : Int} (hp : p.length ≤ 12) (c2 : c ≠ 2) : (wN p c).length ≤ 12 := by
 unfold wN
 split
 ·unfold So; simpa using hp
 split
 ·unfold So; simpa [eF] using hp
 split
 ·unfold picksL; simpa using hp
 ·simp
def resOf (p : List Int) (c : Int) : Packs × Bool := if chOk p c then (setL (wN p c), true) else ([], false)
theorem G3 (p : List Int) (c : Int) (hp : p.length ≤ 12) (hi : Ins p) (h0 : 1 ≤ p.length) : Ev (fun k => Em k (p, c)) (if (0 ≤ c ∧ c ≤ 4) ∧ ¬ (c = 3 ∧ p.length < 2) then (wN p c, true) else ([], false)) := by
 refine Ev.step (fun k => G4 k p c) ?_
 refine Ev.ite (fun e => ?_) (fun n0 => Ev.ite (fun e => ?_) (fun n1 => Ev.ite (fun e => ?_) (fun n2 => Ev.ite (fun e => ?_) (fun n3 => Ev.ite (fun e => ?_) (fun n4 => Ev.some ?_)))))
 all_goals simp only [beq_iff_eq, beq_eq_false_iff_ne, ne_eq] at *
 ·subst e
  exact Ev.bind (yc p (by omega)) (Ev.some (by simp [wN]))
 ·subst e
  exact Ev.bind (Ns p hp hi) (Ev.some (by simp [wN]))
 ·subst e
  exact (TM p hp (2 ^ p.length) 0 (by omega)).to (by simp [wN])
 ·subst e
  refine Ev.ite (fun h => Ev.some ?_) (fun h => ?_)
  ·have : p.length < 2 := by have : (p.length : Int) < 2 := by simpa using h
                             omega
   simp [this]
  ·have h2 : ¬ p.length < 2 := by have : ¬ (p.length : Int) < 2 := by simpa using h
                                  omega
   have hm := fX p (3, ((2 : Nat) : Int)) ⟨h0, hp, by simp, .inl (by simp; omega), fun _ => by simp; omega, fun h => by simp at h, fun _ _ h3 => absurd rfl h3⟩ hi
   have ed : xz p (3, ((2 : Nat) : Int)) = MX p := by simp [xz, MX]
   rw [ed] at hm
   exact Ev.bind hm (Ev.bind (Ns _ (by rw [eF]; exact hp) (HL hi)) (Ev.some (by simp [wN, h2])))
 ·subst e
  exact (VH p hp p.length 0 (by omega)).to (by simp [wN])
 ·rw [if_neg (by omega)]
theorem Rc (p : List Int) (c : Int) (hp : p.length ≤ maxLen) (hi : Ins p) : Ev (fun k => YJ k (p, c)) (resOf p c) := by
 unfold resOf
 refine Ev.step (fun k => Rd k p c) (Ev.bind (xt p hp hi) (Ev.ite (fun h => Ev.some ?_) (fun h => Ev.ite (fun h2 => Ev.some ?_) (fun h2 => ?_))))
 ·have : zl p = false := by simpa using h
  simp [chOk, this]
 ·have : p.length = 0 := by have : (p.length : Int) = 0 := by simpa using h2
                            omega
  simp [chOk, this]
 ·have e1 : zl p = true := by simpa using h
  have e2 : ¬ p.length = 0 := by have : ¬ (p.length : Int) = 0 := by simpa using h2
                                 omega
  have hl := (yF e1).2.2
  have hnd : p.Nodup := by
   have := (yF e1).1
   rw [List.Nodup, List.pairwise_map] at this
   exact this.imp fun h e => h (by rw [e])
  refine Ev.bind (G3 p c hl hi (by omega)) ?_
  by_cases hc : (0 ≤ c ∧ c ≤ 4) ∧ ¬ (c = 3 ∧ p.length < 2)
  ·rw [if_pos hc]
   have hs := YW (c := c) hl
   refine Ev.bind (bq _ (Nat.le_trans hs.1 (by decide)) (fun q hq => Nat.le_trans (hs.2 q hq) (by decide))) (Ev.no rfl ?_)
   refine Ev.ite (fun h3 => Ev.some ?_) (fun h3 => Ev.some ?_)
   ·have h3' : 3000 < (setL (wN p c)).length := by have : ((setL (wN p c)).length : Int) > 3000 := by simpa using h3
                                                   omega
    have : c = 2 ∧ 12 ≤ p.length := by
     apply Classical.byContradiction
     intro hcon
     have h5 := Uo (wN p c)
     by_cases c2 : c = 2
     ·have := J1 (p := p) (by omega)
      rw [c2] at h3'
      simp only [wN] at h3'
      simp at h3'
      omega
     ·have := Gf (p := p) hl c2
      omega
    rw [if_neg]
    unfold chOk
    simp [this.1, this.2]
   ·have h3' : ¬ 3000 < (setL (wN p c)).length := by have : ¬ ((setL (wN p c)).length : Int) > 3000 := by simpa using h3
                                                     omega
    have : ¬ (c = 2 ∧ 12 ≤ p.length) := fun ⟨a, b⟩ => h3' (by
     have := riffs12 (p := p) (by omega) hnd
     rw [a]
     simpa [wN] using this)
    rw [if_pos]
    unfold chOk
    rw [e1, decide_eq_true hc.1]
    have h6 := hc.2
    by_cases x3 : c = 3
    ·have : ¬ p.length < 2 := fun h => h6 ⟨x3, h⟩
     simp [e2, x3, this]
    ·by_cases x2 : c = 2
     ·have : ¬ 12 ≤ p.length := fun h => this ⟨x2, h⟩
      simp [e2, x2, this]
     ·simp [e2, x3, x2]
  ·rw [if_neg hc]
   refine Ev.bind (bq [] (by simp) (fun q hq => by cases hq)) (Ev.yes rfl (Ev.some ?_))
   rw [if_neg]
   unfold chOk
   by_cases c04 : 0 ≤ c ∧ c ≤ 4
   ·have : c = 3 ∧ p.length < 2 := Classical.byContradiction fun h => hc ⟨c04, h⟩
    simp [this.1, this.2]
   ·rw [decide_eq_false c04]; simp
end Qq
namespace Qq
open Go Go.Vt Pt
set_option linter.unusedVariables false
set_option linter.unusedSimpArgs false
set_option linter.unnecessarySimpa false
theorem N3 (x : Int) : card (turn x) = card x := by
 unfold turn
 split
 ·rfl
 ·rename_i h
  unfold card at h ⊢
  split at h
  ·rename_i h1
   rw [if_neg (by omega), if_pos (by omega), if_pos h1]; omega
  ·rename_i h1
   split at h
   ·rename_i h2
    rw [if_pos (by omega), if_neg h1, if_pos h2]
   ·omega
theorem GT (l : List Int) : (l.map turn).map card = l.map card := by rw [List.map_map]; exact List.map_congr_left fun x _ => N3 x
abbrev Pm (q p : List Int) : Prop := (q.map card).Perm (p.map card)
theorem Pm.of {q p : List Int} (h : q.Perm p) : Pm q p := h.map card
theorem Sc : ∀ (n : Nat) (f : Bool) (a b : List Int), a.length + b.length = n → (fz f a b).Perm (a ++ b)
 | n, f, [], [], h => by unfold fz; exact .refl _
 | n, f, x :: a, [], h => by
   match n, h with
   | n + 1, h =>
   unfold fz
   exact (Sc n (!f) a [] (by simp at h ⊢; omega)).cons x
 | n, f, [], y :: b, h => by
   match n, h with
   | n + 1, h =>
   unfold fz
   exact (Sc n (!f) [] b (by simp at h ⊢; omega)).cons y
 | n, true, x :: a, y :: b, h => by
   match n, h with
   | n + 1, h =>
   unfold fz
   exact (Sc n false a (y :: b) (by simp at h ⊢; omega)).cons x
 | n, false, x :: a, y :: b, h => by
   match n, h with
   | n + 1, h =>
   unfold fz
   exact ((Sc n true (x :: a) b (by simp at h ⊢; omega)).cons y).trans List.perm_middle.symm
termination_by n => n
theorem MD (k : Int) : ∀ (r : List Int) (i : Nat) (out : List Int), (mz k i r out).Perm (r ++ out)
 | [], i, out => by unfold mz; exact .refl _
 | x :: r, i, out => by
   unfold mz
   split
   ·refine (MD k r (i + 1) (out ++ [x])).trans ?_
    rw [← List.append_assoc]
    exact List.perm_append_comm
   ·exact (MD k r (i + 1) (x :: out)).trans List.perm_middle
theorem ends (p : List Int) (h : 1 < p.length) : p = p.getD 0 0 :: ((p.take (p.length - 1)).drop 1 ++ [p.getD (p.length - 1) 0]) := by
 cases p with
 | nil => simp at h
 | cons x r =>
   simp at h
   have hr : r ≠ [] := by intro e; subst e; simp at h
   have e1 : (x :: r).length - 1 = r.length - 1 + 1 := by simp; omega
   rw [e1, List.take_succ_cons, List.drop_one, List.tail_cons]
   have e2 : (x :: r).getD (r.length - 1 + 1) 0 = r.getLast hr := by
    simp only [List.getD, List.getElem?_cons_succ]
    rw [List.getLast_eq_getElem, List.getElem?_eq_getElem (by omega)]
    rfl
   rw [e2, ← List.dropLast_eq_take, List.dropLast_concat_getLast hr]
   rfl
theorem Hk : ∀ (n : Nat) (p out : List Int), (kz n p out).Perm (p ++ out)
 | 0, p, out => by unfold kz; exact .refl _
 | n + 1, p, out => by
   unfold kz
   split
   ·rename_i h
    refine (Hk n _ _).trans ?_
    have e := ends p h
    generalize p.getD 0 0 = x at *
    generalize p.getD (p.length - 1) 0 = y at *
    generalize (p.take (p.length - 1)).drop 1 = m at *
    rw [e]
    refine List.perm_middle.trans (List.Perm.cons x ?_)
    simp
   ·exact .refl _
theorem M4 : ∀ (n : Nat) (f : Bool) (q out : List Int), 1 ≤ q.length → 2 * q.length + (bif f then 0 else 1) ≤ n → (dz n f q out).Perm (q ++ out)
 | 0, f, q, out, h, hn => by omega
 | n + 1, f, q, out, h, hn => by
   unfold dz
   cases q with
   | nil => simp at h
   | cons x r =>
     split
     ·rename_i h1
      cases f with
      | true =>
        simp at h1 hn
        refine (M4 n false r (x :: out) (by omega) (by simp; omega)).trans ?_
        exact List.perm_middle
      | false =>
        simp at h1 hn
        refine (M4 n true (r ++ [x]) out (by simp) (by simp; omega)).trans ?_
        rw [List.append_assoc]
        exact List.perm_middle
     ·rename_i h1
      simp at h1
      subst h1
      exact .refl _
theorem LP (p : List Int) (i : Nat) (h : i < p.length) : (p.take i ++ p.drop (i + 1) ++ [p.getD i 0]).Perm p := by
 have e : p = p.take i ++ (p.getD i 0 :: p.drop (i + 1)) := by
  have : p.getD i 0 = p[i] := by simp [List.getD, h]
  rw [this, ← List.drop_eq_getElem_cons h, List.take_append_drop]
 have h1 : (p.take i ++ p.drop (i + 1) ++ [p.getD i 0]).Perm (p.take i ++ (p.getD i 0 :: p.drop (i + 1))) := by
  rw [List.append_assoc]
  exact List.Perm.append_left _ (List.perm_append_comm (l₁ := p.drop (i + 1)) (l₂ := [p.getD i 0]))
 rw [← e] at h1
 exact h1
theorem PP (p : List Int) (k : Nat) : Pm ((p.take k).reverse.map turn ++ p.drop k) p := by
 show (List.map card _).Perm _
 rw [List.map_append, GT]
 refine (((List.reverse_perm (p.take k)).map card).append_right _).trans ?_
 rw [← List.map_append, List.take_append_drop]
theorem NP {p : List Int} {m : Int × Int} (h : MoveFit p.length m) : Pm (xz p m) p := by
 have h1 := h.n1
 have ht := h.t
 unfold xz
 split
 ·refine Pm.of (List.perm_append_comm.trans ?_)
  rw [List.take_append_drop]
 split
 ·refine Pm.of (((List.reverse_perm (p.take m.2.toNat)).append_right _).trans ?_)
  rw [List.take_append_drop]
 split
 ·exact PP p _
 split
 ·unfold MZ
  refine Pm.of ((Sc _ _ _ _ rfl).trans ?_)
  rw [List.take_append_drop]
 split
 ·exact Pm.of ((MD m.2 p 0 []).trans (by simp))
 split
 ·exact Pm.of ((Hk p.length p []).trans (by simp))
 split
 ·exact Pm.of ((M4 (2 * p.length + 1) (m.2 == 1) p [] h1 (by cases (m.2 == 1) <;> simp)).trans (by simp))
 split
 ·rename_i a1 a2 a3 a4 a5 a6 a7 a8
  have h5 := ht a1 a2 a3 a4 a5 a6 a7
  have h6 := h.k0
  have hlt : m.2.toNat < p.length := by omega
  show (List.map card _).Perm _
  rw [List.map_set, N3]
  have e : card (p.getD m.2.toNat 0) = (p.map card)[m.2.toNat]'(by simpa using hlt) := by simp [List.getD, hlt]
  rw [e, List.set_getElem_self]
 ·rename_i a1 a2 a3 a4 a5 a6 a7 a8
  have h5 := ht a1 a2 a3 a4 a5 a6 a7
  have h6 := h.k0
  exact Pm.of (LP p _ (by omega))
theorem Qv : ∀ (bits : List Bool) (f s : Nat), (rfi f s bits).Perm (List.range' f (xj bits) ++ List.range' s (b5 bits))
 | [], f, s => by simp [rfi, xj, b5]
 | true :: r, f, s => by
   unfold rfi xj b5
   rw [List.range'_succ]
   exact ((Qv r f (s + 1)).cons s).trans List.perm_middle.symm
 | false :: r, f, s => by
   unfold rfi xj b5
   rw [List.range'_succ]
   exact (Qv r (f + 1) s).cons f
theorem KR (p : List Int) (w : Nat) : (Qu p w).Perm p := by
 unfold Qu
 rw [U7]
 have hz := Pr (vn p.length w)
 rw [aY] at hz
 refine ((Qv _ _ _).map _).trans ?_
 have e : List.range' 0 (xj (vn p.length w)) ++ List.range' (xj (vn p.length w)) (b5 (vn p.length w)) = List.range p.length := by
  have := List.range'_append_1 (s := 0) (m := xj (vn p.length w)) (n := b5 (vn p.length w))
  rw [Nat.zero_add] at this
  rw [this, List.range_eq_range']
  congr 1
 rw [e]
 have : (List.range p.length).map (fun i => p.getD i 0) = p := by
  apply List.ext_getElem
  ·simp
  ·intro i h1 h2
   simp [List.getD, h2]
 rw [this]
theorem Ko {p : List Int} {c : Int} (q : List Int) (hq : q ∈ wN p c) : Pm q p := by
 have cut : ∀ (p q : List Int), q ∈ So p → q.Perm p := fun p q hq => by
  obtain ⟨i, _, rfl⟩ := List.mem_map.1 hq
  unfold cutL
  refine List.perm_append_comm.trans ?_
  rw [List.take_append_drop]
 unfold wN at hq
 split at hq
 ·exact Pm.of (cut _ _ hq)
 split at hq
 ·obtain ⟨w, _, rfl⟩ := List.mem_map.1 hq
  exact Pm.of (KR p w)
 split at hq
 ·exact (Pm.of (cut _ _ hq)).trans (PP p 2)
 split at hq
 ·obtain ⟨i, hi, rfl⟩ := List.mem_map.1 hq
  have := List.mem_range.1 hi
  unfold pickL
  exact Pm.of (List.perm_append_comm.trans (LP p i this))
 ·have : q = p := by simpa using hq
  rw [this]
theorem E3 : ∀ (r done : List Int), (done ++ r.map card).Nodup → (∀ x ∈ r, 0 ≤ card x) → pk done r = true
 | [], done, _, _ => rfl
 | x :: r, done, h, h0 => by
   unfold pk
   rw [List.map_cons] at h
   have hx : card x ∉ done := fun hm => (List.nodup_append.1 h).2.2 _ hm _ (by simp) rfl
   rw [decide_eq_true (h0 x (by simp)), E3 r (done ++ [card x]) (by simpa using h) (fun y hy => h0 y (by simp [hy]))]
   simp [hx]
theorem cf {p q : List Int} (h : zl p = true) (hq : Pm q p) : zl q = true ∧ q.length = p.length := by
 obtain ⟨h1, h2, h3⟩ := yF h
 refine ⟨E3 q [] (by simpa using hq.nodup_iff.2 h1) (fun x hx => ?_), by have := hq.length_eq; simpa using this⟩
 have := hq.mem_iff.1 (List.mem_map.2 ⟨x, hx, rfl⟩)
 obtain ⟨y, hy, e⟩ := List.mem_map.1 this
 have := (h2 y hy).1
 omega
theorem zL {p : List Int} (h : zl p = true) : Ins p := fun x hx => by
 have := ((yF h).2.1 x hx).1
 unfold card at this
 unfold In
 split at this
 ·omega
 ·split at this <;> omega
end Qq
namespace Qq
open Go Go.Vt Pt
set_option linter.unusedVariables false
set_option linter.unusedSimpArgs false
set_option linter.unnecessarySimpa false
abbrev zT : Type := Int × (Int × Int) × Int
def zm (c : Scene) (s : zT) : List Scene :=
 if s.1 = 1 then [(xz c.1 s.2.1, c.2)] else if s.1 = 3 then [(c.1, card (c.1.getD s.2.2.toNat 0))] else (setL (wN c.1 s.2.2)).map fun q => (q, c.2)
structure SceneOk (n : Nat) (c : Scene) : Prop where
 ok : zl c.1 = true
 len : c.1.length = n
 n0 : -1 ≤ c.2
 n12 : c.2 < 12
inductive StepKind (n : Nat) (s : zT) : Prop
 | mv (h : s.1 = 1) (m : MoveFit n s.2.1)
 | ch (h : s.1 = 2) (c0 : 0 ≤ s.2.2) (c4 : s.2.2 ≤ 4) (c3 : s.2.2 = 3 → 2 ≤ n) (c2 : s.2.2 = 2 → n ≤ 11)
 | nt (h : s.1 = 3) (a0 : 0 ≤ s.2.2) (an : s.2.2 < n)
theorem uq {n : Nat} {s : zT} (h : yj (n : Int) s = true) : 1 ≤ n ∧ n ≤ 12 ∧ StepKind n s := by
 unfold yj at h
 simp only [Bool.and_eq_true, decide_eq_true_eq] at h
 obtain ⟨h1, h2, h3⟩ := h
 refine ⟨by omega, by omega, ?_⟩
 split at h3
 ·rename_i e
  simp only [Bool.and_eq_true] at h3
  exact .mv e (Wv h3.1)
 split at h3
 ·rename_i e
  simp only [Bool.and_eq_true, decide_eq_true_eq, Bool.or_eq_true, Bool.not_eq_true', beq_eq_false_iff_ne, ne_eq] at h3
  obtain ⟨_, _, a, b, c, d⟩ := h3
  exact .ch e a b (fun q => by rcases c with c | c; exact absurd q c; omega) (fun q => by rcases d with d | d; exact absurd q d; omega)
 split at h3
 ·rename_i e
  simp only [Bool.and_eq_true, decide_eq_true_eq] at h3
  exact .nt e h3.2.2.1 h3.2.2.2
 ·cases h3
theorem FR {n : Nat} {c : Scene} {s : zT} (hc : SceneOk n c) (h1 : 1 ≤ n) (h2 : n ≤ 12) (c0 : 0 ≤ s.2.2) (c4 : s.2.2 ≤ 4) (c3 : s.2.2 = 3 → 2 ≤ n) (c2 : s.2.2 = 2 → n ≤ 11) : ChFit c.1 s.2.2 :=
 ⟨hc.ok, by rw [hc.len]; exact h1, by rw [hc.len]; exact h2, c0, c4, fun e => by rw [hc.len]; exact c3 e, fun e => by rw [hc.len]; exact c2 e⟩
theorem fy {n : Nat} {c : Scene} {s : zT} (hc : SceneOk n c) (hs : yj (n : Int) s = true) : ∀ d ∈ zm c s, SceneOk n d := by
 obtain ⟨h1, h2, hk⟩ := uq hs
 intro d hd
 unfold zm at hd
 rcases hk with ⟨e, m⟩ | ⟨e, c0, c4, c3, c2⟩ | ⟨e, a0, an⟩
 ·rw [if_pos e] at hd
  have hd : d = (xz c.1 s.2.1, c.2) := by simpa using hd
  subst hd
  have := cf hc.ok (NP (by rw [hc.len]; exact m))
  exact ⟨this.1, this.2.trans hc.len, hc.n0, hc.n12⟩
 ·rw [if_neg (by omega), if_neg (by omega)] at hd
  obtain ⟨q, hq, rfl⟩ := List.mem_map.1 hd
  have := cf hc.ok (Ko q ((Y6 _ q).1 hq))
  exact ⟨this.1, this.2.trans hc.len, hc.n0, hc.n12⟩
 ·rw [if_neg (by omega), if_pos e] at hd
  have hd : d = (c.1, card (c.1.getD s.2.2.toNat 0)) := by simpa using hd
  subst hd
  have := W4 (c.1.getD s.2.2.toNat 0)
  exact ⟨hc.ok, hc.len, this.1, by show card _ < 12; omega⟩
theorem Ge {p : List Int} {c : Int} (h : ChFit p c) : wN p c ≠ [] := by
 have h1 := h.l1
 unfold wN
 split
 ·intro e; have := congrArg List.length e; unfold So at this; rw [List.length_map, List.length_range, List.length_nil] at this; omega
 split
 ·intro e; have := congrArg List.length e; simp [Y9] at this
 split
 ·intro e; have := congrArg List.length e; unfold So at this; rw [List.length_map, List.length_range, List.length_nil, eF] at this; omega
 split
 ·intro e; have := congrArg List.length e; unfold picksL at this; rw [List.length_map, List.length_range, List.length_nil] at this; omega
 ·simp
theorem Xg {n : Nat} {c : Scene} {s : zT} (hc : SceneOk n c) (hs : yj (n : Int) s = true) : 1 ≤ (zm c s).length ∧ (zm c s).length ≤ 4096 := by
 obtain ⟨h1, h2, hk⟩ := uq hs
 unfold zm
 split
 ·simp
 split
 ·simp
 ·rename_i a b
  rcases hk with ⟨e, m⟩ | ⟨e, c0, c4, c3, c2⟩ | ⟨e, a0, an⟩
  ·exact absurd e a
  ·have hf := FR hc h1 h2 c0 c4 c3 c2
   have hs := (YW (c := s.2.2) hf.l12).1
   have := Uo (wN c.1 s.2.2)
   rw [List.length_map]
   refine ⟨?_, by omega⟩
   rcases Nat.eq_zero_or_pos (setL (wN c.1 s.2.2)).length with h0 | h0
   ·exfalso
    have hne := Ge hf
    cases hl : wN c.1 s.2.2 with
    | nil => exact hne hl
    | cons q r =>
      have := (Y6 (wN c.1 s.2.2) q).2 (by rw [hl]; simp)
      rw [List.eq_nil_of_length_eq_zero h0] at this
      cases this
   ·exact h0
  ·exact absurd e b
theorem gC (p : List Int) (x : Int) (l : List (List Int)) (hl : l.length ≤ 16384) : ∀ (r : List (List Int)) (i : Nat) (out : List Scene), l.drop i = r → out.length = i →
 Ev (fun k => vc k (l.length : Int) (i : Int) p x out l i) (out ++ r.map fun q => (q, x))
 | [], i, out, h, ho => by
   have a := zZ h
   refine Ev.step (fun k => gD k _ _ _ _ _ _ _) ?_
   simp only [a.g, cond_false]
   exact Ev.some (by simp)
 | q :: r, i, out, h, ho => by
   have a := zy h (by rw [zg]; omega)
   have hlt := a.lt
   refine Ev.step (fun k => gD k _ _ _ _ _ _ _) ?_
   simp only [a.g, a.z, a.n, a.get, a.w, cond_true]
   refine Ev.yes (by simp) (Ev.yes (by rw [zc]; simp; omega) ?_)
   exact (gC p x l hl r (i + 1) (out ++ [(q, x)]) a.next (by simp [ho])).to (by simp)
theorem TX (c : Scene) (s : zT) (a : c.1.length ≤ maxLen) (hi : Ins c.1) :
 Ev (fun k => xR k (c, s)) (if zl c.1 && (decide (-1 ≤ c.2 ∧ c.2 < 12) && yj (c.1.length : Int) s) then zm c s else []) := by
 obtain ⟨p, x⟩ := c
 refine Ev.step (fun k => TY k (p, x) s) (Ev.bind (xt p a hi) (Ev.ite (fun h => Ev.some ?_) (fun h => Ev.ite (fun h2 => Ev.some ?_) (fun h2 => Ev.ite (fun h3 => Ev.some ?_) (fun h3 => Ev.bind (YH _ s) (Ev.ite (fun h4 => Ev.some ?_) (fun h4 => ?_)))))))
 ·have : zl p = false := by simpa using h
  simp [this]
 ·have : ¬ -1 ≤ x := by simpa using h2
  simp [this]
 ·have : ¬ x < 12 := by simpa using h3
  simp [this]
 ·have : yj (p.length : Int) s = false := by simpa using h4
  simp [this]
 ·have e1 : zl p = true := by simpa using h
  have e2 : -1 ≤ x := by have : ¬ x < -1 := by simpa using h2
                         omega
  have e3 : x < 12 := by simpa using h3
  have e4 : yj (p.length : Int) s = true := by simpa using h4
  have hc : SceneOk p.length (p, x) := ⟨e1, rfl, e2, e3⟩
  rw [if_pos (by simp [e1, e2, e3, e4])]
  obtain ⟨h1, h2, hk⟩ := uq e4
  unfold zm
  rcases hk with ⟨e, m⟩ | ⟨e, c0, c4, c3, c2⟩ | ⟨e, a0, an⟩
  ·rw [if_pos e]
   exact Ev.yes (by simp [e]) (Ev.bind (fX p s.2.1 m hi) (Ev.pure _))
  ·rw [if_neg (by omega), if_neg (by omega)]
   have hf := FR hc h1 h2 c0 c4 c3 c2
   have hsm : (wN p s.2.2).length ≤ 4096 ∧ ∀ q ∈ wN p s.2.2, q.length ≤ 12 := YW (c := s.2.2) hf.l12
   have hsl := Uo (wN p s.2.2)
   have hok : chOk p s.2.2 = true := by
    unfold chOk
    have a3 : ¬ (s.2.2 = 3 ∧ p.length < 2) := fun h => by have := c3 h.1; omega
    have a2 : ¬ (s.2.2 = 2 ∧ 12 ≤ p.length) := fun h => by have := c2 h.1; omega
    rw [e1, decide_eq_true ⟨c0, c4⟩]
    simp only [Bool.true_and, Bool.and_eq_true, Bool.not_eq_true', Bool.and_eq_false_iff, decide_eq_false_iff_not, beq_eq_false_iff_ne]
    refine ⟨by omega, ?_, ?_⟩
    ·by_cases q : s.2.2 = 3
     ·exact .inr fun h => a3 ⟨q, h⟩
     ·exact .inl q
    ·by_cases q : s.2.2 = 2
     ·exact .inr fun h => a2 ⟨q, h⟩
     ·exact .inl q
   have er : resOf p s.2.2 = (setL (wN p s.2.2), true) := by unfold resOf; rw [if_pos hok]
   refine Ev.no (by simp [e]) (Ev.no (by simp [e]) (Ev.bind (Rc p s.2.2 a hi) ?_))
   rw [er]
   exact gC p x _ (by have := hsm.1; show (setL (wN p s.2.2)).length ≤ _; omega) _ 0 [] rfl rfl
  ·rw [if_neg (by omega), if_pos e]
   refine Ev.no (by simp [e]) (Ev.yes (by simp [e]) (Ev.bind (yc p (by omega)) (Ev.yes (by simpa using a0) (Ev.yes (by simpa using an) (Ev.bind (xx _ ?_) (Ev.pure _))))))
   have hlt : s.2.2.toNat < p.length := by omega
   have : p.getD s.2.2.toNat 0 = p[s.2.2.toNat] := by simp [List.getD, hlt]
   rw [this]
   exact hi _ (List.getElem_mem hlt)
theorem ue {n : Nat} {c : Scene} {s : zT} (hc : SceneOk n c) (hs : yj (n : Int) s = true) : Ev (fun k => xR k (c, s)) (zm c s) := by
 obtain ⟨h1, h2, hk⟩ := uq hs
 have := TX c s (by rw [hc.len, zg]; omega) (zL hc.ok)
 rw [hc.len, hc.ok, hs, decide_eq_true ⟨hc.n0, hc.n12⟩] at this
 exact this
end Qq
namespace Qq
open Go Go.Vt Pt
set_option linter.unusedVariables false
set_option linter.unusedSimpArgs false
end Qq
namespace Qq
open Go Go.Vt Pt
set_option linter.unusedVariables false
set_option linter.unusedSimpArgs false
def ur (t : Trick) : List Int × Int × Bool := if zi t then (t.1, -1, true) else ([], 0, false)
theorem jT (t : Trick) (a1 : t.1.length ≤ maxLen) (ai : Ins t.1) (a2 : t.2.1.length ≤ maxLen) : Ev (fun k => vt k t) (ur t) := by
 refine Ev.step (fun k => TQ k t) (Ev.bind (xr t a1 ai a2) (Ev.ite (fun h => Ev.some ?_) (fun h => ?_)))
 ·have : zi t = false := by simpa using h
  simp [ur, this]
 ·have e : zi t = true := by simpa using h
  have hl := zu e
  refine Ev.bind (yc t.1 (by omega)) ?_
  have : (!t.1.isEmpty) = true := by
   cases hx : t.1 with
   | nil => rw [hx] at hl; simp at hl
   | cons => rfl
  rw [this]
  exact Ev.some (by simp [ur, e])
end Qq
namespace Qq
open Go Go.Vt Pt
set_option linter.unusedVariables false
set_option linter.unusedSimpArgs false
end Qq
namespace Qq
open Go Go.Vt Pt
set_option linter.unusedVariables false
theorem wQ (xs : List Step) (hm : xs.length ≤ 12) : ∀ (r : List Step) (i : Nat) (v : Nat), xs.drop i = r → v ≤ i → Ev (fun k => xL k (v : Int) xs (xs.length : Int) (i : Int)) ((v : Int) + countK (· == 2) r)
 | [], i, v, h, hv => by
   have q := zZ h
   refine Ev.step (fun k => jI k _ _ _ _) ?_
   simp only [q.g, cond_false]
   exact Ev.some (by simp [countK])
 | s :: r, i, v, h, hv => by
   have q := zy h (by rw [zg]; omega)
   have := q.lt
   refine Ev.step (fun k => jI k _ _ _ _) ?_
   simp only [q.g, q.z, q.get, q.w, cond_true]
   rw [cX]
   refine Ev.ite (fun h => ?_) (fun h => ?_)
   ·rw [zj (by omega) (by omega)]
    refine (wQ xs hm r (i + 1) (v + 1) q.next (by omega)).to ?_
    rw [if_pos h]; omega
   ·refine (wQ xs hm r (i + 1) v q.next (by omega)).to ?_
    rw [h]; simp
def xT (t : Trick) : Int := if zi t then (countK (· == 2) t.2.1 : Int) else -1
theorem WP (t : Trick) (a1 : t.1.length ≤ maxLen) (ai : Ins t.1) (a2 : t.2.1.length ≤ maxLen) : Ev (fun k => fG k t) (xT t) := by
 refine Ev.step (fun k => WQ k t) (Ev.bind (xr t a1 ai a2) (Ev.ite (fun h => Ev.some ?_) (fun h => ?_)))
 ·have : zi t = false := by simpa using h
  simp [xT, this]
 ·have e : zi t = true := by simpa using h
  refine (wQ t.2.1 (zu e).1 t.2.1 0 0 rfl (by omega)).to ?_
  simp [xT, e]
end Qq
namespace Qq
open Go Go.Vt Pt
set_option linter.unusedVariables false
set_option linter.unusedSimpArgs false
set_option linter.unnecessarySimpa false
def runL : List Step → Scene → List Int → List Int × Int × Bool
 | [], c, _ => (c.1, c.2, true)
 | s :: r, c, ps =>
   let k := if s.1 = 2 then ps.getD 0 0 else 0
   if 0 ≤ k ∧ k < (zm c s).length then runL r ((zm c s).getD k.toNat ([], 0)) (if s.1 = 2 then ps.drop 1 else ps) else ([], 0, false)
def xp (t : Trick) (ps : List Int) : List Int × Int × Bool :=
 if zi t = true ∧ (ps.length : Int) = xT t then runL t.2.1 (t.1, -1) ps else ([], 0, false)
theorem JQ {n : Int} {l : List Step} (h : bQ n l = true) : ∀ s ∈ l, yj n s = true := fun s hs => List.all_eq_true.1 h s hs
theorem Q4 {α : Type} {l : List α} {k : Int} {d : α} (h0 : 0 ≤ k) (h1 : k < l.length) : l.getD k.toNat d ∈ l := by
 have : k.toNat < l.length := by omega
 rw [List.getD, List.getElem?_eq_getElem this]
 exact List.getElem_mem this
theorem br {n : Nat} (xs : List Step) (hm : xs.length ≤ 12) (z : Int) : ∀ (r : List Step) (i : Nat) (c : Scene) (ps : List Int), xs.drop i = r → (∀ s ∈ r, yj (n : Int) s = true) → SceneOk n c → ps.length = countK (· == 2) r →
 Ev (fun k => ub k ps xs (xs.length : Int) (i : Int) z c.2 c.1) (runL r c ps)
 | [], i, c, ps, h, hs, hc, hp => by
   have a := zZ h
   refine Ev.step (fun k => bt k _ _ _ _ _ _ _) ?_
   simp only [a.g, cond_false]
   exact Ev.some rfl
 | s :: r, i, c, ps, h, hs, hc, hp => by
   have a := zy h (by rw [zg]; omega)
   have hlt := a.lt
   have hso := hs s (by simp)
   have hn := ue hc hso
   obtain ⟨l1, l2⟩ := Xg hc hso
   have hok := fy hc hso
   have ih := fun (d : Scene) (hd : d ∈ zm c s) ps hps => br xs hm z r (i + 1) d ps a.next (fun q hq => hs q (by simp [hq])) (hok d hd) hps
   rw [cX] at hp
   refine Ev.step (fun k => bt k _ _ _ _ _ _ _) ?_
   simp only [a.g, a.z, a.get, a.w, cond_true]
   unfold runL
   refine Ev.ite (fun h2 => ?_) (fun h2 => ?_)
   ·have e2 : s.1 = 2 := by simpa using h2
    rw [if_pos (by simp [e2])] at hp
    have hp1 : 1 ≤ ps.length := by omega
    have et : (ps.take ((ps.length : Int)).toNat).drop 1 = ps.drop 1 := by simp
    simp only [if_pos e2, et]
    refine Ev.yes (by simp; omega) (Ev.yes (by simp; omega) (Ev.yes (by simp) (Ev.bind hn (Ev.ite (fun h3 => Ev.some ?_) (fun h3 => Ev.ite (fun h4 => Ev.some ?_) (fun h4 => ?_))))))
    ·rw [if_neg (by have : ps.getD 0 0 < 0 := by simpa using h3
                    omega)]
    ·rw [if_neg (by have : ps.getD 0 0 ≥ ((zm c s).length : Int) := by simpa using h4
                    omega)]
    ·have g3 : ¬ ps.getD 0 0 < 0 := by simpa using h3
     have g4 : ¬ ps.getD 0 0 ≥ ((zm c s).length : Int) := by simpa using h4
     rw [if_pos (by omega)]
     refine Ev.yes (decide_eq_true (by omega)) (Ev.yes (decide_eq_true (by omega)) (Ev.yes (decide_eq_true (by omega)) ?_))
     exact ih _ (Q4 (by omega) (by omega)) _ (by simp; omega)
   ·have e2 : ¬ s.1 = 2 := by simpa using h2
    rw [if_neg (by simpa using e2)] at hp
    simp only [if_neg e2]
    refine Ev.bind hn (Ev.no (decide_eq_false (by omega)) (Ev.yes (decide_eq_true (by omega)) (Ev.yes (decide_eq_true (by omega)) ?_)))
    rw [if_pos (by omega)]
    exact ih _ (Q4 (k := 0) (by omega) (by omega)) _ (by omega)
theorem Un {t : Trick} (h : zi t = true) : SceneOk t.1.length (t.1, -1) ∧ (∀ s ∈ t.2.1, yj (t.1.length : Int) s = true) := by
 refine ⟨⟨(zu h).2.2.2, rfl, by show (-1 : Int) ≤ -1; decide, by show (-1 : Int) < 12; decide⟩, ?_⟩
 unfold zi at h
 simp only [Bool.and_eq_true] at h
 exact JQ h.2.2.2.1
theorem QS (t : Trick) (ps : List Int) (a1 : t.1.length ≤ maxLen) (ai : Ins t.1) (a2 : t.2.1.length ≤ maxLen) (a3 : ps.length ≤ 1048576) : Ev (fun k => WJ k (t, ps)) (xp t ps) := by
 refine Ev.step (fun k => QT k t ps) (Ev.bind (jT t a1 ai a2) ?_)
 unfold xp ur
 by_cases e : zi t = true
 ·rw [if_pos e]
  refine Ev.no rfl (Ev.bind (WP t a1 ai a2) (Ev.ite (fun h => Ev.some ?_) (fun h => ?_)))
  ·rw [if_neg (fun hc => by rw [hc.2] at h; simp at h)]
  ·have hl : (ps.length : Int) = xT t := by simpa using h
   rw [if_pos ⟨e, hl⟩]
   have hl2 : ps.length = countK (· == 2) t.2.1 := by unfold xT at hl; rw [if_pos e] at hl; omega
   obtain ⟨s1, s2⟩ := Un e
   exact br t.2.1 (zu e).1 0 t.2.1 0 (t.1, -1) ps rfl s2 s1 hl2
 ·rw [if_neg e, if_neg (fun hc => e hc.1)]
  exact Ev.yes rfl (Ev.pure _)
end Qq
namespace Qq
open Go Go.Vt Pt
set_option linter.unusedVariables false
set_option linter.unusedSimpArgs false
def gb (c : Scene) : ByteArray := if zl c.1 then (if 0 ≤ c.2 ∧ c.2 ≤ 11 then (yo c.1 ++ ⟨#[32, 110, 111, 116, 101, 100, 32]⟩) ++ yt c.2 else yo c.1) else ⟨#[]⟩
theorem G0 (n : Int) : 1 ≤ (Lib.itoa n).length := by
 have h : ∀ u : Nat, 1 ≤ (Lib.decDigits u).length := by
  intro u
  by_cases h : u < 10
  ·rw [aS h]; simp
  ·rw [Sk h]; simp
 unfold Lib.itoa
 split
 ·simp
 ·exact h _
theorem Fp (x : Int) : 1 ≤ (ZG x).size := by
 have := G0 (card x)
 unfold ZG
 split
 ·rw [ByteArray.size_append, yt, zK]; omega
 ·rw [yt, zK]; exact this
theorem Se {p : List Int} (h : zl p = true) : 1 ≤ (yo p).size := by
 unfold yo
 rw [if_pos h]
 cases p with
 | nil => rw [if_pos rfl]; decide
 | cons x r =>
   rw [if_neg (by simp), xw, zK, SZ, List.map_cons, List.map_cons, Lib.join_cons, List.length_append, eL]
   have := Fp x
   omega
theorem Z2 (c : Scene) (b1 : c.1.length ≤ maxLen) (bi : Ins c.1) : Ev (fun k => cI k c) (gb c) := by
 unfold gb
 have sp := wL c.1
 refine Ev.step (fun k => Rb k c) (Ev.bind (em c.1 b1 bi) (Ev.ite (fun h => ?_) (fun h => Ev.some ?_)))
 ·have e : zl c.1 = true := by
   cases hp : zl c.1 with
   | true => rfl
   | false =>
     unfold yo at h
     rw [hp] at h
     simp at h
  rw [if_pos e]
  refine Ev.ite (fun h1 => Ev.ite (fun h2 => ?_) (fun h2 => Ev.some ?_)) (fun h1 => Ev.some ?_)
  ·have hc : 0 ≤ c.2 ∧ c.2 ≤ 11 := by simp at h1 h2; omega
   rw [if_pos hc]
   have hin : In c.2 := by unfold In; omega
   have s1 := zX _ hin
   refine Ev.bind (zD _ hin) (Ev.yes (bG (m := 7) (by decide) s1 (by decide)) (Ev.yes (bG sp (wn (m := 7) (by decide) s1) (by decide)) (Ev.some ?_)))
   rw [ByteArray.append_assoc]
  ·rw [if_neg (by simp at h1 h2; omega)]
  ·rw [if_neg (by simp at h1; omega)]
 ·cases hp : zl c.1 with
  | true =>
    have h1 := Se hp
    have h2 : (yo c.1).toList = (⟨#[]⟩ : ByteArray).toList := by simpa using h
    rw [ByteArray.toList_eq, ByteArray.toList_eq] at h2
    have h3 : (wT (yo c.1)).length = 0 := by unfold wT; rw [h2]; rfl
    rw [eL] at h3
    omega
  | false =>
    unfold yo
    rw [hp]; rfl
end Qq
namespace Qq
open Go Go.Vt Pt
set_option linter.unusedVariables false
set_option linter.unusedSimpArgs false
def gg (a : List Int) : Bool := decide (a.length ≤ 12) && SU a.length [] a
theorem F0 {xs : List Int} {i : Nat} {x : Int} {r : List Int} (a : AtCons xs i x r) : xs.take (i + 1) = xs.take i ++ [x] := by
 have hlt := a.lt
 have e : xs[i] = x := by have := a.get 0; rw [Int.toNat_natCast, List.getD, List.getElem?_eq_getElem hlt] at this; exact this
 rw [List.take_succ_eq_append_getElem hlt, e]
theorem Z4 (xs : List Int) (hm : xs.length ≤ maxLen) : ∀ (r : List Int) (i : Nat), xs.drop i = r → Ev (fun k => cK k xs xs (xs.length : Int) (i : Int)) (decide (xs.length ≤ 12) && SU xs.length (xs.take i) r)
 | [], i, h => by
   have a := zZ h
   refine Ev.step (fun k => Z5 k _ _ _ _) ?_
   simp only [a.g, cond_false]
   exact Ev.some (by unfold SU; rw [Bool.and_true, Bool.eq_iff_iff]; simp; omega)
 | x :: r, i, h => by
   have a := zy h hm
   have hlt := a.lt
   have ih := Z4 xs hm r (i + 1) a.next
   rw [F0 a] at ih
   refine Ev.step (fun k => Z5 k _ _ _ _) ?_
   simp only [a.g, a.z, a.get, a.w, cond_true]
   unfold SU
   refine Ev.ite (fun h => Ev.some ?_) (fun h => Ev.ite (fun h2 => Ev.some ?_) (fun h2 => ?_))
   ·have : ¬ 0 ≤ x := by simp at h; omega
    simp [this]
   ·have : ¬ x < (xs.length : Int) := by simp at h2; omega
    simp [this]
   ·have hx : 0 ≤ x ∧ x < (xs.length : Int) := by simp at h h2; omega
    refine Ev.yes (by simp; omega) ?_
    rw [List.drop_zero, Int.toNat_natCast]
    have e1 : decide (0 ≤ x) = true := by simp [hx.1]
    have e2 : decide (x < (xs.length : Int)) = true := by simp [hx.2]
    rw [e1, e2]
    refine Ev.bind (Zc _ x (Nat.le_trans (by rw [List.length_take]; omega) hm)) (Ev.ite (fun h => Ev.some ?_) (fun h => ih.to ?_))
    ·rw [h]; simp
    ·rw [h]; rfl
theorem TU (a : List Int) (hm : a.length ≤ maxLen) : Ev (fun k => Ux k a) (gg a) :=
 Ev.step (fun k => MQ k a) (Z4 a hm a 0 rfl)
theorem cd {a : List Int} (h : gg a = true) : a.length ≤ 12 ∧ a.Nodup ∧ (∀ x ∈ a, 0 ≤ x ∧ x < (a.length : Int)) := by
 unfold gg at h
 rw [Bool.and_eq_true, decide_eq_true_eq] at h
 obtain ⟨k1, k2⟩ := Yx a.length a [] List.nodup_nil h.2
 exact ⟨h.1, by simpa using k1, k2⟩
end Qq
namespace Qq
open Go Go.Vt Pt
set_option linter.unusedVariables false
set_option linter.unusedSimpArgs false
def cycF (a : List Int) : Nat → Nat → List Bool → List Int → List Bool × List Int
 | 0, _, met, c => (met, c)
 | f + 1, x, met, c => if met.getD x false = true then (met, c) else cycF a f (a.getD x 0).toNat (met.set x true) (c ++ [(x : Int)])
def outF (a : List Int) : Nat → Nat → List (List Int) → List Bool → List (List Int)
 | 0, _, out, _ => out
 | d + 1, i, out, met => if met.getD i false = true then outF a d (i + 1) out met else outF a d (i + 1) (out ++ [(cycF a a.length i met []).2]) (cycF a a.length i met []).1
theorem NW {a : List Int} {f x : Nat} {met : List Bool} {c : List Int} (hm : met.getD x false = true) : cycF a f x met c = (met, c) := by
 cases f with
 | zero => rfl
 | succ f => show (if met.getD x false = true then _ else _) = _; rw [if_pos hm]
theorem HX {a : List Int} {f x : Nat} {met : List Bool} {c : List Int} (hm : met.getD x false = false) : cycF a (f + 1) x met c = cycF a f (a.getD x 0).toNat (met.set x true) (c ++ [(x : Int)]) := by
 show (if met.getD x false = true then _ else _) = _
 rw [hm]; rfl
theorem J8 {a : List Int} {d i : Nat} {out : List (List Int)} {met : List Bool} (hm : met.getD i false = true) : outF a (d + 1) i out met = outF a d (i + 1) out met := by
 show (if met.getD i false = true then _ else _) = _
 rw [if_pos hm]
theorem GN {a : List Int} {d i : Nat} {out : List (List Int)} {met : List Bool} (hm : met.getD i false = false) : outF a (d + 1) i out met = outF a d (i + 1) (out ++ [(cycF a a.length i met []).2]) (cycF a a.length i met []).1 := by
 show (if met.getD i false = true then _ else _) = _
 rw [hm]; rfl
def X2 (a : List Int) : List (List Int) := if gg a then outF a a.length 0 [] (List.replicate a.length false) else []
theorem Pv : ∀ (met : List Bool) (x : Nat), x < met.length → met.getD x false = false → (met.set x true).countP (fun b => !b) + 1 = met.countP (fun b => !b)
 | [], x, h, _ => by simp at h
 | b :: r, 0, h, e => by
   have : b = false := by simpa using e
   subst this
   simp [List.countP_cons]
 | b :: r, x + 1, h, e => by
   have := Pv r x (by simpa using h) (by simpa using e)
   rw [List.set_cons_succ, List.countP_cons, List.countP_cons]
   omega
theorem Kv {met : List Bool} {x : Nat} (h : met.countP (fun b => !b) = 0) (hx : x < met.length) : met.getD x false = true := by
 rw [List.countP_eq_zero] at h
 have := h met[x] (List.getElem_mem hx)
 rw [List.getD, List.getElem?_eq_getElem hx]
 simpa using this
structure CycFit (a : List Int) (n : Nat) (p : List Bool × List Int) : Prop where
 len : p.1.length = a.length
 clen : p.2.length ≤ n
 ins : Ins p.2
theorem UB {a : List Int} (h : gg a = true) : ∀ (f x : Nat) (met : List Bool) (c : List Int), met.length = a.length → x < a.length → Ins c → CycFit a (c.length + f) (cycF a f x met c) ∧ c.length ≤ (cycF a f x met c).2.length
 | 0, x, met, c, hl, hx, hc => ⟨⟨hl, Nat.le_refl _, hc⟩, Nat.le_refl _⟩
 | f + 1, x, met, c, hl, hx, hc => by
   obtain ⟨h1, _, h3⟩ := cd h
   unfold cycF
   split
   ·exact ⟨⟨hl, by show c.length ≤ _; omega, hc⟩, Nat.le_refl _⟩
   ·have hax : 0 ≤ a.getD x 0 ∧ a.getD x 0 < (a.length : Int) := by
     rw [List.getD, List.getElem?_eq_getElem hx]; exact h3 _ (List.getElem_mem hx)
    obtain ⟨⟨k1, k2, k3⟩, k4⟩ := UB h f (a.getD x 0).toNat (met.set x true) (c ++ [(x : Int)]) (by rw [List.length_set]; exact hl) (by omega) (fun y hy => by
     rcases List.mem_append.1 hy with hy | hy
     ·exact hc y hy
     ·simp at hy; subst hy; unfold In; omega)
    rw [List.length_append, List.length_singleton] at k2 k4
    exact ⟨⟨k1, by omega, k3⟩, by omega⟩
theorem HW {a : List Int} (h : gg a = true) {i : Nat} {met : List Bool} (hl : met.length = a.length) (hi : i < a.length) (hm : ¬ met.getD i false = true) : 1 ≤ (cycF a a.length i met []).2.length := by
 obtain ⟨h1, _, h3⟩ := cd h
 obtain ⟨n, hn⟩ : ∃ n, a.length = n + 1 := ⟨a.length - 1, by omega⟩
 rw [hn]
 unfold cycF
 rw [if_neg hm]
 have hax : 0 ≤ a.getD i 0 ∧ a.getD i 0 < (a.length : Int) := by
  rw [List.getD, List.getElem?_eq_getElem hi]; exact h3 _ (List.getElem_mem hi)
 have := (UB h n (a.getD i 0).toNat (met.set i true) ([] ++ [(i : Int)]) (by rw [List.length_set]; exact hl) (by omega) (fun y hy => by simp at hy; subst hy; unfold In; omega)).2
 simpa using this
theorem G2 {a : List Int} (h : gg a = true) (y : List (List Int)) (i : Nat) (out : List (List Int)) (ho : out.length ≤ 12) : ∀ (f x : Nat) (met : List Bool) (c : List Int), met.length = a.length → x < a.length → met.countP (fun b => !b) ≤ f → c.length ≤ 1000 →
 Ev (fun k => x4 k a (a.length : Int) ((i + 1 : Nat) : Int) (if (cycF a f x met c).2 = [] then out else out ++ [(cycF a f x met c).2]) (cycF a f x met c).1) y → i < a.length → c.length + f ≤ 1000 →
 Ev (fun k => w5 k a (x : Int) (a.length : Int) (i : Int) out met c) y := by
 obtain ⟨h1, _, h3⟩ := cd h
 intro f
 have fin : ∀ (x : Nat) (met : List Bool) (c : List Int), met.length = a.length → x < a.length → met.getD x false = true →
  Ev (fun k => x4 k a (a.length : Int) ((i + 1 : Nat) : Int) (if c = [] then out else out ++ [c]) met) y → i < a.length → Ev (fun k => w5 k a (x : Int) (a.length : Int) (i : Int) out met c) y := by
  intro x met c hl hx hm hy hi
  refine Ev.step (fun k => eo k _ _ _ _ _ _ _) ?_
  rw [Int.toNat_natCast, hm, zj (x := (i : Int) + 1) (by omega) (by omega)]
  refine Ev.yes (by simp) (Ev.yes (by rw [hl]; simp; omega) (Ev.yes (by rw [hl]; simp; omega) (Ev.no rfl ?_)))
  cases c with
  | nil =>
    rw [if_pos rfl] at hy
    exact Ev.no rfl (by exact_mod_cast hy)
  | cons z r =>
    rw [if_neg (by simp)] at hy
    exact Ev.yes rfl (Ev.yes (by rw [zc]; simp; omega) (by exact_mod_cast hy))
 induction f with
 | zero =>
   intro x met c hl hx hu hc hy hi hcf
   exact fin x met c hl hx (Kv (met := met) (x := x) (by omega) (by omega)) hy hi
 | succ f ih =>
   intro x met c hl hx hu hc hy hi hcf
   have hax : 0 ≤ a.getD x 0 ∧ a.getD x 0 < (a.length : Int) := by
    rw [List.getD, List.getElem?_eq_getElem hx]; exact h3 _ (List.getElem_mem hx)
   cases hm : met.getD x false with
   | true =>
     rw [NW hm] at hy
     exact fin x met c hl hx hm hy hi
   | false =>
     rw [HX hm] at hy
     refine Ev.step (fun k => eo k _ _ _ _ _ _ _) ?_
     rw [Int.toNat_natCast, hm]
     refine Ev.yes (by simp) (Ev.yes (by rw [hl]; simp; omega) (Ev.yes (by rw [hl]; simp; omega) ?_))
     refine Ev.yes rfl (Ev.yes (by simp) (Ev.yes (by rw [hl]; simp; omega) (Ev.yes (by rw [hl]; simp; omega) (Ev.yes (by rw [zc]; simp; omega) (Ev.yes (by simp) (Ev.yes (by simp; omega) ?_))))))
     have hu' := Pv met x (by omega) hm
     have := ih (a.getD x 0).toNat (met.set x true) (c ++ [(x : Int)]) (by rw [List.length_set]; exact hl) (by omega) (by omega) (by simp; omega) hy hi (by simp; omega)
     have e : (((a.getD x 0).toNat : Nat) : Int) = a.getD x 0 := by omega
     rw [e] at this
     exact this
theorem QJ {a : List Int} (h : gg a = true) : ∀ (d i : Nat) (out : List (List Int)) (met : List Bool), i + d = a.length → out.length ≤ i → met.length = a.length → Ev (fun k => x4 k a (a.length : Int) (i : Int) out met) (outF a d i out met)
 | 0, i, out, met, hd, ho, hl => by
   refine Ev.step (fun k => bC k _ _ _ _ _) ?_
   rw [Km (by omega)]
   exact Ev.pure _
 | d + 1, i, out, met, hd, ho, hl => by
   obtain ⟨h1, _, h3⟩ := cd h
   have u := Fu (n := (a.length : Int)) (i := i) (by omega) (by omega)
   refine Ev.step (fun k => bC k _ _ _ _ _) (Ev.yes u.g ?_)
   obtain ⟨⟨k1, k2, k3⟩, _⟩ := UB h a.length i met [] hl (by omega) (fun x hx => by cases hx)
   refine G2 h _ i out (by omega) a.length i met [] hl (by omega) (by rw [← hl]; exact List.countP_le_length) (by simp) ?_ (by omega) (by simp; omega)
   cases hm : met.getD i false with
   | true =>
     rw [NW hm, J8 hm, if_pos rfl]
     exact QJ h d (i + 1) out met (by omega) (by omega) hl
   | false =>
     have hf := HW h hl (by omega : i < a.length) (by rw [hm]; exact Bool.false_ne_true)
     have hne : ¬ (cycF a a.length i met []).2 = [] := by intro e; rw [e] at hf; simp at hf
     rw [GN hm, if_neg hne]
     exact QJ h d (i + 1) _ _ (by omega) (by simp; omega) k1
theorem Q0 (a : List Int) (hm : a.length ≤ maxLen) : Ev (fun k => WO k a) (X2 a) := by
 unfold X2
 refine Ev.step (fun k => Q1 k a) (Ev.bind (TU a hm) (Ev.ite (fun h => Ev.some ?_) (fun h => ?_)))
 ·have : gg a = false := by simpa using h
  rw [this]; rfl
 ·have e : gg a = true := by simpa using h
  have h1 := (cd e).1
  rw [if_pos e]
  refine Ev.yes (by simp) (Ev.yes (by rw [zc]; simp; omega) (Ev.yes (by simp) ?_))
  rw [Int.toNat_natCast]
  exact QJ e a.length 0 [] _ (by omega) (by simp) (by simp)
theorem Qy {a : List Int} (h : gg a = true) : ∀ (d i : Nat) (out : List (List Int)) (met : List Bool), i + d = a.length → out.length ≤ i → met.length = a.length → (∀ c ∈ out, c.length ≤ 12 ∧ Ins c) →
 (outF a d i out met).length ≤ a.length ∧ out.length ≤ (outF a d i out met).length ∧ ∀ c ∈ outF a d i out met, c.length ≤ 12 ∧ Ins c
 | 0, i, out, met, hd, ho, hl, hg => ⟨by show out.length ≤ _; omega, Nat.le_refl _, hg⟩
 | d + 1, i, out, met, hd, ho, hl, hg => by
   obtain ⟨h1, _, h3⟩ := cd h
   unfold outF
   split
   ·exact Qy h d (i + 1) out met (by omega) (by omega) hl hg
   ·obtain ⟨⟨k1, k2, k3⟩, _⟩ := UB h a.length i met [] hl (by omega) (fun x hx => by cases hx)
    obtain ⟨q1, q2, q3⟩ := Qy h d (i + 1) (out ++ [(cycF a a.length i met []).2]) _ (by omega) (by simp; omega) k1 (fun c hc => by
     rcases List.mem_append.1 hc with hc | hc
     ·exact hg c hc
     ·simp at hc; subst hc; exact ⟨by simp at k2; omega, k3⟩)
    rw [List.length_append, List.length_singleton] at q2
    exact ⟨q1, by omega, q3⟩
theorem R9 (a : List Int) : (X2 a).length ≤ 12 ∧ ∀ c ∈ X2 a, c.length ≤ 12 ∧ Ins c := by
 unfold X2
 split
 ·rename_i h
  have h1 := (cd h).1
  obtain ⟨q1, _, q3⟩ := Qy h a.length 0 [] (List.replicate a.length false) (by omega) (by simp) (by simp) (fun c hc => by cases hc)
  exact ⟨by omega, q3⟩
 ·exact ⟨by simp, fun c hc => by cases hc⟩
def cycB (c : List Int) : ByteArray := ((⟨#[40]⟩ : ByteArray) ++ xw (c.map yt) ⟨#[32]⟩) ++ ⟨#[41]⟩
def lineF : List (List Int) → ByteArray → ByteArray
 | [], acc => acc
 | c :: r, acc => lineF r (acc ++ cycB c)
theorem RV {c : List Int} (h : c.length ≤ 12 ∧ Ins c) : (xw (c.map yt) ⟨#[32]⟩).size ≤ 264 := by
 have := cu (B := 21) (S := 1) (⟨#[32]⟩ : ByteArray) (by decide) (c.map yt) (wZ h.2)
 rw [List.length_map] at this
 rw [xw, zK]
 omega
theorem NX {c : List Int} (h : c.length ≤ 12 ∧ Ins c) : (cycB c).size ≤ 266 := by
 have h1 := wn (a := (⟨#[40]⟩ : ByteArray)) (m := 1) (by decide) (RV h)
 exact wn h1 (n := 1) (by decide)
theorem No (cs : List (List Int)) (hl : cs.length ≤ 12) (hg : ∀ c ∈ cs, c.length ≤ 12 ∧ Ins c) : ∀ (r : List (List Int)) (i : Nat) (acc : ByteArray), cs.drop i = r → acc.size ≤ 300 * i → Ev (fun k => ug k acc (cs.length : Int) (i : Int) cs) (lineF r acc)
 | [], i, acc, h, hs => by
   have q := zZ h
   refine Ev.step (fun k => fh k _ _ _ _) ?_
   simp only [q.g, cond_false]
   exact Ev.pure _
 | c :: r, i, acc, h, hs => by
   have q := zy h (by rw [zg]; omega)
   have hlt := q.lt
   have hc := hg c (List.mem_of_mem_drop (h ▸ List.mem_cons_self))
   have sj := RV hc
   have sc := NX hc
   have s0 := wn (a := (⟨#[40]⟩ : ByteArray)) (m := 1) (by decide) sj
   have s1 := wn hs sc
   refine Ev.step (fun k => fh k _ _ _ _) ?_
   simp only [q.g, q.z, q.n, q.get, q.w, cond_true]
   refine Ev.bind (Vp c (by omega) hc.2) (Ev.bind (T2 _ _ 21 (by simp; omega) (wZ hc.2) (by omega) (by decide)) (Ev.yes (bG (m := 1) (by decide) sj (by decide)) (Ev.yes (bG s0 (n := 1) (by decide) (by decide)) (Ev.yes (bG hs sc (by omega)) ?_))))
   exact No cs hl hg r (i + 1) (acc ++ cycB c) q.next (by omega)
def eH (a : List Int) : ByteArray := if gg a then (if a = [] then ⟨#[40, 41]⟩ else lineF (X2 a) ⟨#[]⟩) else ⟨#[]⟩
theorem T6 (a : List Int) (hm : a.length ≤ maxLen) : Ev (fun k => aH k a) (eH a) := by
 unfold eH
 obtain ⟨f1, f2⟩ := R9 a
 refine Ev.step (fun k => T7 k a) (Ev.bind (TU a hm) (Ev.ite (fun h => Ev.some ?_) (fun h => Ev.ite (fun h2 => Ev.some ?_) (fun h2 => ?_))))
 ·have : gg a = false := by simpa using h
  rw [this]; rfl
 ·have e : gg a = true := by simpa using h
  have : a = [] := by simp at h2; exact h2
  rw [if_pos e, if_pos this]
 ·have e : gg a = true := by simpa using h
  have : ¬ a = [] := by simp at h2; exact h2
  rw [if_pos e, if_neg this]
  exact Ev.bind (Q0 a hm) (No (X2 a) f1 f2 (X2 a) 0 ⟨#[]⟩ rfl (by decide))
end Qq
namespace Qq
open Go Go.Vt Pt
set_option linter.unusedVariables false
set_option linter.unusedSimpArgs false
def xy (xs : List Int) : ByteArray := if xs = [] then ⟨#[45]⟩ else xw (xs.map yt) ⟨#[44]⟩
theorem bA (xs : List Int) (hm : xs.length ≤ 1048576) (hi : Ins xs) : Ev (fun k => jQ k xs) (xy xs) := by
 refine Ev.step (fun k => Ud k xs) ?_
 unfold xy
 refine Ev.ite (fun h => Ev.some ?_) (fun h => ?_)
 ·have : xs = [] := by simp at h; exact h
  rw [if_pos this]
 ·have : ¬ xs = [] := by simp at h; exact h
  rw [if_neg this]
  exact Ev.bind (Vp xs hm hi) (Ev.bind (T2 _ _ 21 (by simpa using hm) (wZ hi) (by omega) (by show (1 : Nat) ≤ _; omega)) (Ev.pure _))
end Qq
namespace Qq
open Go Go.Vt Pt
set_option linter.unusedVariables false
set_option linter.unusedSimpArgs false
set_option linter.unnecessarySimpa false
def numB (l : List UInt8) : Nat := l.foldl (fun a c => a * 10 + (c.toNat - 48)) 0
theorem byte48 {d : Nat} (h : d < 10) : (UInt8.ofNat (48 + d)).toNat = 48 + d := by
 rw [UInt8.toNat_ofNat']; omega
theorem eG : ∀ (n u : Nat), u ≤ n → numB (Lib.decDigits u) = u ∧ (∀ c ∈ Lib.decDigits u, 48 ≤ c.toNat ∧ c.toNat ≤ 57) ∧ Lib.decDigits u ≠ []
 | n, u, h => by
   by_cases hu : u < 10
   ·rw [aS hu]
    refine ⟨by simp only [numB, List.foldl_cons, List.foldl_nil, byte48 hu]; omega, fun c hc => ?_, by simp⟩
    have : c = UInt8.ofNat (48 + u) := by simpa using hc
    rw [this, byte48 hu]; omega
   ·match n, h with
    | 0, h => omega
    | n + 1, h =>
    have hd : u % 10 < 10 := Nat.mod_lt _ (by omega)
    obtain ⟨h1, h2, h3⟩ := eG n (u / 10) (by omega)
    rw [Sk hu]
    refine ⟨?_, fun c hc => ?_, by simp⟩
    ·unfold numB at h1 ⊢
     rw [List.foldl_append, h1]
     simp only [List.foldl_cons, List.foldl_nil, byte48 hd]
     omega
    ·rcases List.mem_append.1 hc with hc | hc
     ·exact h2 c hc
     ·have : c = UInt8.ofNat (48 + u % 10) := by simpa using hc
      rw [this, byte48 hd]; omega
theorem Nd (n : Int) : ∀ c ∈ Lib.itoa n, c ≠ 44 ∧ c ≠ 47 := by
 intro c hc
 have key : c = 45 ∨ (48 ≤ c.toNat ∧ c.toNat ≤ 57) := by
  unfold Lib.itoa at hc
  split at hc
  ·rcases List.mem_cons.1 hc with rfl | hc
   ·exact .inl rfl
   ·exact .inr ((eG _ _ (Nat.le_refl _)).2.1 c hc)
  ·exact .inr ((eG _ _ (Nat.le_refl _)).2.1 c hc)
 refine ⟨fun e => ?_, fun e => ?_⟩
 ·subst e
  rcases key with h | h
  ·exact absurd h (by decide)
  ·have : (44 : UInt8).toNat = 44 := rfl
   omega
 ·subst e
  rcases key with h | h
  ·exact absurd h (by decide)
  ·have : (47 : UInt8).toNat = 47 := rfl
   omega
theorem L4 {a b : Int} (h : Lib.itoa a = Lib.itoa b) : a = b := by
 have pos : ∀ (u : Nat) (l : List UInt8), Lib.decDigits u = 45 :: l → False := fun u l e => by
  have := ((eG _ u (Nat.le_refl _)).2.1 45 (by rw [e]; simp)).1
  exact absurd this (by decide)
 have val : ∀ u v : Nat, Lib.decDigits u = Lib.decDigits v → u = v := fun u v e => by
  rw [← (eG _ u (Nat.le_refl _)).1, ← (eG _ v (Nat.le_refl _)).1, e]
 unfold Lib.itoa at h
 split at h
 ·split at h
  ·have := val _ _ (List.cons.inj h).2
   omega
  ·exact (pos _ _ h.symm).elim
 ·split at h
  ·exact (pos _ _ h).elim
  ·have := val _ _ h
   omega
theorem HY {s : UInt8} : ∀ {A A' B B' : List UInt8}, s ∉ A → s ∉ A' → A ++ s :: B = A' ++ s :: B' → A = A' ∧ B = B'
 | [], [], B, B', _, _, h => ⟨rfl, (List.cons.inj h).2⟩
 | [], y :: A', B, B', _, h2, h => (h2 (by rw [(List.cons.inj h).1]; simp)).elim
 | x :: A, [], B, B', h1, _, h => (h1 (by rw [← (List.cons.inj h).1]; simp)).elim
 | x :: A, y :: A', B, B', h1, h2, h => by
   have e := List.cons.inj h
   obtain ⟨e1, e2⟩ := HY (A := A) (A' := A') (fun hm => h1 (by simp [hm])) (fun hm => h2 (by simp [hm])) e.2
   exact ⟨by rw [e.1, e1], e2⟩
theorem tail_cons (s : UInt8) (x : List UInt8) (r : List (List UInt8)) : Lib.joinTail [s] (x :: r) = s :: (x ++ Lib.joinTail [s] r) := by simp [Lib.joinTail]
theorem L3 {s : UInt8} : ∀ {x y : List UInt8} {r q : List (List UInt8)}, (∀ z ∈ x :: r, s ∉ z) → (∀ z ∈ y :: q, s ∉ z) → x ++ Lib.joinTail [s] r = y ++ Lib.joinTail [s] q → x :: r = y :: q
 | x, y, [], [], _, _, h => by simpa [Lib.joinTail] using h
 | x, y, [], z :: q, h1, _, h => by
   rw [tail_cons] at h
   exact (h1 x (by simp) (by have : s ∈ x ++ Lib.joinTail [s] [] := by rw [h]; simp
                             simpa [Lib.joinTail] using this)).elim
 | x, y, z :: r, [], _, h2, h => by
   rw [tail_cons] at h
   exact (h2 y (by simp) (by have : s ∈ y ++ Lib.joinTail [s] [] := by rw [← h]; simp
                             simpa [Lib.joinTail] using this)).elim
 | x, y, z :: r, u :: q, h1, h2, h => by
   rw [tail_cons, tail_cons] at h
   obtain ⟨e1, e2⟩ := HY (h1 x (by simp)) (h2 y (by simp)) h
   rw [e1, L3 (fun w hw => h1 w (by simp [hw])) (fun w hw => h2 w (by simp [hw])) e2]
def keyB (c : Scene) : ByteArray := (xy c.1 ++ (⟨#[47]⟩ : ByteArray)) ++ yt c.2
theorem RS (c : Scene) (h : c.1 ≠ []) : keyB c = strB (Lib.join (c.1.map Lib.itoa) [44] ++ 47 :: Lib.itoa c.2) := by
 unfold keyB xy yt
 rw [if_neg h]
 have e1 : xw (c.1.map yt) ⟨#[44]⟩ = strB (Lib.join (c.1.map Lib.itoa) [44]) := by
  unfold xw SZ
  rw [List.map_map]
  congr 2
 have e2 : (⟨#[47]⟩ : ByteArray) = strB [47] := rfl
 show xw (c.1.map yt) ⟨#[44]⟩ ++ (⟨#[47]⟩ : ByteArray) ++ strB (Lib.itoa c.2) = _
 rw [e1, e2, LA, LA]
 congr 1
 simp
theorem TB {s : UInt8} (hs : s ≠ 44) : ∀ {x : List UInt8} {r : List (List UInt8)}, (∀ z ∈ x :: r, s ∉ z) → s ∉ x ++ Lib.joinTail [44] r
 | x, [], h => by simpa [Lib.joinTail] using h x (by simp)
 | x, y :: r, h => by
   rw [tail_cons]
   intro hm
   rcases List.mem_append.1 hm with hm | hm
   ·exact h x (by simp) hm
   ·rcases List.mem_cons.1 hm with hm | hm
    ·exact hs hm
    ·exact TB hs (x := y) (r := r) (fun z hz => h z (by simp at hz ⊢; exact .inr hz)) hm
theorem Vr : ∀ {p q : List Int}, p.map Lib.itoa = q.map Lib.itoa → p = q
 | [], [], _ => rfl
 | [], _ :: _, h => by simp at h
 | _ :: _, [], h => by simp at h
 | x :: p, y :: q, h => by
   simp only [List.map_cons, List.cons.injEq] at h
   rw [L4 h.1, Vr h.2]
theorem GZ {c d : Scene} (hc : c.1 ≠ []) (hd : d.1 ≠ []) (h : keyB c = keyB d) : c = d := by
 rw [RS c hc, RS d hd] at h
 have h' : Lib.join (c.1.map Lib.itoa) [44] ++ 47 :: Lib.itoa c.2 = Lib.join (d.1.map Lib.itoa) [44] ++ 47 :: Lib.itoa d.2 := by
  have := congrArg (fun b => b.data.toList) h
  simpa [strB] using this
 obtain ⟨p, n⟩ := c
 obtain ⟨q, m⟩ := d
 cases p with
 | nil => exact (hc rfl).elim
 | cons x p =>
   cases q with
   | nil => exact (hd rfl).elim
   | cons y q =>
     rw [List.map_cons, List.map_cons, Lib.join_cons, Lib.join_cons] at h'
     have nb : ∀ (x : Int) (p : List Int), ∀ z ∈ Lib.itoa x :: p.map Lib.itoa, (47 : UInt8) ∉ z ∧ (44 : UInt8) ∉ z := fun x p z hz => by
      have : ∃ n, z = Lib.itoa n := by
       rcases List.mem_cons.1 hz with rfl | hz
       ·exact ⟨x, rfl⟩
       ·obtain ⟨n, _, rfl⟩ := List.mem_map.1 hz
        exact ⟨n, rfl⟩
      obtain ⟨n, rfl⟩ := this
      exact ⟨fun hm => (Nd n _ hm).2 rfl, fun hm => (Nd n _ hm).1 rfl⟩
     obtain ⟨e1, e2⟩ := HY (TB (by decide) fun z hz => (nb x p z hz).1) (TB (by decide) fun z hz => (nb y q z hz).1) h'
     have e3 := L3 (fun z hz => (nb x p z hz).2) (fun z hz => (nb y q z hz).2) e1
     have e4 := Vr (p := x :: p) (q := y :: q) (by simpa using e3)
     have e5 := L4 e2
     dsimp only at e5
     rw [e4, e5]
theorem Tq {l : List Scene} {x : Scene} (hl : ∀ c ∈ l, c.1 ≠ []) (hx : x.1 ≠ []) : cj (l.map keyB) (keyB x) = decide (x ∈ l) := by
 rw [Bool.eq_iff_iff, decide_eq_true_eq]
 unfold cj
 rw [List.any_eq_true]
 constructor
 ·rintro ⟨k, hk, he⟩
  obtain ⟨c, hc, rfl⟩ := List.mem_map.1 hk
  rw [GZ hx (hl c hc) (beqBA he)]
  exact hc
 ·intro hm
  exact ⟨keyB x, List.mem_map.2 ⟨x, hm, rfl⟩, Qh _⟩
theorem RZ (c : Scene) (h : c.1.length ≤ 12) (hi : Ins c.1) (hn : In c.2) : Ev (fun k => cA k c) (keyB c) := by
 obtain ⟨p, n⟩ := c
 have h1 : (xy p).size ≤ 1000 := by
  unfold xy
  split
  ·decide
  ·have := cu (B := 21) (S := 1) (⟨#[44]⟩ : ByteArray) (by decide) (p.map yt) (wZ hi)
   rw [List.length_map] at this
   rw [xw, zK]
   have h : p.length ≤ 12 := h
   omega
 have h2 := zX n hn
 have h3 : (⟨#[47]⟩ : ByteArray).size = 1 := rfl
 refine Ev.step (fun k => K4 k (p, n)) (Ev.bind (bA p (by have h : p.length ≤ 12 := h; omega) hi) (Ev.yes (decide_eq_true (by omega)) (Ev.bind (zD n hn) (Ev.yes (decide_eq_true (by rw [ByteArray.size_append]; omega)) (Ev.some rfl)))))
end Qq
namespace Qq
open Go Go.Vt Pt
set_option linter.unusedVariables false
set_option linter.unusedSimpArgs false
set_option linter.unnecessarySimpa false
abbrev Way : Type := Scene × List Int
def addP (s : zT) (w : List Int) : Nat → List Scene → List Way → List Way
 | _, [], acc => acc
 | j, x :: r, acc => if x ∈ acc.map Prod.fst then addP s w (j + 1) r acc else addP s w (j + 1) r (acc ++ [(x, if s.1 = 2 then w ++ [(j : Int)] else w)])
def goP (s : zT) : List Way → List Way → List Way
 | [], acc => acc
 | c :: r, acc => goP s r (addP s c.2 0 (zm c.1 s) acc)
def bL : List zT → List Way → Option (List Way)
 | [], l => some l
 | s :: r, l => if (goP s l []).length ≤ 3000 then bL r (goP s l []) else none
def Pq (n : Nat) (l : List Way) : Prop := ∀ c ∈ l, SceneOk n c.1
theorem Lk {n : Nat} (s : zT) (w : List Int) : ∀ (r : List Scene) (j : Nat) (acc : List Way), (∀ x ∈ r, SceneOk n x) → Pq n acc → Pq n (addP s w j r acc)
 | [], _, _, _, h => h
 | x :: r, j, acc, hr, h => by
   unfold addP
   split
   ·exact Lk s w r (j + 1) acc (fun y hy => hr y (by simp [hy])) h
   ·refine Lk s w r (j + 1) _ (fun y hy => hr y (by simp [hy])) (fun c hc => ?_)
    rcases List.mem_append.1 hc with hc | hc
    ·exact h c hc
    ·have : c = (x, if s.1 = 2 then w ++ [(j : Int)] else w) := by simpa using hc
     rw [this]; exact hr x (by simp)
theorem HG {n : Nat} {s : zT} (hs : yj (n : Int) s = true) : ∀ (l acc : List Way), Pq n l → Pq n acc → Pq n (goP s l acc)
 | [], _, _, h => h
 | c :: r, acc, hl, h => HG hs r _ (fun d hd => hl d (by simp [hd])) (Lk s c.2 _ 0 acc (fy (hl c (by simp)) hs) h)
def Me (m : Nat) (l : List Way) : Prop := ∀ c ∈ l, c.2.length ≤ m
theorem Ph {m : Nat} (s : zT) (w : List Int) (hw : w.length ≤ m) : ∀ (r : List Scene) (j : Nat) (acc : List Way), Me (m + 1) acc → Me (m + 1) (addP s w j r acc)
 | [], _, _, h => h
 | x :: r, j, acc, h => by
   unfold addP
   split
   ·exact Ph s w hw r (j + 1) acc h
   ·refine Ph s w hw r (j + 1) _ (fun c hc => ?_)
    rcases List.mem_append.1 hc with hc | hc
    ·exact h c hc
    ·have : c = (x, if s.1 = 2 then w ++ [(j : Int)] else w) := by simpa using hc
     rw [this]
     dsimp only
     split
     ·simp; omega
     ·omega
theorem HE {m : Nat} {s : zT} : ∀ (l acc : List Way), Me m l → Me (m + 1) acc → Me (m + 1) (goP s l acc)
 | [], _, _, h => h
 | c :: r, acc, hl, h => HE r _ (fun d hd => hl d (by simp [hd])) (Ph s c.2 (hl c (by simp)) _ 0 acc h)
end Qq
namespace Qq
open Go Go.Vt Pt
set_option linter.unusedVariables false
set_option linter.unusedSimpArgs false
set_option linter.unnecessarySimpa false
def canF (bad : Scene → Bool) : List zT → Scene → Bool
 | [], c => bad c
 | s :: r, c => (zm c s).any (canF bad r)
def Qr (F : Scene → Bool) (s : zT) (w : Way) : Way :=
 let k := (zm w.1 s).findIdx F
 ((zm w.1 s).getD k ([], 0), if s.1 = 2 then w.2 ++ [(k : Int)] else w.2)
def firstW (bad : Scene → Bool) : List zT → Way → Way
 | [], w => w
 | s :: r, w => firstW bad r (Qr (canF bad r) s w)
theorem UG (s : zT) (w : List Int) : ∀ (r : List Scene) (j : Nat) (acc : List Way), ∃ m, addP s w j r acc = acc ++ m
 | [], _, acc => ⟨[], by simp [addP]⟩
 | x :: r, j, acc => by
   unfold addP
   split
   ·exact UG s w r (j + 1) acc
   ·obtain ⟨m, hm⟩ := UG s w r (j + 1) (acc ++ [(x, if s.1 = 2 then w ++ [(j : Int)] else w)])
    exact ⟨_, by rw [hm, List.append_assoc]⟩
theorem HF (s : zT) : ∀ (l acc : List Way), ∃ m, goP s l acc = acc ++ m
 | [], acc => ⟨[], by simp [goP]⟩
 | c :: r, acc => by
   unfold goP
   obtain ⟨m1, h1⟩ := UG s c.2 (zm c.1 s) 0 acc
   obtain ⟨m2, h2⟩ := HF s r (addP s c.2 0 (zm c.1 s) acc)
   exact ⟨m1 ++ m2, by rw [h2, h1, List.append_assoc]⟩
theorem Kb {α : Type} {p : α → Bool} {acc m : List α} {y : α} (h : acc.find? p = some y) : (acc ++ m).find? p = some y := by rw [List.find?_append, h]; rfl
theorem HM {α : Type} {p : α → Bool} {acc : List α} (h : ∀ a ∈ acc, p a = false) : acc.find? p = none := by
 rw [List.find?_eq_none]
 intro a ha
 rw [h a ha]; simp
theorem N9 (F : Scene → Bool) (s : zT) (w : List Int) : ∀ (xs : List Scene) (j : Nat) (acc : List Way), (∀ a ∈ acc, F a.1 = false) →
 (xs.any F = true → (addP s w j xs acc).find? (fun a => F a.1) = some (xs.getD (xs.findIdx F) ([], 0), if s.1 = 2 then w ++ [((j + xs.findIdx F : Nat) : Int)] else w)) ∧
 (xs.any F = false → ∀ a ∈ addP s w j xs acc, F a.1 = false)
 | [], j, acc, h => ⟨fun e => (by simp at e), fun _ => h⟩
 | x :: r, j, acc, h => by
   have jump : ∀ acc' : List Way, (∀ a ∈ acc', F a.1 = false) → F x = false → addP s w j (x :: r) acc = addP s w (j + 1) r acc' →
    ((x :: r).any F = true → (addP s w j (x :: r) acc).find? (fun a => F a.1) = some ((x :: r).getD ((x :: r).findIdx F) ([], 0), if s.1 = 2 then w ++ [((j + (x :: r).findIdx F : Nat) : Int)] else w)) ∧
    ((x :: r).any F = false → ∀ a ∈ addP s w j (x :: r) acc, F a.1 = false) := fun acc' ha hx e => by
    obtain ⟨i1, i2⟩ := N9 F s w r (j + 1) acc' ha
    have ei : (x :: r).findIdx F = r.findIdx F + 1 := by rw [List.findIdx_cons, hx]; rfl
    rw [List.any_cons, hx, Bool.false_or, e, ei]
    refine ⟨fun q => ?_, i2⟩
    rw [i1 q]
    have e1 : j + 1 + r.findIdx F = j + (r.findIdx F + 1) := by omega
    rw [e1]
    rfl
   by_cases hm : x ∈ acc.map Prod.fst
   ·obtain ⟨a, ha, rfl⟩ := List.mem_map.1 hm
    exact jump acc h (h a ha) (by rw [addP, if_pos hm])
   ·have e : addP s w j (x :: r) acc = addP s w (j + 1) r (acc ++ [(x, if s.1 = 2 then w ++ [(j : Int)] else w)]) := by rw [addP, if_neg hm]
    cases hx : F x with
    | false =>
      refine jump _ (fun a ha => ?_) hx e
      rcases List.mem_append.1 ha with ha | ha
      ·exact h a ha
      ·have : a = (x, if s.1 = 2 then w ++ [(j : Int)] else w) := by simpa using ha
       rw [this]; exact hx
    | true =>
      refine ⟨fun _ => ?_, fun q => (by rw [List.any_cons, hx] at q; cases q)⟩
      obtain ⟨m, hm2⟩ := UG s w r (j + 1) (acc ++ [(x, if s.1 = 2 then w ++ [(j : Int)] else w)])
      have ei : (x :: r).findIdx F = 0 := by rw [List.findIdx_cons, hx]; rfl
      rw [e, hm2, ei]
      refine Kb ?_
      rw [List.find?_append, HM h]
      simp [hx]
theorem L9 (F : Scene → Bool) (s : zT) : ∀ (l acc : List Way), (∀ a ∈ acc, F a.1 = false) →
 (goP s l acc).find? (fun a => F a.1) = (l.find? (fun c => (zm c.1 s).any F)).map (Qr F s)
 | [], acc, h => by
   show acc.find? _ = none
   exact HM h
 | c :: r, acc, h => by
   obtain ⟨i1, i2⟩ := N9 F s c.2 (zm c.1 s) 0 acc h
   unfold goP
   rw [List.find?_cons]
   cases hc : (zm c.1 s).any F with
   | true =>
     obtain ⟨m, hm⟩ := HF s r (addP s c.2 0 (zm c.1 s) acc)
     rw [hm, Kb (i1 hc)]
     unfold Qr
     simp
   | false => exact L9 F s r _ (i2 hc)
theorem NI (bad : Scene → Bool) : ∀ (r : List zT) (l A : List Way), bL r l = some A → A.find? (fun w => bad w.1) = (l.find? (fun w => canF bad r w.1)).map (firstW bad r)
 | [], l, A, h => by
   cases h
   show _ = (l.find? (fun w => bad w.1)).map (fun w => w)
   simp
 | s :: r, l, A, h => by
   unfold bL at h
   split at h
   ·rw [NI bad r _ A h, L9 (canF bad r) s l [] (fun a ha => by cases ha)]
    rw [Option.map_map]
    rfl
   ·cases h
end Qq
namespace Qq
open Go Go.Vt Pt
set_option linter.unusedVariables false
set_option linter.unusedSimpArgs false
set_option linter.unnecessarySimpa false
theorem vC (s : zT) (r : List zT) (l : List Way) : bL (s :: r) l = if (goP s l []).length ≤ 3000 then bL r (goP s l []) else none := rfl
def yL (t : Trick) : List Way := [((t.1, -1), [])]
theorem yV {t : Trick} (h : zi t = true) : SceneOk t.1.length (t.1, -1) ∧ (∀ s ∈ t.2.1, yj (t.1.length : Int) s = true) := by
 refine ⟨⟨(zu h).2.2.2, rfl, by show (-1 : Int) ≤ -1; decide, by show (-1 : Int) < 12; decide⟩, ?_⟩
 unfold zi at h
 simp only [Bool.and_eq_true] at h
 exact fun s hs => List.all_eq_true.1 h.2.2.2.1 s hs
theorem bR {t : Trick} (h : zi t = true) : Pq t.1.length (yL t) := by
 intro c hc
 have e : c = ((t.1, -1), []) := by simpa [yL] using hc
 rw [e]
 exact (yV h).1
theorem KM (t : Trick) : Me 0 (yL t) := by
 intro c hc
 have e : c = ((t.1, -1), []) := by simpa [yL] using hc
 rw [e]
 simp
def addU : List Scene → List Scene → List Scene
 | [], acc => acc | x :: r, acc => if x ∈ acc then addU r acc else addU r (acc ++ [x])
def goU (s : zT) : List Scene → List Scene → List Scene
 | [], acc => acc | c :: r, acc => goU s r (addU (zm c s) acc)
theorem Pg : ∀ (r acc : List Scene), acc.length ≤ (addU r acc).length ∧ (addU r acc).length ≤ acc.length + r.length
 | [], _ => ⟨Nat.le_refl _, Nat.le_refl _⟩
 | x :: r, acc => by
   unfold addU
   split
   ·have := Pg r acc; simp only [List.length_cons]; omega
   ·have := Pg r (acc ++ [x]); simp only [List.length_cons, List.length_append, List.length_nil] at this ⊢; omega
theorem HD (s : zT) : ∀ (l acc : List Scene), acc.length ≤ (goU s l acc).length
 | [], _ => Nat.le_refl _
 | c :: r, acc => Nat.le_trans (Pg _ acc).1 (HD s r _)
theorem Pi (s : zT) (w : List Int) : ∀ (r : List Scene) (j : Nat) (acc : List Way), (addP s w j r acc).map Prod.fst = addU r (acc.map Prod.fst)
 | [], _, _ => rfl
 | x :: r, j, acc => by
   unfold addP addU
   by_cases h : x ∈ acc.map Prod.fst
   ·rw [if_pos h, if_pos h, Pi]
   ·rw [if_neg h, if_neg h, Pi, List.map_append]; rfl
theorem HH (s : zT) : ∀ (l acc : List Way), (goP s l acc).map Prod.fst = goU s (l.map Prod.fst) (acc.map Prod.fst)
 | [], _ => rfl
 | c :: r, acc => by unfold goP goU; rw [HH, Pi]; rfl
def SAll (n : Nat) (l : List Scene) : Prop := ∀ c ∈ l, SceneOk n c
theorem Pz {t : Trick} (h : zi t = true) : SAll t.1.length [(t.1, -1)] := by
 intro c hc
 have e : c = (t.1, -1) := by simpa using hc
 rw [e]
 exact (yV h).1
def levU : List zT → List Scene → Option (List (List Scene))
 | [], l => some [l]
 | s :: r, l => if (goU s l []).length ≤ 3000 then (levU r (goU s l [])).map (l :: ·) else none
theorem Tv (s : zT) (r : List zT) (l : List Scene) : levU (s :: r) l = if (goU s l []).length ≤ 3000 then (levU r (goU s l [])).map (l :: ·) else none := rfl
def outU (pre : List (List Scene)) : Option (List (List Scene)) → List (List Scene) × Bool
 | some l => (pre ++ l, true) | none => ([], false)
def resU (pre : List (List Scene)) (r : List zT) (A : List Scene) : List (List Scene) × Bool := if A.length ≤ 3000 then outU pre (levU r A) else outU pre none
theorem RR {n : Nat} (h1 : 1 ≤ n) {c : Scene} (hc : SceneOk n c) : c.1 ≠ [] := fun e => by have := hc.len; rw [e] at this; simp at this; omega
theorem QC : ∀ (r : List zT) (l : List Way), (levU r (l.map Prod.fst)).map (fun L => L.getLastD []) = (bL r l).map (fun A => A.map Prod.fst) ∧ (∀ L, levU r (l.map Prod.fst) = some L → L.length = r.length + 1)
 | [], l => ⟨rfl, fun L h => by cases h; rfl⟩
 | s :: r, l => by
   have e : goU s (l.map Prod.fst) [] = (goP s l []).map Prod.fst := by rw [HH]; rfl
   have hlen : (goU s (l.map Prod.fst) []).length = (goP s l []).length := by rw [e, List.length_map]
   obtain ⟨h1, h2⟩ := QC r (goP s l [])
   rw [Tv, vC, hlen, e]
   by_cases hc : (goP s l []).length ≤ 3000
   ·rw [if_pos hc, if_pos hc]
    constructor
    ·rw [← h1]
     cases hL : levU r ((goP s l []).map Prod.fst) with
     | none => rfl
     | some L =>
       have := h2 L hL
       cases L with
       | nil => simp at this
       | cons a L => simp [List.getLastD]
    ·intro L hL
     obtain ⟨L', hL', rfl⟩ := Option.map_eq_some_iff.1 hL
     rw [List.length_cons, h2 L' hL', List.length_cons]
   ·rw [if_neg hc, if_neg hc]
    exact ⟨rfl, fun L hL => by cases hL⟩
def jh (t : Trick) : Option (List Way) := bL t.2.1 (yL t)
def wc (t : Trick) : List Scene × Bool :=
 if zi t then (match jh t with | some A => (A.map Prod.fst, true) | none => ([], false)) else ([], false)
theorem YR : ∀ (r : List zT) (l : List Way) (A : List Way), l.length ≤ 3000 → bL r l = some A → A.length ≤ 3000
 | [], l, A, hl, h => by cases h; exact hl
 | s :: r, l, A, hl, h => by
   rw [vC] at h
   split at h
   ·rename_i hc; exact YR r _ A hc h
   ·cases h
theorem XV {n : Nat} : ∀ (r : List zT) (l : List Way) (A : List Way), (∀ s ∈ r, yj (n : Int) s = true) → Pq n l → bL r l = some A → Pq n A
 | [], l, A, _, hl, h => by cases h; exact hl
 | s :: r, l, A, hs, hl, h => by
   rw [vC] at h
   split at h
   ·exact XV r _ A (fun q hq => hs q (by simp [hq])) (HG (hs s (by simp)) l [] hl (fun c hc => by cases hc)) h
   ·cases h
theorem Pd (t : Trick) : (wc t).1.length ≤ 3000 ∧ SAll t.1.length (wc t).1 := by
 unfold wc
 split
 ·rename_i h
  cases hE : jh t with
  | none => exact ⟨Nat.zero_le _, fun c hc => by cases hc⟩
  | some A =>
    obtain ⟨h1, h2, h3, h4⟩ := zu h
    have hs := yV h
    refine ⟨by show (A.map Prod.fst).length ≤ _; rw [List.length_map]; exact YR _ _ A (by simp [yL]) hE, fun c hc => ?_⟩
    obtain ⟨d, hd, rfl⟩ := List.mem_map.1 (show c ∈ A.map Prod.fst from hc)
    exact XV t.2.1 (yL t) A hs.2 (bR h) hE d hd
 ·exact ⟨Nat.zero_le _, fun c hc => by cases hc⟩
end Qq
namespace Qq
open Go Go.Vt Pt
set_option linter.unusedVariables false
set_option linter.unusedSimpArgs false
set_option linter.unnecessarySimpa false
theorem Ed {n : Nat} {p0 : List Int} {c : Scene} {s : zT} (hc : SceneOk n c) (hp : Pm c.1 p0) (hs : yj (n : Int) s = true) : ∀ d ∈ zm c s, Pm d.1 p0 := by
 obtain ⟨h1, h2, hk⟩ := uq hs
 intro d hd
 unfold zm at hd
 rcases hk with ⟨e, m⟩ | ⟨e, c0, c4, c3, c2⟩ | ⟨e, a0, an⟩
 ·rw [if_pos e] at hd
  have hd : d = (xz c.1 s.2.1, c.2) := by simpa using hd
  subst hd
  exact (NP (by rw [hc.len]; exact m)).trans hp
 ·rw [if_neg (by omega), if_neg (by omega)] at hd
  obtain ⟨q, hq, rfl⟩ := List.mem_map.1 hd
  exact (Ko q ((Y6 _ q).1 hq)).trans hp
 ·rw [if_neg (by omega), if_pos e] at hd
  have hd : d = (c.1, card (c.1.getD s.2.2.toNat 0)) := by simpa using hd
  subst hd
  exact hp
theorem Pj {Q : Scene → Prop} (s : zT) (w : List Int) : ∀ (r : List Scene) (j : Nat) (acc : List Way), (∀ x ∈ r, Q x) → (∀ c ∈ acc, Q c.1) → ∀ c ∈ addP s w j r acc, Q c.1
 | [], _, _, _, h => h
 | x :: r, j, acc, hr, h => by
   unfold addP
   split
   ·exact Pj s w r (j + 1) acc (fun y hy => hr y (by simp [hy])) h
   ·refine Pj s w r (j + 1) _ (fun y hy => hr y (by simp [hy])) (fun c hc => ?_)
    rcases List.mem_append.1 hc with hc | hc
    ·exact h c hc
    ·have : c = (x, if s.1 = 2 then w ++ [(j : Int)] else w) := by simpa using hc
     rw [this]; exact hr x (by simp)
theorem HI {Q : Scene → Prop} {s : zT} (hQ : ∀ c, Q c → ∀ d ∈ zm c s, Q d) : ∀ (l acc : List Way), (∀ c ∈ l, Q c.1) → (∀ c ∈ acc, Q c.1) → ∀ c ∈ goP s l acc, Q c.1
 | [], _, _, h => h
 | c :: r, acc, hl, h => HI hQ r _ (fun d hd => hl d (by simp [hd])) (Pj s c.2 _ 0 acc (hQ c.1 (hl c (by simp))) h)
theorem NM {Q : Scene → Prop} : ∀ (r : List zT) (l : List Way) (A : List Way), (∀ s ∈ r, ∀ c, Q c → ∀ d ∈ zm c s, Q d) → (∀ c ∈ l, Q c.1) → bL r l = some A → ∀ c ∈ A, Q c.1
 | [], l, A, _, hl, h => by cases h; exact hl
 | s :: r, l, A, hs, hl, h => by
   rw [vC] at h
   split at h
   ·exact NM r _ A (fun q hq => hs q (by simp [hq])) (HI (hs s (by simp)) l [] hl (fun c hc => by cases hc)) h
   ·cases h
theorem LM (c : Int) : ∀ (q : List Int) (i : Nat), c ∈ q.map card → 0 ≤ posF c i q
 | [], _, h => by simp at h
 | x :: q, i, h => by
   unfold posF
   split
   ·omega
   ·rename_i hne
    refine LM c q (i + 1) ?_
    rw [List.map_cons, List.mem_cons] at h
    rcases h with h | h
    ·exact (hne h.symm).elim
    ·exact h
theorem G1 {p q : List Int} (h : zl p = true) (hq : Pm q p) : Ww p q = true := by
 have h2 := cf h hq
 unfold Ww
 rw [h, h2.1, h2.2]
 simp only [Bool.true_and, Bool.and_eq_true, beq_self_eq_true, List.all_eq_true, decide_eq_true_eq, true_and]
 intro x hx
 have hc := ((yF h).2.1 x hx).1
 unfold pos
 rw [if_neg (by omega)]
 exact LM _ q 0 (hq.mem_iff.2 (List.mem_map.2 ⟨x, hx, rfl⟩))
theorem Pe {t : Trick} (h : zi t = true) : ∀ c ∈ (wc t).1, Ww t.1 c.1 = true := by
 unfold wc
 rw [if_pos h]
 cases hE : jh t with
 | none => intro c hc; cases hc
 | some A =>
   intro c hc
   obtain ⟨d, hd, rfl⟩ := List.mem_map.1 (show c ∈ A.map Prod.fst from hc)
   have hs := yV h
   have := NM (Q := fun c => SceneOk t.1.length c ∧ Pm c.1 t.1) t.2.1 (yL t) A (fun s hss c hc d hd => ⟨fy hc.1 (hs.2 s hss) d hd, Ed hc.1 hc.2 (hs.2 s hss) d hd⟩) (fun c hc => by
    have e : c = ((t.1, -1), []) := by simpa [yL] using hc
    rw [e]
    exact ⟨hs.1, List.Perm.refl _⟩) hE d hd
   exact G1 (zu h).2.2.2 this.2
end Qq
namespace Qq
open Go Go.Vt Pt
set_option linter.unusedVariables false
set_option linter.unusedSimpArgs false
end Qq
namespace Qq
open Go Go.Vt Pt
set_option linter.unusedVariables false
set_option linter.unusedSimpArgs false
set_option linter.unnecessarySimpa false
theorem Pf (d : Scene) : ∀ (r acc : List Scene), d ∈ addU r acc ↔ (d ∈ r ∨ d ∈ acc)
 | [], acc => by simp [addU]
 | x :: r, acc => by
   unfold addU
   by_cases h : x ∈ acc
   ·rw [if_pos h, Pf d r acc, List.mem_cons]
    constructor
    ·rintro (h1 | h1); exact .inl (.inr h1); exact .inr h1
    ·rintro ((h1 | h1) | h1); exact .inr (h1 ▸ h); exact .inl h1; exact .inr h1
   ·rw [if_neg h, Pf d r _, List.mem_cons, List.mem_append, List.mem_singleton]
    constructor
    ·rintro (h1 | h1 | h1); exact .inl (.inr h1); exact .inr h1; exact .inl (.inl h1)
    ·rintro ((h1 | h1) | h1); exact .inr (.inr h1); exact .inl h1; exact .inr (.inl h1)
theorem W6 : ∀ (r acc : List Scene), acc.Nodup → (addU r acc).Nodup
 | [], acc, h => h
 | x :: r, acc, h => by
   unfold addU
   by_cases hx : x ∈ acc
   ·rw [if_pos hx]; exact W6 r acc h
   ·rw [if_neg hx]
    refine W6 r _ ?_
    rw [List.nodup_append]
    refine ⟨h, by simp, fun a ha b hb e => hx ?_⟩
    have : b = x := by simpa using hb
    rw [← this, ← e]; exact ha
theorem MU (s : zT) (d : Scene) : ∀ (l acc : List Scene), d ∈ goU s l acc ↔ ((∃ c ∈ l, d ∈ zm c s) ∨ d ∈ acc)
 | [], acc => by simp [goU]
 | c :: r, acc => by
   unfold goU
   rw [MU s d r, Pf]
   constructor
   ·rintro (⟨c', h1, h2⟩ | h1 | h1)
    ·exact .inl ⟨c', by simp [h1], h2⟩
    ·exact .inl ⟨c, by simp, h1⟩
    ·exact .inr h1
   ·rintro (⟨c', h1, h2⟩ | h1)
    ·rcases List.mem_cons.1 h1 with h1 | h1
     ·exact .inr (.inl (h1 ▸ h2))
     ·exact .inl ⟨c', h1, h2⟩
    ·exact .inr (.inr h1)
theorem NC (s : zT) : ∀ (l acc : List Scene), acc.Nodup → (goU s l acc).Nodup
 | [], acc, h => h
 | c :: r, acc, h => NC s r _ (W6 _ _ h)
end Qq
namespace Qq
open Go Go.Vt Pt
set_option linter.unusedVariables false
set_option linter.unusedSimpArgs false
set_option linter.unnecessarySimpa false
end Qq
namespace Qq
open Go Go.Vt Pt
set_option linter.unusedVariables false
set_option linter.unusedSimpArgs false
set_option linter.unnecessarySimpa false
theorem Y5 {α : Type} {l : List α} {i : Nat} {d : α} (h : i < l.length) : l.set i (l.getD i d) = l := by
 rw [List.getD, List.getElem?_eq_getElem h]; simp
theorem b9 {n : Nat} (h1n : 1 ≤ n) (hn : n ≤ 12) (steps : List zT) (si : Nat) (l : List Scene) (hl : l.length ≤ 3000) (ci : Nat) (s : zT) (out : List (List Scene)) (rs : List zT) (rc : List Scene) (nx : List Scene) (hnx : nx.length ≤ 4096)
 (K : ∀ acc : List Scene, acc.length ≤ 3000 → SAll n acc → Ev (fun k => gl k steps (steps.length : Int) (si : Int) (l.length : Int) ((ci + 1 : Nat) : Int) out si s.1 s.2.1.1 s.2.1.2 s.2.2 (acc.map keyB) acc l) (resU out rs (goU s rc acc))) :
 ∀ (xs : List Scene) (j : Nat) (acc : List Scene), nx.drop j = xs → SAll n xs → acc.length + xs.length ≤ 8000 → SAll n acc → ci < 3000 →
   Ev (fun k => u9 k steps (steps.length : Int) (si : Int) (l.length : Int) (ci : Int) (nx.length : Int) (j : Int) out si s.1 s.2.1.1 s.2.1.2 s.2.2 (acc.map keyB) acc l nx j) (resU out rs (goU s rc (addU xs acc)))
 | [], j, acc, h, hx, ha, hk, hci => by
   have a := zZ h
   have ew : IntKind.i64.wrap ((ci : Int) + 1) = ((ci + 1 : Nat) : Int) := by rw [zj (by omega) (by omega)]; omega
   refine Ev.step (fun k => af k _ _ _ _ _ _ _ _ _ _ _ _ _ _ _ _ _ _) ?_
   simp only [a.g, cond_false, ew]
   unfold addU
   refine Ev.ite (fun h2 => Ev.some ?_) (fun h2 => ?_)
   ·unfold resU
    rw [if_neg]
    ·rfl
    ·have := HD s rc acc
     have h3 : (acc.length : Int) > 3000 := by simpa using h2
     omega
   ·have h3 : ¬ (acc.length : Int) > 3000 := by simpa using h2
    exact K acc (by omega) hk
 | x :: xs, j, acc, h, hx, ha, hk, hci => by
   have a := zy h (by rw [zg]; omega)
   have hxo := hx x (by simp)
   have hxi := zL hxo.ok
   have hx0 := hxo.n0
   have hx12 := hxo.n12
   have hkx := RZ x (by rw [hxo.len]; exact hn) hxi (by unfold In; omega)
   have hmp := Tq (l := acc) (x := x) (fun c hc => RR h1n (hk c hc)) (RR h1n hxo)
   have hbeq : Nat.beq (j : Int).toNat j = true := by simp
   rw [List.length_cons] at ha
   have ih := fun acc ha hk => b9 h1n hn steps si l hl ci s out rs rc nx hnx K xs (j + 1) acc a.next (fun y hy => hx y (by simp [hy])) ha hk hci
   refine Ev.step (fun k => af k _ _ _ _ _ _ _ _ _ _ _ _ _ _ _ _ _ _) ?_
   simp only [a.g, a.z, a.n, a.get, a.w, hbeq, cond_true]
   unfold addU
   refine Ev.bind hkx ?_
   rw [hmp]
   by_cases hm : x ∈ acc
   ·rw [if_pos hm, decide_eq_true hm]
    exact Ev.no rfl (ih acc (by omega) hk)
   ·rw [if_neg hm, decide_eq_false hm]
    refine Ev.yes rfl (Ev.yes (by rw [zc]; simp; omega) ?_)
    have := ih (acc ++ [x]) (by simp; omega) (fun c hc => by
     rcases List.mem_append.1 hc with hc | hc
     ·exact hk c hc
     ·have : c = x := by simpa using hc
      rw [this]; exact hxo)
    simpa using this
theorem ZP {n : Nat} (h1n : 1 ≤ n) (hn : n ≤ 12) (steps : List zT) (h12 : steps.length ≤ 12) (si : Nat) (hsi : si < steps.length) (l : List Scene) (hl : l.length ≤ 3000) (hok : SAll n l) (s : zT) (hs : yj (n : Int) s = true) (out : List (List Scene)) (hout : out.length = si + 1) (hoi : out.set si l = out) (rs : List zT)
 (K : ∀ acc : List Scene, acc.length ≤ 3000 → SAll n acc → Ev (fun k => gm k steps (steps.length : Int) ((si + 1 : Nat) : Int) (out ++ [acc])) (outU out (levU rs acc))) :
 ∀ (rc : List Scene) (ci : Nat) (acc : List Scene), l.drop ci = rc → acc.length ≤ 3000 → SAll n acc →
   Ev (fun k => gl k steps (steps.length : Int) (si : Int) (l.length : Int) (ci : Int) out si s.1 s.2.1.1 s.2.1.2 s.2.2 (acc.map keyB) acc l) (resU out rs (goU s rc acc))
 | [], ci, acc, h, ha, hk => by
   have a := zZ h
   have ew : IntKind.i64.wrap ((si : Int) + 1) = ((si + 1 : Nat) : Int) := by rw [zj (by omega) (by omega)]; omega
   refine Ev.step (fun k => ZV k _ _ _ _ _ _ _ _ _ _ _ _ _ _) ?_
   simp only [a.g, cond_false, ew, hoi]
   unfold goU resU
   rw [if_pos ha]
   exact Ev.yes (by rw [zc]; simp; omega) (K acc ha hk)
 | c :: rc, ci, acc, h, ha, hk => by
   have a := zy h (by rw [zg]; omega)
   have hlt := a.lt
   have hco := hok c a.mem
   have hnl := Xg hco hs
   have hst : l.set (ci : Int).toNat c = l := by
    have := Y5 (d := (([], 0) : Scene)) hlt
    rw [a.gt] at this
    simpa using this
   refine Ev.step (fun k => ZV k _ _ _ _ _ _ _ _ _ _ _ _ _ _) ?_
   simp only [a.g, a.z, a.n, a.get, hst, cond_true]
   refine Ev.bind (ue hco hs) ?_
   unfold goU
   exact b9 h1n hn steps si l hl ci s out rs rc (zm c s) hnl.2
    (fun acc ha hk => ZP h1n hn steps h12 si hsi l hl hok s hs out hout hoi rs K rc (ci + 1) acc a.next ha hk)
    (zm c s) 0 acc rfl (fy hco hs) (by omega) hk (by omega)
theorem ZQ {n : Nat} (h1n : 1 ≤ n) (hn : n ≤ 12) (steps : List zT) (h12 : steps.length ≤ 12) : ∀ (rs : List zT) (si : Nat) (pre : List (List Scene)) (l : List Scene), steps.drop si = rs → (∀ s ∈ rs, yj (n : Int) s = true) → pre.length = si → l.length ≤ 3000 → SAll n l →
 Ev (fun k => gm k steps (steps.length : Int) (si : Int) (pre ++ [l])) (outU pre (levU rs l))
 | [], si, pre, l, h, hs, hp, hl, hok => by
   have a := zZ h
   refine Ev.step (fun k => ZW k _ _ _ _) ?_
   simp only [a.g, cond_false]
   exact Ev.some rfl
 | s :: rs, si, pre, l, h, hs, hp, hl, hok => by
   have a := zy h (by rw [zg]; omega)
   have hlt := a.lt
   have hso := hs s (by simp)
   have g1 : decide ((si : Int) < ((pre ++ [l]).length : Int)) = true := decide_eq_true (by simp; omega)
   have g2 : decide ((si : Int).toNat < (pre ++ [l]).length) = true := decide_eq_true (by simp; omega)
   have hg : (pre ++ [l]).getD (si : Int).toNat [] = l := by
    rw [Int.toNat_natCast, List.getD, ← hp, List.getElem?_append_right (Nat.le_refl _)]; simp
   have hoi : (pre ++ [l]).set si l = pre ++ [l] := by
    have h1 : si < (pre ++ [l]).length := by simp; omega
    have := Y5 (d := ([] : List Scene)) h1
    rw [show (pre ++ [l]).getD si [] = l by simpa using hg] at this
    exact this
   refine Ev.step (fun k => ZW k _ _ _ _) ?_
   simp only [a.g, a.z, a.get, g1, g2, hg, cond_true]
   simp only [Int.toNat_natCast]
   have := ZP h1n hn steps h12 si hlt l hl hok s hso (pre ++ [l]) (by simp [hp]) hoi rs (fun acc ha hk => ZQ h1n hn steps h12 rs (si + 1) (pre ++ [l]) acc a.next (fun q hq => hs q (by simp [hq])) (by simp [hp]) ha hk)
    l 0 [] rfl (by simp) (fun c hc => by cases hc)
   refine this.to ?_
   rw [Tv]
   unfold resU
   split
   ·cases levU rs (goU s l []) with
    | none => rfl
    | some L => simp [outU]
   ·rfl
theorem TC (t : Trick) (h : zi t = true) (a1 : t.1.length ≤ maxLen) (ai : Ins t.1) (a2 : t.2.1.length ≤ maxLen) : Ev (fun k => Uu k t) (outU [] (levU t.2.1 [(t.1, -1)])) := by
 obtain ⟨h1, h2, h3, h4⟩ := zu h
 have hs := yV h
 refine Ev.step (fun k => MN k t) (Ev.bind (jT t a1 ai a2) ?_)
 have e : ur t = (t.1, -1, true) := by unfold ur; rw [if_pos h]
 rw [e]
 exact ZQ h2 h3 t.2.1 h1 t.2.1 0 [] [(t.1, -1)] rfl hs.2 rfl (by simp) (Pz h)
theorem S7 (t : Trick) (a1 : t.1.length ≤ maxLen) (ai : Ins t.1) (a2 : t.2.1.length ≤ maxLen) : Ev (fun k => YP k t) (wc t) := by
 refine Ev.step (fun k => Rl k t) (Ev.bind (xr t a1 ai a2) (Ev.ite (fun h => Ev.some ?_) (fun h => ?_)))
 ·have : zi t = false := by simpa using h
  simp [wc, this]
 ·have e : zi t = true := by simpa using h
  obtain ⟨h1, h2⟩ := QC t.2.1 (yL t)
  have hst : (yL t).map Prod.fst = [(t.1, -1)] := rfl
  rw [hst] at h1 h2
  refine Ev.bind (TC t e a1 ai a2) ?_
  unfold wc jh
  rw [if_pos e]
  cases hL : levU t.2.1 [(t.1, -1)] with
  | none =>
    rw [hL] at h1
    cases hE : bL t.2.1 (yL t) with
    | some A => rw [hE] at h1; cases h1
    | none => exact Ev.yes rfl (Ev.pure _)
  | some L =>
    rw [hL] at h1
    cases hE : bL t.2.1 (yL t) with
    | none => rw [hE] at h1; cases h1
    | some A =>
      rw [hE] at h1
      have hlast : L.getLastD [] = A.map Prod.fst := Option.some.inj h1
      have hlen := h2 L hL
      have h12 := (zu e).1
      have ew : IntKind.i64.wrap ((L.length : Int) - 1) = ((L.length - 1 : Nat) : Int) := by rw [zj (by omega) (by omega)]; omega
      simp only [outU, List.nil_append, ew]
      refine Ev.no rfl (Ev.yes (by simp) (Ev.yes (by simp; omega) (Ev.yes (by simp; omega) (Ev.some ?_))))
      show (L.getD ((L.length - 1 : Nat) : Int).toNat [], true) = (A.map Prod.fst, true)
      rw [← hlast, Int.toNat_natCast]
      congr 1
      cases L with
      | nil => simp at hlen
      | cons a L => rw [List.getLastD_cons, List.getD, ← List.getLast?_eq_getElem?, List.getLast?_cons]; simp [List.getLastD_eq_getLast?]
end Qq
namespace Qq
open Go Go.Vt Pt
set_option linter.unusedVariables false
set_option linter.unusedSimpArgs false
set_option linter.unnecessarySimpa false
abbrev VdR : Type := Int × List Int × List Int × Int × Bool
def NE (o : Option Way) : VdR := match o with | some w => (2, w.2, w.1.1, w.1.2, true) | none => (1, [], [], 0, true)
def wt (t : Trick) : VdR :=
 if zi t then (match jh t with | none => (3, [], [], 0, true) | some A => NE (A.find? (fun w => !jK t w.1))) else (0, [], [], 0, false)
def LevOk (n : Nat) : List zT → List (List Scene) → Prop
 | [], [L] => SAll n L ∧ L.Nodup ∧ L.length ≤ 3000
 | s :: r, L :: L2 :: Ls => (SAll n L ∧ L.Nodup ∧ L.length ≤ 3000) ∧ yj (n : Int) s = true ∧ (∀ c ∈ L, ∀ d ∈ zm c s, d ∈ L2) ∧ LevOk n r (L2 :: Ls)
 | _, _ => False
theorem Hf {n : Nat} : ∀ (r : List zT) (l : List Scene) (Ls : List (List Scene)), (∀ s ∈ r, yj (n : Int) s = true) → SAll n l → l.Nodup → l.length ≤ 3000 → levU r l = some Ls → LevOk n r Ls ∧ ∃ q, Ls = l :: q
 | [], l, Ls, _, ho, hn, hl, h => by cases h; exact ⟨⟨ho, hn, hl⟩, _, rfl⟩
 | s :: r, l, Ls, hs, ho, hn, hl, h => by
   rw [Tv] at h
   split at h
   ·rename_i hc
    obtain ⟨L', hL', rfl⟩ := Option.map_eq_some_iff.1 h
    have ho2 : SAll n (goU s l []) := fun d hd => by
     rw [MU] at hd
     rcases hd with ⟨c, h1, h2⟩ | hd
     ·exact fy (ho c h1) (hs s (by simp)) d h2
     ·cases hd
    obtain ⟨h1, q, rfl⟩ := Hf r _ L' (fun u hu => hs u (by simp [hu])) ho2 (NC s l [] List.nodup_nil) hc hL'
    exact ⟨⟨⟨ho, hn, hl⟩, hs s (by simp), fun c hcl d hd => (MU s d l []).2 (.inl ⟨c, hcl, hd⟩), h1⟩, _, rfl⟩
   ·cases h
theorem LevOk.len {n : Nat} : ∀ {r : List zT} {Ls : List (List Scene)}, LevOk n r Ls → Ls.length = r.length + 1
 | [], [L], _ => rfl
 | s :: r, L :: L2 :: Ls, h => by have := LevOk.len h.2.2.2; simp at this ⊢; omega
 | [], [], h => h.elim
 | [], _ :: _ :: _, h => h.elim
 | _ :: _, [], h => h.elim
 | _ :: _, [_], h => h.elim
def rowM (bad : Scene → Bool) : List zT → List (List Scene) → List (Option (List ByteArray))
 | r, L :: Ls => some ((L.filter (canF bad r)).map keyB) :: rowM bad (r.drop 1) Ls
 | _, [] => []
theorem Ur (bad : Scene → Bool) : ∀ (r : List zT) (Ls : List (List Scene)), (rowM bad r Ls).length = Ls.length
 | r, [] => rfl
 | r, L :: Ls => by unfold rowM; rw [List.length_cons, Ur, List.length_cons]
theorem Eo {n : Nat} (h1 : 1 ≤ n) {l : List Scene} (hl : SAll n l) {x : Scene} (hx : SceneOk n x) : setHas (some (l.map keyB)) (keyB x) = decide (x ∈ l) :=
 Tq (fun c hc => RR h1 (hl c hc)) (RR h1 hx)
theorem Hl {n : Nat} (hn : n ≤ 12) {x : Scene} (hx : SceneOk n x) : Ev (fun k => cA k x) (keyB x) :=
 RZ x (by rw [hx.len]; exact hn) (zL hx.ok) (by have := hx.n0; have := hx.n12; unfold In; omega)
def fA (M : List (Option (List ByteArray))) (i : Nat) (x : Scene) : Bool := setHas (M.getD (i + 1) none) (keyB x)
theorem NG {n : Nat} (hn : n ≤ 12) {x : Scene} (hx : SceneOk n x) (M : List (Option (List ByteArray))) (i : Nat) (hi : i + 1 < M.length) (hM : M.length ≤ 3000) : Ev (fun k => YF k (x, M, (i : Int))) (fA M i x) := by
 have ew : IntKind.i64.wrap ((i : Int) + 1) = ((i + 1 : Nat) : Int) := by rw [zj (by omega) (by omega)]; omega
 refine Ev.step (fun k => S9 k x M (i : Int)) ?_
 rw [ew]
 exact Ev.yes (decide_eq_true (by omega)) (Ev.yes (decide_eq_true (by omega)) (Ev.bind (Hl hn hx) (Ev.some rfl)))
theorem Jp {n : Nat} (hn : n ≤ 12) {x : Scene} (hx : SceneOk n x) (M : List (Option (List ByteArray))) (i : Nat) (hi : i + 1 < M.length) (hM : M.length ≤ 3000) : Ev (fun k => fI k (x, M, (i : Int))) (fA M i x) := by
 have ew : IntKind.i64.wrap ((i : Int) + 1) = ((i + 1 : Nat) : Int) := by rw [zj (by omega) (by omega)]; omega
 refine Ev.step (fun k => WV k x M (i : Int)) ?_
 rw [ew]
 exact Ev.yes (decide_eq_true (by omega)) (Ev.yes (decide_eq_true (by omega)) (Ev.bind (Hl hn hx) (Ev.some rfl)))
def idxF (F : Scene → Bool) (i : Nat) (r : List Scene) : Int := if r.any F then ((i + r.findIdx F : Nat) : Int) else -1
theorem TE {F : Scene → Bool} {i : Nat} {x : Scene} {r : List Scene} : idxF F i (x :: r) = if F x then (i : Int) else idxF F (i + 1) r := by
 unfold idxF
 rw [List.any_cons, List.findIdx_cons]
 cases F x with
 | true => simp
 | false =>
   simp only [Bool.false_or, cond_false]
   have : i + (r.findIdx F + 1) = i + 1 + r.findIdx F := by omega
   rw [this]; rfl
theorem Nh {n : Nat} (hn : n ≤ 12) (l : List Scene) (hl : l.length ≤ 16384) (ho : SAll n l) (M : List (Option (List ByteArray))) (j : Nat) (hj : j + 1 < M.length) (hM : M.length ≤ 3000) : ∀ (r : List Scene) (i : Nat), l.drop i = r →
 Ev (fun k => zz k l M (j : Int) (l.length : Int) (i : Int)) (idxF (fA M j) i r)
 | [], i, h => Ev.step (fun k => yk k _ _ _ _ _) (Ev.no (zZ h).g (Ev.some rfl))
 | x :: r, i, h => by
   have a := zy h (by rw [zg]; omega)
   refine Ev.step (fun k => yk k _ _ _ _ _) ?_
   simp only [a.g, a.z, a.get, a.w, cond_true]
   rw [TE]
   refine Ev.bind (NG hn (ho x a.mem) M j hj hM) (Ev.ite (fun h1 => Ev.some ?_) (fun h1 => ?_))
   ·rw [if_pos h1]
   ·rw [if_neg (by rw [h1]; simp)]; exact Nh hn l hl ho M j hj hM r (i + 1) a.next
theorem Ni {n : Nat} (hn : n ≤ 12) (l : List Scene) (hl : l.length ≤ 16384) (ho : SAll n l) (M : List (Option (List ByteArray))) (j : Nat) (hj : j + 1 < M.length) (hM : M.length ≤ 3000) : ∀ (r : List Scene) (i : Nat), l.drop i = r →
 Ev (fun k => zp k l M (j : Int) (l.length : Int) (i : Int)) (idxF (fA M j) i r)
 | [], i, h => Ev.step (fun k => z7 k _ _ _ _ _) (Ev.no (zZ h).g (Ev.some rfl))
 | x :: r, i, h => by
   have a := zy h (by rw [zg]; omega)
   refine Ev.step (fun k => z7 k _ _ _ _ _) ?_
   simp only [a.g, a.z, a.get, a.w, cond_true]
   rw [TE]
   refine Ev.bind (Jp hn (ho x a.mem) M j hj hM) (Ev.ite (fun h1 => Ev.some ?_) (fun h1 => ?_))
   ·rw [if_pos h1]
   ·rw [if_neg (by rw [h1]; simp)]; exact Ni hn l hl ho M j hj hM r (i + 1) a.next
theorem Ht (F : Scene → Bool) (i : Nat) (r : List Scene) : decide (idxF F i r ≥ 0) = r.any F := by
 unfold idxF
 cases r.any F with
 | true => simp; omega
 | false => simp
theorem Jl {n : Nat} (hn : n ≤ 12) (l : List Scene) (hl : l.length ≤ 16384) (ho : SAll n l) (M : List (Option (List ByteArray))) (j : Nat) (hj : j + 1 < M.length) (hM : M.length ≤ 3000) :
 Ev (fun k => zP k (l, (M, (j : Int)))) (l.any (fA M j)) := by
 refine Ev.step (fun k => xF k l (M, (j : Int))) (Ev.bind (Ev.step (fun k => x6 k l (M, (j : Int))) (Nh hn l hl ho M j hj hM l 0 rfl)) (Ev.some ?_))
 exact Ht _ _ _
end Qq
namespace Qq
open Go Go.Vt Pt
set_option linter.unusedVariables false
set_option linter.unusedSimpArgs false
set_option linter.unnecessarySimpa false
def zn (t : Trick) (c : Scene) : Bool := !eK t c
theorem LevOk.drop {n : Nat} : ∀ {r : List zT} {Ls : List (List Scene)} (i : Nat), i ≤ r.length → LevOk n r Ls → LevOk n (r.drop i) (Ls.drop i)
 | r, Ls, 0, _, h => h
 | s :: r, L :: L2 :: Ls, i + 1, hi, h => LevOk.drop (r := r) (Ls := L2 :: Ls) i (by simpa using hi) h.2.2.2
 | [], _, i + 1, hi, _ => by simp at hi
 | _ :: _, [], _, _, h => h.elim
 | _ :: _, [_], _, _, h => h.elim
theorem LevOk.head {n : Nat} {r : List zT} {L : List Scene} {Ls : List (List Scene)} (h : LevOk n r (L :: Ls)) : SAll n L ∧ L.Nodup ∧ L.length ≤ 3000 := by
 cases r with
 | nil => cases Ls with
   | nil => exact h
   | cons => exact h.elim
 | cons s r => cases Ls with
   | nil => exact h.elim
   | cons => exact h.1
theorem PM (bad : Scene → Bool) : ∀ (r : List zT) (Ls : List (List Scene)) (i : Nat), (rowM bad r Ls).drop i = rowM bad (r.drop i) (Ls.drop i)
 | r, Ls, 0 => rfl
 | r, [], i + 1 => by simp [rowM]
 | r, L :: Ls, i + 1 => by
   show (rowM bad (r.drop 1) Ls).drop i = rowM bad (r.drop (i + 1)) (Ls.drop i)
   rw [PM bad (r.drop 1) Ls i, List.drop_drop, Nat.add_comm 1 i]
theorem LV {n : Nat} (h1 : 1 ≤ n) (bad : Scene → Bool) {s : zT} {r : List zT} {L L2 : List Scene} {Ls : List (List Scene)} (h : LevOk n (s :: r) (L :: L2 :: Ls)) {M : List (Option (List ByteArray))} {i : Nat}
 (hM : M.drop (i + 1) = rowM bad r (L2 :: Ls)) {c : Scene} (hc : c ∈ L) : ∀ x ∈ zm c s, fA M i x = canF bad r x := by
 intro x hx
 have hx2 := h.2.2.1 c hc x hx
 have ho := (LevOk.head h.2.2.2).1
 have hg : M.getD (i + 1) none = some ((L2.filter (canF bad r)).map keyB) := by
  have : M[i + 1]? = some (some ((L2.filter (canF bad r)).map keyB)) := by
   have h0 : (M.drop (i + 1))[0]? = M[i + 1]? := by rw [List.getElem?_drop]
   rw [← h0, hM]; rfl
  rw [List.getD, this]; rfl
 unfold fA
 rw [hg, Eo h1 (fun c hc => ho c (List.mem_filter.1 hc).1) (ho x hx2), Bool.eq_iff_iff, decide_eq_true_eq, List.mem_filter]
 exact ⟨fun h => h.2, fun h => ⟨hx2, h⟩⟩
theorem Sz {α : Type} {f g : α → Bool} : ∀ {l : List α}, (∀ x ∈ l, f x = g x) → l.any f = l.any g
 | [], _ => rfl
 | x :: l, h => by rw [List.any_cons, List.any_cons, h x (by simp), Sz (fun y hy => h y (by simp [hy]))]
theorem R4 {α : Type} {f g : α → Bool} : ∀ {l : List α}, (∀ x ∈ l, f x = g x) → l.findIdx f = l.findIdx g
 | [], _ => rfl
 | x :: l, h => by rw [List.findIdx_cons, List.findIdx_cons, h x (by simp), R4 (fun y hy => h y (by simp [hy]))]
section
variable (t : Trick)
theorem F9 {n : Nat} (h1 : 1 ≤ n) {pre post : List (Option (List ByteArray))} {done : List Scene} {c : Scene} (hd : SAll n done) (hc : SceneOk n c) (hn : c ∉ done) (F : Scene → Bool) :
 (bif cj (((pre ++ some ((done.filter F).map keyB) :: post).getD pre.length none).getD []) (keyB c) then (((pre ++ some ((done.filter F).map keyB) :: post).getD pre.length none).getD []) else (((pre ++ some ((done.filter F).map keyB) :: post).getD pre.length none).getD []) ++ [keyB c]) = (done.filter F).map keyB ++ [keyB c] := by
 have hg : ((pre ++ some ((done.filter F).map keyB) :: post).getD pre.length none) = some ((done.filter F).map keyB) := by simp [List.getD]
 rw [hg]
 show (bif cj ((done.filter F).map keyB) (keyB c) then _ else _) = _
 have hs : SAll n (done.filter F) := fun d hd2 => hd d (List.mem_filter.1 hd2).1
 rw [Tq (fun d hd2 => RR h1 (hs d hd2)) (RR h1 hc), decide_eq_false (fun h => hn (List.mem_filter.1 h).1)]
 rfl
end
theorem Q5 (t : Trick) {n : Nat} (h1n : 1 ≤ n) (hn : n ≤ 12) (a1 : t.1.length ≤ maxLen) (ai : Ins t.1) (a2 : t.2.1.length ≤ 12) (hlen : n = t.1.length) (V : List (List Scene)) (hV : LevOk n t.2.1 V) (i : Nat) (L : List Scene) (Lr : List (List Scene)) (hL : V.drop i = L :: Lr)
 (K : Ev (fun k => ja k V t.1 t.2.1 t.2.2.1 t.2.2.2.1 t.2.2.2.2 (List.replicate i none ++ rowM (zn t) (t.2.1.drop i) (L :: Lr)) ((i : Int) - 1)) (rowM (zn t) t.2.1 V)) :
 ∀ (r : List Scene) (j : Nat) (done : List Scene), L.drop j = r → L.take j = done →
   Ev (fun k => xq k V L (L.length : Int) (j : Int) t.1 t.2.1 t.2.2.1 t.2.2.2.1 t.2.2.2.2 (List.replicate i none ++ some ((done.filter (canF (zn t) (t.2.1.drop i))).map keyB) :: rowM (zn t) (t.2.1.drop (i + 1)) Lr) (i : Int)) (rowM (zn t) t.2.1 V) := by
 have hVl := hV.len
 have hi : i < V.length := by
  rcases Nat.lt_or_ge i V.length with h | h
  ·exact h
  ·rw [List.drop_of_length_le h] at hL; cases hL
 have hdr := LevOk.drop i (by omega) hV
 rw [hL] at hdr
 obtain ⟨ho, hnd, hl3⟩ := hdr.head
 have hLr : Lr = V.drop (i + 1) := by rw [← List.drop_drop, hL]; rfl
 have hMl : ∀ x : Option (List ByteArray), (List.replicate i none ++ x :: rowM (zn t) (t.2.1.drop (i + 1)) Lr).length = V.length := fun x => by
  rw [List.length_append, List.length_replicate, List.length_cons, Ur, hLr, List.length_drop]; omega
 have hwl : IntKind.i64.wrap ((V.length : Int) - 1) = (V.length : Int) - 1 := zj (by omega) (by omega)
 intro r
 induction r with
 | nil =>
   intro j done h hd
   have a := zZ h
   have hall : done = L := by rw [← hd]; exact List.take_of_length_le a.ge
   refine Ev.step (fun k => ah k _ _ _ _ _ _ _ _ _ _ _) (Ev.no a.g ?_)
   rw [show IntKind.i64.wrap ((i : Int) - (1 : Int)) = (i : Int) - 1 from zj (by omega) (by omega), hall]
   have e : rowM (zn t) (t.2.1.drop i) (L :: Lr) = some ((L.filter (canF (zn t) (t.2.1.drop i))).map keyB) :: rowM (zn t) (t.2.1.drop (i + 1)) Lr := by
    show _ :: rowM (zn t) ((t.2.1.drop i).drop 1) Lr = _
    rw [List.drop_drop]
   rw [e] at K
   exact K
 | cons c r ih =>
   intro j done h hd
   have a := zy h (by rw [zg]; omega)
   have hlt := a.lt
   have hc := ho c a.mem
   have hg : L[j] = c := by have := a.gt (([], 0) : Scene); simpa [List.getD, hlt] using this
   have hdo : SAll n done := fun d hd2 => ho d (List.mem_of_mem_take (hd ▸ hd2))
   have hcn : c ∉ done := by
    intro hm
    rw [← hd] at hm
    obtain ⟨q, hq, hq2⟩ := List.mem_take_iff_getElem.1 hm
    have hql : q < j := by omega
    exact List.pairwise_iff_getElem.1 hnd q j (by omega) hlt hql (hq2.trans hg.symm)
   have hnext : L.take (j + 1) = done ++ [c] := by rw [List.take_add_one, hd, List.getElem?_eq_getElem hlt, hg]; rfl
   have ih2 := ih (j + 1) (done ++ [c]) a.next hnext
   have lenI : ((List.replicate i none : List (Option (List ByteArray))).length) = i := List.length_replicate
   have pk := F9 h1n (pre := List.replicate i none) (post := rowM (zn t) (t.2.1.drop (i + 1)) Lr) hdo hc hcn (canF (zn t) (t.2.1.drop i))
   rw [lenI] at pk
   have hset : ∀ x y : Option (List ByteArray), (List.replicate i none ++ x :: rowM (zn t) (t.2.1.drop (i + 1)) Lr).set i y = List.replicate i none ++ y :: rowM (zn t) (t.2.1.drop (i + 1)) Lr := fun x y => by
    rw [List.set_append_right _ _ (by simp)]; simp
   have hgs : ∀ l : List ByteArray, ((List.replicate i none ++ some l :: rowM (zn t) (t.2.1.drop (i + 1)) Lr).getD i none).isSome = true := fun l => by simp [List.getD]
   have add : canF (zn t) (t.2.1.drop i) c = true → Ev (fun k => (cA k c).bind fun y => xq k V L (L.length : Int) ((j + 1 : Nat) : Int) t.1 t.2.1 t.2.2.1 t.2.2.2.1 t.2.2.2.2 ((List.replicate i none ++ some ((done.filter (canF (zn t) (t.2.1.drop i))).map keyB) :: rowM (zn t) (t.2.1.drop (i + 1)) Lr).set i (some (bif cj (((List.replicate i none ++ some ((done.filter (canF (zn t) (t.2.1.drop i))).map keyB) :: rowM (zn t) (t.2.1.drop (i + 1)) Lr).getD i none).getD []) y then (((List.replicate i none ++ some ((done.filter (canF (zn t) (t.2.1.drop i))).map keyB) :: rowM (zn t) (t.2.1.drop (i + 1)) Lr).getD i none).getD []) else (((List.replicate i none ++ some ((done.filter (canF (zn t) (t.2.1.drop i))).map keyB) :: rowM (zn t) (t.2.1.drop (i + 1)) Lr).getD i none).getD []) ++ [y]))) (i : Int)) (rowM (zn t) t.2.1 V) := fun hF => by
    refine Ev.bind (Hl hn hc) ?_
    rw [pk, hset]
    have : (done ++ [c]).filter (canF (zn t) (t.2.1.drop i)) = done.filter (canF (zn t) (t.2.1.drop i)) ++ [c] := by rw [List.filter_append, List.filter_cons_of_pos hF]; rfl
    rw [this, List.map_append] at ih2
    exact ih2
   have skip : canF (zn t) (t.2.1.drop i) c = false → Ev (fun k => xq k V L (L.length : Int) ((j + 1 : Nat) : Int) t.1 t.2.1 t.2.2.1 t.2.2.2.1 t.2.2.2.2 (List.replicate i none ++ some ((done.filter (canF (zn t) (t.2.1.drop i))).map keyB) :: rowM (zn t) (t.2.1.drop (i + 1)) Lr) (i : Int)) (rowM (zn t) t.2.1 V) := fun hF => by
    have : (done ++ [c]).filter (canF (zn t) (t.2.1.drop i)) = done.filter (canF (zn t) (t.2.1.drop i)) := by rw [List.filter_append, List.filter_cons_of_neg (by rw [hF]; simp)]; simp
    rw [this] at ih2
    exact ih2
   have hml := hMl (some ((done.filter (canF (zn t) (t.2.1.drop i))).map keyB))
   refine Ev.step (fun k => ah k _ _ _ _ _ _ _ _ _ _ _) ?_
   simp only [a.g, a.z, a.n, a.get, a.gt, a.w, hwl, cond_true, Int.toNat_natCast]
   have gets : ∀ {f : Nat → Option (List (Option (List ByteArray)))} {z : List (Option (List ByteArray))}, Ev f z → Ev (fun k => bif decide ((0 : Int) ≤ (i : Int)) then bif decide ((i : Int) < ((List.replicate i none ++ some ((done.filter (canF (zn t) (t.2.1.drop i))).map keyB) :: rowM (zn t) (t.2.1.drop (i + 1)) Lr).length : Int)) then bif decide (i < (List.replicate i none ++ some ((done.filter (canF (zn t) (t.2.1.drop i))).map keyB) :: rowM (zn t) (t.2.1.drop (i + 1)) Lr).length) then bif ((List.replicate i none ++ some ((done.filter (canF (zn t) (t.2.1.drop i))).map keyB) :: rowM (zn t) (t.2.1.drop (i + 1)) Lr).getD i none).isSome then bif decide ((0 : Int) ≤ (i : Int)) then bif decide ((i : Int) < ((List.replicate i none ++ some ((done.filter (canF (zn t) (t.2.1.drop i))).map keyB) :: rowM (zn t) (t.2.1.drop (i + 1)) Lr).length : Int)) then bif Nat.beq i i then f k else none else none else none else none else none else none else none) z := fun h =>
    Ev.yes (by simp) (Ev.yes (by rw [hml]; simp; omega) (Ev.yes (by rw [hml]; simp; omega) (Ev.yes (hgs _) (Ev.yes (by simp) (Ev.yes (by rw [hml]; simp; omega) (Ev.yes (by simp) h))))))
   refine Ev.ite (fun hl => ?_) (fun hl => ?_)
   ·have hil : i + 1 = V.length := by simp at hl; omega
    have hdi : t.2.1.drop i = [] := by rw [List.drop_eq_nil_iff]; omega
    have hF : canF (zn t) (t.2.1.drop i) c = !eK t c := by rw [hdi]; rfl
    refine Ev.bind (aL t c a1 ai (by rw [zg]; omega) (by rw [hc.len, zg]; omega) (zL hc.ok)) (Ev.ite (fun hb => ?_) (fun hb => ?_))
    ·exact gets (add (hF.trans hb))
    ·exact skip (hF.trans hb)
   ·have hil : i + 1 < V.length := by
     have : ¬ (i : Int) = (V.length : Int) - 1 := by simpa using hl
     omega
    have his : i < t.2.1.length := by omega
    cases hLr2 : Lr with
    | nil => rw [hLr] at hLr2; have := List.drop_eq_nil_iff.1 hLr2; omega
    | cons L2 Lq =>
      have hds : t.2.1.drop i = t.2.1[i] :: t.2.1.drop (i + 1) := List.drop_eq_getElem_cons his
      have hgd : ∀ d, t.2.1.getD i d = t.2.1[i] := fun d => by simp [List.getD, his]
      rw [hLr2, hds] at hdr
      have hso := hdr.2.1
      have hno := fy hc hso
      have hnl := (Xg hc hso).2
      have hany := LV h1n (zn t) hdr (M := List.replicate i none ++ some ((done.filter (canF (zn t) (t.2.1.drop i))).map keyB) :: rowM (zn t) (t.2.1.drop (i + 1)) Lr) (i := i) (by
       rw [List.drop_append, List.length_replicate, List.drop_of_length_le (by simp), show i + 1 - i = 1 by omega, hLr2]; rfl) a.mem
      have hF : canF (zn t) (t.2.1.drop i) c = (zm c t.2.1[i]).any (fA (List.replicate i none ++ some ((done.filter (canF (zn t) (t.2.1.drop i))).map keyB) :: rowM (zn t) (t.2.1.drop (i + 1)) Lr) i) := by
       conv => lhs; rw [hds]
       exact (Sz hany).symm
      refine Ev.yes (by simp) (Ev.yes (by simp; omega) ?_)
      simp only [hgd]
      refine Ev.bind (ue hc hso) (Ev.bind (Jl hn _ (by omega) hno _ i (by rw [← hLr2, hml]; omega) (by rw [← hLr2, hml]; omega)) ?_)
      rw [← hLr2]
      refine Ev.ite (fun hb => ?_) (fun hb => ?_)
      ·exact gets (add (hF.trans hb))
      ·exact skip (hF.trans hb)
theorem XT (t : Trick) {n : Nat} (h1n : 1 ≤ n) (hn : n ≤ 12) (a1 : t.1.length ≤ maxLen) (ai : Ins t.1) (a2 : t.2.1.length ≤ 12) (hlen : n = t.1.length) (V : List (List Scene)) (hV : LevOk n t.2.1 V) : ∀ (i : Nat), i ≤ V.length →
 Ev (fun k => ja k V t.1 t.2.1 t.2.2.1 t.2.2.2.1 t.2.2.2.2 (List.replicate i none ++ rowM (zn t) (t.2.1.drop i) (V.drop i)) ((i : Int) - 1)) (rowM (zn t) t.2.1 V)
 | 0, _ => by
   refine Ev.step (fun k => aj k _ _ _ _ _ _ _ _) (Ev.no (decide_eq_false (by omega)) (Ev.some ?_))
   simp
 | i + 1, hi => by
   have ih := XT t h1n hn a1 ai a2 hlen V hV i (by omega)
   have hVl := hV.len
   cases hL : V.drop i with
   | nil => rw [List.drop_eq_nil_iff] at hL; omega
   | cons L Lr =>
     rw [hL] at ih
     have hLr : V.drop (i + 1) = Lr := by rw [← List.drop_drop, hL]; rfl
     have hVi : V[i]'(by omega) = L := by
      have := List.drop_eq_getElem_cons (l := V) (i := i) (by omega)
      rw [hL] at this
      exact (List.cons.inj this).1.symm
     have hg : V.getD i [] = L := by rw [List.getD, List.getElem?_eq_getElem (by omega), hVi]; rfl
     have key := Q5 t h1n hn a1 ai a2 hlen V hV i L Lr hL ih L 0 [] rfl rfl
     have hxl : (List.replicate (i + 1) (none : Option (List ByteArray)) ++ rowM (zn t) (t.2.1.drop (i + 1)) (V.drop (i + 1))).length = V.length := by
      rw [List.length_append, List.length_replicate, Ur, List.length_drop]; omega
     have hset : (List.replicate (i + 1) (none : Option (List ByteArray)) ++ rowM (zn t) (t.2.1.drop (i + 1)) (V.drop (i + 1))).set i (some []) = List.replicate i none ++ some ((([] : List Scene).filter (canF (zn t) (t.2.1.drop i))).map keyB) :: rowM (zn t) (t.2.1.drop (i + 1)) Lr := by
      rw [hLr, List.replicate_succ', List.append_assoc, List.set_append_right _ _ (by simp)]
      simp
     have ei : (((i + 1 : Nat) : Int) - 1) = (i : Int) := by omega
     rw [ei]
     refine Ev.step (fun k => aj k _ _ _ _ _ _ _ _) ?_
     simp only [Int.toNat_natCast, hset, hg]
     exact Ev.yes (decide_eq_true (by omega)) (Ev.yes (decide_eq_true (by omega)) (Ev.yes (decide_eq_true (by omega)) (Ev.yes (decide_eq_true (by omega)) (Ev.yes (decide_eq_true (by omega)) (Ev.yes (decide_eq_true (by omega)) key)))))
theorem Nq (t : Trick) {n : Nat} (h1n : 1 ≤ n) (hn : n ≤ 12) (a1 : t.1.length ≤ maxLen) (ai : Ins t.1) (a2 : t.2.1.length ≤ 12) (hlen : n = t.1.length) (V : List (List Scene)) (hV : LevOk n t.2.1 V) : Ev (fun k => TK k (t, V)) (rowM (zn t) t.2.1 V) := by
 have hVl := hV.len
 have h := XT t h1n hn a1 ai a2 hlen V hV V.length (Nat.le_refl _)
 have e : List.replicate V.length (none : Option (List ByteArray)) ++ rowM (zn t) (t.2.1.drop V.length) (V.drop V.length) = List.replicate V.length none := by
  rw [List.drop_of_length_le (Nat.le_refl V.length)]; simp [rowM]
 rw [e] at h
 refine Ev.step (fun k => Nr k t V) (Ev.yes (by simp) (Ev.yes (decide_eq_true (by rw [zc]; omega)) (Ev.yes (by simp) ?_)))
 rw [zj (by omega) (by omega), Int.toNat_natCast]
 exact h
theorem K0 {F G : Scene → Bool} {i : Nat} {r : List Scene} (h : ∀ x ∈ r, F x = G x) : idxF F i r = idxF G i r := by unfold idxF; rw [Sz h, R4 h]
theorem VQ (t : Trick) {n : Nat} (h1n : 1 ≤ n) (hn : n ≤ 12) (a2 : t.2.1.length ≤ 12) (V : List (List Scene)) (hV : LevOk n t.2.1 V) (z1 z2 z3 : Int) : ∀ (r : List zT) (i : Nat) (c : Scene) (ps : List Int), t.2.1.drop i = r → (∃ L Lr, V.drop i = L :: Lr ∧ c ∈ L) → canF (zn t) r c = true → ps.length ≤ i →
 Ev (fun k => wa k t.2.1 (t.2.1.length : Int) (i : Int) z1 z2 c.1 c.2 (rowM (zn t) t.2.1 V) 2 z3 ps) (NE (some (firstW (zn t) r (c, ps))))
 | [], i, c, ps, h, hc, hF, hp => by
   have a := zZ h
   obtain ⟨L, Lr, hL, hcL⟩ := hc
   have hVl := hV.len
   have hi : i < V.length := by
    rcases Nat.lt_or_ge i V.length with h | h
    ·exact h
    ·rw [List.drop_of_length_le h] at hL; cases hL
   have hdr := LevOk.drop i (by omega) hV
   rw [hL] at hdr
   have hco := hdr.head.1 c hcL
   refine Ev.step (fun k => gJ k _ _ _ _ _ _ _ _ _ _ _) (Ev.no a.g (Ev.bind (Ev.step (fun k => Z0 k (c.1, c.2)) (Ev.bind (yc c.1 (by rw [hco.len]; omega)) (Ev.pure _))) (Ev.some rfl)))
 | s :: r, i, c, ps, h, hc, hF, hp => by
   have a := zy h (by rw [zg]; omega)
   have hlt := a.lt
   obtain ⟨L, Lr, hL, hcL⟩ := hc
   have hVl := hV.len
   have hdr := LevOk.drop i (by omega) hV
   rw [hL, h] at hdr
   cases Lr with
   | nil => exact hdr.elim
   | cons L2 Lq =>
     have hco := hdr.head.1 c hcL
     have hso := hdr.2.1
     have hno := fy hco hso
     have hnl := (Xg hco hso).2
     have hV2 : V.drop (i + 1) = L2 :: Lq := by rw [← List.drop_drop, hL]; rfl
     have hany := LV h1n (zn t) hdr (M := rowM (zn t) t.2.1 V) (i := i) (by rw [PM, hV2, a.next]) hcL
     have hml := Ur (zn t) t.2.1 V
     have hidx : idxF (fA (rowM (zn t) t.2.1 V) i) 0 (zm c s) = (((zm c s).findIdx (canF (zn t) r) : Nat) : Int) := by
      rw [K0 hany]
      unfold idxF
      rw [if_pos (show (zm c s).any (canF (zn t) r) = true from hF), Nat.zero_add]
     obtain ⟨x, hx, hxF⟩ := List.any_eq_true.1 hF
     have hil : (zm c s).findIdx (canF (zn t) r) < (zm c s).length := List.findIdx_lt_length_of_exists ⟨x, hx, hxF⟩
     have hilI : (((zm c s).findIdx (canF (zn t) r) : Nat) : Int) < ((zm c s).length : Int) := by omega
     have hget : (zm c s).getD ((zm c s).findIdx (canF (zn t) r)) ([], 0) = (zm c s)[(zm c s).findIdx (canF (zn t) r)] := by rw [List.getD, List.getElem?_eq_getElem hil]; rfl
     have hd2 : (zm c s).getD ((zm c s).findIdx (canF (zn t) r)) ([], 0) ∈ zm c s := by rw [hget]; exact List.getElem_mem hil
     have hdF : canF (zn t) r ((zm c s).getD ((zm c s).findIdx (canF (zn t) r)) ([], 0)) = true := by rw [hget]; exact List.findIdx_getElem (w := hil)
     have ih := fun ps hps => VQ t h1n hn a2 V hV z1 z2 z3 r (i + 1) ((zm c s).getD ((zm c s).findIdx (canF (zn t) r)) ([], 0)) ps a.next ⟨L2, Lq, hV2, hdr.2.2.1 c hcL _ hd2⟩ hdF hps
     refine Ev.step (fun k => gJ k _ _ _ _ _ _ _ _ _ _ _) ?_
     simp only [a.g, a.z, a.get, a.w, cond_true]
     have eidx : Ev (fun k => zO k (zm c s, (rowM (zn t) t.2.1 V, (i : Int)))) (idxF (fA (rowM (zn t) t.2.1 V) i) 0 (zm c s)) :=
      Ev.step (fun k => xD k _ _) (Ni hn (zm c s) (by omega) hno (rowM (zn t) t.2.1 V) i (by rw [hml]; omega) (by rw [hml]; omega) (zm c s) 0 rfl)
     rw [hidx] at eidx
     refine Ev.bind (ue hco hso) (Ev.bind eidx ?_)
     simp only [Int.toNat_natCast]
     refine Ev.ite (fun h2 => ?_) (fun h2 => ?_)
     ·have e2 : s.1 = 2 := by simpa using h2
      refine Ev.yes (decide_eq_true (by rw [zc]; simp; omega)) (Ev.yes (decide_eq_true (by omega)) (Ev.yes (decide_eq_true hilI) (Ev.yes (decide_eq_true hil) ?_)))
      have := ih (ps ++ [(((zm c s).findIdx (canF (zn t) r) : Nat) : Int)]) (by simp; omega)
      have es : Qr (canF (zn t) r) s (c, ps) = ((zm c s).getD ((zm c s).findIdx (canF (zn t) r)) ([], 0), ps ++ [(((zm c s).findIdx (canF (zn t) r) : Nat) : Int)]) := by
       unfold Qr
       dsimp only
       rw [if_pos e2]
      show Ev _ (NE (some (firstW (zn t) r (Qr (canF (zn t) r) s (c, ps)))))
      rw [es]
      exact this
     ·have e2 : ¬ s.1 = 2 := by simpa using h2
      refine Ev.yes (decide_eq_true (by omega)) (Ev.yes (decide_eq_true hilI) (Ev.yes (decide_eq_true hil) ?_))
      have := ih ps (by omega)
      have es : Qr (canF (zn t) r) s (c, ps) = ((zm c s).getD ((zm c s).findIdx (canF (zn t) r)) ([], 0), ps) := by
       unfold Qr
       dsimp only
       rw [if_neg e2]
      show Ev _ (NE (some (firstW (zn t) r (Qr (canF (zn t) r) s (c, ps)))))
      rw [es]
      exact this
theorem Nj (t : Trick) {n : Nat} (hn : n ≤ 12) (a1 : t.1.length ≤ maxLen) (ai : Ins t.1) (a2 : t.2.1.length ≤ 12) (l : List Scene) (hl : l.length ≤ 16384) (ho : SAll n l) : ∀ (r : List Scene) (i : Nat), l.drop i = r →
 Ev (fun k => zq k l t.1 t.2.1 t.2.2.1 t.2.2.2.1 t.2.2.2.2 (l.length : Int) (i : Int)) (idxF (zn t) i r)
 | [], i, h => Ev.step (fun k => z8 k _ _ _ _ _ _ _ _) (Ev.no (zZ h).g (Ev.some rfl))
 | x :: r, i, h => by
   have a := zy h (by rw [zg]; omega)
   have hx := ho x a.mem
   refine Ev.step (fun k => z8 k _ _ _ _ _ _ _ _) ?_
   simp only [a.g, a.z, a.get, a.w, cond_true]
   rw [TE]
   have e1 : Ev (fun k => fJ k (x, t)) (zn t x) := Ev.step (fun k => WW k x t) (Ev.bind (aL t x a1 ai (by rw [zg]; omega) (by rw [hx.len, zg]; omega) (zL hx.ok)) (Ev.some rfl))
   refine Ev.bind e1 (Ev.ite (fun h1 => Ev.some ?_) (fun h1 => ?_))
   ·rw [if_pos h1]
   ·rw [if_neg (by rw [h1]; simp)]; exact Nj t hn a1 ai a2 l hl ho r (i + 1) a.next
theorem aO (t : Trick) (a1 : t.1.length ≤ maxLen) (ai : Ins t.1) (a2 : t.2.1.length ≤ maxLen) : Ev (fun k => fm k t) (wt t) := by
 refine Ev.step (fun k => Sa k t) (Ev.bind (xr t a1 ai a2) (Ev.ite (fun h => Ev.some ?_) (fun h => ?_)))
 ·have : zi t = false := by simpa using h
  simp [wt, this]
 ·have e : zi t = true := by simpa using h
  obtain ⟨h12, h1n, hn, hp⟩ := zu e
  have hs := yV e
  obtain ⟨q1, q2⟩ := QC t.2.1 (yL t)
  have hst : (yL t).map Prod.fst = [(t.1, -1)] := rfl
  rw [hst] at q1 q2
  refine Ev.bind (TC t e a1 ai a2) ?_
  unfold wt jh
  rw [if_pos e]
  cases hL : levU t.2.1 [(t.1, -1)] with
  | none =>
    rw [hL] at q1
    cases hE : bL t.2.1 (yL t) with
    | some A => rw [hE] at q1; cases q1
    | none => exact Ev.yes rfl (Ev.pure _)
  | some V =>
    rw [hL] at q1
    cases hE : bL t.2.1 (yL t) with
    | none => rw [hE] at q1; cases q1
    | some A =>
      rw [hE] at q1
      have hlast : V.getLastD [] = A.map Prod.fst := Option.some.inj q1
      obtain ⟨hV, Q, hQ⟩ := Hf t.2.1 [(t.1, -1)] V hs.2 (Pz e) (by simp) (by simp) hL
      have hVl := hV.len
      have hA3 := YR _ _ A (by simp [yL]) hE
      have hAo := XV t.2.1 (yL t) A hs.2 (bR e) hE
      have hAS : SAll t.1.length (A.map Prod.fst) := fun c hc => by
       obtain ⟨d, hd, rfl⟩ := List.mem_map.1 hc
       exact hAo d hd
      have hlst : V.getD (V.length - 1) [] = A.map Prod.fst := by
       rw [← hlast]
       cases V with
       | nil => simp at hVl
       | cons a L => rw [List.getLastD_cons, List.getD, ← List.getLast?_eq_getElem?, List.getLast?_cons]; simp [List.getLastD_eq_getLast?]
      have ew : IntKind.i64.wrap ((V.length : Int) - 1) = ((V.length - 1 : Nat) : Int) := by rw [zj (by omega) (by omega)]; omega
      have h0 : V.getD 0 [] = [(t.1, -1)] := by rw [hQ]; rfl
      have hbad : ∀ w ∈ A, (!jK t w.1) = zn t w.1 := fun w hw => by
       have harr := Pe e w.1 (by
        unfold wc jh
        rw [if_pos e, hE]
        exact List.mem_map_of_mem hw)
       unfold zn eK
       rw [e, harr]; rfl
      have hfind : A.find? (fun w => !jK t w.1) = A.find? (fun w => zn t w.1) := by
       have : ∀ (l : List Way), (∀ w ∈ l, (!jK t w.1) = zn t w.1) → l.find? (fun w => !jK t w.1) = l.find? (fun w => zn t w.1) := by
        intro l
        induction l with
        | nil => intro _; rfl
        | cons w l ih => intro h; rw [List.find?_cons, List.find?_cons, h w (by simp), ih (fun u hu => h u (by simp [hu]))]
       exact this A hbad
      have hef := NI (zn t) t.2.1 (yL t) A hE
      have hany : (A.map Prod.fst).any (zn t) = canF (zn t) t.2.1 (t.1, -1) := by
       have h1 : (A.map Prod.fst).any (zn t) = (A.find? (fun w => zn t w.1)).isSome := by
        rw [List.any_map, Bool.eq_iff_iff, List.find?_isSome, List.any_eq_true]
        rfl
       rw [h1, hef]
       show (((yL t).find? (fun w => canF (zn t) t.2.1 w.1)).map (firstW (zn t) t.2.1)).isSome = _
       unfold yL
       rw [List.find?_cons]
       cases canF (zn t) t.2.1 (t.1, -1) <;> rfl
      simp only [outU, List.nil_append, ew, Int.toNat_natCast, h0, hlst]
      refine Ev.no rfl (Ev.yes (decide_eq_true (by omega)) (Ev.yes (decide_eq_true (by omega)) (Ev.yes (by simp) (Ev.yes (decide_eq_true (by omega)) (Ev.yes (decide_eq_true (by omega)) (Ev.yes (decide_eq_true (by omega)) ?_))))))
      have hcont : Ev (fun k => zH k (A.map Prod.fst, t)) ((A.map Prod.fst).any (zn t)) :=
       Ev.step (fun k => xm k _ _) (Ev.bind (Ev.step (fun k => xE k _ _) (Nj t hn a1 ai h12 (A.map Prod.fst) (by rw [List.length_map]; omega) hAS _ 0 rfl)) (Ev.some (Ht _ _ _)))
      refine Ev.bind hcont ?_
      rw [hany, hfind, hef]
      cases hF : canF (zn t) t.2.1 (t.1, -1) with
      | false =>
        have : (yL t).find? (fun w => canF (zn t) t.2.1 w.1) = none := by unfold yL; rw [List.find?_cons, hF]; rfl
        rw [this]
        exact Ev.yes rfl (Ev.pure _)
      | true =>
        have : (yL t).find? (fun w => canF (zn t) t.2.1 w.1) = some ((t.1, -1), []) := by unfold yL; rw [List.find?_cons, hF]
        rw [this]
        refine Ev.no rfl (Ev.bind (Nq t h1n hn a1 ai h12 rfl V hV) ?_)
        exact VQ t h1n hn h12 V hV 0 0 0 t.2.1 0 (t.1, -1) [] rfl ⟨[(t.1, -1)], Q, by rw [hQ]; rfl, by simp⟩ hF (by simp)
end Qq
namespace Qq
open Go Go.Vt Pt
set_option linter.unusedVariables false
set_option linter.unusedSimpArgs false
set_option linter.unnecessarySimpa false
theorem SA (s : zT) (w : List Int) : ∀ (r : List Scene) (j : Nat) (acc : List Way) (c : Way), c ∈ addP s w j r acc → c ∈ acc ∨ ∃ i, ∃ h : i < r.length, c = (r[i], if s.1 = 2 then w ++ [((j + i : Nat) : Int)] else w)
 | [], _, acc, c, h => .inl h
 | x :: r, j, acc, c, h => by
   unfold addP at h
   split at h
   ·rcases SA s w r (j + 1) acc c h with h | ⟨i, hi, e⟩
    ·exact .inl h
    ·exact .inr ⟨i + 1, by simpa using hi, by rw [e, show j + 1 + i = j + (i + 1) by omega]; rfl⟩
   ·rcases SA s w r (j + 1) _ c h with h | ⟨i, hi, e⟩
    ·rcases List.mem_append.1 h with h | h
     ·exact .inl h
     ·exact .inr ⟨0, by simp, by simpa using h⟩
    ·exact .inr ⟨i + 1, by simpa using hi, by rw [e, show j + 1 + i = j + (i + 1) by omega]; rfl⟩
theorem Q3 (s : zT) : ∀ (l acc : List Way) (c : Way), c ∈ goP s l acc → c ∈ acc ∨ ∃ d ∈ l, ∃ i, ∃ h : i < (zm d.1 s).length, c = ((zm d.1 s)[i], if s.1 = 2 then d.2 ++ [(i : Int)] else d.2)
 | [], acc, c, h => .inl h
 | d :: r, acc, c, h => by
   unfold goP at h
   rcases Q3 s r _ c h with h | ⟨d', hd', i, hi, e⟩
   ·rcases SA s d.2 (zm d.1 s) 0 acc c h with h | ⟨i, hi, e⟩
    ·exact .inl h
    ·exact .inr ⟨d, by simp, i, hi, by rw [e, Nat.zero_add]⟩
   ·exact .inr ⟨d', by simp [hd'], i, hi, e⟩
theorem GP {n : Nat} {c : Scene} {s : zT} (hs : yj (n : Int) s = true) (h : ¬ s.1 = 2) : (zm c s).length = 1 := by
 obtain ⟨h1, h2, hk⟩ := uq hs
 unfold zm
 rcases hk with ⟨e, m⟩ | ⟨e, c0, c4, c3, c2⟩ | ⟨e, a0, an⟩
 ·rw [if_pos e]; rfl
 ·exact absurd e h
 ·rw [if_neg (by omega), if_pos e]; rfl
theorem NK {n : Nat} : ∀ (r : List zT) (l A : List Way), (∀ s ∈ r, yj (n : Int) s = true) → bL r l = some A → ∀ w ∈ A, ∃ c ∈ l, ∃ ps, w.2 = c.2 ++ ps ∧ ps.length = countK (· == 2) r ∧ runL r c.1 ps = (w.1.1, w.1.2, true)
 | [], l, A, hs, h, w, hw => by cases h; exact ⟨w, hw, [], by simp, rfl, rfl⟩
 | s :: r, l, A, hs, h, w, hw => by
   rw [vC] at h
   split at h
   ·obtain ⟨c, hc, ps, e1, e2, e3⟩ := NK r _ A (fun q hq => hs q (by simp [hq])) h w hw
    rcases Q3 s l [] c hc with hc | ⟨d, hd, i, hi, e⟩
    ·cases hc
    ·have ec : c.1 = (zm d.1 s).getD i ([], 0) := by rw [e, List.getD, List.getElem?_eq_getElem hi]; rfl
     refine ⟨d, hd, ?_⟩
     by_cases h2 : s.1 = 2
     ·rw [if_pos h2] at e
      refine ⟨(i : Int) :: ps, by rw [e1, e]; simp, by rw [cX, if_pos (by simp [h2])]; simp; omega, ?_⟩
      unfold runL
      simp only [if_pos h2, List.getD_cons_zero, List.drop_succ_cons, List.drop_zero, Int.toNat_natCast]
      rw [if_pos (by omega), ← ec]
      exact e3
     ·rw [if_neg h2] at e
      have h1 := GP (c := d.1) (hs s (by simp)) h2
      have hi0 : i = 0 := by omega
      subst hi0
      refine ⟨ps, by rw [e1, e], by rw [cX, if_neg (by simp [h2])]; omega, ?_⟩
      unfold runL
      simp only [if_neg h2, Int.toNat_zero]
      rw [if_pos (by omega), ← ec]
      exact e3
   ·cases h
theorem G9 {t : Trick} (h : zi t = true) {A : List Way} (hA : jh t = some A) {w : Way} (hw : w ∈ A) : xp t w.2 = (w.1.1, w.1.2, true) := by
 have hs := yV h
 obtain ⟨c, hc, ps, e1, e2, e3⟩ := NK t.2.1 (yL t) A hs.2 hA w hw
 have ec : c = ((t.1, -1), []) := by simpa [yL] using hc
 subst ec
 have e1 : w.2 = ps := by simpa using e1
 unfold xp
 rw [if_pos ⟨h, by unfold xT; rw [if_pos h, e1, e2]⟩, e1]
 exact e3
inductive Told (t : Trick) : Prop
 | no (h : zi t = false) (e : wt t = (0, [], [], 0, false))
 | many (h : zi t = true) (ha : jh t = none) (e : wt t = (3, [], [], 0, true))
 | all (h : zi t = true) (A : List Way) (ha : jh t = some A) (hh : ∀ w ∈ A, jK t w.1 = true) (e : wt t = (1, [], [], 0, true))
 | fails (h : zi t = true) (A : List Way) (ha : jh t = some A) (w : Way) (hw : w ∈ A) (hb : jK t w.1 = false) (hr : xp t w.2 = (w.1.1, w.1.2, true)) (e : wt t = (2, w.2, w.1.1, w.1.2, true))
theorem told (t : Trick) : Told t := by
 cases h : zi t with
 | false => exact .no h (by unfold wt; rw [h]; rfl)
 | true =>
   cases ha : jh t with
   | none => exact .many h ha (by unfold wt; rw [h, ha]; rfl)
   | some A =>
     have ec : wt t = NE (A.find? (fun w => !jK t w.1)) := by unfold wt; rw [h, ha]; rfl
     cases hf : A.find? (fun w => !jK t w.1) with
     | none =>
       refine .all h A ha (fun w hw => ?_) (by rw [ec, hf]; rfl)
       have := List.find?_eq_none.1 hf w hw
       simpa using this
     | some w =>
       have hw := List.mem_of_find?_eq_some hf
       have hb := List.find?_some hf
       exact .fails h A ha w hw (by simpa using hb) (G9 h ha hw) (by rw [ec, hf]; rfl)
def jg (t : Trick) : Bool := (wt t).1 == 1
theorem gL {t : Trick} (h : jg t = true) : zi t = true ∧ ∃ A, jh t = some A ∧ ∀ w ∈ A, jK t w.1 = true := by
 unfold jg at h
 rcases told t with ⟨h1, e⟩ | ⟨h1, ha, e⟩ | ⟨h1, A, ha, hh, e⟩ | ⟨h1, A, ha, w, hw, hb, hr, e⟩
 ·rw [e] at h; cases h
 ·rw [e] at h; cases h
 ·exact ⟨h1, A, ha, hh⟩
 ·rw [e] at h; cases h
end Qq
namespace Qq
open Go Go.Vt Pt
set_option linter.unusedVariables false
set_option linter.unusedSimpArgs false
set_option linter.unnecessarySimpa false
theorem NJ : ∀ (r : List zT) (l A : List Way) (m : Nat), Me m l → bL r l = some A → Me (m + r.length) A
 | [], l, A, m, h, e => by cases e; exact h
 | s :: r, l, A, m, h, e => by
   rw [vC] at e
   split at e
   ·have := NJ r _ A (m + 1) (HE l [] h (fun c hc => by cases hc)) e
    rw [show m + (s :: r).length = m + 1 + r.length by simp; omega]
    exact this
   ·cases e
theorem Jq (t : Trick) : (wt t).2.1.length ≤ 12 ∧ (wt t).2.2.1.length ≤ 12 := by
 unfold wt
 split
 ·rename_i h
  cases hE : jh t with
  | none => exact ⟨by simp, by simp⟩
  | some A =>
    obtain ⟨h1, h2, h3, h4⟩ := zu h
    have hs := yV h
    have hw := NJ t.2.1 (yL t) A 0 (KM t) hE
    have ho := XV t.2.1 (yL t) A hs.2 (bR h) hE
    show (NE (A.find? (fun w => !jK t w.1))).2.1.length ≤ 12 ∧ (NE (A.find? (fun w => !jK t w.1))).2.2.1.length ≤ 12
    cases hf : A.find? (fun w => !jK t w.1) with
    | none => exact ⟨Nat.zero_le _, Nat.zero_le _⟩
    | some w =>
      have hm := List.mem_of_find?_eq_some hf
      exact ⟨by have := hw w hm; show w.2.length ≤ 12; omega, by show w.1.1.length ≤ 12; rw [(ho w hm).len]; exact h3⟩
 ·exact ⟨by simp, by simp⟩
end Qq
namespace Qq
open Go Go.Vt Pt
set_option linter.unusedVariables false
set_option linter.unusedSimpArgs false
set_option linter.unnecessarySimpa false
def jj (t : Trick) : Int := if (wc t).2 = true then ((wc t).1.length : Int) else -1
end Qq
namespace Qq
open Go Go.Vt Pt
set_option linter.unusedVariables false
set_option linter.unusedSimpArgs false
abbrev Cur : Type := List Int × Int × Int
def YX (c : Cur) : Prop := c.1.length ≤ 9223372036854775807 ∧ 0 ≤ c.2.1 ∧ c.2.1 ≤ c.1.length
theorem and255 (x : BitVec 64) : (x &&& BitVec.ofInt 64 255).toNat ≤ 255 := by
 rw [BitVec.toNat_and]
 exact Nat.and_le_right
theorem wrap255 (x : BitVec IntKind.i64.bits) : 0 ≤ IntKind.i64.wrap (((x &&& BitVec.ofInt IntKind.i64.bits (255 : Int)).toNat : Nat) : Int) ∧ IntKind.i64.wrap (((x &&& BitVec.ofInt IntKind.i64.bits (255 : Int)).toNat : Nat) : Int) ≤ 255 := by
 have h : (x &&& BitVec.ofInt IntKind.i64.bits (255 : Int)).toNat ≤ 255 := and255 x
 rw [zj (by omega) (by omega)]
 omega
theorem vq (c : Cur) (h : YX c) : ∃ (y : Int) (c' : Cur), Ev (fun k => wW k c) (y, c') ∧ 0 ≤ y ∧ y ≤ 255 ∧ YX c' := by
 obtain ⟨h1, h2, h3⟩ := h
 by_cases hl : c.2.1 < c.1.length
 ·refine ⟨_, _, Ev.step (fun k => Vk k c) (Ev.yes (decide_eq_true hl) (Ev.yes (decide_eq_true h2) (Ev.yes (decide_eq_true hl) (Ev.pure _)))), (wrap255 _).1, (wrap255 _).2, ?_⟩
  refine ⟨h1, ?_, ?_⟩ <;> (dsimp only; rw [zj (by omega) (by omega)]; omega)
 ·exact ⟨_, _, Ev.step (fun k => Vk k c) (Ev.no (decide_eq_false hl) (Ev.pure _)), (wrap255 _).1, (wrap255 _).2, ⟨h1, h2, h3⟩⟩
theorem Wm {a n : Int} (ha : 0 ≤ a) (hn : 0 < n) : 0 ≤ a.tmod n ∧ a.tmod n < n := by
 rw [Int.tmod_eq_emod_of_nonneg ha]
 exact ⟨Int.emod_nonneg _ (by omega), Int.emod_lt_of_pos _ hn⟩
theorem MH (c : Cur) (h : YX c) (n : Int) : ∃ (y : Int) (c' : Cur), Ev (fun k => jU k (c, n)) (y, c') ∧ 0 ≤ y ∧ (0 < n → y < n) ∧ YX c' := by
 by_cases h0 : n ≤ 0
 ·exact ⟨0, c, Ev.step (fun k => eW k c n) (Ev.yes (decide_eq_true h0) (Ev.pure _)), Int.le_refl _, fun h => by omega, h⟩
 ·have hn : 0 < n := by omega
  by_cases h1 : n ≤ 256
  ·obtain ⟨y, c', e, a1, a2, a3⟩ := vq c h
   have hb := Wm a1 hn
   exact ⟨_, _, Ev.step (fun k => eW k c n) (Ev.no (decide_eq_false h0) (Ev.yes (decide_eq_true h1) (Ev.bind e (Ev.yes (by simp; omega) (Ev.pure _))))), hb.1, fun _ => hb.2, a3⟩
  ·obtain ⟨y, c1, e, a1, a2, a3⟩ := vq c h
   obtain ⟨z, c2, f, b1, b2, b3⟩ := vq c1 a3
   obtain ⟨u, c3, g, d1, d2, d3⟩ := vq c2 b3
   obtain ⟨v, c4, i, f1, f2, f3⟩ := vq c3 d3
   have w1 : IntKind.i64.wrap (y * (16777216 : Int)) = y * 16777216 := zj (by omega) (by omega)
   have w2 : IntKind.i64.wrap (z * (65536 : Int)) = z * 65536 := zj (by omega) (by omega)
   have w3 : IntKind.i64.wrap (u * (256 : Int)) = u * 256 := zj (by omega) (by omega)
   have hnn : 0 ≤ IntKind.i64.wrap ((IntKind.i64.wrap ((IntKind.i64.wrap ((IntKind.i64.wrap (y * (16777216 : Int))) + (IntKind.i64.wrap (z * (65536 : Int))))) + (IntKind.i64.wrap (u * (256 : Int))))) + v) := by
    rw [w1, w2, w3, zj (x := y * 16777216 + z * 65536) (by omega) (by omega), zj (x := y * 16777216 + z * 65536 + u * 256) (by omega) (by omega), zj (by omega) (by omega)]
    omega
   have hb := Wm hnn hn
   exact ⟨_, _, Ev.step (fun k => eW k c n) (Ev.no (decide_eq_false h0) (Ev.no (decide_eq_false h1) (Ev.bind e (Ev.bind f (Ev.bind g (Ev.bind i (Ev.yes (by simp; omega) (Ev.pure _)))))))), hb.1, fun _ => hb.2, f3⟩
theorem Vu (code : List Int) (hm : code.length ≤ 9223372036854775807) : ∀ (r : List Int) (i : Nat) (h : Int), code.drop i = r → ∃ h' : Int, Ev (fun k => eV k code h (i : Int)) (code, ((0 : Int), h'))
 | [], i, h, hr => by
   have a := zZ hr
   exact ⟨h, Ev.step (fun k => fw k _ _ _) (Ev.no a.g (Ev.pure _))⟩
 | x :: r, i, h, hr => by
   have a := zy hr (by rw [zg]; exact hm)
   by_cases h4 : (i : Int) < 4000
   ·obtain ⟨h', ih⟩ := Vu code hm r (i + 1) _ a.next
    refine ⟨h', Ev.step (fun k => fw k _ _ _) (Ev.yes a.g (Ev.yes (decide_eq_true h4) (Ev.yes a.z (Ev.yes a.g ?_))))⟩
    rw [a.w]
    exact ih
   ·exact ⟨h, Ev.step (fun k => fw k _ _ _) (Ev.yes a.g (Ev.no (decide_eq_false h4) (Ev.pure _)))⟩
theorem Na (code : List Int) (hm : code.length ≤ 9223372036854775807) : ∃ c : Cur, Ev (fun k => Up k code) c ∧ YX c := by
 obtain ⟨h', e⟩ := Vu code hm _ 0 (IntKind.i64.wrap ((2070 : Int) + (code.length : Int))) rfl
 exact ⟨_, Ev.step (fun k => Mt k code) e, hm, Int.le_refl _, by simp⟩
theorem Vs (n : Int) (hn : n ≤ 1000000) : ∀ (m : Nat) (i : Int) (c : Cur), 0 ≤ i → n ≤ i + m → YX c → ∃ c' : Cur, Ev (fun k => eT k n i c.1 c.2.1 c.2.2) c' ∧ YX c'
 | 0, i, c, h0, hm, hc => ⟨c, Ev.step (fun k => fv k _ _ _ _ _) (Ev.no (decide_eq_false (by omega)) (Ev.pure _)), hc⟩
 | m + 1, i, c, h0, hm, hc => by
   by_cases h : i < n
   ·obtain ⟨y, c1, e, _, _, a3⟩ := vq c hc
    obtain ⟨c2, e2, hc2⟩ := Vs n hn m (i + 1) c1 (by omega) (by omega) a3
    refine ⟨c2, Ev.step (fun k => fv k _ _ _ _ _) (Ev.yes (decide_eq_true h) (Ev.bind e ?_)), hc2⟩
    rw [zj (by omega) (by omega)]
    exact e2
   ·exact ⟨c, Ev.step (fun k => fv k _ _ _ _ _) (Ev.no (decide_eq_false h) (Ev.pure _)), hc⟩
theorem Hj (code : List Int) (hm : code.length ≤ 9223372036854775807) (n : Int) (hn : n ≤ 1000000) : ∃ c : Cur, Ev (fun k => Qt k (code, n)) c ∧ YX c := by
 obtain ⟨c, e, hc⟩ := Na code hm
 obtain ⟨c2, e2, hc2⟩ := Vs n hn n.toNat 0 c (by omega) (by omega) hc
 exact ⟨c2, Ev.step (fun k => Mr k code n) (Ev.bind e e2), hc2⟩
theorem JF (code : List Int) (hm : code.length ≤ 9223372036854775807) (n : Int) (hn : n ≤ 1000000) : ∃ y : Int, Ev (fun k => U1 k (code, n)) y ∧ 0 ≤ y ∧ y ≤ 65535 := by
 obtain ⟨c, e, hc⟩ := Hj code hm n hn
 obtain ⟨y, c1, e1, a1, a2, a3⟩ := vq c hc
 obtain ⟨z, c2, e2, b1, b2, b3⟩ := vq c1 a3
 refine ⟨y * 256 + z, Ev.step (fun k => PI k code n) (Ev.bind e (Ev.bind e1 (Ev.bind e2 (Ev.some ?_)))), by omega, by omega⟩
 rw [zj (x := y * 256) (by omega) (by omega), zj (by omega) (by omega)]
end Qq
namespace Qq
open Go Go.Vt Pt
set_option linter.unusedVariables false
set_option linter.unusedSimpArgs false
end Qq
namespace Qq
open Go Go.Vt Pt
set_option linter.unusedVariables false
set_option linter.unusedSimpArgs false
set_option linter.unnecessarySimpa false
end Qq
namespace Qq
open Go Go.Vt Pt
set_option linter.unusedVariables false
set_option linter.unusedSimpArgs false
structure KL (l : Packs) : Prop where
 ne : l ≠ []
 len : l.length ≤ 3000
 ss : SS l
 arr : ∃ p, zl p = true ∧ 1 ≤ p.length ∧ ∀ q ∈ l, Pm q p
theorem KL.ok {l : Packs} (h : KL l) {q : List Int} (hq : q ∈ l) : zl q = true ∧ 1 ≤ q.length ∧ q.length ≤ 12 := by
 obtain ⟨p, h1, h2, h3⟩ := h.arr
 obtain ⟨k1, k2⟩ := cf h1 (h3 q hq)
 exact ⟨k1, by omega, (yF k1).2.2⟩
end Qq
namespace Qq
open Go Go.Vt Pt
set_option linter.unusedVariables false
set_option linter.unusedSimpArgs false
end Qq
namespace Qq
open Go Go.Vt Pt
set_option linter.unusedVariables false
set_option linter.unusedSimpArgs false
end Qq
namespace Qq
open Go Go.Vt Pt
set_option linter.unusedVariables false
set_option linter.unusedSimpArgs false
theorem TZ : Ev (fun k => YM k 4) (upTo 4) := by
 refine Ev.step (fun k => Rh k _) (Ev.no rfl (Ev.no rfl (Ev.bind (Xr 4 (by omega)) (Ev.pure _))))
abbrev Con : Type := List Int × List Step × Int × Int × Int × List Int × Int
def con0 : Con := (upTo 4, [], 0, 0, 0, upTo 4, -1)
theorem aA : Ev (fun k => fd k ()) con0 := by
 refine Ev.step (fun k => T0 k) (Ev.bind TZ ?_)
 refine Ev.bind (jT (upTo 4, [], 0, 0, 0) (by rw [zg]; decide) (by unfold upTo; simp [Ins, In]; omega) (by rw [zg]; decide)) ?_
 exact Ev.some rfl
end Qq
namespace Qq
open Go Go.Vt Pt
set_option linter.unusedVariables false
set_option linter.unusedSimpArgs false
set_option linter.unnecessarySimpa false
end Qq
namespace Qq
open Go Go.Vt Pt
set_option linter.unusedVariables false
set_option linter.unusedSimpArgs false
set_option linter.unnecessarySimpa false
theorem S6 (t : Trick) (a1 : t.1.length ≤ maxLen) (ai : Ins t.1) (a2 : t.2.1.length ≤ maxLen) : Ev (fun k => YN k t) (jj t) := by
 refine Ev.step (fun k => Rk k t) (Ev.bind (S7 t a1 ai a2) (Ev.ite (fun h => Ev.some ?_) (fun h => Ev.some ?_)))
 ·unfold jj; rw [if_neg (by simpa using h)]
 ·unfold jj; rw [if_pos (by simpa using h)]
end Qq
namespace Qq
open Go Go.Vt Pt
set_option linter.unusedVariables false
set_option linter.unusedSimpArgs false
set_option linter.unnecessarySimpa false
theorem NL {n : Nat} : ∀ (r : List zT) (l A : List Way), (∀ s ∈ r, yj (n : Int) s = true) → Pq n l → (∀ c ∈ l, Ins c.2) → bL r l = some A → ∀ w ∈ A, Ins w.2
 | [], l, A, hs, ho, hi, h, w, hw => by cases h; exact hi w hw
 | s :: r, l, A, hs, ho, hi, h, w, hw => by
   rw [vC] at h
   split at h
   ·refine NL r _ A (fun q hq => hs q (by simp [hq])) (HG (hs s (by simp)) l [] ho (fun c hc => by cases hc)) (fun c hc => ?_) h w hw
    rcases Q3 s l [] c hc with hc | ⟨d, hd, i, hlt, e⟩
    ·cases hc
    ·rw [e]
     have h2 := (Xg (ho d hd) (hs s (by simp))).2
     split
     ·intro x hx
      rcases List.mem_append.1 hx with hx | hx
      ·exact hi d hd x hx
      ·have : x = (i : Int) := by simpa using hx
       rw [this]; unfold In; omega
     ·exact hi d hd
   ·cases h
def wu (t : Trick) : ByteArray :=
 if (wt t).1 = 1 then ((⟨#[104, 111, 108, 100, 115, 32, 102, 111, 114, 32]⟩ : ByteArray) ++ yt (jj t)) ++ ⟨#[32, 101, 110, 100, 115]⟩ else
 if (wt t).1 = 2 then (((⟨#[102, 97, 105, 108, 115, 32, 102, 111, 114, 32]⟩ : ByteArray) ++ xy (wt t).2.1) ++ ⟨#[32, 58, 32]⟩) ++ gb ((wt t).2.2.1, (wt t).2.2.2.1) else
 if (wt t).1 = 3 then ⟨#[116, 111, 111, 32, 109, 97, 110, 121]⟩ else ⟨#[]⟩
theorem aW (t : Trick) : In (jj t) := by
 unfold jj
 have := (Pd t).1
 split
 ·unfold In; omega
 ·unfold In; decide
theorem bD {xs : List Int} (h : xs.length ≤ 12) (hi : Ins xs) : (xy xs).size ≤ 264 := by
 unfold xy
 split
 ·decide
 ·have := cu (B := 21) (S := 1) (⟨#[44]⟩ : ByteArray) (by decide) (xs.map yt) (wZ hi)
  rw [List.length_map] at this
  rw [xw, zK]
  omega
theorem fu (c : Scene) : (gb c).size ≤ 2028 := by
 unfold gb
 have sp := wL c.1
 split
 ·split
  ·rename_i h
   exact wn (wn sp (n := 7) (by decide)) (zX c.2 (by unfold In; omega))
  ·omega
 ·decide
theorem Ly {t : Trick} {c : Int} {ps p : List Int} {n : Int} {ok : Bool} (e : wt t = (c, ps, p, n, ok)) : ps.length ≤ 12 ∧ p.length ≤ 12 := by
 have := Jq t
 rw [e] at this
 exact this
theorem NF {t : Trick} (h : zi t = true) {A : List Way} (ha : jh t = some A) {w : Way} (hw : w ∈ A) : Ins w.2 ∧ Ins w.1.1 := by
 have hs := yV h
 refine ⟨NL t.2.1 (yL t) A hs.2 (bR h) (fun c hc => ?_) ha w hw, zL (XV t.2.1 (yL t) A hs.2 (bR h) ha w hw).ok⟩
 have e : c = ((t.1, -1), []) := by simpa [yL] using hc
 rw [e]; intro x hx; cases hx
theorem V4 (t : Trick) (a1 : t.1.length ≤ maxLen) (ai : Ins t.1) (a2 : t.2.1.length ≤ maxLen) : Ev (fun k => cD k t) (wu t) := by
 unfold wu
 refine Ev.step (fun k => V5 k t) (Ev.bind (aO t a1 ai a2) ?_)
 have hci := zX _ (aW t)
 rcases told t with ⟨h1, e⟩ | ⟨h1, ha, e⟩ | ⟨h1, A, ha, hh, e⟩ | ⟨h1, A, ha, w, hw, hb, hr, e⟩
 ·rw [e]; exact Ev.no rfl (Ev.no rfl (Ev.no rfl (Ev.pure _)))
 ·rw [e]; exact Ev.no rfl (Ev.no rfl (Ev.yes rfl (Ev.pure _)))
 ·rw [e]
  exact Ev.yes rfl (Ev.bind (S6 t a1 ai a2) (Ev.bind (zD _ (aW t)) (Ev.yes (bG (m := 10) (by decide) hci (by decide)) (Ev.yes (bG (n := 5) (wn (m := 10) (by decide) hci) (by decide) (by decide)) (Ev.pure _)))))
 ·obtain ⟨f1, f2⟩ := Ly e
  obtain ⟨i1, i2⟩ := NF h1 ha hw
  have hp := bD f1 i1
  have hs := fu (w.1.1, w.1.2)
  rw [e]
  exact Ev.no rfl (Ev.yes rfl (Ev.bind (bA w.2 (by omega) i1) (Ev.yes (bG (m := 10) (by decide) hp (by decide)) (Ev.yes (bG (n := 3) (wn (m := 10) (by decide) hp) (by decide) (by decide)) (Ev.bind (Z2 (w.1.1, w.1.2) (by show w.1.1.length ≤ _; rw [zg]; omega) i2) (Ev.yes (bG (wn (n := 3) (wn (m := 10) (by decide) hp) (by decide)) hs (by decide)) (Ev.pure _)))))))
end Qq
namespace Qq
open Go Go.Vt Pt
set_option linter.unusedVariables false
set_option linter.unusedSimpArgs false
theorem SM (xs : List Step) (hm : xs.length ≤ 1048576) : Ev (fun k => vi k xs) xs := by
 refine Ev.step (fun k => bJ k xs) (Ev.ite (fun h => ?_) (fun h => ?_))
 ·exact Ev.yes (by rw [zc]; simp; omega) (Ev.some (by simp))
 ·have : xs = [] := by simpa using h
  subst this
  exact Ev.both (Ev.pure _) (Ev.yes (by simp) (Ev.some rfl))
theorem jk (t : Trick) (h1 : t.1.length ≤ 1048576) (h2 : t.2.1.length ≤ 1048576) : Ev (fun k => vj k t) t :=
 Ev.step (fun k => Ra k t) (Ev.bind (yc _ h1) (Ev.bind (SM _ h2) (Ev.pure _)))
def uD (t : Trick) (i : Nat) : Trick := (t.1, t.2.1.take i ++ t.2.1.drop (i + 1), t.2.2)
def withB (t : Trick) (b : Bool) : List Int × List Step × Int × Int × Int × Bool := (t.1, t.2.1, t.2.2.1, t.2.2.2.1, t.2.2.2.2, b)
def noTrick : List Int × List Step × Int × Int × Int × Bool := ([], [], 0, 0, 0, false)
def dropStep (t : Trick) (i : Int) : List Int × List Step × Int × Int × Int × Bool :=
 if zi t && (decide (0 ≤ i) && (decide (i < (t.2.1.length : Int)) && zi (uD t i.toNat))) then withB (uD t i.toNat) true else noTrick
theorem HP (t : Trick) (i : Nat) : (uD t i).2.1.length ≤ t.2.1.length := by simp [uD]; omega
theorem Rq (xs : List Step) (i : Nat) (hi : i < xs.length) (hm : xs.length ≤ 1048576) : Ev (fun k => wO k (xs, (i : Int), ((i + 1 : Nat) : Int))) (xs.take i ++ xs.drop (i + 1)) := by
 refine Ev.congr (fun k => eR k xs _ _) ?_
 show Ev (fun _ => deleteF (xs, (i : Int), ((i + 1 : Nat) : Int))) _
 unfold deleteF
 refine Ev.yes ?_ (Ev.some ?_)
 ·simp only [Bool.and_eq_true, decide_eq_true_eq]; omega
 ·simp
end Qq
namespace Qq
open Go Go.Vt Pt
set_option linter.unusedVariables false
set_option linter.unusedSimpArgs false
theorem XN (t : Trick) (i : Int) (a1 : t.1.length ≤ 1048576) (ai : Ins t.1) (a2 : t.2.1.length ≤ 1048576) (hi : In i) : Ev (fun k => Zq k (t, i)) (dropStep t i) := by
 unfold dropStep
 refine Ev.step (fun k => QZ k t i) (Ev.bind (xr t (by rw [zg]; omega) ai (by rw [zg]; omega)) (Ev.ite (fun h => Ev.some ?_) (fun h => ?_)))
 ·have : zi t = false := by simpa using h
  simp [this, noTrick]
 ·have ht : zi t = true := by simpa using h
  refine Ev.ite (fun h => Ev.some ?_) (fun h => Ev.ite (fun h2 => Ev.some ?_) (fun h2 => ?_))
  ·have : ¬ 0 ≤ i := by simpa using h
   simp [this, noTrick]
  ·have : ¬ i < (t.2.1.length : Int) := by simpa using h2
   simp [this, noTrick]
  ·have hb : 0 ≤ i ∧ i < (t.2.1.length : Int) := by simp at h h2; omega
   obtain ⟨n, rfl⟩ := Int.eq_ofNat_of_zero_le hb.1
   have hn : n < t.2.1.length := by omega
   have hl := HP t n
   rw [show IntKind.i64.wrap ((n : Int) + 1) = ((n + 1 : Nat) : Int) by rw [zj (by omega) (by omega)]; simp]
   refine Ev.bind (jk t a1 a2) (Ev.bind (Rq t.2.1 n hn a2) (Ev.bind (xr (uD t n) (by show t.1.length ≤ _; rw [zg]; omega) ai (by rw [zg]; omega)) (Ev.ite (fun h => Ev.some ?_) (fun h => Ev.some ?_))))
   ·have : zi (uD t n) = false := by simpa using h
    simp [this, noTrick]
   ·have : zi (uD t n) = true := by simpa using h
    rw [if_pos (by simp [ht, hn, this])]
    rfl
end Qq
namespace Qq
open Go Go.Vt Pt
set_option linter.unusedVariables false
end Qq
namespace Qq
open Go Go.Vt Pt
set_option linter.unusedVariables false
set_option linter.unusedSimpArgs false
set_option linter.unnecessarySimpa false
abbrev stepZ : Step := (0, (0, 0), 0)
def Tp (t : Trick) (i : Nat) : Bool := !((t.2.1.getD i stepZ).1 == 1 && jg (uD t i))
def ZH : Nat → Trick → Nat → Trick
 | 0, t, _ => t
 | f + 1, t, i => if i < t.2.1.length then (if Tp t i = true then ZH f t (i + 1) else ZH f (uD t i) 0) else t
def meas (t : Trick) (i : Nat) : Nat := t.2.1.length * 15 + (t.2.1.length - i)
theorem VN {t : Trick} {i : Nat} (h : i < t.2.1.length) : (uD t i).2.1.length + 1 = t.2.1.length := by simp [uD]; omega
theorem Sh {t : Trick} {i : Nat} (h : i < t.2.1.length) (b : Int → Bool) : countK b t.2.1 = countK b (uD t i).2.1 + (if b (t.2.1.getD i stepZ).1 then 1 else 0) := by
 have e : t.2.1 = t.2.1.take i ++ t.2.1[i] :: t.2.1.drop (i + 1) := by rw [← List.drop_eq_getElem_cons h, List.take_append_drop]
 have g : t.2.1.getD i stepZ = t.2.1[i] := by rw [List.getD, List.getElem?_eq_getElem h]; rfl
 rw [g]
 conv => lhs; rw [e]
 unfold countK uD
 rw [List.countP_append, List.countP_append, List.countP_cons]
 omega
structure Short (t s : Trick) : Prop where
 holds : jg s = true
 start : s.1 = t.1
 rest : s.2.2 = t.2.2
 choices : countK (· == 2) s.2.1 = countK (· == 2) t.2.1
 moves : countK (· == 1) s.2.1 ≤ countK (· == 1) t.2.1
 all : ∀ j < s.2.1.length, Tp s j = true
theorem Short.trans {t u s : Trick} (h : Short u s) (h1 : u.1 = t.1) (h2 : u.2.2 = t.2.2) (h3 : countK (· == 2) u.2.1 = countK (· == 2) t.2.1) (h4 : countK (· == 1) u.2.1 ≤ countK (· == 1) t.2.1) : Short t s :=
 ⟨h.holds, h.start.trans h1, h.rest.trans h2, h.choices.trans h3, Nat.le_trans h.moves h4, h.all⟩
theorem UW : ∀ (f : Nat) (t : Trick) (i : Nat), t.2.1.length ≤ 12 → meas t i ≤ f → jg t = true → (∀ j < i, Tp t j = true) → Short t (ZH f t i)
 | 0, t, i, hl, hm, hh, hn => by
   have h0 : t.2.1.length = 0 := by unfold meas at hm; omega
   exact ⟨hh, rfl, rfl, rfl, Nat.le_refl _, fun j hj => by
    have hj : j < t.2.1.length := hj
    omega⟩
 | f + 1, t, i, hl, hm, hh, hn => by
   unfold ZH
   by_cases h : i < t.2.1.length
   ·rw [if_pos h]
    by_cases hb : Tp t i = true
    ·rw [if_pos hb]
     refine UW f t (i + 1) hl (by unfold meas at hm ⊢; omega) hh (fun j hj => ?_)
     rcases Nat.lt_or_ge j i with h1 | h1
     ·exact hn j h1
     ·have : j = i := by omega
      rw [this]; exact hb
    ·rw [if_neg hb]
     have hk : (t.2.1.getD i stepZ).1 = 1 ∧ jg (uD t i) = true := by
      unfold Tp at hb
      simpa using hb
     have hd := VN h
     have h2 := Sh h (· == 2)
     have h1 := Sh h (· == 1)
     rw [hk.1] at h1 h2
     have r := UW f (uD t i) 0 (by omega) (by unfold meas at hm ⊢; omega) hk.2 (fun j hj => by omega)
     exact r.trans rfl rfl (by simpa using h2.symm) (by omega)
   ·rw [if_neg h]
    exact ⟨hh, rfl, rfl, rfl, Nat.le_refl _, fun j hj => hn j (by omega)⟩
def yG (t : Trick) : List Int × List Step × Int × Int × Int × Bool := if jg t = true then withB (ZH 200 t 0) true else noTrick
end Qq
namespace Qq
open Go Go.Vt Pt
set_option linter.unusedVariables false
set_option linter.unusedSimpArgs false
set_option linter.unnecessarySimpa false
theorem R1 (t : Trick) (a1 : t.1.length ≤ maxLen) (ai : Ins t.1) (a2 : t.2.1.length ≤ maxLen) : Ev (fun k => QP k t) (jg t) :=
 Ev.step (fun k => K5 k t) (Ev.bind (aO t a1 ai a2) (Ev.pure _))
theorem Si {t : Trick} {i : Nat} (ht : zi t = true) (h : i < t.2.1.length) : dropStep t (i : Int) = if zi (uD t i) = true then withB (uD t i) true else noTrick := by
 unfold dropStep
 have h1 : decide ((0 : Int) ≤ (i : Int)) = true := by simp
 have h2 : decide ((i : Int) < (t.2.1.length : Int)) = true := by simp [h]
 rw [ht, h1, h2, Int.toNat_natCast]; rfl
theorem HB {t : Trick} (h : ¬ zi t = true) : jg t = false := by
 cases hh : jg t with
 | false => rfl
 | true => exact absurd (gL hh).1 h
theorem Fg {t : Trick} {i : Nat} (h : zi (uD t i) = true) (ai : Ins t.1) : (uD t i).1.length ≤ maxLen ∧ Ins (uD t i).1 ∧ (uD t i).2.1.length ≤ maxLen := by
 have := zu h
 exact ⟨by rw [zg]; omega, ai, by rw [zg]; omega⟩
theorem QN (t : Trick) (i : Nat) (ht : zi t = true) (hi : i < t.2.1.length) : Ev (fun k => WE k (t, (i : Int))) (Tp t i) := by
 obtain ⟨l1, l2, l3, hp⟩ := zu ht
 have ai := zL hp
 have e := XN t (i : Int) (by omega) ai (by omega) (by unfold In; omega)
 rw [Si ht hi] at e
 refine Ev.step (fun k => QO k t (i : Int)) (Ev.bind e ?_)
 have g : t.2.1.getD (i : Int).toNat stepZ = t.2.1.getD i stepZ := by rw [Int.toNat_natCast]
 unfold Tp
 refine Ev.yes (by simp) (Ev.yes (by simp [hi]) ?_)
 rw [Int.toNat_natCast]
 refine Ev.ite (fun h => Ev.some ?_) (fun h => ?_)
 ·have h : ¬ (t.2.1.getD i stepZ).1 = 1 := by simpa using h
  rw [beq_eq_false_iff_ne.2 h]; rfl
 ·have h : (t.2.1.getD i stepZ).1 = 1 := by simpa using h
  rw [h]
  by_cases hd : zi (uD t i) = true
  ·obtain ⟨d1, d2, d3⟩ := Fg hd ai
   rw [if_pos hd]
   exact Ev.no rfl (Ev.bind (R1 (uD t i) d1 d2 d3) (Ev.some (by simp)))
  ·rw [if_neg hd, HB hd]
   exact Ev.yes rfl (Ev.some rfl)
end Qq
