/-
  What the laws lean on: what the functions come to.
  Conditions: numbers and lengths are such as a machine bears.
-/
import Derived.Test.YtcpfklamgkilnaaGreatDoorPKa
namespace Qq
open Go Go.Vt Pt
set_option linter.unusedVariables false
set_option linter.unusedSimpArgs false
set_option linter.unnecessarySimpa false
theorem Hc {t : Trick} {i : Nat} (h : ¬ Tp t i = true) : (t.2.1.getD i stepZ).1 = 1 ∧ jg (uD t i) = true := by
 unfold Tp at h
 simpa using h
theorem Wz (z1 z2 z3 : Int) : ∀ (f : Nat) (t : Trick) (i : Nat), t.2.1.length ≤ 12 → meas t i ≤ f → jg t = true → Ev (fun k => xJ k (i : Int) z1 z2 z3 t.2.2.1 t.2.2.2.1 t.2.2.2.2 t.1 t.2.1) (withB (ZH f t i) true)
 | 0, t, i, hl, hm, hh => by
   have h0 : t.2.1.length = 0 := by unfold meas at hm; omega
   exact Ev.step (fun k => jD k _ _ _ _ _ _ _ _ _) (Ev.no (decide_eq_false (by omega)) (Ev.pure _))
 | f + 1, t, i, hl, hm, hh => by
   refine Ev.step (fun k => jD k _ _ _ _ _ _ _ _ _) ?_
   unfold ZH
   by_cases h : i < t.2.1.length
   ·rw [if_pos h]
    have ht := (gL hh).1
    obtain ⟨l1, l2, l3, hp⟩ := zu ht
    refine Ev.yes (decide_eq_true (by omega)) (Ev.bind (QN t i ht h) (Ev.ite (fun hb => ?_) (fun hb => ?_)))
    ·rw [if_pos hb, show IntKind.i64.wrap ((i : Int) + 1) = ((i + 1 : Nat) : Int) by rw [zj (by omega) (by omega)]; simp]
     exact Wz z1 z2 z3 f t (i + 1) hl (by unfold meas at hm ⊢; omega) hh
    ·rw [if_neg (by rw [hb]; simp)]
     obtain ⟨hk, hd⟩ := Hc (by rw [hb]; simp)
     have e := XN t (i : Int) (by omega) (zL hp) (by omega) (by unfold In; omega)
     rw [Si ht h, if_pos (gL hd).1] at e
     have hdl := VN h
     exact Ev.bind e (Wz z1 z2 z3 f (uD t i) 0 (by omega) (by unfold meas at hm ⊢; omega) hd)
   ·rw [if_neg h]
    exact Ev.no (decide_eq_false (by omega)) (Ev.pure _)
theorem Ef {t : Trick} (h : t.2.1.length ≤ 12) : meas t 0 ≤ 200 := by unfold meas; omega
theorem WH (t : Trick) (a1 : t.1.length ≤ 1048576) (ai : Ins t.1) (a2 : t.2.1.length ≤ 1048576) : Ev (fun k => fE k t) (yG t) := by
 unfold yG
 refine Ev.step (fun k => WI k t) (Ev.bind (R1 t (by rw [zg]; omega) ai (by rw [zg]; omega)) (Ev.ite (fun h => Ev.some ?_) (fun h => ?_)))
 ·rw [if_neg (by simpa using h)]; rfl
 ·have h : jg t = true := by simpa using h
  have hl := (zu (gL h).1).1
  rw [if_pos h]
  exact Ev.bind (jk t a1 a2) (Wz 0 0 0 200 t 0 hl (Ef hl) h)
end Qq
namespace Qq
open Go Go.Vt Pt
set_option linter.unusedVariables false
set_option linter.unusedSimpArgs false
theorem bE (c a b : Int) (ha : In a) (hb : In b) : (gM c a b).size ≤ 60 := by
 have sa := zX a ha
 have sb := zX b hb
 unfold gM
 split
 ·decide
 split
 ·exact Nat.le_trans (wn (m := 9) (by decide) sa) (by decide)
 split
 ·exact Nat.le_trans (wn (m := 3) (by decide) sa) (by decide)
 split
 ·have s1 := wn (a := (⟨#[99, 97, 114, 100, 32]⟩ : ByteArray)) (m := 5) (by decide) sa
  have s2 := wn (b := (⟨#[32, 97, 116, 32]⟩ : ByteArray)) (n := 4) s1 (by decide)
  exact Nat.le_trans (wn s2 sb) (by decide)
 split
 ·decide
 ·decide
def claimB (t : Trick) : ByteArray := (⟨#[99, 108, 97, 105, 109, 32]⟩ : ByteArray) ++ gM t.2.2.1 t.2.2.2.1 t.2.2.2.2
def startB (t : Trick) : ByteArray := (⟨#[115, 116, 97, 114, 116, 32]⟩ : ByteArray) ++ yo t.1
def xb (t : Trick) : List ByteArray := if zi t then ([startB t] ++ t.2.1.map wh) ++ [claimB t] else []
theorem gY (t : Trick) (hst : t.2.1.length ≤ 12) (ha : In t.2.2.2.1) (hb : In t.2.2.2.2) : ∀ (r : List Step) (i : Nat), t.2.1.drop i = r →
 Ev (fun k => ua k t.2.1 (t.2.1.length : Int) (i : Int) t.1 t.2.1 t.2.2.1 t.2.2.2.1 t.2.2.2.2 ([startB t] ++ (t.2.1.take i).map wh)) (([startB t] ++ t.2.1.map wh) ++ [claimB t])
 | [], i, h => by
   have q := zZ h
   refine Ev.step (fun k => gZ k _ _ _ _ _ _ _ _ _) ?_
   simp only [q.g, cond_false]
   rw [List.take_of_length_le q.ge]
   exact Ev.bind (Ue t.1 t.2.1 _ _ _ ha hb) (Ev.yes (bG (m := 6) (by decide) (bE _ _ _ ha hb) (by decide)) (Ev.yes (by rw [zc]; simp; omega) (Ev.pure _)))
 | s :: r, i, h => by
   have q := zy h (by rw [zg]; omega)
   have hlt := q.lt
   have ih := gY t hst ha hb r (i + 1) q.next
   have e : t.2.1[i] = s := by have := q.get (0, ((0, 0), 0)); rw [Int.toNat_natCast, List.getD, List.getElem?_eq_getElem hlt] at this; exact this
   rw [List.take_succ_eq_append_getElem hlt, List.map_append, e, ← List.append_assoc] at ih
   refine Ev.step (fun k => gZ k _ _ _ _ _ _ _ _ _) ?_
   simp only [q.g, q.z, q.get, q.w, cond_true]
   exact Ev.bind (aD s) (Ev.yes (by rw [zc]; simp; omega) ih)
theorem TN (t : Trick) (a1 : t.1.length ≤ maxLen) (ai : Ins t.1) (a2 : t.2.1.length ≤ maxLen) (ha : In t.2.2.2.1) (hb : In t.2.2.2.2) : Ev (fun k => jc k t) (xb t) := by
 unfold xb
 refine Ev.step (fun k => TO k t) (Ev.bind (xr t a1 ai a2) (Ev.ite (fun h => Ev.some ?_) (fun h => ?_)))
 ·have : zi t = false := by simpa using h
  rw [this]; rfl
 ·have e : zi t = true := by simpa using h
  rw [if_pos e]
  have := gY t (zu e).1 ha hb t.2.1 0 rfl
  rw [List.take_zero, List.map_nil, List.append_nil] at this
  exact Ev.bind (em t.1 a1 ai) (Ev.yes (bG (m := 6) (by decide) (wL t.1) (by decide)) this)
end Qq
namespace Qq
open Go Go.Vt Pt
set_option linter.unusedVariables false
set_option linter.unusedSimpArgs false
def cnt (n : Nat) (P : List Bool → Bool) : Nat := (List.range (2 ^ n)).countP fun w => P (bits n w)
def ways (n : Nat) (p : List Int) : Nat := cnt n fun l => (riff l 0 (vG l)).take p.length == p
end Qq
namespace Qq
open Go Go.Vt Pt
set_option linter.unusedVariables false
set_option linter.unusedSimpArgs false
theorem FX (n N : Nat) (hn : n ≤ 12) (hN : 2 ^ n = N) : IntKind.i64.wrap ((1 : Int) * 2 ^ (min ((n : Int)).toNat IntKind.i64.bits)) = (N : Int) ∧ N ≤ 4096 := by
 have hb : IntKind.i64.bits = 64 := by decide
 have h : (2 : Nat) ^ n ≤ 2 ^ 12 := Nat.pow_le_pow_right (by decide) hn
 rw [hN] at h
 rw [hb, Int.toNat_natCast, Nat.min_eq_left (by omega), Int.one_mul]
 have e : ((2 : Int) ^ n) = (N : Int) := by rw [← hN]; norm_cast
 rw [e, zj (by omega) (by omega)]
 exact ⟨rfl, h⟩
def wayB (n : Nat) (p : List Int) (w : Nat) : Bool := (riff (bits n w) 0 (vG (bits n w))).take p.length == p
end Qq
namespace Qq
open Go Go.Vt Pt
set_option linter.unusedVariables false
set_option linter.unusedSimpArgs false
def nextWays (n : Nat) (p : List Int) : List Int := (List.range n).map fun (x : Nat) => ((ways n (p ++ [(x : Int)]) : Nat) : Int)
def yR (n : Int) (p : List Int) : List Int := if QE n p then (if (p.length : Int) = n then [] else nextWays n.toNat p) else []
theorem P3 (n : Nat) (p : List Int) : (nextWays n p).length = n := by simp [nextWays]
end Qq
namespace Qq
open Go Go.Vt Pt
set_option linter.unusedVariables false
set_option linter.unusedSimpArgs false
theorem Mv : ∀ (l : List Bool) (a b : Nat) (y : Int), a + vG l ≤ b → y ∈ riff l a b → 0 ≤ y ∧ y < (b : Int) + ones l
 | [], a, b, y, _, h => by simp [riff] at h
 | false :: l, a, b, y, hz, h => by
   have z1 : vG (false :: l) = vG l + 1 := by simp [vG]
   have z2 : ones (false :: l) = ones l := by simp [ones]
   rcases List.mem_cons.1 (show y ∈ (a : Int) :: riff l (a + 1) b from h) with e | h
   ·omega
   ·have := Mv l (a + 1) b y (by omega) h; omega
 | true :: l, a, b, y, hz, h => by
   have z1 : vG (true :: l) = vG l := by simp [vG]
   have z2 : ones (true :: l) = ones l + 1 := by simp [ones]
   rcases List.mem_cons.1 (show y ∈ (b : Int) :: riff l a (b + 1) from h) with e | h
   ·omega
   ·have := Mv l a (b + 1) y (by omega) h; omega
def rw_ (n w : Nat) : List Int := riff (bits n w) 0 (vG (bits n w))
theorem JW (n w : Nat) : (rw_ n w).length = n := by rw [rw_, Us, fo]
theorem E0 (n w i : Nat) (h : i < n) : ∃ c : Nat, c < n ∧ (rw_ n w)[i]? = some (c : Int) := by
 have hl : i < (rw_ n w).length := by rw [JW]; exact h
 have := Mv (bits n w) 0 (vG (bits n w)) (rw_ n w)[i] (by omega) (List.getElem_mem hl)
 have z := zo (bits n w)
 rw [fo] at z
 refine ⟨(rw_ n w)[i].toNat, by omega, ?_⟩
 rw [List.getElem?_eq_getElem hl]
 congr 1; omega
theorem Lu (n w : Nat) (p : List Int) (hl : p.length < n) (c : Nat) (hc : (rw_ n w)[p.length]? = some (c : Int)) (x : Nat) : wayB n (p ++ [(x : Int)]) w = (wayB n p w && (x == c)) := by
 have hlt : p.length < (rw_ n w).length := by rw [JW]; exact hl
 have e : (rw_ n w).take (p.length + 1) = (rw_ n w).take p.length ++ [(c : Int)] := by
  rw [List.take_succ_eq_append_getElem hlt]
  rw [List.getElem?_eq_getElem hlt] at hc
  injection hc with hc
  rw [hc]
 show ((rw_ n w).take (p ++ [(x : Int)]).length == p ++ [(x : Int)]) = ((rw_ n w).take p.length == p && (x == c))
 rw [List.length_append, List.length_singleton, e, Bool.eq_iff_iff]
 simp only [beq_iff_eq, Bool.and_eq_true]
 constructor
 ·intro h
  have := List.append_inj h (by rw [List.length_take]; omega)
  refine ⟨this.1, ?_⟩
  have h2 := this.2
  simp at h2; omega
 ·rintro ⟨h1, h2⟩
  rw [h1, h2]
def xi (n : Nat) (p : List Int) (i : Nat) : List Int := (List.range n).map fun (x : Nat) => (((List.range i).countP (wayB n (p ++ [(x : Int)])) : Nat) : Int)
theorem u4 (n : Nat) (p : List Int) (i : Nat) : (xi n p i).length = n := by simp [xi]
theorem u5 (n : Nat) (p : List Int) (i x : Nat) (h : x < n) : (xi n p i)[x]? = some (((List.range i).countP (wayB n (p ++ [(x : Int)])) : Nat) : Int) := by simp [xi, h]
theorem Qx (n : Nat) (p : List Int) (i : Nat) (hl : p.length < n) (c : Nat) (hc : (rw_ n i)[p.length]? = some (c : Int)) (hcn : c < n) (hw : wayB n p i = true) : (xi n p i).set c ((xi n p i).getD c 0 + 1) = xi n p (i + 1) := by
 apply List.ext_getElem?
 intro x
 rw [List.getElem?_set]
 by_cases hx : x < n
 ·rw [u5 n p (i + 1) x hx, List.range_succ, List.countP_append, List.countP_singleton, Lu n i p hl c hc x, hw]
  by_cases e : c = x
  ·subst e
   have hg : (xi n p i).getD c 0 = (((List.range i).countP (wayB n (p ++ [(c : Int)])) : Nat) : Int) := by rw [List.getD, u5 n p i c hx]; rfl
   rw [if_pos rfl, hg, u4, if_pos hx]
   simp
  ·have : ¬ x = c := fun h => e h.symm
   simp [e, this, u5 n p i x hx]
 ·have h1 : ¬ c = x := by omega
  rw [if_neg h1, List.getElem?_eq_none (by rw [u4]; omega), List.getElem?_eq_none (by rw [u4]; omega)]
theorem Qw (n : Nat) (p : List Int) (i : Nat) (hl : p.length < n) (hw : wayB n p i = false) : xi n p i = xi n p (i + 1) := by
 unfold xi
 apply List.map_congr_left
 intro x hx
 obtain ⟨c, hcn, hc⟩ := E0 n i p.length hl
 rw [List.range_succ, List.countP_append, List.countP_singleton, Lu n i p hl c hc x, hw]
 simp
theorem Uc (n N : Nat) (p : List Int) (h1 : 1 ≤ n) (hn : n ≤ 12) (hN : 2 ^ n = N) (hp : p.length < n) : ∀ (d i : Nat), i + d = N →
 Ev (fun k => ud k (n : Int) p (i : Int) (upTo n) (xi n p i)) (nextWays n p) := by
 obtain ⟨hpow, hle⟩ := FX n N hn hN
 intro d
 induction d with
 | zero =>
   intro i h
   refine Ev.step (fun k => bx k _ _ _ _ _) (Ev.yes (by simp) (Ev.no (by rw [hpow]; simp; omega) (Ev.yes ?_ (Ev.some ?_))))
   ·have := u4 n p i
    cases hx : xi n p i with
    | nil => rw [hx] at this; simp at this; omega
    | cons => rfl
   ·have e : i = N := by omega
    rw [e, ← hN]; rfl
 | succ d ih =>
   intro i h
   obtain ⟨c, hcn, hc⟩ := E0 n i p.length hp
   have hg : ∀ dd, (rw_ n i).getD p.length dd = (c : Int) := fun dd => by rw [List.getD, hc]; rfl
   refine Ev.step (fun k => bx k _ _ _ _ _) (Ev.yes (by simp) (Ev.yes (by rw [hpow]; simp; omega) (Ev.bind (Nl n i hn (by omega)) (Ev.yes (by simp) (Ev.yes (by rw [Us, fo]; simp; omega) ?_)))))
   rw [Int.toNat_natCast, List.drop_zero]
   refine Ev.bind (fp _ _ (by rw [List.length_take, zg]; omega) (by rw [zg]; omega)) ?_
   rw [zj (x := (i : Int) + 1) (by omega) (by omega)]
   have hrw : riff (bits n i) 0 (vG (bits n i)) = rw_ n i := rfl
   rw [hrw, hg 0, Int.toNat_natCast]
   have hin : wayB n p i = ((rw_ n i).take p.length == p) := rfl
   have ih' := ih (i + 1) (by omega)
   refine Ev.ite (fun cc => ?_) (fun cc => ?_)
   ·rw [← hin] at cc
    have hnum : (xi n p i).getD c 0 ≤ i := by
     rw [List.getD, u5 n p i c hcn]
     have := List.countP_le_length (p := wayB n (p ++ [(c : Int)])) (l := List.range i)
     simp at this ⊢; omega
    have hnum2 : 0 ≤ (xi n p i).getD c 0 := by
     rw [List.getD, u5 n p i c hcn]; simp
    have L := u4 n p i
    refine Ev.yes (by simp) (Ev.yes (by rw [JW]; simp; omega) (Ev.yes (by simp) (Ev.yes (by rw [L]; simp; omega) (Ev.yes (by rw [L]; simp; omega) (Ev.yes (by simp) (Ev.yes (by rw [L]; simp; omega) (Ev.yes (by rw [L]; simp; omega) ?_)))))))
    rw [zj (by omega) (by omega), Qx n p i hp c hc hcn cc]
    exact_mod_cast ih'
   ·rw [← hin] at cc
    rw [Qw n p i hp cc]
    exact_mod_cast ih'
theorem XJ (n : Int) (p : List Int) (hm : p.length ≤ maxLen) : Ev (fun k => WL k (n, p)) (yR n p) := by
 refine Ev.step (fun k => QW k n p) (Ev.bind (QK n p hm) (Ev.ite (fun h => Ev.some ?_) (fun h => Ev.ite (fun h' => Ev.some ?_) (fun h' => ?_))))
 ·have : QE n p = false := by simpa using h
  simp [yR, this]
 ·have : (p.length : Int) = n := by simpa using h'
  simp [yR, this]
 ·have hp : QE n p = true := by simpa using h
  have hne : ¬ (p.length : Int) = n := by simpa using h'
  obtain ⟨h1, h2, h3, h4, h5⟩ := aa hp
  have en : n = ((n.toNat : Nat) : Int) := by omega
  unfold yR
  rw [if_pos hp, if_neg hne]
  have hu := Xr n.toNat (by omega)
  rw [← en] at hu
  refine Ev.bind hu (Ev.yes (by simp; omega) (Ev.yes (by rw [zc]; simp; omega) (Ev.yes (by simp) ?_)))
  have := Uc n.toNat _ p (by omega) (by omega) rfl (by omega) (2 ^ n.toNat) 0 (by omega)
  have e0 : xi n.toNat p 0 = List.replicate n.toNat 0 := by
   apply List.ext_getElem?
   intro x
   simp [xi, List.getElem?_replicate]
   by_cases hx : x < n.toNat
   ·simp [hx]; omega
   ·simp [hx]; omega
  rw [e0, ← en] at this
  simpa using this
end Qq
namespace Qq
open Go Go.Vt Pt
set_option linter.unusedVariables false
set_option linter.unusedSimpArgs false
def mx (v y : Int) : Int := bif decide (y > v) then y else v
def maxF (v : Int) (r : List Int) : Int := r.foldl mx v
theorem E4 (v y : Int) : v ≤ mx v y ∧ y ≤ mx v y ∧ (mx v y = v ∨ mx v y = y) := by
 unfold mx
 by_cases h : y > v
 ·simp [h]; omega
 ·simp [h]; omega
theorem Wg (xs : List Int) (hm : xs.length ≤ maxLen) : ∀ (r : List Int) (i : Nat) (v : Int), xs.drop i = r → Ev (fun k => wE k xs v (i : Int)) (maxF v r)
 | [], i, v, h => by
   have a := zZ h
   refine Ev.step (fun k => jC k xs v i) ?_
   simp only [a.g, cond_false]
   exact Ev.pure _
 | y :: r, i, v, h => by
   have a := zy h hm
   refine Ev.step (fun k => jC k xs v i) ?_
   simp only [a.g, a.z, a.get, a.w, cond_true]
   exact Wg xs hm r (i + 1) _ a.next
theorem JE (x : Int) (r : List Int) (hm : (x :: r).length ≤ maxLen) : Ev (fun k => uJ k (x :: r)) (maxF x r) := by
 refine Ev.step (fun k => Wo k _) (Ev.no (by simp; omega) (Ev.yes (by simp) ?_))
 exact Wg (x :: r) hm r 1 x rfl
theorem JD (xs : List Int) (hm : xs.length ≤ maxLen) (hne : xs ≠ []) (hp : ∀ x ∈ xs, 0 ≤ x) : Ev (fun k => uJ k xs) (maxF 0 xs) := by
 cases xs with
 | nil => exact absurd rfl hne
 | cons x r =>
   refine (JE x r hm).to ?_
   have hx : 0 ≤ x := hp x (by simp)
   show _ = maxF (mx 0 x) r
   have : mx 0 x = x := by unfold mx; by_cases h : x > 0 <;> simp [h]; omega
   rw [this]
end Qq
namespace Qq
open Go Go.Vt Pt
set_option linter.unusedVariables false
set_option linter.unusedSimpArgs false
theorem P5 (n : Int) (p : List Int) : (yR n p).length ≤ 12 := by
 unfold yR
 split
 ·rename_i h
  have := aa h
  split
  ·simp
  ·rw [P3]; omega
 ·simp
theorem P4 (n : Int) (p : List Int) : ∀ x ∈ yR n p, 0 ≤ x := by
 unfold yR nextWays
 intro x hx
 split at hx
 ·split at hx
  ·cases hx
  ·obtain ⟨y, _, rfl⟩ := List.mem_map.1 hx
   simp
 ·cases hx
end Qq
namespace Qq
open Go Go.Vt Pt
set_option linter.unusedVariables false
set_option linter.unusedSimpArgs false
def tsum (T : Int → Int) : List Int → Nat → Int → Int
 | [], _, v => v
 | k :: r, i, v => tsum T r (i + 1) (if k > 0 then IntKind.i64.wrap (v + T i) else v)
def tot (n : Int) : Nat → List Int → Int
 | 0, _ => 0
 | f + 1, p => tsum (fun x => tot n f (p ++ [x])) (yR n p) 0 (maxF 0 (yR n p))
theorem MC (n : Int) (p : List Int) : ∀ x ∈ yR n p, x ≤ 4096 := by
 intro x hx
 unfold yR at hx
 split at hx
 ·rename_i hp
  have h1 := aa hp
  split at hx
  ·cases hx
  ·have e : nextWays n.toNat p = xi n.toNat p (2 ^ n.toNat) := rfl
   rw [e] at hx
   obtain ⟨y, _, rfl⟩ := List.mem_map.1 hx
   have := List.countP_le_length (p := wayB n.toNat (p ++ [(y : Int)])) (l := List.range (2 ^ n.toNat))
   rw [List.length_range] at this
   have : 2 ^ n.toNat ≤ 2 ^ 12 := Nat.pow_le_pow_right (by omega) (by omega)
   omega
 ·cases hx
theorem Hd : ∀ (r : List Int) (v : Int), (∀ x ∈ r, x ≤ 4096) → v ≤ 4096 → maxF v r ≤ 4096
 | [], v, _, h => h
 | y :: r, v, h, hv => by
   have hy := h y (by simp)
   have := E4 v y
   exact Hd r (mx v y) (fun x hx => h x (by simp [hx])) (by omega)
theorem P6 {n : Int} {p : List Int} (h : n ≤ p.length) : yR n p = [] := by
 unfold yR
 split
 ·rename_i hp
  have := aa hp
  rw [if_pos (by omega)]
 ·rfl
theorem K1 (n : Int) : ∀ (f : Nat) (p : List Int), n ≤ (p.length : Int) + f → p.length ≤ 13 → Ev (fun k => QG k (n, p)) (tot n f p) := by
 intro f
 induction f with
 | zero =>
   intro p h hp
   refine Ev.step (fun k => RX k n p) (Ev.bind (XJ n p (by rw [zg]; omega)) ?_)
   rw [P6 (by omega)]
   exact Ev.yes rfl (Ev.some rfl)
 | succ f ih =>
   intro p h hp
   refine Ev.step (fun k => RX k n p) (Ev.bind (XJ n p (by rw [zg]; omega)) ?_)
   have hl := P5 n p
   have hpos := P4 n p
   have hnil : yR n p = [] ∨ p.length ≤ 12 := by
    by_cases e : yR n p = []
    ·exact .inl e
    ·right
     unfold yR at e
     split at e
     ·rename_i hpp
      have := aa hpp; omega
     ·exact absurd rfl e
   unfold tot
   revert hl hpos hnil
   generalize yR n p = xs
   intro hl hpos hnil
   have loop : ∀ (r : List Int) (i : Nat) (v : Int), xs.drop i = r → Ev (fun k => fU k n p v (xs.length : Int) (i : Int) xs) (tsum (fun x => tot n f (p ++ [x])) r i v) := by
    intro r
    induction r with
    | nil =>
      intro i v h'
      have a := zZ h'
      refine Ev.step (fun k => Xs k _ _ _ _ _ _) ?_
      simp only [a.g, cond_false]
      exact Ev.pure _
    | cons y r ihr =>
      intro i v h'
      have a := zy h' (by rw [zg]; omega)
      refine Ev.step (fun k => Xs k _ _ _ _ _ _) ?_
      simp only [a.g, a.z, a.n, a.get, a.w, cond_true]
      have hp12 : p.length ≤ 12 := by
       rcases hnil with e | e
       ·rw [e] at h'; simp at h'
       ·exact e
      unfold tsum
      refine Ev.ite (fun c => ?_) (fun c => ?_)
      ·have c' : y > 0 := by simpa using c
       rw [if_pos c']
       refine Ev.bind (yc p (by omega)) (Ev.yes (by rw [zc]; simp; omega) ?_)
       refine Ev.bind (ih (p ++ [(i : Int)]) (by simp; omega) (by simp; omega)) ?_
       exact ihr (i + 1) _ a.next
      ·have c' : ¬ y > 0 := by simpa using c
       rw [if_neg c']
       exact ihr (i + 1) v a.next
   refine Ev.ite (fun c => ?_) (fun c => ?_)
   ·have : xs = [] := by simpa using c
    subst this
    exact Ev.some rfl
   ·have hne : xs ≠ [] := by simpa using c
    exact Ev.bind (JD xs (by rw [zg]; omega) hne hpos) (loop xs 0 _ rfl)
end Qq
namespace Qq
open Go Go.Vt Pt
set_option linter.unusedVariables false
abbrev Cn : Type := Trick × Scene
def okB : ByteArray := ⟨#[111, 107]⟩
def YA : ByteArray := ⟨#[110, 111, 110, 101]⟩
def unkB : ByteArray := ⟨#[117, 110, 107, 110, 111, 119, 110, 32, 99, 111, 109, 109, 97, 110, 100]⟩
def semi : ByteArray := ⟨#[59]⟩
structure Fns where
 run : Trick → List Int → List Int × Int × Bool
 ps : ByteArray → StepR
 mv : List Int → Int × Int → List Int
 ver : Trick → ByteArray
 sh : Trick → List Int × List Step × Int × Int × Int × Bool
 bfs : Nat → Int → Nat → List Int → List (Int × List Int) → Option (List Int × Bool)
def jL (c : Cn) (t : Trick) : Cn × ByteArray := if zi t then ((t, c.2), okB) else (c, YA)
def V2 : List ByteArray → Option (List Int)
 | [] => some []
 | w :: r => if (yJ w).2 then (match V2 r with | some l => some ((yJ w).1 :: l) | none => none) else none
def X6 (c : Cn) (ws : List ByteArray) : Cn × ByteArray :=
 match V2 ws.tail with
 | none => (c, unkB)
 | some l =>
   if ws.length = 0 then jL c (c.1.1, c.1.2.1, 0, 0, 0) else
   if ws.headD ⟨#[]⟩ = ⟨#[110, 111, 116, 101, 100]⟩ ∧ ws.length = 2 then jL c (c.1.1, c.1.2.1, 1, l.getD 0 0, 0) else
   if ws.headD ⟨#[]⟩ = ⟨#[117, 112]⟩ ∧ ws.length = 2 then jL c (c.1.1, c.1.2.1, 2, l.getD 0 0, 0) else
   if ws.headD ⟨#[]⟩ = ⟨#[99, 97, 114, 100]⟩ ∧ ws.length = 3 then jL c (c.1.1, c.1.2.1, 3, l.getD 0 0, l.getD 1 0) else
   if ws.headD ⟨#[]⟩ = ⟨#[111, 114, 100, 101, 114]⟩ ∧ ws.length = 1 then jL c (c.1.1, c.1.2.1, 4, 0, 0) else (c, unkB)
def PE (c : Cn) (s : List Int × Int × Bool) : Cn × ByteArray := if s.2.2 then ((c.1, (s.1, s.2.1)), gb (s.1, s.2.1)) else (c, YA)
def Ml (n : Nat) (at_ k : Int) : Int := idx at_ 0 (MZ (upTo n) k)
def goF (n : Nat) (a k : Int) (s : List Int × List (Int × List Int)) : List Int × List (Int × List Int) :=
 match wP s.2 (Ml n a k) with
 | some _ => s
 | none => (s.1 ++ [Ml n a k], bK s.2 (Ml n a k) ((wP s.2 a).getD [] ++ [k]))
def bfsO (n : Nat) (to : Int) : Nat → List Int → List (Int × List Int) → Option (List Int × Bool)
 | 0, _, _ => none
 | _ + 1, [], _ => some ([], false)
 | f + 1, a :: q, m => if a = to then some ((wP m to).getD [], true) else bfsO n to f (goF n a 1 (goF n a 0 (q, m))).1 (goF n a 1 (goF n a 0 (q, m))).2
def b0 (n : Int) : Bool := decide (2 ≤ n) && (decide (n ≤ 12) && n % 2 == 0)
def vN (F : Fns) (n from_ to : Int) : List Int × Bool := if b0 n = true ∧ (0 ≤ from_ ∧ from_ < n) ∧ 0 ≤ to ∧ to < n then (F.bfs n.toNat to 14 [from_] [(from_, [])]).getD ([], false) else ([], false)
def Mp (l : List Int) : ByteArray := if l = [] then ⟨#[45]⟩ else strB (l.map fun k => if k = 0 then 79 else 73)
def guessB (n : Int) : ByteArray := if 1 ≤ n ∧ n ≤ 8 ∧ 0 ≤ tot n 8 [] then yt (tot n 8 []) else YA
def vS (F : Fns) (c : Cn) (w : ByteArray) (l : List Int) : Cn × ByteArray :=
 if w = ⟨#[112, 108, 97, 121]⟩ then PE c (F.run c.1 l) else
 if w = ⟨#[102, 97, 114, 111]⟩ ∧ l.length = 2 then (c, if (vN F c.2.1.length (l.getD 0 0) (l.getD 1 0)).2 then Mp (vN F c.2.1.length (l.getD 0 0) (l.getD 1 0)).1 else YA) else
 if w = ⟨#[103, 117, 101, 115, 115]⟩ ∧ l.length = 1 then (c, guessB (l.getD 0 0)) else (c, unkB)
def vP (F : Fns) (p : List Int) (m : Int × Int) : List Int × Bool := if zl p && vT p.length m then (F.mv p m, true) else ([], false)
def Qp (F : Fns) (c : Cn) (w rest : ByteArray) : Cn × ByteArray :=
 if w = ⟨#[112, 97, 99, 107, 101, 116]⟩ then
  (if (yx rest).2 then
    (if zi ((yx rest).1, [], 0, 0, 0) then ((((yx rest).1, [], 0, 0, 0), ((yx rest).1, -1)), okB) else (c, YA))
   else (c, unkB)) else
 if w = ⟨#[115, 116, 101, 112]⟩ then
  (if (F.ps rest).2.2.2.2 then jL c (c.1.1, c.1.2.1 ++ [((F.ps rest).1, ((F.ps rest).2.1, (F.ps rest).2.2.1), (F.ps rest).2.2.2.1)], c.1.2.2) else (c, unkB)) else
 if (zI rest).2.2 then PE c ((vP F c.2.1 ((zI rest).1, (zI rest).2.1)).1, c.2.2, (vP F c.2.1 ((zI rest).1, (zI rest).2.1)).2) else (c, unkB)
def permOf (F : Fns) (n : Nat) (m : Int × Int) : List Int × Bool :=
 if vT n m then (if Ww (upTo n) (F.mv (upTo n) m) then ((F.mv (upTo n) m).map fun x => pos (upTo n) (card x), true) else ([], false)) else ([], false)
def cyclesC (F : Fns) (c : Cn) (ws : List ByteArray) : ByteArray :=
 if ws.length = 2 then
  (if (yJ (ws.getD 1 ⟨#[]⟩)).2 then
    (if (permOf F c.2.1.length (wY (ws.getD 0 ⟨#[]⟩), (yJ (ws.getD 1 ⟨#[]⟩)).1)).2 then eH (permOf F c.2.1.length (wY (ws.getD 0 ⟨#[]⟩), (yJ (ws.getD 1 ⟨#[]⟩)).1)).1 else YA)
   else unkB)
 else unkB
def Ps (F : Fns) (c : Cn) (w : ByteArray) : Cn × ByteArray :=
 if w = ⟨#[99, 104, 101, 99, 107]⟩ then (c, F.ver c.1) else
 if w = ⟨#[115, 104, 111, 114, 116]⟩ then
  (if (F.sh c.1).2.2.2.2.2 then ((((F.sh c.1).1, (F.sh c.1).2.1, (F.sh c.1).2.2.1, (F.sh c.1).2.2.2.1, (F.sh c.1).2.2.2.2.1), c.2), xw (xb ((F.sh c.1).1, (F.sh c.1).2.1, (F.sh c.1).2.2.1, (F.sh c.1).2.2.2.1, (F.sh c.1).2.2.2.2.1)) semi) else (c, YA)) else
 if w = ⟨#[115, 104, 111, 119]⟩ then (c, xw (xb c.1) semi) else (c, unkB)
def NH (F : Fns) (c : Cn) (line : ByteArray) : Cn × ByteArray :=
 let w := (cutB line).headD ⟨#[]⟩; let r := (cutB line).tail
 if w = ⟨#[112, 97, 99, 107, 101, 116]⟩ ∨ w = ⟨#[115, 116, 101, 112]⟩ ∨ w = ⟨#[100, 111]⟩ then Qp F c w (xw r sp) else
 if w = ⟨#[99, 108, 97, 105, 109]⟩ then X6 c r else
 if w = ⟨#[99, 121, 99, 108, 101, 115]⟩ then (c, cyclesC F c r) else
 if w = ⟨#[112, 108, 97, 121]⟩ ∨ w = ⟨#[102, 97, 114, 111]⟩ ∨ w = ⟨#[103, 117, 101, 115, 115]⟩ then (match V2 r with | some l => vS F c w l | none => (c, unkB)) else
 if 0 < r.length then (c, unkB) else Ps F c w
def x7 (F : Fns) (c : Cn) (line : ByteArray) : Cn × ByteArray := if line = ⟨#[]⟩ ∨ line.data.toList.headD 0 = 35 then (c, ⟨#[]⟩) else NH F c line
def eX (F : Fns) : List ByteArray → Cn → ByteArray → Cn × ByteArray
 | [], c, acc => (c, acc)
 | l :: r, c, acc => eX F r (x7 F c l).1 (if (x7 F c l).2 = ⟨#[]⟩ then acc else acc ++ ((x7 F c l).2 ++ nl))
def con1 : Cn := ((upTo 4, [], 0, 0, 0), (upTo 4, -1))
def wF (F : Fns) (s : ByteArray) : ByteArray × Int := if (j8 s).length > 40 then (⟨#[]⟩, -1) else ((eX F (j8 s) con1 ⟨#[]⟩).2, ((j8 s).length : Int))
noncomputable def reF : Fns := ⟨xp, yY, xz, wu, yG, bfsO⟩
end Qq
namespace Qq
open Go Go.Vt Pt
set_option linter.unusedVariables false
set_option linter.unusedSimpArgs false
set_option linter.unnecessarySimpa false
def fzF : Nat → Bool → List Int → List Int → List Int
 | 0, _, _, _ => []
 | _ + 1, _, [], [] => []
 | n + 1, f, x :: a, [] => x :: fzF n (!f) a []
 | n + 1, f, [], y :: b => y :: fzF n (!f) [] b
 | n + 1, true, x :: a, y :: b => x :: fzF n false a (y :: b)
 | n + 1, false, x :: a, y :: b => y :: fzF n true (x :: a) b
theorem fz_F : ∀ (n : Nat) (f : Bool) (a b : List Int), a.length + b.length < n → fz f a b = fzF n f a b
 | 0, f, a, b, h => by omega
 | n + 1, f, [], [], h => by unfold fz fzF; rfl
 | n + 1, f, x :: a, [], h => by unfold fz fzF; rw [fz_F n (!f) a [] (by simp at h ⊢; omega)]
 | n + 1, f, [], y :: b, h => by unfold fz fzF; rw [fz_F n (!f) [] b (by simp at h ⊢; omega)]
 | n + 1, true, x :: a, y :: b, h => by unfold fz fzF; rw [fz_F n false a (y :: b) (by simp at h ⊢; omega)]
 | n + 1, false, x :: a, y :: b, h => by unfold fz fzF; rw [fz_F n true (x :: a) b (by simp at h ⊢; omega)]
def moveV (p : List Int) (m : Int × Int) : List Int := if m.1 = 4 then fzF (p.length + 1) (m.2 == 0) (p.take (p.length / 2)) (p.drop (p.length / 2)) else xz p m
theorem FM (p : List Int) (m : Int × Int) : xz p m = moveV p m := by
 unfold moveV
 by_cases h : m.1 = 4
 ·rw [if_pos h]
  unfold xz MZ
  rw [if_neg (by omega), if_neg (by omega), if_neg (by omega), if_pos h]
  exact fz_F _ _ _ _ (by rw [List.length_take, List.length_drop]; omega)
 ·rw [if_neg h]
def insV (x : List Int) : Packs → Packs
 | [] => [x]
 | y :: r => if cmpI x y < 0 then x :: y :: r else if x = y then y :: r else y :: insV x r
def ssV : Packs → Bool
 | [] => true
 | x :: r => r.all (fun y => decide (cmpI x y < 0)) && ssV r
theorem FI : ∀ {l : Packs}, ssV l = true → SS l
 | [], _ => List.Pairwise.nil
 | x :: r, h => by
   unfold ssV at h
   rw [Bool.and_eq_true, List.all_eq_true] at h
   exact List.pairwise_cons.2 ⟨fun y hy => of_decide_eq_true (h.1 y hy), FI h.2⟩
def goodV (l m : Packs) : Bool := ssV m && (m.all (fun a => l.contains a) && l.all (fun a => m.contains a))
def setV (l : Packs) : Packs := if goodV l (l.foldr insV []) = true then l.foldr insV [] else setL l
theorem Dm (l : Packs) : setL l = setV l := by
 unfold setV
 split
 ·rename_i h
  unfold goodV at h
  simp only [Bool.and_eq_true, List.all_eq_true, List.contains_iff_mem] at h
  exact (F6 (FI h.1) (fun z => ⟨h.2.1 z, h.2.2 z⟩)).symm
 ·rfl
def nextV (c : Scene) (s : zT) : List Scene :=
 if s.1 = 1 then [(moveV c.1 s.2.1, c.2)] else if s.1 = 3 then [(c.1, card (c.1.getD s.2.2.toNat 0))] else (setV (wN c.1 s.2.2)).map fun q => (q, c.2)
theorem FL (c : Scene) (s : zT) : zm c s = nextV c s := by
 unfold zm nextV
 rw [FM, Dm]
def goV (s : zT) : List Way → List Way → List Way
 | [], acc => acc
 | c :: r, acc => goV s r (addP s c.2 0 (nextV c.1 s) acc)
theorem go_V (s : zT) : ∀ (l acc : List Way), goP s l acc = goV s l acc
 | [], acc => rfl
 | c :: r, acc => by unfold goP goV; rw [FL, go_V s r]
def endsV : List zT → List Way → Option (List Way)
 | [], l => some l
 | s :: r, l => if (goV s l []).length ≤ 3000 then endsV r (goV s l []) else none
theorem HO : ∀ (r : List zT) (l : List Way), bL r l = endsV r l
 | [], l => rfl
 | s :: r, l => by rw [vC, endsV, go_V, HO r]
end Qq
namespace Qq
open Go Go.Vt Pt
set_option linter.unusedVariables false
def Yg (t : Trick) : VdR :=
 if zi t then (match endsV t.2.1 (yL t) with | none => (3, [], [], 0, true) | some A => NE (A.find? (fun w => !jK t w.1))) else (0, [], [], 0, false)
theorem Lg (t : Trick) : wt t = Yg t := by unfold wt Yg jh; rw [HO]; try rfl
def countV (t : Trick) : Int := if zi t then (match endsV t.2.1 (yL t) with | some A => ((A.map Prod.fst).length : Int) | none => -1) else -1
theorem EF (t : Trick) : jj t = countV t := by
 unfold jj countV wc jh
 rw [HO]
 by_cases h : zi t = true
 ·rw [if_pos h, if_pos h]
  cases endsV t.2.1 (yL t) <;> rfl
 ·rw [if_neg h, if_neg h]; rfl
def verdictV (t : Trick) : ByteArray :=
 if (Yg t).1 = 1 then ((⟨#[104, 111, 108, 100, 115, 32, 102, 111, 114, 32]⟩ : ByteArray) ++ yt (countV t)) ++ ⟨#[32, 101, 110, 100, 115]⟩ else
 if (Yg t).1 = 2 then (((⟨#[102, 97, 105, 108, 115, 32, 102, 111, 114, 32]⟩ : ByteArray) ++ xy (Yg t).2.1) ++ ⟨#[32, 58, 32]⟩) ++ gb ((Yg t).2.2.1, (Yg t).2.2.2.1) else
 if (Yg t).1 = 3 then ⟨#[116, 111, 111, 32, 109, 97, 110, 121]⟩ else ⟨#[]⟩
theorem JJ (t : Trick) : wu t = verdictV t := by unfold wu verdictV; rw [Lg, EF]
def need1V (t : Trick) (i : Nat) : Bool := !((t.2.1.getD i stepZ).1 == 1 && ((Yg (uD t i)).1 == 1))
def shortV : Nat → Trick → Nat → Trick
 | 0, t, _ => t
 | f + 1, t, i => if i < t.2.1.length then (if need1V t i = true then shortV f t (i + 1) else shortV f (uD t i) 0) else t
theorem Mq : ∀ (f : Nat) (t : Trick) (i : Nat), ZH f t i = shortV f t i
 | 0, _, _ => rfl
 | f + 1, t, i => by
   have e : Tp t i = need1V t i := by unfold Tp need1V jg; rw [Lg]
   unfold ZH shortV
   rw [e, Mq f, Mq f]
def shortenV (t : Trick) : List Int × List Step × Int × Int × Int × Bool := if ((Yg t).1 == 1) = true then withB (shortV 200 t 0) true else noTrick
theorem JV (t : Trick) : yG t = shortenV t := by unfold yG shortenV jg; rw [Lg, Mq]
def tk (a : Int) : Trick := (upTo 4, [(2, (0, 0), 4), (3, (0, 0), 0), (1, (1, a), 0)], 1, 4 - a, 0)
end Qq
namespace Qq
open Go Go.Vt Pt
set_option linter.unusedVariables false
def Tn (s : ByteArray) : Nat → Option Nat
 | 0 => none
 | n + 1 => if s = Yz (n : Int) then some n else Tn s n
theorem Tl {s : ByteArray} : ∀ {n k : Nat}, Tn s n = some k → k < n ∧ s = Yz (k : Int)
 | n + 1, k, h => by
   unfold Tn at h
   split at h
   ·rename_i e; cases h; exact ⟨by omega, e⟩
   ·obtain ⟨a, b⟩ := Tl h; exact ⟨by omega, b⟩
theorem Tm {s : ByteArray} : ∀ {n : Nat}, Tn s n = none → ∀ k : Nat, k < n → s ≠ Yz (k : Int)
 | n + 1, h, k, hk => by
   unfold Tn at h
   split at h
   ·cases h
   ·rename_i e
    by_cases hkn : k = n
    ·subst hkn; exact e
    ·exact Tm h k (by omega)
def restV (s : ByteArray) : StepR :=
 if (zI s).2.2 = true then (1, (zI s).1, (zI s).2.1, 0, true) else
 match Tn s 12 with | some k => (3, 0, 0, (k : Int), true) | none => (0, 0, 0, 0, false)
theorem E2 (s : ByteArray) : SQ s = restV s := by
 by_cases hm : (zI s).2.2 = true
 ·unfold SQ restV; rw [if_pos hm, if_pos hm]
 ·unfold restV
  rw [if_neg hm]
  cases h : Tn s 12 with
  | some k =>
    obtain ⟨a, b⟩ := Tl h
    exact RF hm ⟨by omega, by omega⟩ b
  | none =>
    refine RG hm (fun ⟨a, ha, hs⟩ => Tm h a.toNat (by omega) ?_)
    rw [Int.toNat_of_nonneg ha.1]; exact hs
def parseStepV (s : ByteArray) : StepR := match chF s 5 0 with | some k => (2, 0, 0, k, true) | none => restV s
theorem MA (s : ByteArray) : yY s = parseStepV s := by
 unfold yY parseStepV
 rw [E2]
 all_goals (cases chF s 5 0 <;> rfl)
end Qq
namespace Qq
open Go Go.Vt Pt
set_option linter.unusedVariables false
def stepY (n : Nat) (a k : Int) : Int := idx a 0 (fzF (n + 1) (k == 0) ((upTo n).take (n / 2)) ((upTo n).drop (n / 2)))
def goY (n : Nat) (a k : Int) (s : List Int × List (Int × List Int)) : List Int × List (Int × List Int) :=
 match wP s.2 (stepY n a k) with
 | some _ => s
 | none => (s.1 ++ [stepY n a k], bK s.2 (stepY n a k) ((wP s.2 a).getD [] ++ [k]))
def bfsY (n : Nat) (to : Int) : Nat → List Int → List (Int × List Int) → Option (List Int × Bool)
 | 0, _, _ => none
 | _ + 1, [], _ => some ([], false)
 | f + 1, a :: q, m => if a = to then some ((wP m to).getD [], true) else bfsY n to f (goY n a 1 (goY n a 0 (q, m))).1 (goY n a 1 (goY n a 0 (q, m))).2
theorem F3 (n : Nat) (a k : Int) : Ml n a k = stepY n a k := by
 unfold Ml stepY MZ
 rw [vI, fz_F (n + 1) _ _ _ (by rw [List.length_take, List.length_drop, vI]; omega)]
theorem E8 (n : Nat) (a k : Int) (s : List Int × List (Int × List Int)) : goF n a k s = goY n a k s := by
 unfold goF goY; rw [F3]; try rfl
theorem Gb (n : Nat) (to : Int) : ∀ (f : Nat) (q : List Int) (m : List (Int × List Int)), bfsO n to f q m = bfsY n to f q m
 | 0, _, _ => rfl
 | _ + 1, [], _ => rfl
 | f + 1, a :: q, m => by
   unfold bfsO bfsY
   rw [Gb n to f, E8, E8]
def smallO : Option (List Int × Bool) → Bool
 | none => false | some r => decide (r.1.length ≤ 12)
def allY : Bool := [2, 4, 6, 8, 10, 12].all fun n => (List.range n).all fun a => (List.range n).all fun b => smallO (bfsY n (b : Int) 14 [(a : Int)] [((a : Int), [])])
theorem EM : allY = true := by decide +kernel
theorem Kl {n a b : Nat} (hp : b0 (n : Int) = true) (ha : a < n) (hb : b < n) : ∃ r, bfsO n (b : Int) 14 [(a : Int)] [((a : Int), [])] = some r ∧ r.1.length ≤ 12 := by
 rw [Gb]
 have h := List.all_eq_true.1 EM n (by
  unfold b0 at hp
  simp only [Bool.and_eq_true, decide_eq_true_eq, beq_iff_eq] at hp
  have : n = 2 ∨ n = 4 ∨ n = 6 ∨ n = 8 ∨ n = 10 ∨ n = 12 := by omega
  simp; exact this)
 have h2 := List.all_eq_true.1 (List.all_eq_true.1 h a (List.mem_range.2 ha)) b (List.mem_range.2 hb)
 cases e : bfsY n (b : Int) 14 [(a : Int)] [((a : Int), [])] with
 | none => rw [e] at h2; cases h2
 | some r => rw [e] at h2; exact ⟨r, rfl, of_decide_eq_true h2⟩
theorem Vh (n : Nat) (a b : Int) : (vN reF (n : Int) a b).1.length ≤ 12 := by
 unfold vN
 split
 ·rename_i h
  obtain ⟨hp, ⟨h1, h2⟩, h3, h4⟩ := h
  obtain ⟨r, e, hr⟩ := Kl hp (a := a.toNat) (b := b.toNat) (by omega) (by omega)
  rw [Int.toNat_of_nonneg h1, Int.toNat_of_nonneg h3] at e
  show ((bfsO ((n : Int)).toNat b 14 [a] [(a, [])]).getD ([], false)).1.length ≤ 12
  rw [Int.toNat_natCast, e]
  exact hr
 ·decide
end Qq
namespace Qq
open Go Go.Vt Pt
set_option linter.unusedVariables false
def runLV : List Step → Scene → List Int → List Int × Int × Bool
 | [], c, _ => (c.1, c.2, true)
 | s :: r, c, ps =>
   let k := if s.1 = 2 then ps.getD 0 0 else 0
   if 0 ≤ k ∧ k < (nextV c s).length then runLV r ((nextV c s).getD k.toNat ([], 0)) (if s.1 = 2 then ps.drop 1 else ps) else ([], 0, false)
theorem FJ : ∀ (l : List Step) (c : Scene) (ps : List Int), runL l c ps = runLV l c ps
 | [], _, _ => rfl
 | s :: r, c, ps => by
   unfold runL runLV
   simp only [FL, FJ r]
def runTrickV (t : Trick) (ps : List Int) : List Int × Int × Bool :=
 if zi t = true ∧ (ps.length : Int) = xT t then runLV t.2.1 (t.1, -1) ps else ([], 0, false)
theorem KP (t : Trick) (ps : List Int) : xp t ps = runTrickV t ps := by unfold xp runTrickV; rw [FJ]
def compF : Fns := ⟨runTrickV, parseStepV, moveV, verdictV, shortenV, bfsY⟩
theorem LK : reF = compF := by
 unfold reF compF
 have h1 : xp = runTrickV := funext fun t => funext fun p => KP t p
 have h2 : yY = parseStepV := funext MA
 have h3 : xz = moveV := funext fun p => funext fun m => FM p m
 have h4 : wu = verdictV := funext JJ
 have h5 : yG = shortenV := funext JV
 have h6 : bfsO = bfsY := funext fun n => funext fun to => funext fun f => funext fun q => funext fun m => Gb n to f q m
 rw [h1, h2, h3, h4, h5, h6]
def uS (a : Int) : ByteArray := (((((⟨#[112, 97, 99, 107, 101, 116, 32, 48, 32, 49, 32, 50, 32, 51, 10, 115, 116, 101, 112, 32, 112, 105, 99, 107, 10, 115, 116, 101, 112, 32, 110, 111, 116, 101, 32, 48, 10, 115, 116, 101, 112, 32, 99, 117, 116, 32]⟩ : ByteArray) ++ yt a) ++ ⟨#[10, 99, 108, 97, 105, 109, 32, 110, 111, 116, 101, 100, 32]⟩) ++ yt (4 - a)) ++ ⟨#[10, 99, 104, 101, 99, 107, 10, 115, 104, 111, 119, 10, 112, 108, 97, 121, 32, 50, 10, 112, 97, 99, 107, 101, 116, 32, 48, 32, 49, 32, 50, 32, 51, 10, 100, 111, 32, 102, 97, 114, 111, 32, 49, 10, 100, 111, 32, 109, 105, 108, 107, 32, 48, 10, 100, 111, 32, 102, 108, 105, 112, 32, 50, 10, 99, 121, 99, 108, 101, 115, 32, 102, 97, 114, 111, 32, 48, 10, 102, 97, 114, 111, 32, 48, 32, 51, 10, 103, 117, 101, 115, 115, 32, 50, 10, 115, 116, 101, 112, 32, 99, 117, 116, 32, 49, 10, 115, 116, 101, 112, 32, 99, 117, 116, 32, 51, 10, 115, 116, 101, 112, 32, 112, 105, 99, 107, 10, 115, 116, 101, 112, 32, 110, 111, 116, 101, 32, 48, 10, 99, 108, 97, 105, 109, 32, 110, 111, 116, 101, 100, 32, 48, 10, 115, 104, 111, 114, 116, 10, 99, 108, 97, 105, 109, 32, 110, 111, 116, 101, 100, 32, 49, 10, 99, 104, 101, 99, 107]⟩)
def confOk (a : Int) (out : ByteArray) : Bool :=
 let l := j8 out
 let g (i : Nat) : ByteArray := l.getD i ⟨#[]⟩
 l.length == 23 && (decide (g 0 = ⟨#[111, 107]⟩) && (decide (g 4 = ⟨#[111, 107]⟩) && (decide (g 5 = ⟨#[104, 111, 108, 100, 115, 32, 102, 111, 114, 32, 52, 32, 101, 110, 100, 115]⟩) &&
 (decide (g 6 = ((((⟨#[115, 116, 97, 114, 116, 32, 48, 32, 49, 32, 50, 32, 51, 59, 112, 105, 99, 107, 59, 110, 111, 116, 101, 32, 48, 59, 99, 117, 116, 32]⟩ : ByteArray) ++ yt a) ++ ⟨#[59, 99, 108, 97, 105, 109, 32, 110, 111, 116, 101, 100, 32, 97, 116, 32]⟩) ++ yt (4 - a))) &&
 (decide (g 7 ≠ ⟨#[110, 111, 110, 101]⟩) && (decide (g 9 = ⟨#[50, 32, 48, 32, 51, 32, 49]⟩) && (decide (g 10 = ⟨#[48, 32, 51, 32, 50, 32, 49]⟩) && (decide (g 11 = ⟨#[51, 94, 32, 48, 94, 32, 50, 32, 49]⟩) &&
 (decide (g 12 = ⟨#[40, 48, 41, 40, 49, 32, 50, 41, 40, 51, 41]⟩) && (decide (g 13 = ⟨#[73, 73]⟩) && (decide (g 14 = ⟨#[55]⟩) &&
 (decide (g 20 = ⟨#[115, 116, 97, 114, 116, 32, 48, 32, 49, 32, 50, 32, 51, 59, 112, 105, 99, 107, 59, 110, 111, 116, 101, 32, 48, 59, 99, 108, 97, 105, 109, 32, 110, 111, 116, 101, 100, 32, 97, 116, 32, 48]⟩) && decide (g 22 = ⟨#[102, 97, 105, 108, 115, 32, 102, 111, 114, 32, 48, 32, 58, 32, 48, 32, 49, 32, 50, 32, 51, 32, 110, 111, 116, 101, 100, 32, 48]⟩)))))))))))))
theorem Fm : ∀ i : Fin 3, confOk ((i.val : Int) + 1) (wF compF (uS ((i.val : Int) + 1))).1 = true := by decide +kernel
end Qq
namespace Qq
open Go Go.Vt Pt
set_option linter.unusedVariables false
theorem Mu (F : Fns) (c : Cn) : x7 F c ⟨#[]⟩ = (c, ⟨#[]⟩) := by unfold x7; rw [if_pos (.inl rfl)]
theorem Vm (F : Fns) : ∀ (l m : List ByteArray) (c : Cn) (acc : ByteArray), eX F (l ++ m) c acc = eX F m (eX F l c acc).1 (eX F l c acc).2
 | [], _, _, _ => rfl
 | x :: l, m, c, acc => by
   show eX F (l ++ m) _ _ = _
   rw [Vm F l m]; rfl
theorem J0 (F : Fns) (c : Cn) (acc : ByteArray) : (eX F [⟨#[]⟩] c acc).2 = acc := by
 show (if (x7 F c ⟨#[]⟩).2 = ⟨#[]⟩ then acc else acc ++ ((x7 F c ⟨#[]⟩).2 ++ nl)) = acc
 rw [Mu, if_pos rfl]
theorem Mn {l : List ByteArray} (h : l ≠ []) (hs : ∀ a ∈ l, ∀ b ∈ a.data.toList, b ≠ 10) : j8 (xw l nl) = if l.getLastD ⟨#[]⟩ = ⟨#[]⟩ then l.dropLast else l := by
 unfold j8
 rw [Lb l h hs]
theorem PF (F : Fns) {l : List ByteArray} (h : l ≠ []) (hs : ∀ a ∈ l, ∀ b ∈ a.data.toList, b ≠ 10) (h40 : l.length ≤ 40) :
 (wF F (xw l nl)).1 = (eX F l con1 ⟨#[]⟩).2 ∧ (l.length : Int) - 1 ≤ (wF F (xw l nl)).2 ∧ (wF F (xw l nl)).2 ≤ l.length := by
 unfold wF
 rw [Mn h hs]
 by_cases e : l.getLastD ⟨#[]⟩ = ⟨#[]⟩
 ·rw [if_pos e, if_neg (by rw [List.length_dropLast]; omega)]
  have hl : l = l.dropLast ++ [⟨#[]⟩] := by
   rw [← e, List.getLastD_eq_getLast?, List.getLast?_eq_some_getLast h]
   exact (List.dropLast_concat_getLast h).symm
  refine ⟨?_, ?_, ?_⟩
  ·conv => rhs; rw [hl, Vm, J0]
  ·dsimp only; rw [List.length_dropLast]; omega
  ·dsimp only; rw [List.length_dropLast]; omega
 ·rw [if_neg e, if_neg (by omega)]
  exact ⟨rfl, by dsimp only; omega, by dsimp only; omega⟩
theorem RA (F : Fns) : ∀ (l : List ByteArray) (c : Cn) (acc : ByteArray), acc.size ≤ (eX F l c acc).2.size
 | [], _, _ => Nat.le_refl _
 | x :: l, c, acc => by
   show _ ≤ (eX F l _ _).2.size
   refine Nat.le_trans ?_ (RA F l _ _)
   split
   ·exact Nat.le_refl _
   ·rw [ByteArray.size_append]; omega
theorem GI (F : Fns) {x : ByteArray} {l : List ByteArray} {c : Cn} (h : (x7 F c x).2 ≠ ⟨#[]⟩) : (eX F (x :: l) c ⟨#[]⟩).2 ≠ ⟨#[]⟩ := by
 intro e
 have h1 := RA F l (x7 F c x).1 (⟨#[]⟩ ++ ((x7 F c x).2 ++ nl))
 have e2 : (eX F (x :: l) c ⟨#[]⟩).2 = (eX F l (x7 F c x).1 (⟨#[]⟩ ++ ((x7 F c x).2 ++ nl))).2 := by
  show (eX F l _ (if _ then _ else _)).2 = _
  rw [if_neg h]
 rw [← e2, e, ByteArray.size_append, ByteArray.size_append] at h1
 have e3 : nl.size = 1 := rfl
 have e4 : (⟨#[]⟩ : ByteArray).size = 0 := rfl
 omega
def packs4 : List ByteArray := [⟨#[112, 97, 99, 107, 101, 116, 32, 48, 32, 49, 32, 50, 32, 51]⟩, ⟨#[112, 97, 99, 107, 101, 116, 32, 48, 32, 49, 32, 50]⟩, ⟨#[112, 97, 99, 107, 101, 116, 32, 50, 32, 48, 94, 32, 49, 32, 51, 94]⟩, ⟨#[112, 97, 99, 107, 101, 116, 32, 48, 32, 49]⟩]
theorem GK : ∀ x ∈ packs4, (x7 compF con1 x).2 = okB := by decide +kernel
theorem GL {x : ByteArray} (h : x ∈ packs4) : (x7 reF con1 x).2 ≠ ⟨#[]⟩ := by rw [LK, GK x h]; decide
end Qq
namespace Qq
open Go Go.Vt Pt
set_option linter.unusedVariables false
structure CnOk (c : Cn) : Prop where
 tr : zi c.1 = true
 sc : SceneOk c.2.1.length c.2
theorem Lz {c : Cn} (h : CnOk c) (t : Trick) : CnOk (jL c t).1 := by
 unfold jL
 split
 ·rename_i e; exact ⟨e, h.sc⟩
 ·exact h
theorem H5 {c : Cn} (h : CnOk c) (ws : List ByteArray) : CnOk (X6 c ws).1 := by
 unfold X6
 split
 ·exact h
 ·repeat' split
  all_goals first | exact Lz h _ | exact h
theorem LE {c : Cn} (h : CnOk c) {s : List Int × Int × Bool} (hs : s.2.2 = true → SceneOk s.1.length (s.1, s.2.1)) : CnOk (PE c s).1 := by
 unfold PE
 split
 ·rename_i e; exact ⟨h.tr, hs e⟩
 ·exact h
theorem RB {n : Nat} : ∀ (l : List zT) (c : Scene) (ps : List Int), SceneOk n c → (∀ s ∈ l, yj (n : Int) s = true) → (runL l c ps).2.2 = true → SceneOk n ((runL l c ps).1, (runL l c ps).2.1)
 | [], c, ps, hc, _, _ => hc
 | s :: r, c, ps, hc, hl, h => by
   unfold runL at h ⊢
   dsimp only at h ⊢
   generalize (if s.1 = 2 then ps.getD 0 0 else 0) = k at h ⊢
   generalize (if s.1 = 2 then ps.drop 1 else ps) = qs at h ⊢
   split at h
   ·rename_i hk
    rw [if_pos hk]
    exact RB r _ _ (fy hc (hl s (by simp)) _ (Q4 hk.1 hk.2)) (fun x hx => hl x (by simp [hx])) h
   ·cases h
theorem ZJ {t : Trick} {ps : List Int} (h : (xp t ps).2.2 = true) : SceneOk (xp t ps).1.length ((xp t ps).1, (xp t ps).2.1) := by
 unfold xp at h ⊢
 split at h
 ·rename_i e
  rw [if_pos e]
  obtain ⟨s1, s2⟩ := yV e.1
  have := RB (n := t.1.length) t.2.1 (t.1, -1) ps s1 s2 h
  have hl := this.len
  dsimp only at hl
  rw [hl]
  exact this
 ·cases h
theorem Xe {c : Scene} {m : Int × Int} (hc : SceneOk c.1.length c) (h : (vP reF c.1 m).2 = true) : SceneOk (vP reF c.1 m).1.length ((vP reF c.1 m).1, c.2) := by
 unfold vP at h ⊢
 split at h
 ·rename_i e
  rw [if_pos e]
  rw [Bool.and_eq_true] at e
  have hs : yj (c.1.length : Int) (1, m, 0) = true := by
   unfold yj
   have hm := e.2
   unfold vT at hm
   simp only [Bool.and_eq_true, decide_eq_true_eq] at hm
   rw [if_pos rfl, e.2]
   simp [hm.1, hm.2.1]
  have := fy hc hs (xz c.1 m, c.2) (by unfold zm; rw [if_pos rfl]; simp)
  have hl := this.len
  dsimp only at hl
  show SceneOk (xz c.1 m).length (xz c.1 m, c.2)
  rw [hl]
  exact this
 ·cases h
theorem MB {c : Cn} (h : CnOk c) (w : ByteArray) (l : List Int) : CnOk (vS reF c w l).1 := by
 unfold vS
 split
 ·exact LE h (fun e => ZJ e)
 ·repeat' split
  all_goals exact h
theorem NY {p : List Int} (h : zi (p, [], 0, 0, 0) = true) : SceneOk p.length (p, -1) := (yV h).1
theorem GA {c : Cn} (h : CnOk c) (w r : ByteArray) : CnOk (Qp reF c w r).1 := by
 unfold Qp
 split
 ·split
  ·split
   ·rename_i e; exact ⟨e, NY e⟩
   ·exact h
  ·exact h
 ·split
  ·split
   ·exact Lz h _
   ·exact h
  ·split
   ·exact LE h (fun e => Xe h.sc e)
   ·exact h
theorem UU {t : Trick} (h : jg t = true) : jg (ZH 200 t 0) = true := by
 have hl := (zu (gL h).1).1
 exact (UW 200 t 0 (by omega) (by unfold meas; omega) h (fun j hj => by omega)).holds
theorem Lt {c : Cn} (h : CnOk c) (w : ByteArray) : CnOk (Ps reF c w).1 := by
 unfold Ps
 split
 ·exact h
 ·split
  ·split
   ·rename_i e
    refine ⟨?_, h.sc⟩
    have e' : (yG c.1).2.2.2.2.2 = true := e
    show zi ((yG c.1).1, (yG c.1).2.1, (yG c.1).2.2.1, (yG c.1).2.2.2.1, (yG c.1).2.2.2.2.1) = true
    unfold yG at e' ⊢
    split at e'
    ·rename_i hh
     rw [if_pos hh]
     exact (gL (UU hh)).1
    ·cases e'
   ·exact h
  ·split <;> exact h
theorem G8 {c : Cn} (h : CnOk c) (line : ByteArray) : CnOk (NH reF c line).1 := by
 unfold NH
 dsimp only
 split
 ·exact GA h _ _
 ·split
  ·exact H5 h _
  ·split
   ·exact h
   ·split
    ·split
     ·exact MB h _ _
     ·exact h
    ·split
     ·exact h
     ·exact Lt h _
theorem LH {c : Cn} (h : CnOk c) (line : ByteArray) : CnOk (x7 reF c line).1 := by
 unfold x7
 split
 ·exact h
 ·exact G8 h line
theorem H4 : CnOk con1 := ⟨by decide +kernel, NY (by decide +kernel)⟩
end Qq
namespace Qq
open Go Go.Vt Pt
set_option linter.unusedVariables false
set_option linter.unusedSimpArgs false
set_option linter.unnecessarySimpa false
theorem ME {n : Int} {m : Int × Int} (h : vT n m = true) : 1 ≤ m.1 ∧ m.1 ≤ 9 ∧ 0 ≤ m.2 ∧ m.2 ≤ 12 := by
 unfold vT at h
 simp only [Bool.and_eq_true, decide_eq_true_eq] at h
 obtain ⟨h1, h2, h3, h4⟩ := h
 split at h4
 ·simp at h4; omega
 ·repeat (split at h4; · (simp at h4; omega))
  cases h4
end Qq
namespace Qq
open Go Go.Vt Pt
set_option linter.unusedVariables false
set_option linter.unusedSimpArgs false
theorem LN (c : Int) : ∀ (q : List Int) (i : Nat), 0 ≤ posF c i q → c ∈ q.map card
 | [], i, h => by unfold posF at h; exact absurd h (by decide)
 | x :: q, i, h => by
   unfold posF at h
   split at h
   ·rename_i e; rw [← e]; simp
   ·exact List.mem_cons_of_mem _ (LN c q (i + 1) h)
theorem N1 {t : Trick} (h : zi t = true) : In t.2.2.2.1 ∧ In t.2.2.2.2 := by
 obtain ⟨h1, h2, h3, hp⟩ := zu h
 unfold zi at h
 simp only [Bool.and_eq_true] at h
 have hc := h.2.2.2.2
 unfold bd at hc
 unfold In
 split at hc
 ·simp at hc; omega
 ·split at hc
  ·simp at hc; omega
  ·split at hc
   ·simp at hc; omega
   ·split at hc
    ·simp at hc; omega
    ·split at hc
     ·simp only [Bool.and_eq_true, decide_eq_true_eq] at hc
      have hm : t.2.2.2.1 ∈ t.1.map card := by
       have := hc.1
       unfold pos at this
       split at this
       ·omega
       ·exact LN _ _ _ this
      obtain ⟨x, _, hx⟩ := List.mem_map.1 hm
      have := W4 x
      omega
     ·cases hc
theorem Sf (m : Int × Int) : (xM m).size ≤ 27 := by
 unfold xM
 split
 ·rename_i h
  have hk := ME h
  have h1 := Xh m.1
  have h2 := zX m.2 (by unfold In; omega)
  rw [ByteArray.size_append, ByteArray.size_append]
  have e2 : (⟨#[32]⟩ : ByteArray).size = 1 := rfl
  omega
 ·decide
theorem Sw : ∀ n : Fin 5, (xc (n.val : Int)).size ≤ 20 := by decide
theorem Sd {n : Nat} {s : Step} (h : yj (n : Int) s = true) : (wh s).size ≤ 100 := by
 unfold wh
 split
 ·unfold stepRest
  split
  ·exact Nat.le_trans (Sf _) (by decide)
  ·split
   ·by_cases hb : 0 ≤ s.2.2 ∧ s.2.2 ≤ 4
    ·have := Sw ⟨s.2.2.toNat, by omega⟩
     have e : ((s.2.2.toNat : Nat) : Int) = s.2.2 := by omega
     simp only [e] at this
     omega
    ·unfold xc
     rw [if_neg hb]; decide
   ·rename_i h1 h2
    unfold yj at h
    simp only [Bool.and_eq_true, decide_eq_true_eq] at h
    obtain ⟨b1, b2, b3⟩ := h
    rw [if_neg h1, if_neg h2] at b3
    split at b3
    ·simp only [Bool.and_eq_true, beq_iff_eq, decide_eq_true_eq] at b3
     have := zX s.2.2 (by unfold In; omega)
     rw [ByteArray.size_append]
     have e2 : (⟨#[110, 111, 116, 101, 32]⟩ : ByteArray).size = 5 := rfl
     omega
    ·cases b3
 ·decide
theorem KY {t : Trick} (h : zi t = true) : ∀ x ∈ xb t, x.size ≤ 2100 := by
 obtain ⟨ca, cb⟩ := N1 h
 obtain ⟨s1, s2⟩ := yV h
 unfold xb
 rw [if_pos h]
 intro x hx
 rcases List.mem_append.1 hx with hx | hx
 ·rcases List.mem_append.1 hx with hx | hx
  ·have e : x = startB t := by simpa using hx
   rw [e]; unfold startB
   rw [ByteArray.size_append]
   have := wL t.1
   have e2 : (⟨#[115, 116, 97, 114, 116, 32]⟩ : ByteArray).size = 6 := rfl
   omega
  ·obtain ⟨s, hs, rfl⟩ := List.mem_map.1 hx
   exact Nat.le_trans (Sd (s2 s hs)) (by decide)
 ·have e : x = claimB t := by simpa using hx
  rw [e]; unfold claimB
  rw [ByteArray.size_append]
  have := bE t.2.2.1 t.2.2.2.1 t.2.2.2.2 ca cb
  have e2 : (⟨#[99, 108, 97, 105, 109, 32]⟩ : ByteArray).size = 6 := rfl
  omega
theorem P9 {t : Trick} (h : zi t = true) : (xb t).length ≤ 14 := by
 have := (zu h).1
 unfold xb
 rw [if_pos h]
 simp; omega
theorem Wp {t : Trick} (h : zi t = true) : (xw (xb t) semi).size ≤ 30000 := by
 have := cu (B := 2100) (S := 1) semi (by decide) (xb t) (KY h)
 have := P9 h
 rw [xw, zK]
 omega
theorem Pu (t : Trick) : (wu t).size ≤ 3000 := by
 unfold wu
 have hci := zX _ (aW t)
 rcases told t with ⟨h1, e⟩ | ⟨h1, ha, e⟩ | ⟨h1, A, ha, hh, e⟩ | ⟨h1, A, ha, w, hw, hb, hr, e⟩
 ·rw [e]; show (⟨#[]⟩ : ByteArray).size ≤ 3000; decide
 ·rw [e]; show (⟨#[116, 111, 111, 32, 109, 97, 110, 121]⟩ : ByteArray).size ≤ 3000; decide
 ·rw [e]
  exact Nat.le_trans (wn (n := 5) (wn (m := 10) (by decide) hci) (by decide)) (by decide)
 ·obtain ⟨f1, f2⟩ := Ly e
  obtain ⟨i1, i2⟩ := NF h1 ha hw
  have hp := bD f1 i1
  have hs := fu (w.1.1, w.1.2)
  rw [e]
  exact Nat.le_trans (wn (wn (n := 3) (wn (m := 10) (by decide) hp) (by decide)) hs) (by decide)
theorem L0 : ∀ (r : List (List Int)) (acc : ByteArray), (∀ c ∈ r, c.length ≤ 12 ∧ Ins c) → (lineF r acc).size ≤ acc.size + 266 * r.length
 | [], acc, _ => Nat.le_refl _
 | c :: r, acc, h => by
   have h1 := L0 r (acc ++ cycB c) (fun x hx => h x (by simp [hx]))
   have h2 := NX (h c (by simp))
   rw [ByteArray.size_append] at h1
   show (lineF r (acc ++ cycB c)).size ≤ _
   rw [List.length_cons]
   omega
theorem La (a : List Int) : (eH a).size ≤ 3200 := by
 obtain ⟨f1, f2⟩ := R9 a
 unfold eH
 split
 ·split
  ·decide
  ·have := L0 (X2 a) ⟨#[]⟩ f2
   have e : (⟨#[]⟩ : ByteArray).size = 0 := rfl
   omega
 ·decide
theorem JT {l : List Int} (h : l.length ≤ 12) : (Mp l).size ≤ 12 := by
 unfold Mp
 split
 ·decide
 ·rw [zK, List.length_map]; exact h
end Qq
namespace Qq
open Go Go.Vt Pt
set_option linter.unusedVariables false
set_option linter.unusedSimpArgs false
theorem JO (T : Int → Int) : ∀ (r : List Int) (i : Nat) (v : Int), In v → In (tsum T r i v)
 | [], _, _, h => h
 | k :: r, i, v, h => by
   unfold tsum
   refine JO T r (i + 1) _ ?_
   split
   ·unfold In; rw [IntKind.wrap_i64]; omega
   ·exact h
theorem LW : ∀ (r : List Int) (v : Int), v ≤ maxF v r
 | [], v => Int.le_refl _
 | y :: r, v => by
   have h1 := E4 v y
   have h2 := LW r (mx v y)
   show v ≤ maxF (mx v y) r
   omega
theorem FF (n : Int) : ∀ (f : Nat) (p : List Int), In (tot n f p)
 | 0, _ => by unfold tot In; decide
 | f + 1, p => by
   unfold tot
   refine JO _ _ _ _ ?_
   have h1 := Hd (yR n p) 0 (MC n p) (by decide)
   have h2 := LW (yR n p) 0
   unfold In; omega
theorem K8 (n : Int) : (guessB n).size ≤ 21 := by
 unfold guessB
 split
 ·exact zX _ (FF n 8 [])
 ·decide
theorem vJ : unkB.size ≤ 30000 := by decide
theorem Ha : okB.size ≤ 30000 := by decide
theorem Jd : (⟨#[]⟩ : ByteArray).size ≤ 30000 := by decide
theorem fS : YA.size ≤ 30000 := by decide
theorem Rt (c : Cn) (t : Trick) : (jL c t).2.size ≤ 30000 := by unfold jL; split; exact Ha; exact fS
theorem Le (c : Cn) (ws : List ByteArray) : (X6 c ws).2.size ≤ 30000 := by
 unfold X6
 split
 ·exact vJ
 ·repeat' split
  all_goals first | exact Rt _ _ | exact vJ
theorem Ry (c : Cn) (s : List Int × Int × Bool) : (PE c s).2.size ≤ 30000 := by
 unfold PE
 split
 ·exact Nat.le_trans (fu _) (by decide)
 ·exact fS
theorem Qz (c : Cn) (w : ByteArray) (l : List Int) : (vS reF c w l).2.size ≤ 30000 := by
 unfold vS
 split
 ·exact Ry _ _
 ·split
  ·dsimp only
   split
   ·exact Nat.le_trans (JT (Vh _ _ _)) (by decide)
   ·exact fS
  ·split
   ·exact Nat.le_trans (K8 _) (by decide)
   ·exact vJ
theorem KJ (c : Cn) (w r : ByteArray) : (Qp reF c w r).2.size ≤ 30000 := by
 unfold Qp
 split
 ·split
  ·split
   ·exact Ha
   ·exact fS
  ·exact vJ
 ·split
  ·split
   ·exact Rt _ _
   ·exact vJ
  ·split
   ·exact Ry _ _
   ·exact vJ
theorem NV (c : Cn) (ws : List ByteArray) : (cyclesC reF c ws).size ≤ 30000 := by
 unfold cyclesC
 split
 ·split
  ·split
   ·exact Nat.le_trans (La _) (by decide)
   ·exact fS
  ·exact vJ
 ·exact vJ
theorem Ku {c : Cn} (h : CnOk c) (w : ByteArray) : (Ps reF c w).2.size ≤ 30000 := by
 have h2 := (Lt h w).tr
 unfold Ps at h2 ⊢
 split
 ·exact Nat.le_trans (Pu _) (by decide)
 ·rename_i n1
  rw [if_neg n1] at h2
  split
  ·rename_i e1
   rw [if_pos e1] at h2
   split
   ·rename_i e2
    rw [if_pos e2] at h2
    exact Wp h2
   ·exact fS
  ·split
   ·exact Wp h.tr
   ·exact vJ
theorem Ja {c : Cn} (h : CnOk c) (line : ByteArray) : (NH reF c line).2.size ≤ 30000 := by
 unfold NH
 dsimp only
 split
 ·exact KJ _ _ _
 ·split
  ·exact Le _ _
  ·split
   ·exact NV _ _
   ·split
    ·split
     ·exact Qz _ _ _
     ·exact vJ
    ·split
     ·exact vJ
     ·exact Ku h _
theorem RD {c : Cn} (h : CnOk c) (line : ByteArray) : (x7 reF c line).2.size ≤ 30000 := by
 unfold x7
 split
 ·exact Jd
 ·exact Ja h line
end Qq
namespace Qq
open Go Go.Vt Pt
set_option linter.unusedVariables false
theorem J3 (s : ByteArray) : (xw (cutB s).tail sp).size ≤ s.size := by
 have e := Hn s
 have e0 : ∀ n : Nat, (xw [] sp).size ≤ n := fun n => by
  have : (xw [] sp).size = 0 := rfl
  omega
 cases h : cutB s with
 | nil => exact e0 _
 | cons w r =>
   rw [h] at e
   show (xw r sp).size ≤ s.size
   cases r with
   | nil => exact e0 _
   | cons b r =>
     have e2 : wT sp = [32] := rfl
     have hs : s.size = w.size + (1 + (xw (b :: r) sp).size) := by
      rw [← e]
      unfold xw SZ
      rw [zK, zK, e2, Zl, Zl, List.map_cons, RU _ (by simp), List.length_append, List.length_cons, eL]
      omega
     omega
theorem Gt (s : ByteArray) : cutB s ≠ [] := by
 unfold cutB
 intro e
 exact Kg _ _ (List.map_eq_nil_iff.1 e)
end Qq
namespace Qq
open Go Go.Vt Pt
set_option linter.unusedVariables false
set_option linter.unusedSimpArgs false
set_option linter.unnecessarySimpa false
def Dr {α : Type} (f : Nat → Option (α × Cur)) (Q : α → Prop) : Prop := ∃ (y : α) (c' : Cur), Ev f (y, c') ∧ YX c' ∧ Q y
theorem Dr.ite {α : Type} {b : Bool} {g h : Nat → Option (α × Cur)} {Q : α → Prop} (ht : b = true → Dr g Q) (hf : b = false → Dr h Q) : Dr (fun k => bif b then g k else h k) Q := by
 cases b with
 | true => exact ht rfl
 | false => exact hf rfl
theorem Dr.yes {α : Type} {b : Bool} {g h : Nat → Option (α × Cur)} {Q : α → Prop} (hb : b = true) (ht : Dr g Q) : Dr (fun k => bif b then g k else h k) Q := by subst hb; exact ht
theorem Dr.no {α : Type} {b : Bool} {g h : Nat → Option (α × Cur)} {Q : α → Prop} (hb : b = false) (ht : Dr h Q) : Dr (fun k => bif b then g k else h k) Q := by subst hb; exact ht
theorem Dr.bind {α β : Type} {g : Nat → Option (α × Cur)} {h : Nat → α × Cur → Option (β × Cur)} {R : α → Prop} {Q : β → Prop} (hg : Dr g R) (hh : ∀ y c, YX c → R y → Dr (fun k => h k (y, c)) Q) : Dr (fun k => (g k).bind (h k)) Q := by
 obtain ⟨y, c, e, hc, hy⟩ := hg
 obtain ⟨z, c2, e2, hc2, hz⟩ := hh y c hc hy
 exact ⟨z, c2, Ev.bind e e2, hc2, hz⟩
theorem Dr.ret {α : Type} {y : α} {c : Cur} {Q : α → Prop} (hc : YX c) (hq : Q y) : Dr (fun _ => some (y, c)) Q := ⟨y, c, Ev.pure _, hc, hq⟩
theorem Dr.step {α : Type} {g h : Nat → Option (α × Cur)} {Q : α → Prop} (hs : ∀ k, g (k + 1) = h k) (hh : Dr h Q) : Dr g Q := by
 obtain ⟨z, c2, e2, hc2, hz⟩ := hh
 exact ⟨z, c2, Ev.step hs e2, hc2, hz⟩
theorem Dr.mono {α : Type} {g : Nat → Option (α × Cur)} {Q R : α → Prop} (h : Dr g Q) (hm : ∀ y, Q y → R y) : Dr g R := by
 obtain ⟨z, c2, e2, hc2, hz⟩ := h
 exact ⟨z, c2, e2, hc2, hm z hz⟩
theorem Pb (c : Cur) (h : YX c) (n : Int) : Dr (fun k => jU k (c, n)) (fun y => 0 ≤ y ∧ (0 < n → y < n)) := by
 obtain ⟨y, c', e, a1, a2, a3⟩ := MH c h n
 exact ⟨y, c', e, a3, a1, a2⟩
end Qq
