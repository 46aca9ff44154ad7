/-
  The law FnExactSeeSides comes to true.
  Conditions: numbers and lengths are such as a machine bears.
-/
import Derived.Test.YtijdgiejhgfmlaaPt
import Derived.Test.YtijdgiejhgfmlaaXvzd
import Derived.Laws.BitsLemmas
namespace Go.Vt
theorem Ev.some {α : Type} {x y : α} (e : x = y) : Ev (fun _ => Option.some x) y := by subst e; exact Ev.pure _
theorem Ev.to {α : Type} {g : Nat → Option α} {x y : α} (h : Ev g x) (e : x = y) : Ev g y := e ▸ h
end Go.Vt
namespace Qq
open Go Go.Vt
set_option linter.unusedVariables false
set_option linter.unusedSimpArgs false
theorem maxLen_eq : maxLen = 9223372036854775807 := by unfold maxLen; decide
theorem rowMax_eq : rowMax = 4294967296 := rfl
theorem wrap_id {x : Int} (h1 : -9223372036854775808 ≤ x) (h2 : x ≤ 9223372036854775807) : IntKind.i64.wrap x = x := by
  rw [IntKind.wrap_i64]; omega
/-- Numbers of a machine's kind. -/
def In (x : Int) : Prop := -9223372036854775808 ≤ x ∧ x ≤ 9223372036854775807
theorem In.of_fits {x : Int} (h : Fits (.int .i64) x) : In x := by
  have h' : IntKind.i64.min ≤ x ∧ x ≤ IntKind.i64.max := h
  have e1 : IntKind.i64.min = -9223372036854775808 := by decide
  have e2 : IntKind.i64.max = 9223372036854775807 := by decide
  unfold In; rw [e1, e2] at h'; exact h'
def Ins (xs : List Int) : Prop := ∀ x ∈ xs, In x
structure AtCons {α : Type} (xs : List α) (i : Nat) (y : α) (rest : List α) : Prop where
  lt : i < xs.length
  g : decide ((i : Int) < (xs.length : Int)) = true
  z : decide ((0 : Int) ≤ (i : Int)) = true
  n : decide ((i : Int).toNat < xs.length) = true
  get : ∀ d, xs.getD (i : Int).toNat d = y
  w : IntKind.i64.wrap ((i : Int) + 1) = ((i + 1 : Nat) : Int)
  next : xs.drop (i + 1) = rest
  mem : y ∈ xs
  gt : ∀ d, xs.getD i d = y
  le : decide ((i : Int) ≤ (xs.length : Int)) = true
theorem at_cons {α : Type} {xs : List α} {i : Nat} {y : α} {rest : List α} (h : xs.drop i = y :: rest) (hm : xs.length ≤ maxLen) : AtCons xs i y rest := by
  rw [maxLen_eq] at hm
  have lt : i < xs.length := by
    rcases Nat.lt_or_ge i xs.length with h1 | h1
    · exact h1
    · rw [List.drop_eq_nil_of_le h1] at h; cases h
  have e := List.drop_eq_getElem_cons lt
  rw [e] at h
  have hy : xs[i] = y := by injection h
  refine ⟨lt, by simp; omega, by simp, by simp; omega, fun d => by simp [List.getD, lt, hy], by rw [wrap_id (by omega) (by omega)]; simp, by injection h, by rw [← hy]; exact List.getElem_mem lt, fun d => by simp [List.getD, lt, hy], by simp; omega⟩
structure AtNil {α : Type} (xs : List α) (i : Nat) : Prop where
  ge : xs.length ≤ i
  g : decide ((i : Int) < (xs.length : Int)) = false
theorem at_nil {α : Type} {xs : List α} {i : Nat} (h : xs.drop i = []) : AtNil xs i := by
  have ge : xs.length ≤ i := List.drop_eq_nil_iff.1 h
  exact ⟨ge, by simp; omega⟩
end Qq
namespace Qq
open Go Go.Vt Pt
set_option linter.unusedVariables false
set_option linter.unusedSimpArgs false
theorem l01In_ev (x lo hi : Int) : Ev (fun k => s_l01In k (x, lo, hi)) (decide (lo ≤ x) && decide (x ≤ hi)) := by
  refine Ev.step (fun k => s_l01In_eq k x lo hi) (Ev.ite (fun h => ?_) (fun h => ?_))
  · have h' : lo ≤ x := by simpa using h
    exact Ev.some (by simp [h'])
  · have h' : ¬ lo ≤ x := by simpa using h
    exact Ev.some (by simp [h'])
theorem szIntS_ev (xs : List Int) (n : Int) (hx : xs.length ≤ maxLen) (hn : 0 ≤ n) (hn2 : n ≤ 1048576) :
    Ev (fun k => w_szIntS k (xs, n)) (if n - (xs.length : Int) < 0 then -1 else n - xs.length) := by
  rw [maxLen_eq] at hx
  refine Ev.step (fun k => w_szIntS_eq k xs n) ?_
  rw [wrap_id (by omega) (by omega)]
  split
  · rename_i h; exact Ev.yes (by simpa using h) (Ev.pure _)
  · rename_i h; exact Ev.no (by simpa using h) (Ev.pure _)
theorem eqIntS_l4_ev (xs ys : List Int) (hx : xs.length ≤ maxLen) (hy : ys.length ≤ maxLen) : ∀ (r s : List Int) (i : Nat), xs.drop i = r → ys.drop i = s → s.length = r.length → Ev (fun k => w_eqIntS_l4 k xs ys (i : Int)) (r == s)
  | [], [], i, h1, h2, hl => by
    have a := at_nil h1
    refine Ev.step (fun k => w_eqIntS_l4_eq k xs ys i) ?_
    simp only [a.g, cond_false]
    exact Ev.pure _
  | x :: r, y :: s, i, h1, h2, hl => by
    have a := at_cons h1 hx
    have b := at_cons h2 hy
    refine Ev.step (fun k => w_eqIntS_l4_eq k xs ys i) ?_
    simp only [a.g, a.z, b.g, a.get, b.get, a.w, cond_true]
    have ih := eqIntS_l4_ev xs ys hx hy r s (i + 1) a.next b.next (by simpa using hl)
    refine Ev.ite (fun h => Ev.some ?_) (fun h => ih.to ?_)
    · have : ¬ x = y := by simpa using h
      simp [this]
    · have : x = y := by simpa using h
      simp [this]
  | [], _ :: _, _, _, _, hl => by simp at hl
  | _ :: _, [], _, _, _, hl => by simp at hl
theorem eqIntS_ev (xs ys : List Int) (hx : xs.length ≤ maxLen) (hy : ys.length ≤ maxLen) : Ev (fun k => w_eqIntS k (xs, ys)) (xs == ys) := by
  refine Ev.step (fun k => w_eqIntS_eq k xs ys) (Ev.ite (fun h => Ev.some ?_) (fun h => eqIntS_l4_ev xs ys hx hy xs ys 0 rfl rfl ?_))
  · have h' : ¬ xs.length = ys.length := by simp at h; omega
    have : ¬ xs = ys := fun e => h' (by rw [e])
    simp [this]
  · simp at h; omega
theorem set_get {α : Type} {n : Nat} {xs ys : List α} {i : Nat} {d : α} (hi : i < xs.length) (hl : ys.length = xs.length) (h : ys.take i = xs.take i) : (ys.set i (xs.getD i d)).take (i + 1) = xs.take (i + 1) := by
  have g1 : xs.getD i d = xs[i] := by simp [List.getD, hi]
  rw [g1, List.take_succ_eq_append_getElem (by simp; omega), List.take_succ_eq_append_getElem hi, List.take_set_of_le (by omega), h]
  simp
theorem toIntS_l3_ev (xs : List Int) (hm : xs.length ≤ maxLen) : ∀ (r : List Int) (i : Nat) (ys : List Int), xs.drop i = r → ys.length = xs.length → ys.take i = xs.take i → Ev (fun k => w_toIntS_l3 k xs (i : Int) ys) xs
  | [], i, ys, h, hl, ht => by
    have a := at_nil h
    refine Ev.step (fun k => w_toIntS_l3_eq k xs i ys) ?_
    simp only [a.g, cond_false]
    have e : ys = xs := by
      have := a.ge
      rwa [List.take_of_length_le (by omega), List.take_of_length_le (by omega)] at ht
    exact Ev.some e
  | x :: r, i, ys, h, hl, ht => by
    have a := at_cons h hm
    have b1 : decide ((i : Int) < (ys.length : Int)) = true := by rw [hl]; exact a.g
    have b2 : decide ((i : Int).toNat < ys.length) = true := by rw [hl]; exact a.n
    refine Ev.step (fun k => w_toIntS_l3_eq k xs i ys) ?_
    simp only [a.g, a.z, b1, b2, a.w, cond_true]
    have hs := set_get (n := 0) (d := 0) a.lt hl ht
    exact toIntS_l3_ev xs hm r (i + 1) _ a.next (by simp [hl]) (by simpa using hs)
theorem toIntS_ev (xs : List Int) (hm : xs.length ≤ 1048576) : Ev (fun k => w_toIntS k xs) xs := by
  refine Ev.step (fun k => w_toIntS_eq k xs) (Ev.yes (by simp) (Ev.yes (by rw [rowMax_eq]; simp; omega) (Ev.yes (by simp) ?_)))
  exact toIntS_l3_ev xs (by rw [maxLen_eq]; omega) xs 0 _ rfl (by simp) (by simp)
end Qq
namespace Qq
open Go Go.Vt Pt
set_option linter.unusedVariables false
set_option linter.unusedSimpArgs false
def top : Int := 4611686018427387904
theorem top_eq : top = 4611686018427387904 := rfl
def upFrom (k : Int) : Nat → List Int
  | 0 => []
  | n + 1 => k :: upFrom (k + 1) n
theorem upFrom_len : ∀ (k : Int) (n : Nat), (upFrom k n).length = n
  | _, 0 => rfl
  | k, n + 1 => by show (upFrom (k + 1) n).length + 1 = n + 1; rw [upFrom_len]
theorem markIntS_l2_ev (xs : List Int) (hm : xs.length ≤ maxLen) : ∀ (r : List Int) (i : Nat) (k0 : Int) (done : List Int), xs.drop i = r → done.length = i → 0 ≤ k0 → k0 ≤ top - r.length →
    Ev (fun k => w_markIntS_l2 k k0 (i : Int) (done ++ r)) (k0 + r.length, done ++ upFrom k0 r.length) := by
  intro r
  induction r with
  | nil =>
    intro i k0 done h hl h0 h1
    have a := at_nil h
    refine Ev.step (fun k => w_markIntS_l2_eq k k0 i _) ?_
    have : decide ((i : Int) < ((done ++ ([] : List Int)).length : Int)) = false := by simp; omega
    refine Ev.no this (Ev.some ?_)
    simp [upFrom]
  | cons x r ih =>
    intro i k0 done h hl h0 h1
    have a := at_cons h hm
    have L : (done ++ x :: r).length = i + (r.length + 1) := by simp [hl]
    refine Ev.step (fun k => w_markIntS_l2_eq k k0 i _) ?_
    refine Ev.yes (by rw [L]; simp; omega) (Ev.yes (by simp) (Ev.yes (by rw [L]; simp; omega) (Ev.yes (by rw [L]; simp) ?_)))
    rw [List.length_cons] at h1
    rw [wrap_id (x := k0 + 1) (by omega) (by rw [top_eq] at h1; omega), wrap_id (x := (i : Int) + 1) (by omega) (by have := a.lt; rw [maxLen_eq] at hm; omega)]
    have e : (done ++ x :: r).set (i : Int).toNat k0 = (done ++ [k0]) ++ r := by
      rw [Int.toNat_natCast, ← hl, List.set_append_right _ _ (Nat.le_refl _)]
      simp
    rw [e]
    have := ih (i + 1) (k0 + 1) (done ++ [k0]) a.next (by simp [hl]) (by omega) (by omega)
    have e2 : done ++ upFrom k0 (x :: r).length = (done ++ [k0]) ++ upFrom (k0 + 1) r.length := by simp [upFrom]
    have e3 : k0 + ((x :: r).length : Int) = k0 + 1 + (r.length : Int) := by simp; omega
    rw [e2, e3]
    exact_mod_cast this
theorem markIntS_ev (xs : List Int) (k0 : Int) (hm : xs.length ≤ maxLen) (h0 : 0 ≤ k0) (h1 : k0 ≤ top - xs.length) :
    Ev (fun k => w_markIntS k (xs, k0)) (k0 + xs.length, upFrom k0 xs.length) :=
  Ev.step (fun k => w_markIntS_eq k xs k0) (markIntS_l2_ev xs hm xs 0 k0 [] rfl rfl h0 h1)
theorem heldIntS_l2_ev (ys : List Int) (hm : ys.length ≤ maxLen) : ∀ (n : Nat) (i : Nat) (k0 : Int), ys.drop i = upFrom k0 n → 0 ≤ k0 → k0 ≤ top - n →
    Ev (fun k => w_heldIntS_l2 k ys k0 (i : Int)) (k0 + n) := by
  intro n
  induction n with
  | zero =>
    intro i k0 h h0 h1
    have a := at_nil h
    refine Ev.step (fun k => w_heldIntS_l2_eq k ys k0 i) ?_
    simp only [a.g, cond_false]
    exact Ev.some (by simp)
  | succ n ih =>
    intro i k0 h h0 h1
    have a := at_cons h hm
    refine Ev.step (fun k => w_heldIntS_l2_eq k ys k0 i) ?_
    simp only [a.g, a.z, a.get, a.w, cond_true]
    refine Ev.no (by simp) ?_
    rw [wrap_id (x := k0 + 1) (by omega) (by rw [top_eq] at h1; omega)]
    have := ih (i + 1) (k0 + 1) a.next (by omega) (by omega)
    have e3 : k0 + ((n + 1 : Nat) : Int) = k0 + 1 + (n : Int) := by omega
    rw [e3]
    exact this
theorem heldIntS_ev (n : Nat) (k0 : Int) (hm : n ≤ maxLen) (h0 : 0 ≤ k0) (h1 : k0 ≤ top - n) :
    Ev (fun k => w_heldIntS k (upFrom k0 n, k0)) (k0 + n) :=
  Ev.step (fun k => w_heldIntS_eq k _ k0) (heldIntS_l2_ev _ (by rw [upFrom_len]; exact hm) n 0 k0 rfl h0 h1)
end Qq
namespace Qq
open Go Go.Vt Pt
set_option linter.unusedVariables false
set_option linter.unusedSimpArgs false
theorem l02Has_l2_ev (x : Int) (xs : List Int) (hm : xs.length ≤ maxLen) : ∀ (r : List Int) (i : Nat), xs.drop i = r → Ev (fun k => s_l02Has_l2 k x xs (xs.length : Int) (i : Int)) (r.contains x)
  | [], i, h => by
    have a := at_nil h
    refine Ev.step (fun k => s_l02Has_l2_eq k x xs _ i) ?_
    simp only [a.g, cond_false]
    exact Ev.pure _
  | y :: r, i, h => by
    have a := at_cons h hm
    refine Ev.step (fun k => s_l02Has_l2_eq k x xs _ i) ?_
    simp only [a.g, a.z, a.get, a.w, cond_true]
    refine Ev.ite (fun h => Ev.some ?_) (fun h => (l02Has_l2_ev x xs hm r (i + 1) a.next).to ?_)
    · have : y = x := by simpa using h
      simp [this]
    · have : ¬ y = x := by simpa using h
      have h2 : ¬ x = y := fun e => this e.symm
      simp [h2]
theorem l02Has_ev (xs : List Int) (x : Int) (hm : xs.length ≤ maxLen) : Ev (fun k => s_l02Has k (xs, x)) (xs.contains x) :=
  Ev.step (fun k => s_l02Has_eq k xs x) (l02Has_l2_ev x xs hm xs 0 rfl)
/-- Where x lies first, or -1. -/
def idx (x : Int) : Nat → List Int → Int
  | _, [] => -1
  | i, y :: r => if x = y then (i : Int) else idx x (i + 1) r
theorem idx_has (x : Int) : ∀ (r : List Int) (i : Nat), decide (idx x i r ≥ 0) = r.contains x
  | [], i => by simp [idx]
  | y :: r, i => by
    unfold idx
    by_cases h : x = y
    · simp [h]
    · rw [if_neg h, idx_has x r (i + 1)]; simp [h]
theorem Index_int_l2_ev (x : Int) (xs : List Int) (hm : xs.length ≤ maxLen) : ∀ (r : List Int) (i : Nat), xs.drop i = r → Ev (fun k => slices_Index_int_l2 k xs x (xs.length : Int) (i : Int)) (idx x i r)
  | [], i, h => by
    have a := at_nil h
    refine Ev.step (fun k => slices_Index_int_l2_eq k xs x _ i) ?_
    simp only [a.g, cond_false]
    exact Ev.pure _
  | y :: r, i, h => by
    have a := at_cons h hm
    refine Ev.step (fun k => slices_Index_int_l2_eq k xs x _ i) ?_
    simp only [a.g, a.z, a.get, a.w, cond_true]
    unfold idx
    refine Ev.ite (fun h => Ev.some ?_) (fun h => (Index_int_l2_ev x xs hm r (i + 1) a.next).to ?_)
    · have : x = y := by simpa using h
      simp [this]
    · have : ¬ x = y := by simpa using h
      rw [if_neg this]
theorem Index_int_ev (xs : List Int) (x : Int) (hm : xs.length ≤ maxLen) : Ev (fun k => slices_Index_int k (xs, x)) (idx x 0 xs) :=
  Ev.step (fun k => slices_Index_int_eq k xs x) (Index_int_l2_ev x xs hm xs 0 rfl)
theorem Contains_int_ev (xs : List Int) (x : Int) (hm : xs.length ≤ maxLen) : Ev (fun k => slices_Contains_int k (xs, x)) (xs.contains x) :=
  Ev.step (fun k => slices_Contains_int_eq k xs x) (Ev.bind (Index_int_ev xs x hm) (Ev.some (idx_has x xs 0)))
end Qq
namespace Qq
open Go Go.Vt Pt
set_option linter.unusedVariables false
set_option linter.unusedSimpArgs false
theorem nodup_len : ∀ (n : Nat) (l : List Int), l.Nodup → (∀ x ∈ l, 0 ≤ x ∧ x < (n : Int)) → l.length ≤ n
  | 0, l, _, h => by
    cases l with
    | nil => simp
    | cons x l => have := h x (by simp); omega
  | n + 1, l, hd, h => by
    have h1 := nodup_len n (l.erase (n : Int)) (hd.erase _) (fun x hx => by
      have hx' := (hd.mem_erase_iff).1 hx
      have := h x hx'.2
      have : x ≠ (n : Int) := hx'.1
      omega)
    have h2 := List.length_erase (a := (n : Int)) (l := l)
    split at h2 <;> omega
end Qq
namespace Qq
open Go Go.Vt Pt
set_option linter.unusedVariables false
set_option linter.unusedSimpArgs false
def card (x : Int) : Int := if 0 ≤ x ∧ x ≤ 11 then x else if -12 ≤ x ∧ x ≤ -1 then -1 - x else -1
theorem card_lt (x : Int) : -1 ≤ card x ∧ card x ≤ 11 := by unfold card; split; · omega
                                                            split <;> omega
theorem s_CardOf_ev (x : Int) : Ev (fun k => s_CardOf k x) (card x) := by
  refine Ev.step (fun k => s_CardOf_eq k x) (Ev.bind (l01In_ev _ _ _) (Ev.ite (fun h => Ev.some ?_) (fun h => Ev.bind (l01In_ev _ _ _) (Ev.ite (fun h' => ?_) (fun h' => Ev.some ?_)))))
  · have : 0 ≤ x ∧ x ≤ 11 := by simpa using h
    simp [card, this]
  · have h1 : ¬ (0 ≤ x ∧ x ≤ 11) := by simp at h; omega
    have h2 : -12 ≤ x ∧ x ≤ -1 := by simpa using h'
    rw [wrap_id (by omega) (by omega)]
    exact Ev.some (by unfold card; rw [if_neg h1, if_pos h2])
  · have h1 : ¬ (0 ≤ x ∧ x ≤ 11) := by simp at h; omega
    have h2 : ¬ (-12 ≤ x ∧ x ≤ -1) := by simp at h'; omega
    unfold card; rw [if_neg h1, if_neg h2]
theorem i_CardOf_ev (x : Int) (hx : In x) : Ev (fun k => i_CardOf k x) (card x) := by
  obtain ⟨a, b⟩ := hx
  refine Ev.step (fun k => i_CardOf_eq k x) ?_
  refine Ev.ite (fun h => ?_) (fun h => ?_)
  · have h1 : x < 0 := by simpa using h
    rw [wrap_id (by omega) (by omega)]
    have h2 : ¬ (0 ≤ x ∧ x ≤ 11) := by omega
    refine Ev.ite (fun h' => Ev.some ?_) (fun h' => Ev.some ?_)
    · have h3 : ¬ (-12 ≤ x ∧ x ≤ -1) := by simp at h'; omega
      unfold card; rw [if_neg h2, if_neg h3]
    · have h3 : (-12 ≤ x ∧ x ≤ -1) := by simp at h'; omega
      unfold card; rw [if_neg h2, if_pos h3]
  · have h1 : ¬ x < 0 := by simpa using h
    have h3 : ¬ (-12 ≤ x ∧ x ≤ -1) := by omega
    refine Ev.ite (fun h' => Ev.some ?_) (fun h' => Ev.some ?_)
    · have h2 : ¬ (0 ≤ x ∧ x ≤ 11) := by simp at h'; omega
      unfold card; rw [if_neg h2, if_neg h3]
    · have h2 : (0 ≤ x ∧ x ≤ 11) := by simp at h'; omega
      unfold card; rw [if_pos h2]
def pk : List Int → List Int → Bool
  | _, [] => true
  | done, x :: r => decide (0 ≤ card x) && (!(done.contains (card x)) && pk (done ++ [card x]) r)
def packetOk (p : List Int) : Bool := pk [] p
theorem pk_nodup : ∀ (r done : List Int), done.Nodup → pk done r = true → (done ++ r.map card).Nodup ∧ ∀ x ∈ r, 0 ≤ card x
  | [], done, hd, h => by simp [hd]
  | x :: r, done, hd, h => by
    unfold pk at h
    simp only [Bool.and_eq_true, decide_eq_true_eq, Bool.not_eq_true'] at h
    obtain ⟨h1, h3, h4⟩ := h
    have hx : card x ∉ done := by simpa using h3
    obtain ⟨k1, k2⟩ := pk_nodup r (done ++ [card x]) (by
      rw [List.nodup_append]
      exact ⟨hd, by simp, fun a ha b hb e => by simp at hb; subst hb; subst e; exact hx ha⟩) h4
    refine ⟨by simpa using k1, fun y hy => ?_⟩
    rcases List.mem_cons.1 hy with rfl | hy
    · exact h1
    · exact k2 y hy
theorem packetOk_fit {p : List Int} (h : packetOk p = true) : (p.map card).Nodup ∧ (∀ x ∈ p, 0 ≤ card x ∧ card x ≤ 11) ∧ p.length ≤ 12 := by
  obtain ⟨k1, k2⟩ := pk_nodup p [] (by simp) h
  have k1' : (p.map card).Nodup := by simpa using k1
  have k3 := nodup_len 12 (p.map card) k1' (fun x hx => by
    obtain ⟨y, hy, rfl⟩ := List.mem_map.1 hx
    have := k2 y hy
    have := card_lt y
    omega)
  exact ⟨k1', fun x hx => ⟨k2 x hx, (card_lt x).2⟩, by simpa using k3⟩
theorem s_PacketOk_l5_ev (xs : List Int) (hm : xs.length ≤ 12) : ∀ (r : List Int) (i : Nat) (done : List Int), xs.drop i = r → done.length = i → Ev (fun k => s_PacketOk_l5 k xs (xs.length : Int) (i : Int) done) (pk done r)
  | [], i, done, h, hd => by
    have a := at_nil h
    refine Ev.step (fun k => s_PacketOk_l5_eq k _ _ _ _) ?_
    simp only [a.g, cond_false]
    exact Ev.pure _
  | x :: r, i, done, h, hd => by
    have a := at_cons h (by rw [maxLen_eq]; omega)
    have hlt := a.lt
    refine Ev.step (fun k => s_PacketOk_l5_eq k _ _ _ _) ?_
    simp only [a.g, a.z, a.get, a.w, cond_true]
    unfold pk
    refine Ev.bind (s_CardOf_ev x) (Ev.ite (fun c => Ev.some ?_) (fun c => Ev.bind (l02Has_ev done (card x) (by rw [maxLen_eq]; omega)) (Ev.ite (fun c2 => Ev.some ?_) (fun c2 => Ev.yes (by rw [rowMax_eq]; simp; omega) ?_))))
    · have : ¬ 0 ≤ card x := by simpa using c
      simp [this]
    · simp only [c2, Bool.not_true, Bool.false_and, Bool.and_false]
    · have e1 : decide (0 ≤ card x) = true := by simpa using c
      rw [e1, c2]
      exact s_PacketOk_l5_ev xs hm r (i + 1) _ a.next (by simp [hd])
theorem s_PacketOk_ev (p : List Int) (hm : p.length ≤ maxLen) : Ev (fun k => s_PacketOk k p) (packetOk p) := by
  refine Ev.step (fun k => s_PacketOk_eq k p) (Ev.ite (fun h => Ev.some ?_) (fun h => ?_))
  · symm
    rw [Bool.eq_false_iff]
    intro hp
    have := (packetOk_fit hp).2.2
    simp at h; omega
  · exact s_PacketOk_l5_ev p (by simp at h; omega) p 0 [] rfl rfl
/-- The cards that were met. -/
def metL (done : List Int) : List Bool := (List.range 12).map fun (c : Nat) => done.contains (c : Int)
theorem metL_len (done : List Int) : (metL done).length = 12 := by simp [metL]
theorem metL_get (done : List Int) (c : Nat) (h : c < 12) (d : Bool) : (metL done).getD c d = done.contains (c : Int) := by
  simp [metL, List.getD, h]
theorem metL_set (done : List Int) (c : Nat) (h : c < 12) : (metL done).set c true = metL (done ++ [(c : Int)]) := by
  apply List.ext_getElem?
  intro x
  rw [List.getElem?_set]
  by_cases hx : x < 12
  · by_cases e : c = x
    · subst e; simp [metL, h]
    · have : ¬ x = c := fun h => e h.symm
      simp [metL, hx, e, this]; intro h; omega
  · rw [if_neg (by omega), List.getElem?_eq_none (by rw [metL_len]; omega), List.getElem?_eq_none (by rw [metL_len]; omega)]
theorem i_PacketOk_l3_ev (xs : List Int) (hm : xs.length ≤ maxLen) (hi : Ins xs) : ∀ (r : List Int) (i : Nat) (done : List Int), xs.drop i = r → Ev (fun k => i_PacketOk_l3 k xs (xs.length : Int) (i : Int) (metL done)) (pk done r)
  | [], i, done, h => by
    have a := at_nil h
    refine Ev.step (fun k => i_PacketOk_l3_eq k _ _ _ _) ?_
    simp only [a.g, cond_false]
    exact Ev.pure _
  | x :: r, i, done, h => by
    have a := at_cons h hm
    refine Ev.step (fun k => i_PacketOk_l3_eq k _ _ _ _) ?_
    simp only [a.g, a.z, a.get, a.w, cond_true]
    unfold pk
    refine Ev.bind (i_CardOf_ev x (hi x a.mem)) (Ev.ite (fun c => Ev.some ?_) (fun c => ?_))
    · have : ¬ 0 ≤ card x := by simpa using c
      simp [this]
    · have hc : 0 ≤ card x := by simpa using c
      have hc2 := (card_lt x).2
      have en : card x = ((card x).toNat : Int) := by omega
      have g1 : decide (0 ≤ card x) = true := by simp [hc]
      have g2 : decide (card x < ((metL done).length : Int)) = true := by rw [metL_len]; simp; omega
      have g3 : decide ((card x).toNat < (metL done).length) = true := by rw [metL_len]; simp; omega
      have g4 : (Nat.beq (metL done).length 12 && true) = true := by rw [metL_len]; rfl
      have g5 := metL_get done (card x).toNat (by omega) false
      rw [← en] at g5
      have g6 := metL_set done (card x).toNat (by omega)
      rw [← en] at g6
      simp only [g1, g2, g3, g4, g5, g6, cond_true, Bool.true_and]
      refine Ev.ite (fun c2 => Ev.some ?_) (fun c2 => ?_)
      · rw [c2]; rfl
      · rw [c2]
        exact i_PacketOk_l3_ev xs hm hi r (i + 1) _ a.next
theorem i_PacketOk_ev (p : List Int) (hm : p.length ≤ maxLen) (hi : Ins p) : Ev (fun k => i_PacketOk k p) (packetOk p) :=
  Ev.step (fun k => i_PacketOk_eq k p) (i_PacketOk_l3_ev p hm hi p 0 [] rfl)
def posF (c : Int) : Nat → List Int → Int
  | _, [] => -1
  | i, y :: r => if card y = c then (i : Int) else posF c (i + 1) r
/-- Where a card lies, or -1. -/
def pos (p : List Int) (c : Int) : Int := if c < 0 then -1 else posF c 0 p
theorem s_PositionOf_l2_neg (c : Int) (xs : List Int) (hm : xs.length ≤ maxLen) (hc : c < 0) : ∀ (r : List Int) (i : Nat), xs.drop i = r → Ev (fun k => s_PositionOf_l2 k c xs (xs.length : Int) (i : Int)) (-1)
  | [], i, h => by
    have a := at_nil h
    refine Ev.step (fun k => s_PositionOf_l2_eq k _ _ _ _) ?_
    simp only [a.g, cond_false]
    exact Ev.pure _
  | x :: r, i, h => by
    have a := at_cons h hm
    have ih := s_PositionOf_l2_neg c xs hm hc r (i + 1) a.next
    refine Ev.step (fun k => s_PositionOf_l2_eq k _ _ _ _) ?_
    simp only [a.g, a.z, a.get, a.w, cond_true]
    exact Ev.bind (s_CardOf_ev x) (Ev.ite (fun _ => Ev.no (by simp; omega) ih) (fun _ => ih))
theorem s_PositionOf_l2_ev (c : Int) (xs : List Int) (hm : xs.length ≤ maxLen) (hc : 0 ≤ c) : ∀ (r : List Int) (i : Nat), xs.drop i = r → Ev (fun k => s_PositionOf_l2 k c xs (xs.length : Int) (i : Int)) (posF c i r)
  | [], i, h => by
    have a := at_nil h
    refine Ev.step (fun k => s_PositionOf_l2_eq k _ _ _ _) ?_
    simp only [a.g, cond_false]
    exact Ev.pure _
  | x :: r, i, h => by
    have a := at_cons h hm
    have ih := s_PositionOf_l2_ev c xs hm hc r (i + 1) a.next
    refine Ev.step (fun k => s_PositionOf_l2_eq k _ _ _ _) ?_
    simp only [a.g, a.z, a.get, a.w, cond_true]
    unfold posF
    refine Ev.bind (s_CardOf_ev x) (Ev.ite (fun h => Ev.yes (by simp; omega) (Ev.some ?_)) (fun h => ih.to ?_))
    · have : card x = c := by simpa using h
      rw [if_pos this]
    · have : ¬ card x = c := by simpa using h
      rw [if_neg this]
theorem s_PositionOf_ev (p : List Int) (c : Int) (hm : p.length ≤ maxLen) : Ev (fun k => s_PositionOf k (p, c)) (pos p c) := by
  refine Ev.step (fun k => s_PositionOf_eq k p c) ?_
  unfold pos
  by_cases hc : c < 0
  · rw [if_pos hc]; exact s_PositionOf_l2_neg c p hm hc p 0 rfl
  · rw [if_neg hc]; exact s_PositionOf_l2_ev c p hm (by omega) p 0 rfl
theorem i_PosFunc_l2_ev (c : Int) (xs : List Int) (hm : xs.length ≤ maxLen) (hi : Ins xs) : ∀ (r : List Int) (i : Nat), xs.drop i = r → Ev (fun k => slices_IndexFunc_int_of_i_PositionOf_1_l2 k xs c (xs.length : Int) (i : Int)) (posF c i r)
  | [], i, h => by
    have a := at_nil h
    refine Ev.step (fun k => slices_IndexFunc_int_of_i_PositionOf_1_l2_eq k _ _ _ _) ?_
    simp only [a.g, cond_false]
    exact Ev.pure _
  | x :: r, i, h => by
    have a := at_cons h hm
    have ih := i_PosFunc_l2_ev c xs hm hi r (i + 1) a.next
    refine Ev.step (fun k => slices_IndexFunc_int_of_i_PositionOf_1_l2_eq k _ _ _ _) ?_
    simp only [a.g, a.z, a.get, a.w, cond_true]
    unfold posF
    have h1 : Ev (fun k => i_PositionOf_1 k (x, c)) (card x == c) := Ev.step (fun k => i_PositionOf_1_eq k x c) (Ev.bind (i_CardOf_ev x (hi x a.mem)) (Ev.pure _))
    refine Ev.bind h1 (Ev.ite (fun h => Ev.some ?_) (fun h => ih.to ?_))
    · have : card x = c := by simpa using h
      rw [if_pos this]
    · have : ¬ card x = c := by simpa using h
      rw [if_neg this]
theorem i_PositionOf_ev (p : List Int) (c : Int) (hm : p.length ≤ maxLen) (hi : Ins p) : Ev (fun k => i_PositionOf k (p, c)) (pos p c) := by
  refine Ev.step (fun k => i_PositionOf_eq k p c) ?_
  unfold pos
  refine Ev.ite (fun h => Ev.some ?_) (fun h => Ev.bind (Ev.step (fun k => slices_IndexFunc_int_of_i_PositionOf_1_eq k p c) (i_PosFunc_l2_ev c p hm hi p 0 rfl)) (Ev.some ?_))
  · have : c < 0 := by simpa using h
    rw [if_pos this]
  · have : ¬ c < 0 := by simpa using h
    rw [if_neg this]
def isArr (p q : List Int) : Bool := packetOk p && (packetOk q && (p.length == q.length && p.all fun x => decide (0 ≤ pos q (card x))))
theorem s_IsArrangement_l4_ev (q xs : List Int) (hm : xs.length ≤ maxLen) (hq : q.length ≤ maxLen) : ∀ (r : List Int) (i : Nat), xs.drop i = r → Ev (fun k => s_IsArrangement_l4 k q xs (xs.length : Int) (i : Int)) (r.all fun x => decide (0 ≤ pos q (card x)))
  | [], i, h => by
    have a := at_nil h
    refine Ev.step (fun k => s_IsArrangement_l4_eq k _ _ _ _) ?_
    simp only [a.g, cond_false]
    exact Ev.pure _
  | x :: r, i, h => by
    have a := at_cons h hm
    have ih := s_IsArrangement_l4_ev q xs hm hq r (i + 1) a.next
    refine Ev.step (fun k => s_IsArrangement_l4_eq k _ _ _ _) ?_
    simp only [a.g, a.z, a.get, a.w, cond_true]
    refine Ev.bind (s_CardOf_ev x) (Ev.bind (s_PositionOf_ev q (card x) hq) (Ev.ite (fun h => Ev.some ?_) (fun h => ih.to ?_)))
    · have : ¬ 0 ≤ pos q (card x) := by simpa using h
      simp [this]
    · have : 0 ≤ pos q (card x) := by simpa using h
      simp [this]
theorem s_IsArrangement_ev (p q : List Int) (hp : p.length ≤ maxLen) (hq : q.length ≤ maxLen) : Ev (fun k => s_IsArrangement k (p, q)) (isArr p q) := by
  unfold isArr
  refine Ev.step (fun k => s_IsArrangement_eq k p q) (Ev.bind (s_PacketOk_ev p hp) (Ev.ite (fun h => Ev.some ?_) (fun h => Ev.bind (s_PacketOk_ev q hq) (Ev.ite (fun h2 => Ev.some ?_) (fun h2 => Ev.ite (fun h3 => Ev.some ?_) (fun h3 => ?_))))))
  · have : packetOk p = false := by simpa using h
    rw [this]; rfl
  · have : packetOk q = false := by simpa using h2
    rw [this]; simp
  · have : (p.length == q.length) = false := by simp at h3 ⊢; omega
    rw [this]; simp
  · have e1 : packetOk p = true := by simpa using h
    have e2 : packetOk q = true := by simpa using h2
    have e3 : (p.length == q.length) = true := by simp at h3 ⊢; omega
    rw [e1, e2, e3]
    exact s_IsArrangement_l4_ev q p hp hq p 0 rfl
def noPos (q : List Int) : Nat → List Int → Int
  | _, [] => -1
  | i, x :: r => if pos q (card x) < 0 then (i : Int) else noPos q (i + 1) r
theorem noPos_all (q : List Int) : ∀ (r : List Int) (i : Nat), (!(decide (noPos q i r ≥ 0))) = r.all fun x => decide (0 ≤ pos q (card x))
  | [], i => by simp [noPos]
  | x :: r, i => by
    unfold noPos
    by_cases h : pos q (card x) < 0
    · rw [if_pos h]
      have : ¬ 0 ≤ pos q (card x) := by omega
      simp [this]
    · rw [if_neg h, noPos_all q r (i + 1)]
      have : 0 ≤ pos q (card x) := by omega
      simp [this]
theorem i_ArrFunc_l2_ev (q xs : List Int) (hm : xs.length ≤ maxLen) (hi : Ins xs) (hq : q.length ≤ maxLen) (hiq : Ins q) : ∀ (r : List Int) (i : Nat), xs.drop i = r → Ev (fun k => slices_IndexFunc_int_of_i_IsArrangement_1_l2 k xs q (xs.length : Int) (i : Int)) (noPos q i r)
  | [], i, h => by
    have a := at_nil h
    refine Ev.step (fun k => slices_IndexFunc_int_of_i_IsArrangement_1_l2_eq k _ _ _ _) ?_
    simp only [a.g, cond_false]
    exact Ev.pure _
  | x :: r, i, h => by
    have a := at_cons h hm
    have ih := i_ArrFunc_l2_ev q xs hm hi hq hiq r (i + 1) a.next
    refine Ev.step (fun k => slices_IndexFunc_int_of_i_IsArrangement_1_l2_eq k _ _ _ _) ?_
    simp only [a.g, a.z, a.get, a.w, cond_true]
    unfold noPos
    have h1 : Ev (fun k => i_IsArrangement_1 k (x, q)) (decide (pos q (card x) < 0)) := Ev.step (fun k => i_IsArrangement_1_eq k x q) (Ev.bind (i_CardOf_ev x (hi x a.mem)) (Ev.bind (i_PositionOf_ev q _ hq hiq) (Ev.pure _)))
    refine Ev.bind h1 (Ev.ite (fun h => Ev.some ?_) (fun h => ih.to ?_))
    · have : pos q (card x) < 0 := by simpa using h
      rw [if_pos this]
    · have : ¬ pos q (card x) < 0 := by simpa using h
      rw [if_neg this]
theorem i_IsArrangement_ev (p q : List Int) (hp : p.length ≤ maxLen) (hip : Ins p) (hq : q.length ≤ maxLen) (hiq : Ins q) : Ev (fun k => i_IsArrangement k (p, q)) (isArr p q) := by
  unfold isArr
  refine Ev.step (fun k => i_IsArrangement_eq k p q) (Ev.bind (i_PacketOk_ev p hp hip) (Ev.ite (fun h => Ev.some ?_) (fun h => Ev.bind (i_PacketOk_ev q hq hiq) (Ev.ite (fun h2 => Ev.some ?_) (fun h2 => Ev.ite (fun h3 => Ev.some ?_) (fun h3 => ?_))))))
  · have : packetOk p = false := by simpa using h
    rw [this]; rfl
  · have : packetOk q = false := by simpa using h2
    rw [this]; simp
  · have : (p.length == q.length) = false := by simp at h3 ⊢; omega
    rw [this]; simp
  · have e1 : packetOk p = true := by simpa using h
    have e2 : packetOk q = true := by simpa using h2
    have e3 : (p.length == q.length) = true := by simp at h3 ⊢; omega
    rw [e1, e2, e3, ← noPos_all q p 0]
    exact Ev.bind (Ev.step (fun k => slices_ContainsFunc_int_of_i_IsArrangement_1_eq k p q) (Ev.bind (Ev.step (fun k => slices_IndexFunc_int_of_i_IsArrangement_1_eq k p q) (i_ArrFunc_l2_ev q p hp hip hq hiq p 0 rfl)) (Ev.pure _))) (Ev.some (by simp))
end Qq
namespace Qq
open Go Go.Vt Pt
set_option linter.unusedVariables false
set_option linter.unusedSimpArgs false
def lessL : List Int → List Int → Bool
  | [], b => decide (0 < b.length)
  | _ :: _, [] => false
  | x :: a, y :: b => if x = y then lessL a b else decide (x < y)
def cmpL : List Int → List Int → Int
  | [], b => if 0 < b.length then -1 else 0
  | _ :: _, [] => 1
  | x :: a, y :: b => if x = y then cmpL a b else if x < y then -1 else 1
theorem cmpL_less : ∀ a b, decide (cmpL a b ≥ 0) = !lessL a b
  | [], [] => rfl
  | [], _ :: _ => by simp [cmpL, lessL]
  | _ :: _, [] => rfl
  | x :: a, y :: b => by
    unfold cmpL lessL
    by_cases h : x = y
    · rw [if_pos h, if_pos h, cmpL_less a b]
    · rw [if_neg h, if_neg h]
      by_cases h2 : x < y
      · simp [h2]
      · simp [h2]
theorem drop_len {α : Type} {xs r : List α} {i : Nat} (h : xs.drop i = r) : xs.length - i = r.length := by rw [← h, List.length_drop]
theorem s_l05Less_l2_ev (xs ys : List Int) (hm : xs.length ≤ maxLen) (hy : ys.length ≤ maxLen) : ∀ (r s : List Int) (i : Nat), i ≤ xs.length → xs.drop i = r → ys.drop i = s → Ev (fun k => s_l05Less_l2 k xs ys xs (xs.length : Int) (i : Int)) (lessL r s)
  | [], s, i, hi, h, h2 => by
    have a := at_nil h
    have := a.ge
    have hl := drop_len h2
    refine Ev.step (fun k => s_l05Less_l2_eq k _ _ _ _ _) ?_
    simp only [a.g, cond_false]
    refine Ev.some ?_
    unfold lessL
    rw [Bool.eq_iff_iff]; simp; omega
  | x :: r, [], i, hi, h, h2 => by
    have a := at_cons h hm
    have b := at_nil h2
    refine Ev.step (fun k => s_l05Less_l2_eq k _ _ _ _ _) ?_
    simp only [a.g, a.z, cond_true]
    refine Ev.yes (by have := b.ge; simp; omega) (Ev.some rfl)
  | x :: r, y :: s, i, hi, h, h2 => by
    have a := at_cons h hm
    have b := at_cons h2 hy
    have hlt := a.lt
    have ih := s_l05Less_l2_ev xs ys hm hy r s (i + 1) (by omega) a.next b.next
    refine Ev.step (fun k => s_l05Less_l2_eq k _ _ _ _ _) ?_
    simp only [a.g, a.z, a.get, a.w, cond_true]
    refine Ev.no (by have := b.lt; simp; omega) ?_
    simp only [b.g, b.get, cond_true]
    unfold lessL
    refine Ev.ite (fun c => Ev.some ?_) (fun c => ih.to ?_)
    · have : ¬ x = y := by simpa using c
      rw [if_neg this]
    · have : x = y := by simpa using c
      rw [if_pos this]
theorem s_l05Less_ev (xs ys : List Int) (hm : xs.length ≤ maxLen) (hy : ys.length ≤ maxLen) : Ev (fun k => s_l05Less k (xs, ys)) (lessL xs ys) :=
  Ev.step (fun k => s_l05Less_eq k xs ys) (s_l05Less_l2_ev xs ys hm hy xs ys 0 (by omega) rfl rfl)
theorem cmp_int_ev (x y : Int) : Ev (fun k => cmp_Compare_int k (x, y)) (if x < y then -1 else if x > y then 1 else 0) := by
  have hn : ∀ z : Int, Ev (fun k => cmp_isNaN_int k z) false := fun z => Ev.step (fun k => cmp_isNaN_int_eq k z) (Ev.some (by simp))
  refine Ev.step (fun k => cmp_Compare_int_eq k x y) (Ev.bind (hn x) (Ev.bind (hn y) (Ev.no rfl (Ev.no rfl (Ev.ite (fun c => Ev.some ?_) (fun c => Ev.ite (fun c2 => Ev.some ?_) (fun c2 => Ev.some ?_)))))))
  · have : x < y := by simpa using c
    rw [if_pos this]
  · have h1 : ¬ x < y := by simpa using c
    have h2 : x > y := by simpa using c2
    rw [if_neg h1, if_pos h2]
  · have h1 : ¬ x < y := by simpa using c
    have h2 : ¬ x > y := by simpa using c2
    rw [if_neg h1, if_neg h2]
theorem Compare_l2_ev (xs ys : List Int) (hm : xs.length ≤ maxLen) (hy : ys.length ≤ maxLen) : ∀ (r s : List Int) (i : Nat), i ≤ xs.length → xs.drop i = r → ys.drop i = s → Ev (fun k => slices_Compare_int_l2 k xs ys xs (xs.length : Int) (i : Int)) (cmpL r s)
  | [], s, i, hi, h, h2 => by
    have a := at_nil h
    have := a.ge
    have hl := drop_len h2
    refine Ev.step (fun k => slices_Compare_int_l2_eq k _ _ _ _ _) ?_
    simp only [a.g, cond_false]
    unfold cmpL
    refine Ev.ite (fun c => Ev.some ?_) (fun c => Ev.some ?_)
    · rw [if_pos (by simp at c; omega)]
    · rw [if_neg (by simp at c; omega)]
  | x :: r, [], i, hi, h, h2 => by
    have a := at_cons h hm
    have b := at_nil h2
    refine Ev.step (fun k => slices_Compare_int_l2_eq k _ _ _ _ _) ?_
    simp only [a.g, a.z, cond_true]
    refine Ev.yes (by have := b.ge; simp; omega) (Ev.some rfl)
  | x :: r, y :: s, i, hi, h, h2 => by
    have a := at_cons h hm
    have b := at_cons h2 hy
    have hlt := a.lt
    have ih := Compare_l2_ev xs ys hm hy r s (i + 1) (by omega) a.next b.next
    refine Ev.step (fun k => slices_Compare_int_l2_eq k _ _ _ _ _) ?_
    simp only [a.g, a.z, a.get, a.w, cond_true]
    refine Ev.no (by have := b.lt; simp; omega) ?_
    simp only [b.g, b.get, cond_true]
    unfold cmpL
    refine Ev.bind (cmp_int_ev x y) (Ev.ite (fun c => Ev.some ?_) (fun c => ih.to ?_))
    · by_cases h3 : x < y
      · rw [if_pos h3, if_neg (by omega), if_pos h3]
      · by_cases h4 : x > y
        · rw [if_neg h3, if_pos h4, if_neg (by omega), if_neg h3]
        · rw [if_neg h3, if_neg h4] at c; simp at c
    · have : x = y := by
        by_cases h3 : x < y
        · rw [if_pos h3] at c; simp at c
        · by_cases h4 : x > y
          · rw [if_neg h3, if_pos h4] at c; simp at c
          · omega
      rw [if_pos this]
theorem Compare_ev (xs ys : List Int) (hm : xs.length ≤ maxLen) (hy : ys.length ≤ maxLen) : Ev (fun k => slices_Compare_int k (xs, ys)) (cmpL xs ys) :=
  Ev.step (fun k => slices_Compare_int_eq k xs ys) (Compare_l2_ev xs ys hm hy xs ys 0 (by omega) rfl rfl)
abbrev Packs : Type := List (List Int)
/-- Numbers and lengths are such as a machine bears. -/
def FitS (l : Packs) : Prop := l.length ≤ maxLen ∧ ∀ p ∈ l, p.length ≤ maxLen ∧ Ins p
theorem FitS.of {l : Packs} (h : Fits (.slice (.slice (.int .i64))) l) : FitS l :=
  ⟨h.1, fun p hp => ⟨(h.2 p hp).1, fun x hx => In.of_fits ((h.2 p hp).2 x hx)⟩⟩
def kF (p0 : List Int) : Option (List Int) → Packs → Bool
  | _, [] => true
  | pv, q :: r => isArr p0 q && ((match pv with | none => true | some p => lessL p q) && kF p0 (some q) r)
def knowOk (l : Packs) : Bool := match l with
  | [] => false
  | p0 :: _ => decide (l.length ≤ 3000) && (!(p0.length == 0) && kF p0 none l)
def prev (l : Packs) (i : Nat) : Option (List Int) := if i = 0 then none else some (l.getD (i - 1) [])
theorem prev_next {l : Packs} {i : Nat} {q : List Int} {r : Packs} (a : AtCons l i q r) : prev l (i + 1) = some q := by
  unfold prev
  rw [if_neg (by omega), show i + 1 - 1 = i by omega, a.gt]
theorem prev_get {l : Packs} {i : Nat} (h : 0 < i) (hi : (i : Int) ≤ 9223372036854775807) : prev l i = some (l.getD (IntKind.i64.wrap ((i : Int) - 1)).toNat []) := by
  unfold prev
  rw [if_neg (by omega), wrap_id (by omega) (by omega), show ((i : Int) - 1).toNat = i - 1 by omega]
theorem s_KnowOk_l4_ev (l : Packs) (p0 : List Int) (hf : FitS l) (h0 : l.getD 0 [] = p0) (hl : 0 < l.length) : ∀ (r : Packs) (i : Nat), l.drop i = r → Ev (fun k => s_KnowOk_l4 k l l (l.length : Int) (i : Int)) (kF p0 (prev l i) r)
  | [], i, h => by
    have a := at_nil h
    refine Ev.step (fun k => s_KnowOk_l4_eq k _ _ _ _) ?_
    simp only [a.g, cond_false]
    exact Ev.pure _
  | q :: r, i, h => by
    have a := at_cons h hf.1
    have hlt := a.lt
    have hm1 := hf.1
    rw [maxLen_eq] at hm1
    have ih := s_KnowOk_l4_ev l p0 hf h0 hl r (i + 1) a.next
    rw [prev_next a] at ih
    have hp0 : p0 ∈ l := by rw [← h0]; simp [List.getD, hl]
    refine Ev.step (fun k => s_KnowOk_l4_eq k _ _ _ _) ?_
    simp only [a.g, a.z, a.get, a.w, h0, cond_true]
    refine Ev.yes (by simp; omega) ?_
    unfold kF
    refine Ev.bind (s_IsArrangement_ev p0 q (hf.2 p0 hp0).1 (hf.2 q a.mem).1) (Ev.ite (fun c => Ev.some ?_) (fun c => Ev.ite (fun c2 => ?_) (fun c2 => ih.to ?_)))
    · have : isArr p0 q = false := by simpa using c
      rw [this]; rfl
    · have c1 : isArr p0 q = true := by simpa using c
      have hi : 0 < i := by simp at c2; omega
      rw [prev_get hi (by omega)]
      have w1 : IntKind.i64.wrap ((i : Int) - 1) = ((i - 1 : Nat) : Int) := by rw [wrap_id (by omega) (by omega)]; omega
      rw [w1]
      refine Ev.yes (by simp) (Ev.yes (by simp; omega) ?_)
      rw [Int.toNat_natCast]
      have hmem : l.getD (i - 1) [] ∈ l := by
        have : i - 1 < l.length := by omega
        simp [List.getD, this]
      refine Ev.bind (s_l05Less_ev _ q (hf.2 _ hmem).1 (hf.2 q a.mem).1) (Ev.ite (fun c3 => Ev.some ?_) (fun c3 => ih.to ?_))
      · have : lessL (l.getD (i - 1) []) q = false := by simpa using c3
        simp only [this, Bool.false_and, Bool.and_false]
      · have : lessL (l.getD (i - 1) []) q = true := by simpa using c3
        simp only [c1, this, Bool.true_and]
    · have c1 : isArr p0 q = true := by simpa using c
      have hi : i = 0 := by simp at c2; omega
      subst hi
      simp [prev, c1]
theorem i_KnowOk_l4_ev (l : Packs) (p0 : List Int) (hf : FitS l) (h0 : l.getD 0 [] = p0) (hl : 0 < l.length) : ∀ (r : Packs) (i : Nat), l.drop i = r → Ev (fun k => i_KnowOk_l4 k l l (l.length : Int) (i : Int)) (kF p0 (prev l i) r)
  | [], i, h => by
    have a := at_nil h
    refine Ev.step (fun k => i_KnowOk_l4_eq k _ _ _ _) ?_
    simp only [a.g, cond_false]
    exact Ev.pure _
  | q :: r, i, h => by
    have a := at_cons h hf.1
    have hlt := a.lt
    have hm1 := hf.1
    rw [maxLen_eq] at hm1
    have ih := i_KnowOk_l4_ev l p0 hf h0 hl r (i + 1) a.next
    rw [prev_next a] at ih
    have hp0 : p0 ∈ l := by rw [← h0]; simp [List.getD, hl]
    refine Ev.step (fun k => i_KnowOk_l4_eq k _ _ _ _) ?_
    simp only [a.g, a.z, a.get, a.w, h0, cond_true]
    refine Ev.yes (by simp; omega) ?_
    unfold kF
    refine Ev.bind (i_IsArrangement_ev p0 q (hf.2 p0 hp0).1 (hf.2 p0 hp0).2 (hf.2 q a.mem).1 (hf.2 q a.mem).2) (Ev.ite (fun c => Ev.some ?_) (fun c => Ev.ite (fun c2 => ?_) (fun c2 => ih.to ?_)))
    · have : isArr p0 q = false := by simpa using c
      rw [this]; rfl
    · have c1 : isArr p0 q = true := by simpa using c
      have hi : 0 < i := by simp at c2; omega
      rw [prev_get hi (by omega)]
      have w1 : IntKind.i64.wrap ((i : Int) - 1) = ((i - 1 : Nat) : Int) := by rw [wrap_id (by omega) (by omega)]; omega
      rw [w1]
      refine Ev.yes (by simp) (Ev.yes (by simp; omega) ?_)
      rw [Int.toNat_natCast]
      have hmem : l.getD (i - 1) [] ∈ l := by
        have : i - 1 < l.length := by omega
        simp [List.getD, this]
      refine Ev.bind (Compare_ev _ q (hf.2 _ hmem).1 (hf.2 q a.mem).1) (Ev.ite (fun c3 => Ev.some ?_) (fun c3 => ih.to ?_))
      · rw [cmpL_less] at c3
        have : lessL (l.getD (i - 1) []) q = false := by simpa using c3
        simp only [this, Bool.false_and, Bool.and_false]
      · rw [cmpL_less] at c3
        have : lessL (l.getD (i - 1) []) q = true := by simpa using c3
        simp only [c1, this, Bool.true_and]
    · have c1 : isArr p0 q = true := by simpa using c
      have hi : i = 0 := by simp at c2; omega
      subst hi
      simp [prev, c1]
theorem s_KnowOk_ev (l : Packs) (hf : FitS l) : Ev (fun k => s_KnowOk k l) (knowOk l) := by
  refine Ev.step (fun k => s_KnowOk_eq k l) (Ev.bind (l01In_ev _ _ _) ?_)
  cases l with
  | nil => exact Ev.yes (by simp) (Ev.some rfl)
  | cons p0 r =>
    unfold knowOk
    refine Ev.ite (fun c => Ev.some ?_) (fun c => Ev.yes (by simp) (Ev.ite (fun c2 => Ev.some ?_) (fun c2 => ?_)))
    · have : ¬ (p0 :: r).length ≤ 3000 := by simp at c ⊢; omega
      simp only [this, decide_false, Bool.false_and]
    · have : (p0.length == 0) = true := by simpa using c2
      simp [this]
    · have e1 : (p0 :: r).length ≤ 3000 := by simp at c ⊢; omega
      have e2 : (p0.length == 0) = false := by simpa using c2
      simp only [e1, e2, decide_true, Bool.true_and, Bool.not_false]
      exact s_KnowOk_l4_ev (p0 :: r) p0 hf rfl (by simp) (p0 :: r) 0 rfl
theorem i_KnowOk_ev (l : Packs) (hf : FitS l) : Ev (fun k => i_KnowOk k l) (knowOk l) := by
  refine Ev.step (fun k => i_KnowOk_eq k l) ?_
  cases l with
  | nil => exact Ev.yes (by simp) (Ev.some rfl)
  | cons p0 r =>
    unfold knowOk
    refine Ev.no (by simp; omega) (Ev.ite (fun c => Ev.some ?_) (fun c => Ev.yes (by simp) (Ev.ite (fun c2 => Ev.some ?_) (fun c2 => ?_))))
    · have : ¬ (p0 :: r).length ≤ 3000 := by simp at c ⊢; omega
      simp only [this, decide_false, Bool.false_and]
    · have : (p0.length == 0) = true := by simpa using c2
      simp [this]
    · have e1 : (p0 :: r).length ≤ 3000 := by simp at c ⊢; omega
      have e2 : (p0.length == 0) = false := by simpa using c2
      simp only [e1, e2, decide_true, Bool.true_and, Bool.not_false]
      exact i_KnowOk_l4_ev (p0 :: r) p0 hf rfl (by simp) (p0 :: r) 0 rfl
theorem kF_arr (p0 : List Int) : ∀ (r : Packs) (pv : Option (List Int)), kF p0 pv r = true → ∀ q ∈ r, isArr p0 q = true
  | [], _, _, q, h => by cases h
  | p :: r, pv, h, q, hq => by
    unfold kF at h
    simp only [Bool.and_eq_true] at h
    rcases List.mem_cons.1 hq with rfl | hq
    · exact h.1
    · exact kF_arr p0 r _ h.2.2 q hq
theorem isArr_fit {p q : List Int} (h : isArr p q = true) : packetOk p = true ∧ packetOk q = true ∧ p.length = q.length ∧ ∀ x ∈ p, 0 ≤ pos q (card x) := by
  unfold isArr at h
  simp only [Bool.and_eq_true, beq_iff_eq, List.all_eq_true, decide_eq_true_eq] at h
  exact ⟨h.1, h.2.1, h.2.2.1, h.2.2.2⟩
/-- All have as many cards as the first, at most 12 and at least one. -/
theorem know_fit {p0 : List Int} {r : Packs} (h : knowOk (p0 :: r) = true) : (p0 :: r).length ≤ 3000 ∧ 1 ≤ p0.length ∧ p0.length ≤ 12 ∧ ∀ q ∈ p0 :: r, packetOk q = true ∧ q.length = p0.length := by
  unfold knowOk at h
  simp only [Bool.and_eq_true, decide_eq_true_eq] at h
  have hk := kF_arr p0 _ _ h.2.2
  have h1 := isArr_fit (hk p0 (by simp))
  have h2 := (packetOk_fit h1.1).2.2
  refine ⟨h.1, ?_, h2, fun q hq => ?_⟩
  · have := h.2.1
    simp at this
    exact List.length_pos_iff.2 this
  · have := isArr_fit (hk q hq)
    exact ⟨this.2.1, this.2.2.1.symm⟩
end Qq
namespace Qq
open Go Go.Vt Pt
set_option linter.unusedVariables false
set_option linter.unusedSimpArgs false
end Qq
namespace Qq
open Go Go.Vt Pt
set_option linter.unusedVariables false
set_option linter.unusedSimpArgs false
def szL : List (List Int) → Int → Int
  | [], n => n
  | x :: r, n => if n - (x.length : Int) < 0 then -1 else szL r (n - x.length)
def szSS (l : List (List Int)) (n : Int) : Int := if n - (l.length : Int) < 0 then -1 else szL l (n - l.length)
theorem szIntSS_l5_ev (l : List (List Int)) (hl : l.length ≤ maxLen) (hi : ∀ p ∈ l, p.length ≤ maxLen) : ∀ (r : List (List Int)) (i : Nat) (n : Int), l.drop i = r → 0 ≤ n → n ≤ 1048576 → Ev (fun k => w_szIntSS_l5 k l n (i : Int)) (szL r n)
  | [], i, n, h, h1, h2 => by
    have a := at_nil h
    refine Ev.step (fun k => w_szIntSS_l5_eq k _ _ _) ?_
    simp only [a.g, cond_false]
    exact Ev.pure _
  | x :: r, i, n, h, h1, h2 => by
    have a := at_cons h hl
    refine Ev.step (fun k => w_szIntSS_l5_eq k _ _ _) ?_
    simp only [a.g, a.z, a.get, a.w, cond_true]
    unfold szL
    refine Ev.bind (szIntS_ev x n (hi x a.mem) h1 h2) ?_
    by_cases c : n - (x.length : Int) < 0
    · rw [if_pos c, if_pos c]; exact Ev.yes rfl (Ev.pure _)
    · rw [if_neg c, if_neg c]
      exact Ev.no (by simpa using c) (szIntSS_l5_ev l hl hi r (i + 1) _ a.next (by omega) (by omega))
theorem szIntSS_ev (l : List (List Int)) (n : Int) (hl : l.length ≤ maxLen) (hi : ∀ p ∈ l, p.length ≤ maxLen) (hn : 0 ≤ n) (hn2 : n ≤ 1048576) : Ev (fun k => w_szIntSS k (l, n)) (szSS l n) := by
  have hl' := hl
  rw [maxLen_eq] at hl'
  refine Ev.step (fun k => w_szIntSS_eq k l n) ?_
  rw [wrap_id (by omega) (by omega)]
  unfold szSS
  by_cases c : n - (l.length : Int) < 0
  · rw [if_pos c]; exact Ev.yes (by simpa using c) (Ev.pure _)
  · rw [if_neg c]; exact Ev.no (by simpa using c) (szIntSS_l5_ev l hl hi l 0 _ rfl (by omega) (by omega))
theorem szL_fit : ∀ (l : List (List Int)) (n : Int), 0 ≤ n → ¬ szL l n < 0 → szL l n ≤ n ∧ ∀ p ∈ l, (p.length : Int) ≤ n
  | [], n, h0, h => by simp [szL]
  | x :: r, n, h0, h => by
    unfold szL at *
    by_cases c : n - (x.length : Int) < 0
    · rw [if_pos c] at h; exact absurd (by decide) h
    · rw [if_neg c] at h ⊢
      obtain ⟨h1, h2⟩ := szL_fit r _ (by omega) h
      refine ⟨by omega, fun p hp => ?_⟩
      rcases List.mem_cons.1 hp with rfl | hp
      · omega
      · have := h2 p hp; omega
theorem szSS_fit {l : List (List Int)} {n : Int} (hn : n ≤ 1048576) (h0 : 0 ≤ n) (h : ¬ szSS l n < 0) : l.length ≤ 1048576 ∧ (∀ p ∈ l, p.length ≤ 1048576) ∧ 0 ≤ szSS l n ∧ szSS l n ≤ n := by
  unfold szSS at *
  by_cases c : n - (l.length : Int) < 0
  · rw [if_pos c] at h; exact absurd (by decide) h
  · rw [if_neg c] at h ⊢
    obtain ⟨h1, h2⟩ := szL_fit l _ (by omega) h
    exact ⟨by omega, fun p hp => by have := h2 p hp; omega, by omega, by omega⟩
theorem toIntSS_l3_ev (xs : List (List Int)) (hm : xs.length ≤ maxLen) (hi : ∀ p ∈ xs, p.length ≤ 1048576) : ∀ (r : List (List Int)) (i : Nat) (ys : List (List Int)), xs.drop i = r → ys.length = xs.length → ys.take i = xs.take i → Ev (fun k => w_toIntSS_l3 k xs (i : Int) ys) xs
  | [], i, ys, h, hl, ht => by
    have a := at_nil h
    refine Ev.step (fun k => w_toIntSS_l3_eq k xs i ys) ?_
    simp only [a.g, cond_false]
    have e : ys = xs := by
      have := a.ge
      rwa [List.take_of_length_le (by omega), List.take_of_length_le (by omega)] at ht
    exact Ev.some e
  | x :: r, i, ys, h, hl, ht => by
    have a := at_cons h hm
    have b1 : decide ((i : Int) < (ys.length : Int)) = true := by rw [hl]; exact a.g
    have b2 : decide ((i : Int).toNat < ys.length) = true := by rw [hl]; exact a.n
    refine Ev.step (fun k => w_toIntSS_l3_eq k xs i ys) ?_
    simp only [a.g, a.z, a.get, cond_true]
    refine Ev.bind (toIntS_ev x (hi x a.mem)) ?_
    simp only [b1, b2, a.w, cond_true]
    have hs := set_get (n := 0) (d := []) a.lt hl ht
    rw [a.gt] at hs
    exact toIntSS_l3_ev xs hm hi r (i + 1) _ a.next (by simp [hl]) (by simpa using hs)
theorem toIntSS_ev (xs : List (List Int)) (hm : xs.length ≤ 1048576) (hi : ∀ p ∈ xs, p.length ≤ 1048576) : Ev (fun k => w_toIntSS k xs) xs := by
  refine Ev.step (fun k => w_toIntSS_eq k xs) (Ev.yes (by simp) (Ev.yes (by rw [rowMax_eq]; simp; omega) (Ev.yes (by simp) ?_)))
  exact toIntSS_l3_ev xs (by rw [maxLen_eq]; omega) hi xs 0 _ rfl (by simp) (by simp)
theorem eqIntSS_l4_ev (xs ys : List (List Int)) (hx : xs.length ≤ maxLen) (hy : ys.length ≤ maxLen) (ix : ∀ p ∈ xs, p.length ≤ maxLen) (iy : ∀ p ∈ ys, p.length ≤ maxLen) : ∀ (r s : List (List Int)) (i : Nat), xs.drop i = r → ys.drop i = s → s.length = r.length → Ev (fun k => w_eqIntSS_l4 k xs ys (i : Int)) (r == s)
  | [], [], i, h1, h2, hl => by
    have a := at_nil h1
    refine Ev.step (fun k => w_eqIntSS_l4_eq k xs ys i) ?_
    simp only [a.g, cond_false]
    exact Ev.pure _
  | x :: r, y :: s, i, h1, h2, hl => by
    have a := at_cons h1 hx
    have b := at_cons h2 hy
    refine Ev.step (fun k => w_eqIntSS_l4_eq k xs ys i) ?_
    simp only [a.g, a.z, b.g, a.get, b.get, a.w, cond_true]
    have ih := eqIntSS_l4_ev xs ys hx hy ix iy r s (i + 1) a.next b.next (by simpa using hl)
    refine Ev.bind (eqIntS_ev x y (ix x a.mem) (iy y b.mem)) (Ev.ite (fun h => Ev.some ?_) (fun h => ih.to ?_))
    · have : ¬ x = y := by simpa using h
      simp [this]
    · have : x = y := by simpa using h
      simp [this]
  | [], _ :: _, _, _, _, hl => by simp at hl
  | _ :: _, [], _, _, _, hl => by simp at hl
theorem eqIntSS_ev (xs ys : List (List Int)) (hx : xs.length ≤ maxLen) (hy : ys.length ≤ maxLen) (ix : ∀ p ∈ xs, p.length ≤ maxLen) (iy : ∀ p ∈ ys, p.length ≤ maxLen) : Ev (fun k => w_eqIntSS k (xs, ys)) (xs == ys) := by
  refine Ev.step (fun k => w_eqIntSS_eq k xs ys) (Ev.ite (fun h => Ev.some ?_) (fun h => eqIntSS_l4_ev xs ys hx hy ix iy xs ys 0 rfl rfl ?_))
  · have h' : ¬ xs.length = ys.length := by simp at h; omega
    have : ¬ xs = ys := fun e => h' (by rw [e])
    simp [this]
  · simp at h; omega
end Qq
namespace Qq
open Go Go.Vt Pt
set_option linter.unusedVariables false
set_option linter.unusedSimpArgs false
theorem Clone_int_ev (xs : List Int) (hm : xs.length ≤ 1048576) : Ev (fun k => slices_Clone_int k xs) xs := by
  refine Ev.step (fun k => slices_Clone_int_eq k xs) (Ev.ite (fun h => ?_) (fun h => ?_))
  · exact Ev.yes (by rw [rowMax_eq]; simp; omega) (Ev.some (by simp))
  · have : xs = [] := by simpa using h
    subst this
    exact Ev.both (Ev.pure _) (Ev.yes (by simp) (Ev.some rfl))
end Qq
namespace Qq
open Go Go.Vt Pt
set_option linter.unusedVariables false
set_option linter.unusedSimpArgs false
end Qq
namespace Qq
open Go Go.Vt Pt
set_option linter.unusedVariables false
set_option linter.unusedSimpArgs false
end Qq
namespace Qq
open Go Go.Vt Pt
set_option linter.unusedVariables false
set_option linter.unusedSimpArgs false
end Qq
namespace Qq
open Go Go.Vt Pt
set_option linter.unusedVariables false
set_option linter.unusedSimpArgs false
end Qq
namespace Qq
open Go Go.Vt Pt
set_option linter.unusedVariables false
set_option linter.unusedSimpArgs false
def isUp (x : Int) : Bool := decide (-12 ≤ x) && decide (x ≤ -1)
theorem s_IsUp_ev (x : Int) : Ev (fun k => s_IsUp k x) (isUp x) := Ev.step (fun k => s_IsUp_eq k x) (Ev.bind (l01In_ev _ _ _) (Ev.pure _))
theorem i_IsUp_ev (x : Int) (hx : In x) : Ev (fun k => i_IsUp k x) (isUp x) := by
  refine Ev.step (fun k => i_IsUp_eq k x) (Ev.ite (fun h => Ev.bind (i_CardOf_ev x hx) (Ev.some ?_)) (fun h => Ev.some ?_))
  · have h' : x < 0 := by simpa using h
    unfold isUp card
    rw [Bool.eq_iff_iff, if_neg (by omega)]
    by_cases h2 : -12 ≤ x ∧ x ≤ -1
    · rw [if_pos h2]; simp; omega
    · rw [if_neg h2]; simp; omega
  · have h' : ¬ x < 0 := by simpa using h
    unfold isUp
    symm; simp; omega
end Qq
namespace Qq
open Go Go.Vt Pt
set_option linter.unusedVariables false
set_option linter.unusedSimpArgs false
def marksFrom : Int → List (List Int) → List (List Int)
  | _, [] => []
  | k, x :: r => upFrom k x.length :: marksFrom (k + x.length) r
def tl : List (List Int) → Int
  | [] => 0
  | x :: r => x.length + tl r
theorem tl_pos : ∀ l, 0 ≤ tl l
  | [] => Int.le_refl _
  | x :: r => by have := tl_pos r; unfold tl; omega
theorem tl_le {B : Nat} : ∀ (l : List (List Int)), (∀ p ∈ l, p.length ≤ B) → tl l ≤ (l.length * B : Nat)
  | [], _ => by simp [tl]
  | x :: r, h => by
    have := tl_le r (fun p hp => h p (by simp [hp]))
    have hx := h x (by simp)
    unfold tl
    rw [List.length_cons, Nat.add_mul, Nat.one_mul]
    omega
theorem marksFrom_len : ∀ (k : Int) (l : List (List Int)), (marksFrom k l).length = l.length
  | _, [] => rfl
  | k, x :: r => by show (marksFrom _ r).length + 1 = r.length + 1; rw [marksFrom_len]
theorem markIntSS_l2_ev (xs : List (List Int)) (hm : xs.length ≤ maxLen) (hi : ∀ p ∈ xs, p.length ≤ maxLen) : ∀ (r : List (List Int)) (i : Nat) (k0 : Int) (done : List (List Int)), xs.drop i = r → done.length = i → 0 ≤ k0 → k0 + tl r ≤ top →
    Ev (fun k => w_markIntSS_l2 k k0 (i : Int) (done ++ r)) (k0 + tl r, done ++ marksFrom k0 r) := by
  intro r
  induction r with
  | nil =>
    intro i k0 done h hl h0 h1
    refine Ev.step (fun k => w_markIntSS_l2_eq k k0 i _) ?_
    have : decide ((i : Int) < ((done ++ ([] : List (List Int))).length : Int)) = false := by simp; omega
    refine Ev.no this (Ev.some ?_)
    simp [marksFrom, tl]
  | cons x r ih =>
    intro i k0 done h hl h0 h1
    have a := at_cons h hm
    have L : i < (done ++ x :: r).length := by simp; omega
    have g1 : decide ((i : Int) < ((done ++ x :: r).length : Int)) = true := decide_eq_true (by omega)
    have g2 : decide ((i : Int).toNat < (done ++ x :: r).length) = true := decide_eq_true (by omega)
    have hg : (done ++ x :: r).getD (i : Int).toNat [] = x := by
      rw [Int.toNat_natCast, List.getD, ← hl, List.getElem?_append_right (Nat.le_refl _)]; simp
    have hx : x.length ≤ maxLen := hi x (List.mem_of_mem_drop (h ▸ List.mem_cons_self))
    have htl := tl_pos r
    unfold tl at h1
    refine Ev.step (fun k => w_markIntSS_l2_eq k k0 i _) ?_
    simp only [g1, g2, a.z, a.w, hg, cond_true]
    refine Ev.bind (markIntS_ev x k0 hx h0 (by omega)) ?_
    have e : (done ++ x :: r).set (i : Int).toNat (upFrom k0 x.length) = (done ++ [upFrom k0 x.length]) ++ r := by
      rw [Int.toNat_natCast, ← hl, List.set_append_right _ _ (Nat.le_refl _)]
      simp
    rw [e]
    refine (ih (i + 1) (k0 + x.length) (done ++ [upFrom k0 x.length]) a.next (by simp [hl]) (by omega) (by omega)).to ?_
    simp [marksFrom, tl]
    omega
theorem markIntSS_ev (xs : List (List Int)) (k0 : Int) (hm : xs.length ≤ maxLen) (hi : ∀ p ∈ xs, p.length ≤ maxLen) (h0 : 0 ≤ k0) (h1 : k0 + tl xs ≤ top) :
    Ev (fun k => w_markIntSS k (xs, k0)) (k0 + tl xs, marksFrom k0 xs) :=
  Ev.step (fun k => w_markIntSS_eq k xs k0) (markIntSS_l2_ev xs hm hi xs 0 k0 [] rfl rfl h0 h1)
theorem heldIntSS_l2_ev (ys : List (List Int)) (hm : ys.length ≤ maxLen) : ∀ (r : List (List Int)) (i : Nat) (k0 : Int), ys.drop i = marksFrom k0 r → (∀ p ∈ r, p.length ≤ maxLen) → 0 ≤ k0 → k0 + tl r ≤ top →
    Ev (fun k => w_heldIntSS_l2 k ys k0 (i : Int)) (k0 + tl r) := by
  intro r
  induction r with
  | nil =>
    intro i k0 h hi h0 h1
    have a := at_nil h
    refine Ev.step (fun k => w_heldIntSS_l2_eq k ys k0 i) ?_
    simp only [a.g, cond_false]
    exact Ev.some (by simp [tl])
  | cons x r ih =>
    intro i k0 h hi h0 h1
    have a := at_cons h hm
    have htl := tl_pos r
    unfold tl at h1
    refine Ev.step (fun k => w_heldIntSS_l2_eq k ys k0 i) ?_
    simp only [a.g, a.z, a.get, a.w, cond_true]
    refine Ev.bind (heldIntS_ev x.length k0 (hi x (by simp)) h0 (by omega)) (Ev.no (by simp; omega) ?_)
    refine (ih (i + 1) (k0 + x.length) a.next (fun p hp => hi p (by simp [hp])) (by omega) (by omega)).to ?_
    simp [tl]; omega
theorem heldIntSS_ev (xs : List (List Int)) (k0 : Int) (hm : xs.length ≤ maxLen) (hi : ∀ p ∈ xs, p.length ≤ maxLen) (h0 : 0 ≤ k0) (h1 : k0 + tl xs ≤ top) :
    Ev (fun k => w_heldIntSS k (marksFrom k0 xs, k0)) (k0 + tl xs) :=
  Ev.step (fun k => w_heldIntSS_eq k _ k0) (heldIntSS_l2_ev _ (by rw [marksFrom_len]; exact hm) xs 0 k0 rfl hi h0 h1)
/-- The lists of a valid list for which f holds. -/
def those (l : Packs) (f : List Int → Bool) : Packs := if knowOk l then l.filter f else []
theorem filter_next {l : Packs} {f : List Int → Bool} {i : Nat} {p : List Int} {r : Packs} (a : AtCons l i p r) : (l.take (i + 1)).filter f = (l.take i).filter f ++ (if f p then [p] else []) := by
  have hlt := a.lt
  have e : l[i] = p := by have := a.get []; rw [Int.toNat_natCast, List.getD, List.getElem?_eq_getElem hlt] at this; exact this
  rw [List.take_succ_eq_append_getElem hlt, List.filter_append, e]
  cases h : f p <;> simp [h]
/-- What fits a list of lists, weighed. -/
theorem those_fit {l : Packs} {f : List Int → Bool} : (those l f).length ≤ 3000 ∧ ∀ p ∈ those l f, p.length ≤ 12 := by
  unfold those
  split
  · rename_i h
    cases l with
    | nil => simp
    | cons p0 r =>
      obtain ⟨h1, h2, h3, h4⟩ := know_fit h
      refine ⟨Nat.le_trans (List.length_filter_le _ _) h1, fun p hp => ?_⟩
      have := (h4 p ((List.mem_filter.1 hp).1)).2
      omega
  · simp
end Qq
namespace Qq
open Go Go.Vt Pt
set_option linter.unusedVariables false
set_option linter.unusedSimpArgs false
def sidesF (up : List Int) : Nat → List Int → Bool
  | _, [] => true
  | i, x :: r => (isUp x == up.contains (i : Int)) && sidesF up (i + 1) r
def sidesB (up : List Int) (p : List Int) : Bool := sidesF up 0 p
theorem l15Sides_l2_ev (up p : List Int) (hu : up.length ≤ maxLen) (hm : p.length ≤ maxLen) : ∀ (r : List Int) (i : Nat), p.drop i = r → Ev (fun k => s_l15Sides_l2 k up p (p.length : Int) (i : Int)) (sidesF up i r)
  | [], i, h => by
    have a := at_nil h
    refine Ev.step (fun k => s_l15Sides_l2_eq k _ _ _ _) ?_
    simp only [a.g, cond_false]
    exact Ev.pure _
  | x :: r, i, h => by
    have a := at_cons h hm
    refine Ev.step (fun k => s_l15Sides_l2_eq k _ _ _ _) ?_
    simp only [a.g, a.z, a.get, a.w, cond_true]
    unfold sidesF
    refine Ev.bind (s_IsUp_ev x) (Ev.bind (l02Has_ev up (i : Int) hu) (Ev.ite (fun h => Ev.some ?_) (fun h => (l15Sides_l2_ev up p hu hm r (i + 1) a.next).to ?_)))
    · have : (isUp x == up.contains (i : Int)) = false := by simpa using h
      rw [this]; rfl
    · have : (isUp x == up.contains (i : Int)) = true := by simpa using h
      rw [this]; rfl
theorem i_SeeSides_1_l2_ev (up p : List Int) (hu : up.length ≤ maxLen) (hm : p.length ≤ maxLen) (hi : Ins p) : ∀ (r : List Int) (i : Nat), p.drop i = r → Ev (fun k => i_SeeSides_1_l2 k up p (p.length : Int) (i : Int)) (sidesF up i r)
  | [], i, h => by
    have a := at_nil h
    refine Ev.step (fun k => i_SeeSides_1_l2_eq k _ _ _ _) ?_
    simp only [a.g, cond_false]
    exact Ev.pure _
  | x :: r, i, h => by
    have a := at_cons h hm
    have hx : In x := hi x (List.mem_of_mem_drop (h ▸ List.mem_cons_self))
    refine Ev.step (fun k => i_SeeSides_1_l2_eq k _ _ _ _) ?_
    simp only [a.g, a.z, a.get, a.w, cond_true]
    unfold sidesF
    refine Ev.bind (i_IsUp_ev x hx) (Ev.bind (Contains_int_ev up (i : Int) hu) (Ev.ite (fun h => Ev.some ?_) (fun h => (i_SeeSides_1_l2_ev up p hu hm hi r (i + 1) a.next).to ?_)))
    · have : (isUp x == up.contains (i : Int)) = false := by simpa using h
      rw [this]; rfl
    · have : (isUp x == up.contains (i : Int)) = true := by simpa using h
      rw [this]; rfl
theorem s_SeeSides_l5_ev (l : Packs) (up : List Int) (hu : up.length ≤ maxLen) (hl : l.length ≤ 3000) (h12 : ∀ p ∈ l, p.length ≤ 12) : ∀ (r : Packs) (i : Nat), l.drop i = r → Ev (fun k => s_SeeSides_l5 k up l (l.length : Int) (i : Int) ((l.take i).filter (sidesB up))) (l.filter (sidesB up))
  | [], i, h => by
    have a := at_nil h
    refine Ev.step (fun k => s_SeeSides_l5_eq k _ _ _ _ _) ?_
    simp only [a.g, cond_false]
    exact Ev.some (by rw [List.take_of_length_le a.ge])
  | p :: r, i, h => by
    have a := at_cons h (by rw [maxLen_eq]; omega)
    have hp : p.length ≤ 12 := h12 p (List.mem_of_mem_drop (h ▸ List.mem_cons_self))
    have hf : ((l.take i).filter (sidesB up)).length ≤ 3000 := Nat.le_trans (List.length_filter_le _ _) (by rw [List.length_take]; omega)
    have ih := s_SeeSides_l5_ev l up hu hl h12 r (i + 1) a.next
    rw [filter_next a] at ih
    refine Ev.step (fun k => s_SeeSides_l5_eq k _ _ _ _ _) ?_
    simp only [a.g, a.z, a.get, a.w, cond_true]
    refine Ev.bind (Ev.step (fun k => s_l15Sides_eq k p up) (l15Sides_l2_ev up p hu (by rw [maxLen_eq]; omega) p 0 rfl)) (Ev.ite (fun h => ?_) (fun h => ?_))
    · rw [show sidesB up p = true from h, if_pos rfl] at ih
      refine Ev.yes (by rw [rowMax_eq]; simp; omega) (Ev.yes (by rw [rowMax_eq]; simp; omega) ?_)
      rw [List.nil_append]
      exact ih
    · rw [show sidesB up p = false from h, if_neg (by simp), List.append_nil] at ih
      exact ih
theorem s_SeeSides_ev (l : Packs) (up : List Int) (hu : up.length ≤ maxLen) (hf : FitS l) : Ev (fun k => s_SeeSides k (l, up)) (those l (sidesB up)) := by
  refine Ev.step (fun k => s_SeeSides_eq k l up) (Ev.bind (s_KnowOk_ev l hf) (Ev.ite (fun h => Ev.some ?_) (fun h => ?_)))
  · have : knowOk l = false := by simpa using h
    simp [those, this]
  · have e : knowOk l = true := by simpa using h
    unfold those
    rw [if_pos e]
    cases l with
    | nil => exact s_SeeSides_l5_ev [] up hu (by simp) (by simp) [] 0 rfl
    | cons p0 r0 =>
      obtain ⟨h1, h2, h3, h4⟩ := know_fit e
      exact s_SeeSides_l5_ev (p0 :: r0) up hu h1 (fun p hp => by have := (h4 p hp).2; omega) _ 0 rfl
theorem i_SeeSides_1_ev (p up : List Int) (hu : up.length ≤ maxLen) (hm : p.length ≤ maxLen) (hi : Ins p) : Ev (fun k => i_SeeSides_1 k (p, up)) (sidesB up p) :=
  Ev.step (fun k => i_SeeSides_1_eq k p up) (i_SeeSides_1_l2_ev up p hu hm hi p 0 rfl)
theorem i_those_l5_ev (l : Packs) (up : List Int) (hu : up.length ≤ maxLen) (hf : FitS l) (hl : l.length ≤ 3000) (h12 : ∀ p ∈ l, p.length ≤ 12) : ∀ (r : Packs) (i : Nat), l.drop i = r → Ev (fun k => i_those_of_i_SeeSides_1_l5 k up l (l.length : Int) (i : Int) ((l.take i).filter (sidesB up))) (l.filter (sidesB up))
  | [], i, h => by
    have a := at_nil h
    refine Ev.step (fun k => i_those_of_i_SeeSides_1_l5_eq k _ _ _ _ _) ?_
    simp only [a.g, cond_false]
    exact Ev.some (by rw [List.take_of_length_le a.ge])
  | p :: r, i, h => by
    have a := at_cons h (by rw [maxLen_eq]; omega)
    have hmem : p ∈ l := List.mem_of_mem_drop (h ▸ List.mem_cons_self)
    have hp : p.length ≤ 12 := h12 p hmem
    have hfl : ((l.take i).filter (sidesB up)).length ≤ 3000 := Nat.le_trans (List.length_filter_le _ _) (by rw [List.length_take]; omega)
    have ih := i_those_l5_ev l up hu hf hl h12 r (i + 1) a.next
    rw [filter_next a] at ih
    refine Ev.step (fun k => i_those_of_i_SeeSides_1_l5_eq k _ _ _ _ _) ?_
    simp only [a.g, a.z, a.get, a.w, cond_true]
    refine Ev.bind (i_SeeSides_1_ev p up hu (hf.2 p hmem).1 (hf.2 p hmem).2) (Ev.ite (fun h => ?_) (fun h => ?_))
    · rw [h, if_pos rfl] at ih
      exact Ev.bind (Clone_int_ev p (by omega)) (Ev.yes (by rw [rowMax_eq]; simp; omega) ih)
    · rw [h, if_neg (by simp), List.append_nil] at ih
      exact ih
theorem i_SeeSides_ev (l : Packs) (up : List Int) (hu : up.length ≤ maxLen) (hf : FitS l) : Ev (fun k => i_SeeSides k (l, up)) (those l (sidesB up)) := by
  refine Ev.step (fun k => i_SeeSides_eq k l up) (Ev.bind (Ev.step (fun k => i_those_of_i_SeeSides_1_eq k l up) (Ev.bind (i_KnowOk_ev l hf) (Ev.ite (fun h => Ev.some ?_) (fun h => ?_)))) (Ev.pure _))
  · have : knowOk l = false := by simpa using h
    simp [those, this]
  · have e : knowOk l = true := by simpa using h
    unfold those
    rw [if_pos e]
    cases l with
    | nil => exact i_those_l5_ev [] up hu hf (by simp) (by simp) [] 0 rfl
    | cons p0 r0 =>
      obtain ⟨h1, h2, h3, h4⟩ := know_fit e
      exact i_those_l5_ev (p0 :: r0) up hu hf h1 (fun p hp => by have := (h4 p hp).2; omega) _ 0 rfl
theorem FnExactSeeSides_ev (l : Packs) (up : List Int) (f0 : Fits (.slice (.slice (.int .i64))) l) (f1 : Fits (.slice (.int .i64)) up) : Ev (fun k => w_FnExactSeeSides k (l, up)) true := by
  have hf : FitS l := FitS.of f0
  have hu : up.length ≤ maxLen := f1.1
  have hll := hf.1
  have hlp : ∀ p ∈ l, p.length ≤ maxLen := fun p hp => (hf.2 p hp).1
  refine Ev.step (fun k => w_FnExactSeeSides_eq k l up) (Ev.ite (fun h => Ev.pure _) (fun h0 => Ev.bind (szIntSS_ev l 1048576 hll hlp (by omega) (by omega)) (Ev.ite (fun h => Ev.pure _) (fun h => ?_))))
  have hu1 : up.length ≤ 1048576 := by simp at h0; omega
  obtain ⟨c1, c2, _, _⟩ := szSS_fit (l := l) (n := 1048576) (by omega) (by omega) (by simpa using h)
  obtain ⟨t1, t2⟩ := those_fit (l := l) (f := sidesB up)
  have t1' : (those l (sidesB up)).length ≤ maxLen := by rw [maxLen_eq]; omega
  have t2' : ∀ p ∈ those l (sidesB up), p.length ≤ maxLen := fun p hp => by have := t2 p hp; rw [maxLen_eq]; omega
  have te := top_eq
  have hs := s_SeeSides_ev l up hu hf
  have hi := i_SeeSides_ev l up hu hf
  revert t1 t2 t1' t2' hs hi
  generalize those l (sidesB up) = y
  intro t1 t2 t1' t2' hs hi
  have tly := tl_le y t2
  have tll := tl_le l c2
  have hy3 : y.length * 12 ≤ 3000 * 12 := Nat.mul_le_mul t1 (Nat.le_refl _)
  have hl3 : l.length * 1048576 ≤ 1048576 * 1048576 := Nat.mul_le_mul c1 (Nat.le_refl _)
  have py := tl_pos y
  have pl := tl_pos l
  have ec := toIntSS_ev l c1 c2
  have eu := toIntS_ev up hu1
  have eq := eqIntSS_ev y y t1' t1' t2' t2'
  have hd := heldIntSS_ev y 1 t1' t2' (by omega) (by omega)
  refine Ev.bind ec (Ev.bind eu (Ev.bind hs (Ev.bind ec (Ev.bind eu (Ev.bind hi (Ev.bind eq (Ev.no (by simp) ?_)))))))
  refine Ev.bind ec (Ev.bind (eqIntSS_ev l l hll hll hlp hlp) (Ev.no (by simp) ?_))
  refine Ev.bind eu (Ev.bind (eqIntS_ev up up hu hu) (Ev.no (by simp) ?_))
  refine Ev.bind (markIntSS_ev l 1 hll hlp (by omega) (by omega)) (Ev.bind (markIntS_ev up (1 + tl l) hu (by omega) (by omega)) (Ev.no (by simp; omega) (Ev.bind eq (Ev.no (by simp) ?_))))
  refine Ev.bind (markIntSS_ev y 1 t1' t2' (by omega) (by omega)) (Ev.bind hd (Ev.no (by simp; omega) (Ev.no (by simp) ?_)))
  refine Ev.bind ec (Ev.bind eu (Ev.bind hi (Ev.bind eq (Ev.no (by simp) ?_))))
  exact Ev.bind hd (Ev.no (by simp; omega) (Ev.no (by simp) (Ev.pure _)))
end Qq
