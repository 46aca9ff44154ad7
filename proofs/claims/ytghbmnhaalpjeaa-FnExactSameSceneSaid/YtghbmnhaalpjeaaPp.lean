/-
  What the functions that copy, weigh and compare come to.
  Conditions: lengths are such as a machine bears.
-/
import Derived.Test.YtghbmnhaalpjeaaPt
import Derived.Test.YtghbmnhaalpjeaaXvzd
import Derived.Laws.BitsLemmas
namespace Pt
open Go Go.Vt
set_option linter.unusedVariables false
set_option linter.unusedSimpArgs false

theorem wrap_id {x : Int} (h1 : -9223372036854775808 ≤ x) (h2 : x ≤ 9223372036854775807) : IntKind.i64.wrap x = x := by
  rw [IntKind.wrap_i64]; omega
theorem maxLen_eq : maxLen = 9223372036854775807 := by unfold maxLen; decide

theorem w_szIntS_ev (xs : List Int) (n : Int) (hx : xs.length ≤ maxLen) (hn : 0 ≤ n) (hn2 : n ≤ 1048576) :
    Ev (fun k => w_szIntS k (xs, n)) (if n - (xs.length : Int) < 0 then -1 else n - xs.length) := by
  rw [maxLen_eq] at hx
  refine Ev.step (fun k => w_szIntS_eq k xs n) ?_
  rw [wrap_id (by omega) (by omega)]
  split
  · rename_i h; exact Ev.yes (by simpa using h) (Ev.pure _)
  · rename_i h; exact Ev.no (by simpa using h) (Ev.pure _)

theorem eqRest (xs ys : List Int) (hl : ys.length = xs.length) (i : Nat) (hi : i < xs.length) : (xs.drop i == ys.drop i) = ((xs.getD i 0 == ys.getD i 0) && (xs.drop (i + 1) == ys.drop (i + 1))) := by
  have h1 : xs.drop i = xs[i] :: xs.drop (i + 1) := List.drop_eq_getElem_cons hi
  have h2 : ys.drop i = ys[i] :: ys.drop (i + 1) := List.drop_eq_getElem_cons (by omega)
  have g1 : xs.getD i 0 = xs[i] := by simp [List.getD, hi]
  have g2 : ys.getD i 0 = ys[i]'(by omega) := by simp [List.getD, hl, hi]
  rw [h1, h2, g1, g2]
  rfl

theorem w_eqIntS_l4_ev (xs ys : List Int) (hl : ys.length = xs.length) (hm : xs.length ≤ maxLen) : ∀ (n i : Nat), i + n = xs.length → Ev (fun k => w_eqIntS_l4 k xs ys (i : Int)) (xs.drop i == ys.drop i) := by
  rw [maxLen_eq] at hm
  intro n
  induction n with
  | zero =>
    intro i hi
    have e1 : xs.drop i = [] := List.drop_eq_nil_of_le (by omega)
    have e2 : ys.drop i = [] := List.drop_eq_nil_of_le (by omega)
    rw [e1, e2]
    exact Ev.step (fun k => w_eqIntS_l4_eq k xs ys i) (Ev.no (by simp; omega) (Ev.pure _))
  | succ n ih =>
    intro i hi
    refine Ev.step (fun k => w_eqIntS_l4_eq k xs ys i) (Ev.yes (by simp; omega) (Ev.yes (by simp) (Ev.yes (by simp; omega) (Ev.yes (by simp) (Ev.yes (by simp; omega) ?_)))))
    rw [wrap_id (by omega) (by omega), eqRest xs ys hl i (by omega)]
    simp only [Int.toNat_natCast]
    cases he : (xs.getD i 0 == ys.getD i 0) with
    | false => exact Ev.yes rfl (Ev.pure _)
    | true =>
      rw [Bool.true_and]
      refine Ev.no rfl ?_
      have := ih (i + 1) (by omega)
      exact_mod_cast this

theorem w_eqIntS_ev (xs ys : List Int) (hm : xs.length ≤ maxLen) : Ev (fun k => w_eqIntS k (xs, ys)) (xs == ys) := by
  refine Ev.step (fun k => w_eqIntS_eq k xs ys) ?_
  by_cases hl : ys.length = xs.length
  · refine Ev.no (by simp [hl]) ?_
    have := w_eqIntS_l4_ev xs ys hl hm xs.length 0 (by omega)
    simpa using this
  · have e : (xs == ys) = false := by
      rw [Bool.eq_false_iff]
      intro h
      exact hl (by rw [eq_of_beq h])
    rw [e]
    exact Ev.yes (by simp; omega) (Ev.pure _)

theorem s_SamePacket_l4_ev (xs ys : List Int) (hl : ys.length = xs.length) (hm : xs.length ≤ maxLen) : ∀ (n i : Nat), i + n = xs.length → Ev (fun k => s_SamePacket_l4 k ys xs xs.length (i : Int)) (xs.drop i == ys.drop i) := by
  rw [maxLen_eq] at hm
  intro n
  induction n with
  | zero =>
    intro i hi
    have e1 : xs.drop i = [] := List.drop_eq_nil_of_le (by omega)
    have e2 : ys.drop i = [] := List.drop_eq_nil_of_le (by omega)
    rw [e1, e2]
    exact Ev.step (fun k => s_SamePacket_l4_eq k ys xs xs.length i) (Ev.no (by simp; omega) (Ev.pure _))
  | succ n ih =>
    intro i hi
    refine Ev.step (fun k => s_SamePacket_l4_eq k ys xs xs.length i) (Ev.yes (by simp; omega) (Ev.yes (by simp) (Ev.yes (by simp; omega) (Ev.yes (by simp) (Ev.yes (by simp; omega) ?_)))))
    rw [wrap_id (by omega) (by omega), eqRest xs ys hl i (by omega)]
    simp only [Int.toNat_natCast]
    cases he : (xs.getD i 0 == ys.getD i 0) with
    | false => exact Ev.yes rfl (Ev.pure _)
    | true =>
      rw [Bool.true_and]
      refine Ev.no rfl ?_
      have := ih (i + 1) (by omega)
      exact_mod_cast this
theorem s_SamePacket_ev (xs ys : List Int) (hm : xs.length ≤ maxLen) : Ev (fun k => s_SamePacket k (xs, ys)) (xs == ys) := by
  refine Ev.step (fun k => s_SamePacket_eq k xs ys) ?_
  by_cases hl : ys.length = xs.length
  · refine Ev.no (by simp [hl]) ?_
    have := s_SamePacket_l4_ev xs ys hl hm xs.length 0 (by omega)
    simpa using this
  · have e : (xs == ys) = false := by
      rw [Bool.eq_false_iff]
      intro h
      exact hl (by rw [eq_of_beq h])
    rw [e]
    exact Ev.yes (by simp; omega) (Ev.pure _)
theorem slices_Equal_int_l4_ev (xs ys : List Int) (hl : ys.length = xs.length) (hm : xs.length ≤ maxLen) : ∀ (n i : Nat), i + n = xs.length → Ev (fun k => slices_Equal_int_l4 k xs ys xs.length (i : Int)) (xs.drop i == ys.drop i) := by
  rw [maxLen_eq] at hm
  intro n
  induction n with
  | zero =>
    intro i hi
    have e1 : xs.drop i = [] := List.drop_eq_nil_of_le (by omega)
    have e2 : ys.drop i = [] := List.drop_eq_nil_of_le (by omega)
    rw [e1, e2]
    exact Ev.step (fun k => slices_Equal_int_l4_eq k xs ys xs.length i) (Ev.no (by simp; omega) (Ev.pure _))
  | succ n ih =>
    intro i hi
    refine Ev.step (fun k => slices_Equal_int_l4_eq k xs ys xs.length i) (Ev.yes (by simp; omega) (Ev.yes (by simp) (Ev.yes (by simp; omega) (Ev.yes (by simp) (Ev.yes (by simp; omega) ?_)))))
    rw [wrap_id (by omega) (by omega), eqRest xs ys hl i (by omega)]
    simp only [Int.toNat_natCast]
    cases he : (xs.getD i 0 == ys.getD i 0) with
    | false => exact Ev.yes rfl (Ev.pure _)
    | true =>
      rw [Bool.true_and]
      refine Ev.no rfl ?_
      have := ih (i + 1) (by omega)
      exact_mod_cast this
theorem slices_Equal_int_ev (xs ys : List Int) (hm : xs.length ≤ maxLen) : Ev (fun k => slices_Equal_int k (xs, ys)) (xs == ys) := by
  refine Ev.step (fun k => slices_Equal_int_eq k xs ys) ?_
  by_cases hl : ys.length = xs.length
  · refine Ev.no (by simp [hl]) ?_
    have := slices_Equal_int_l4_ev xs ys hl hm xs.length 0 (by omega)
    simpa using this
  · have e : (xs == ys) = false := by
      rw [Bool.eq_false_iff]
      intro h
      exact hl (by rw [eq_of_beq h])
    rw [e]
    exact Ev.yes (by simp; omega) (Ev.pure _)

/-- A row that is filled place by place. -/
theorem set_next (xs ys : List Int) (i : Nat) (hi : i < xs.length) (hl : ys.length = xs.length) (h : ys.take i = xs.take i) : (ys.set i (xs.getD i 0)).take (i + 1) = xs.take (i + 1) := by
  apply List.ext_getElem?
  intro j
  have g1 : xs.getD i 0 = xs[i] := by simp [List.getD, hi]
  rw [g1, List.getElem?_take, List.getElem?_take]
  by_cases hj : j < i + 1
  · simp only [hj, if_true]
    rw [List.getElem?_set]
    by_cases e : i = j
    · subst e; simp [hl, hi]
    · simp only [e, if_false]
      have h2 := congrArg (fun l => l[j]?) h
      simp only [List.getElem?_take] at h2
      have hlt : j < i := by omega
      simpa [hlt] using h2
  · simp [hj]
theorem w_toIntS_l3_ev (xs : List Int) (hm : xs.length ≤ maxLen) : ∀ (n i : Nat) (ys : List Int), i + n = xs.length → ys.length = xs.length → ys.take i = xs.take i → Ev (fun k => w_toIntS_l3 k xs (i : Int) ys) xs := by
  rw [maxLen_eq] at hm
  intro n
  induction n with
  | zero =>
    intro i ys hi hl h
    have e : ys = xs := by rwa [List.take_of_length_le (by omega), List.take_of_length_le (by omega)] at h
    subst e
    exact Ev.step (fun k => w_toIntS_l3_eq k ys i ys) (Ev.no (by simp; omega) (Ev.pure _))
  | succ n ih =>
    intro i ys hi hl h
    refine Ev.step (fun k => w_toIntS_l3_eq k xs i ys) (Ev.yes (by simp; omega) (Ev.yes (by simp) (Ev.yes (by simp; omega) (Ev.yes (by simp) (Ev.yes (by simp; omega) (Ev.yes (by simp; omega) ?_))))))
    rw [wrap_id (by omega) (by omega)]
    simp only [Int.toNat_natCast]
    have := ih (i + 1) (ys.set i (xs.getD i 0)) (by omega) (by simp [hl]) (set_next xs ys i (by omega) hl h)
    exact_mod_cast this
theorem w_toIntS_ev (xs : List Int) (hm : xs.length ≤ 1048576) : Ev (fun k => w_toIntS k xs) xs := by
  refine Ev.step (fun k => w_toIntS_eq k xs) (Ev.yes (by simp) (Ev.yes (by have : rowMax = 4294967296 := rfl; rw [this]; simp; omega) (Ev.yes (by simp) ?_)))
  have := w_toIntS_l3_ev xs (by rw [maxLen_eq]; omega) xs.length 0 (List.replicate xs.length 0) (by omega) (by simp) (by simp)
  simpa using this

theorem w_szScene_ev (x : (List Int) × Int) (n : Int) (hx : x.1.length ≤ maxLen) (hn : 0 ≤ n) (hn2 : n ≤ 1048576) : Ev (fun k => w_szScene k (x, n)) (if n - (x.1.length : Int) < 0 then -1 else n - x.1.length) := by
  refine Ev.step (fun k => w_szScene_eq k x n) (Ev.bind (w_szIntS_ev x.1 n hx hn hn2) ?_)
  split
  · exact Ev.yes rfl (Ev.pure _)
  · rename_i h; exact Ev.no (by simpa using h) (Ev.pure _)
theorem w_toScene_ev (x : (List Int) × Int) (hx : x.1.length ≤ 1048576) : Ev (fun k => w_toScene k x) x :=
  Ev.step (fun k => w_toScene_eq k x) (Ev.bind (w_toIntS_ev x.1 hx) (Ev.pure _))
theorem w_eqScene_ev (x : (List Int) × Int) (hx : x.1.length ≤ maxLen) : Ev (fun k => w_eqScene k (x, x)) true := by
  refine Ev.step (fun k => w_eqScene_eq k x x) (Ev.bind (w_eqIntS_ev x.1 x.1 hx) (Ev.no (by simp) (Ev.no (by simp) (Ev.pure _))))

theorem w_FnExactSameScene_ev (x y : (List Int) × Int) (hx : x.1.length ≤ maxLen) (hy : y.1.length ≤ maxLen) : Ev (fun k => w_FnExactSameScene k (x, y)) true := by
  refine Ev.step (fun k => w_FnExactSameScene_eq k x y) (Ev.bind (w_szScene_ev x 1048576 hx (by omega) (by omega)) ?_)
  split
  · exact Ev.yes rfl (Ev.pure _)
  · rename_i h1
    refine Ev.no (by simpa using h1) (Ev.bind (w_szScene_ev y _ hy (by omega) (by omega)) ?_)
    split
    · exact Ev.yes rfl (Ev.pure _)
    · rename_i h2
      have hx2 : x.1.length ≤ 1048576 := by omega
      have hy2 : y.1.length ≤ 1048576 := by omega
      refine Ev.no (by simpa using h2) (Ev.bind (w_toScene_ev x hx2) (Ev.bind (w_toScene_ev y hy2) ?_))
      have hs : Ev (fun k => s_SameScene k (x, y)) (bif x.1 == y.1 then x.2 == y.2 else false) :=
        Ev.step (fun k => s_SameScene_eq k x y) (Ev.bind (s_SamePacket_ev x.1 y.1 hx) (by cases (x.1 == y.1) <;> exact Ev.pure _))
      have hi : Ev (fun k => i_SameScene k (x, y)) (bif x.1 == y.1 then x.2 == y.2 else false) :=
        Ev.step (fun k => i_SameScene_eq k x y) (Ev.bind (slices_Equal_int_ev x.1 y.1 hx) (by cases (x.1 == y.1) <;> exact Ev.pure _))
      refine Ev.bind hs (Ev.bind (w_toScene_ev x hx2) (Ev.bind (w_toScene_ev y hy2) (Ev.bind hi (Ev.no (by simp) (Ev.bind (w_toScene_ev x hx2) (Ev.bind (w_eqScene_ev x hx) (Ev.no rfl (Ev.bind (w_toScene_ev y hy2) (Ev.bind (w_eqScene_ev y hy) (Ev.no rfl (Ev.pure _)))))))))))
end Pt
