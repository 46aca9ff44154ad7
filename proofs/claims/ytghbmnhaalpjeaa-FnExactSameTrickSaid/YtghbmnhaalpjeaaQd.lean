/-
  Tricks: weighed, copied, compared; steps of tricks.
  Conditions: lengths are such as a machine bears.
-/
import Derived.Test.YtghbmnhaalpjeaaQc
namespace Qq
open Go Go.Vt Pt
set_option linter.unusedVariables false
set_option linter.unusedSimpArgs false
abbrev Step : Type := Int × (Int × Int) × Int
abbrev Trick : Type := List Int × List Step × Int × Int × Int
abbrev Scene : Type := List Int × Int

theorem szStepS_ev (xs : List Step) (n : Int) (hx : xs.length ≤ maxLen) (hn : 0 ≤ n) (hn2 : n ≤ 1048576) :
    Ev (fun k => w_szStepS k (xs, n)) (if n - (xs.length : Int) < 0 then -1 else n - xs.length) := by
  rw [maxLen_eq] at hx
  refine Ev.step (fun k => w_szStepS_eq k xs n) ?_
  rw [wrap_id (by omega) (by omega)]
  split
  · rename_i h; exact Ev.yes (by simpa using h) (Ev.pure _)
  · rename_i h; exact Ev.no (by simpa using h) (Ev.pure _)
/-- What is left behind a trick; below 0: it's too great. -/
def szTrick (t : Trick) (n : Int) : Int := if n - (t.1.length : Int) < 0 then -1 else if n - (t.1.length : Int) - (t.2.1.length : Int) < 0 then -1 else n - (t.1.length : Int) - (t.2.1.length : Int)
theorem szTrick_ev (t : Trick) (n : Int) (h1 : t.1.length ≤ maxLen) (h2 : t.2.1.length ≤ maxLen) (hn : 0 ≤ n) (hn2 : n ≤ 1048576) : Ev (fun k => w_szTrick k (t, n)) (szTrick t n) := by
  refine Ev.step (fun k => w_szTrick_eq k t n) (Ev.bind (szIntS_ev t.1 n h1 hn hn2) ?_)
  unfold szTrick
  split
  · exact Ev.yes rfl (Ev.pure _)
  · rename_i h
    refine Ev.no (by simpa using h) (Ev.bind (szStepS_ev t.2.1 _ h2 (by omega) (by omega)) ?_)
    split
    · exact Ev.yes rfl (Ev.pure _)
    · rename_i h'; exact Ev.no (by simpa using h') (Ev.pure _)
theorem szTrick_fit {t : Trick} {n : Int} (hn : n ≤ 1048576) (h : ¬ szTrick t n < 0) : t.1.length ≤ 1048576 ∧ t.2.1.length ≤ 1048576 ∧ 0 ≤ szTrick t n ∧ szTrick t n ≤ n := by
  unfold szTrick at *
  split at h <;> rename_i h1
  · exact absurd (by decide) h
  · split at h <;> rename_i h2
    · exact absurd (by decide) h
    · rw [if_neg h1, if_neg h2]; omega

theorem toStepS_l3_ev (xs : List Step) (hm : xs.length ≤ maxLen) : ∀ (r : List Step) (i : Nat) (ys : List Step), xs.drop i = r → ys.length = xs.length → ys.take i = xs.take i → Ev (fun k => w_toStepS_l3 k xs (i : Int) ys) xs
  | [], i, ys, h, hl, ht => by
    have a := at_nil h
    refine Ev.step (fun k => w_toStepS_l3_eq k xs i ys) ?_
    simp only [a.g, cond_false]
    have e : ys = xs := by
      have := a.ge
      rwa [List.take_of_length_le (by omega), List.take_of_length_le (by omega)] at ht
    exact Ev.some e
  | x :: r, i, ys, h, hl, ht => by
    have a := at_cons h hm
    have b1 : decide ((i : Int) < (ys.length : Int)) = true := by rw [hl]; exact a.g
    have b2 : decide ((i : Int).toNat < ys.length) = true := by rw [hl]; exact a.n
    refine Ev.step (fun k => w_toStepS_l3_eq k xs i ys) ?_
    simp only [a.g, a.z, cond_true]
    refine Ev.bind (toStep_ev _) ?_
    simp only [b1, b2, a.w, a.get, cond_true]
    have hs := set_get (n := 0) (d := (0, ((0, 0), 0))) a.lt hl ht
    have g := a.get (0, ((0, 0), 0))
    rw [Int.toNat_natCast] at g
    rw [g] at hs
    exact toStepS_l3_ev xs hm r (i + 1) _ a.next (by simp [hl]) (by simpa using hs)
theorem toStepS_ev (xs : List Step) (hm : xs.length ≤ 1048576) : Ev (fun k => w_toStepS k xs) xs := by
  refine Ev.step (fun k => w_toStepS_eq k xs) (Ev.yes (by simp) (Ev.yes (by rw [rowMax_eq]; simp; omega) (Ev.yes (by simp) ?_)))
  exact toStepS_l3_ev xs (by rw [maxLen_eq]; omega) xs 0 _ rfl (by simp) (by simp)
theorem toTrick_ev (t : Trick) (h1 : t.1.length ≤ 1048576) (h2 : t.2.1.length ≤ 1048576) : Ev (fun k => w_toTrick k t) t :=
  Ev.step (fun k => w_toTrick_eq k t) (Ev.bind (toIntS_ev _ h1) (Ev.bind (toStepS_ev _ h2) (Ev.pure _)))

theorem eqStep_ev (s t : Step) : Ev (fun k => w_eqStep k (s, t)) (s == t) := by
  obtain ⟨a, ⟨b, c⟩, d⟩ := s
  obtain ⟨a', ⟨b', c'⟩, d'⟩ := t
  refine Ev.step (fun k => w_eqStep_eq k _ _) ?_
  have hm : Ev (fun k => w_eqMove k ((b, c), (b', c'))) ((b, c) == (b', c')) := by
    refine Ev.step (fun k => w_eqMove_eq k _ _) ?_
    repeat (first | (refine Ev.ite (fun h => ?_) (fun h => ?_)) | focus (refine Ev.some ?_; simp_all; done))
  refine Ev.ite (fun h => Ev.some ?_) (fun h => Ev.bind hm ?_)
  · have : ¬ a = a' := by simpa using h
    simp [this]
  · repeat (first | (refine Ev.ite (fun h => ?_) (fun h => ?_)) | focus (refine Ev.some ?_; simp_all; done))
theorem eqStepS_l4_ev (xs ys : List Step) (hx : xs.length ≤ maxLen) (hy : ys.length ≤ maxLen) : ∀ (r s : List Step) (i : Nat), xs.drop i = r → ys.drop i = s → s.length = r.length → Ev (fun k => w_eqStepS_l4 k xs ys (i : Int)) (r == s)
  | [], [], i, h1, h2, hl => by
    have a := at_nil h1
    refine Ev.step (fun k => w_eqStepS_l4_eq k xs ys i) ?_
    simp only [a.g, cond_false]
    exact Ev.pure _
  | x :: r, y :: s, i, h1, h2, hl => by
    have a := at_cons h1 hx
    have b := at_cons h2 hy
    refine Ev.step (fun k => w_eqStepS_l4_eq k xs ys i) ?_
    simp only [a.g, a.z, b.g, a.get, b.get, a.w, cond_true]
    have ih := eqStepS_l4_ev xs ys hx hy r s (i + 1) a.next b.next (by simpa using hl)
    refine Ev.bind (eqStep_ev x y) (Ev.ite (fun h => Ev.some ?_) (fun h => ih.to ?_))
    · have : ¬ x = y := by simpa using h
      simp [this]
    · have : x = y := by simpa using h
      simp [this]
  | [], _ :: _, _, _, _, hl => by simp at hl
  | _ :: _, [], _, _, _, hl => by simp at hl
theorem eqStepS_ev (xs ys : List Step) (hx : xs.length ≤ maxLen) (hy : ys.length ≤ maxLen) : Ev (fun k => w_eqStepS k (xs, ys)) (xs == ys) := by
  refine Ev.step (fun k => w_eqStepS_eq k xs ys) (Ev.ite (fun h => Ev.some ?_) (fun h => eqStepS_l4_ev xs ys hx hy xs ys 0 rfl rfl ?_))
  · have h' : ¬ xs.length = ys.length := by simp at h; omega
    have : ¬ xs = ys := fun e => h' (by rw [e])
    simp [this]
  · simp at h; omega
theorem eqTrick_ev (t u : Trick) (h1 : t.1.length ≤ maxLen) (h2 : t.2.1.length ≤ maxLen) (h3 : u.1.length ≤ maxLen) (h4 : u.2.1.length ≤ maxLen) : Ev (fun k => w_eqTrick k (t, u)) (t == u) := by
  obtain ⟨a, b, c, d, e⟩ := t
  obtain ⟨a', b', c', d', e'⟩ := u
  refine Ev.step (fun k => w_eqTrick_eq k _ _) (Ev.bind (eqIntS_ev _ _ h1 h3) ?_)
  refine Ev.ite (fun h => Ev.some ?_) (fun h => Ev.bind (eqStepS_ev _ _ h2 h4) ?_)
  · have : ¬ a = a' := by simpa using h
    simp [this]
  · have ea : a = a' := by simpa using h
    subst ea
    refine Ev.ite (fun h => Ev.some ?_) (fun h => ?_)
    · have : ¬ b = b' := by simpa using h
      simp [this]
    · have eb : b = b' := by simpa using h
      subst eb
      repeat (first | (refine Ev.ite (fun h => ?_) (fun h => ?_)) | focus (refine Ev.some ?_; simp_all; done))
end Qq
