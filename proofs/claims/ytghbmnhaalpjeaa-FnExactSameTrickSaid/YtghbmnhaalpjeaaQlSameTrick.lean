/-
  The law FnExactSameTrick comes to true.
  Conditions: numbers and lengths are such as a machine bears.
-/
import Derived.Test.YtghbmnhaalpjeaaQd
import Derived.Test.YtghbmnhaalpjeaaQe
namespace Qq
open Go Go.Vt Pt
set_option linter.unusedVariables false
set_option linter.unusedSimpArgs false
theorem Step_ne (x y : Step) : (!((x.1 == y.1) && ((x.2.1.1 == y.2.1.1) && ((x.2.1.2 == y.2.1.2) && ((x.2.2 == y.2.2) && true))))) = !(x == y) := by
  obtain ⟨a, ⟨b, c⟩, d⟩ := x
  obtain ⟨a', ⟨b', c'⟩, d'⟩ := y
  have e : ((a == a') && ((b == b') && ((c == c') && ((d == d') && true)))) = ((a, (b, c), d) == (a', (b', c'), d')) := by
    rw [Bool.eq_iff_iff]; simp [and_assoc]
  exact congrArg not e
theorem Equal_Step_l4_ev (xs ys : List Step) (hx : xs.length ≤ maxLen) (hy : ys.length ≤ maxLen) : ∀ (r s : List Step) (i : Nat), xs.drop i = r → ys.drop i = s → s.length = r.length → Ev (fun k => slices_Equal_i_Step_l4 k xs ys (xs.length : Int) (i : Int)) (r == s)
  | [], [], i, h1, h2, hl => by
    have a := at_nil h1
    refine Ev.step (fun k => slices_Equal_i_Step_l4_eq k xs ys _ i) ?_
    simp only [a.g, cond_false]
    exact Ev.pure _
  | x :: r, y :: s, i, h1, h2, hl => by
    have a := at_cons h1 hx
    have b := at_cons h2 hy
    refine Ev.step (fun k => slices_Equal_i_Step_l4_eq k xs ys _ i) ?_
    simp only [a.g, a.z, b.g, a.get, b.get, a.w, cond_true, Step_ne]
    have ih := Equal_Step_l4_ev xs ys hx hy r s (i + 1) a.next b.next (by simpa using hl)
    refine Ev.ite (fun h => Ev.some ?_) (fun h => ih.to ?_)
    · have : ¬ x = y := by simpa using h
      simp [this]
    · have : x = y := by simpa using h
      simp [this]
  | [], _ :: _, _, _, _, hl => by simp at hl
  | _ :: _, [], _, _, _, hl => by simp at hl
theorem Equal_Step_ev (xs ys : List Step) (hx : xs.length ≤ maxLen) (hy : ys.length ≤ maxLen) : Ev (fun k => slices_Equal_i_Step k (xs, ys)) (xs == ys) := by
  refine Ev.step (fun k => slices_Equal_i_Step_eq k xs ys) (Ev.ite (fun h => Ev.some ?_) (fun h => Equal_Step_l4_ev xs ys hx hy xs ys 0 rfl rfl ?_))
  · have h' : ¬ xs.length = ys.length := by simp at h; omega
    have : ¬ xs = ys := fun e => h' (by rw [e])
    simp [this]
  · simp at h; omega
theorem s_SameTrick_l4_ev (xs ys : List Step) (a0 : List Int) (c d e : Int) (hx : xs.length ≤ maxLen) (hy : ys.length ≤ maxLen) : ∀ (r s : List Step) (i : Nat), xs.drop i = r → ys.drop i = s → s.length = r.length → Ev (fun k => s_SameTrick_l4 k xs (xs.length : Int) (i : Int) a0 ys c d e) (r == s)
  | [], [], i, h1, h2, hl => by
    have a := at_nil h1
    refine Ev.step (fun k => s_SameTrick_l4_eq k xs _ i a0 ys c d e) ?_
    simp only [a.g, cond_false]
    exact Ev.pure _
  | x :: r, y :: s, i, h1, h2, hl => by
    have a := at_cons h1 hx
    have b := at_cons h2 hy
    refine Ev.step (fun k => s_SameTrick_l4_eq k xs _ i a0 ys c d e) ?_
    simp only [a.g, a.z, b.g, a.get, b.get, a.w, cond_true, Step_ne]
    have ih := s_SameTrick_l4_ev xs ys a0 c d e hx hy r s (i + 1) a.next b.next (by simpa using hl)
    refine Ev.ite (fun h => Ev.some ?_) (fun h => ih.to ?_)
    · have : ¬ x = y := by simpa using h
      simp [this]
    · have : x = y := by simpa using h
      simp [this]
  | [], _ :: _, _, _, _, hl => by simp at hl
  | _ :: _, [], _, _, _, hl => by simp at hl
theorem s_SameTrick_ev (t u : Trick) (h1 : t.1.length ≤ maxLen) (h2 : t.2.1.length ≤ maxLen) (h3 : u.1.length ≤ maxLen) (h4 : u.2.1.length ≤ maxLen) : Ev (fun k => s_SameTrick k (t, u)) (t == u) := by
  obtain ⟨a, b, c, d, e⟩ := t
  obtain ⟨a', b', c', d', e'⟩ := u
  refine Ev.step (fun k => s_SameTrick_eq k _ _) (Ev.bind (SamePacket_ev _ _ h1 h3) ?_)
  refine Ev.ite (fun h => Ev.some ?_) (fun h => ?_)
  · have : ¬ a = a' := by simpa using h
    simp [this]
  have ea : a = a' := by simpa using h
  subst ea
  refine Ev.ite (fun h => Ev.some ?_) (fun h => ?_)
  · have h' : ¬ b.length = b'.length := by simp at h; omega
    have : ¬ b = b' := fun e => h' (by rw [e])
    simp [this]
  have hl : b.length = b'.length := by simp at h; omega
  refine Ev.ite (fun h => Ev.some ?_) (fun h => ?_)
  · simp_all
  have ec : c = c' := by simpa using h
  refine Ev.ite (fun h => Ev.some ?_) (fun h => ?_)
  · simp_all
  have ed : d = d' := by simpa using h
  refine Ev.ite (fun h => Ev.some ?_) (fun h => ?_)
  · simp_all
  have ee : e = e' := by simpa using h
  subst ec ed ee
  refine (s_SameTrick_l4_ev b b' a c d e h2 h4 b b' 0 rfl rfl hl.symm).to ?_
  rw [Bool.eq_iff_iff]; simp
theorem i_SameTrick_ev (t u : Trick) (h1 : t.1.length ≤ maxLen) (h2 : t.2.1.length ≤ maxLen) (h3 : u.1.length ≤ maxLen) (h4 : u.2.1.length ≤ maxLen) : Ev (fun k => i_SameTrick k (t, u)) (t == u) := by
  obtain ⟨a, b, c, d, e⟩ := t
  obtain ⟨a', b', c', d', e'⟩ := u
  refine Ev.step (fun k => i_SameTrick_eq k _ _) (Ev.bind (Equal_int_ev _ _ h1 h3) ?_)
  refine Ev.ite (fun h => Ev.bind (Equal_Step_ev _ _ h2 h4) ?_) (fun h => Ev.some ?_)
  · have ea : a = a' := by simpa using h
    refine Ev.ite (fun h => ?_) (fun h => Ev.some ?_)
    · have eb : b = b' := by simpa using h
      subst ea eb
      repeat (first | (refine Ev.ite (fun h => ?_) (fun h => ?_)) | focus (refine Ev.some ?_; simp_all; done) | focus (refine Ev.some ?_; rw [Bool.eq_iff_iff]; simp_all; done))
    · have : ¬ b = b' := by simpa using h
      simp [this]
  · have : ¬ a = a' := by simpa using h
    simp [this]
theorem FnExactSameTrick_ev (t u : Trick) (f0 : Fits (.pair (.slice (.int .i64)) (.pair (.slice (.pair (.int .i64) (.pair (.pair (.int .i64) (.int .i64)) (.int .i64)))) (.pair (.int .i64) (.pair (.int .i64) (.int .i64))))) t) (f1 : Fits (.pair (.slice (.int .i64)) (.pair (.slice (.pair (.int .i64) (.pair (.pair (.int .i64) (.int .i64)) (.int .i64)))) (.pair (.int .i64) (.pair (.int .i64) (.int .i64))))) u) : Ev (fun k => w_FnExactSameTrick k (t, u)) true := by
  have a1 : t.1.length ≤ maxLen := f0.1.1
  have a2 : t.2.1.length ≤ maxLen := f0.2.1.1
  have b1 : u.1.length ≤ maxLen := f1.1.1
  have b2 : u.2.1.length ≤ maxLen := f1.2.1.1
  refine Ev.step (fun k => w_FnExactSameTrick_eq k t u) (Ev.bind (szTrick_ev t 1048576 a1 a2 (by omega) (by omega)) ?_)
  refine Ev.ite (fun h => Ev.pure _) (fun h => ?_)
  obtain ⟨c1, c2, c3, c4⟩ := szTrick_fit (t := t) (n := 1048576) (by omega) (by simpa using h)
  refine Ev.bind (szTrick_ev u _ b1 b2 c3 c4) (Ev.ite (fun h => Ev.pure _) (fun h => ?_))
  obtain ⟨d1, d2, d3, d4⟩ := szTrick_fit (t := u) c4 (by simpa using h)
  refine Ev.bind (toTrick_ev t c1 c2) (Ev.bind (toTrick_ev u d1 d2) (Ev.bind (s_SameTrick_ev t u a1 a2 b1 b2) (Ev.bind (toTrick_ev t c1 c2) (Ev.bind (toTrick_ev u d1 d2) (Ev.bind (i_SameTrick_ev t u a1 a2 b1 b2) (Ev.no (by simp) ?_))))))
  refine Ev.bind (toTrick_ev t c1 c2) (Ev.bind (eqTrick_ev t t a1 a2 a1 a2) (Ev.no (by simp) ?_))
  exact Ev.bind (toTrick_ev u d1 d2) (Ev.bind (eqTrick_ev u u b1 b2 b1 b2) (Ev.no (by simp) (Ev.pure _)))
end Qq
