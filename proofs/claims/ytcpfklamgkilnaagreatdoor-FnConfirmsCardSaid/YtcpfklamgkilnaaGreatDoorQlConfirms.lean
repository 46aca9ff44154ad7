/-
  The law FnConfirms comes to true.
  Conditions: none.
-/
import Derived.Test.YtcpfklamgkilnaaGreatDoorQcz
import Derived.Test.YtcpfklamgkilnaaGreatDoorPK
namespace Qq
open Go Go.Vt Pt
set_option linter.unusedVariables false
set_option linter.unusedSimpArgs false
theorem H0 : ∀ i : Fin 3, (wF compF (uS ((i.val : Int) + 1))).1.size ≤ 100000 := by decide +kernel
theorem JP : ∀ i : Fin 3, (uS ((i.val : Int) + 1)).size ≤ 100000 := by decide +kernel
theorem NZ (a : Int) (h1 : 1 ≤ a) (h3 : a ≤ 3) : Ev (fun k => vu k (uS a)) (wF compF (uS a)) ∧ Ev (fun k => jd k (wF compF (uS a)).1) (j8 (wF compF (uS a)).1) ∧ confOk a (wF compF (uS a)).1 = true := by
 obtain ⟨i, rfl⟩ : ∃ i : Fin 3, a = (i.val : Int) + 1 := ⟨⟨(a - 1).toNat, by omega⟩, by show a = ((a - 1).toNat : Int) + 1; omega⟩
 refine ⟨?_, We _ (Nat.le_trans (H0 i) (by decide)), Fm i⟩
 have := Wf (uS ((i.val : Int) + 1)) (Nat.le_trans (JP i) (by decide))
 rw [LK] at this
 exact this
theorem Pp (code : List Int) (f0 : Fits (.slice (.int .u8)) code) : Ev (fun k => Va k code) true := by
 have hm : code.length ≤ 9223372036854775807 := by have := f0.1; rw [zg] at this; exact this
 refine Ev.step (fun k => UI k code) (Ev.ite (fun h => Ev.pure _) (fun h => ?_))
 obtain ⟨y, e, y0, y1⟩ := JF code hm 1 (by decide)
 have hb := Wm y0 (show (0 : Int) < 3 by decide)
 refine Ev.bind e ?_
 have w1 : IntKind.i64.wrap (1 + y.tmod 3) = 1 + y.tmod 3 := zj (by omega) (by omega)
 have w2 : IntKind.i64.wrap (4 - (1 + y.tmod 3)) = 4 - (1 + y.tmod 3) := zj (by omega) (by omega)
 simp only [w1, w2, zU]
 generalize ha : 1 + y.tmod 3 = a
 have a1 : 1 ≤ a := by omega
 have a3 : a ≤ 3 := by omega
 obtain ⟨r1, r2, ok⟩ := NZ a a1 a3
 have z1 := zX a (by unfold In; omega)
 have z2 := zX (4 - a) (by unfold In; omega)
 refine Ev.bind (zD a (by unfold In; omega)) (Ev.bind (zD (4 - a) (by unfold In; omega)) ?_)
 generalize ho : wF compF (uS a) = out at r1 r2 ok
 have ap : ∀ {x y : ByteArray} {n m : Nat}, x.size ≤ n → y.size ≤ m → (x ++ y).size ≤ n + m := fun hx hy => by rw [ByteArray.size_append]; omega
 have nine : ∀ {x y : ByteArray} {n m : Nat}, x.size ≤ n → y.size ≤ m → n + m ≤ 2000 → x.size + y.size ≤ 9223372036854775807 := fun hx hy h => by omega
 refine Ev.yes (decide_eq_true ?_) (Ev.yes (decide_eq_true ?_) (Ev.yes (decide_eq_true ?_) (Ev.yes (decide_eq_true ?_) (Ev.bind r1 (Ev.bind r2 ?_)))))
 ·exact nine (n := 300) (by decide +kernel) z1 (by decide)
 ·exact nine (ap (n := 300) (by decide +kernel) z1) (m := 300) (by decide +kernel) (by decide)
 ·exact nine (ap (ap (n := 300) (by decide +kernel) z1) (m := 300) (by decide +kernel)) z2 (by decide)
 ·exact nine (ap (ap (ap (n := 300) (by decide +kernel) z1) (m := 300) (by decide +kernel)) z2) (m := 600) (by decide +kernel) (by decide)
 unfold confOk at ok
 dsimp only at ok
 generalize j8 out.1 = l at ok
 simp only [Bool.and_eq_true, decide_eq_true_eq, beq_iff_eq] at ok
 obtain ⟨k0, k1, k2, k3, k4, k5, k6, k7, k8, k9, k10, k11, k12, k13⟩ := ok
 have lt : ∀ n : Int, n < 23 → decide (n < (l.length : Int)) = true := fun n hn => decide_eq_true (by rw [k0]; exact hn)
 refine Ev.yes (by rw [k0]; rfl) (Ev.yes (lt _ (by decide)) (Ev.yes (decide_eq_true k1) (Ev.yes (lt _ (by decide)) (Ev.yes (decide_eq_true k2) (Ev.yes (lt _ (by decide)) (Ev.yes (decide_eq_true k3) ?_))))))
 refine Ev.yes (lt _ (by decide)) (Ev.yes (decide_eq_true ?_) (Ev.yes (decide_eq_true ?_) (Ev.yes (decide_eq_true ?_) (Ev.yes (decide_eq_true k4) ?_))))
 ·exact nine (n := 300) (by decide +kernel) z1 (by decide)
 ·exact nine (ap (n := 300) (by decide +kernel) z1) (m := 300) (by decide +kernel) (by decide)
 ·exact nine (ap (ap (n := 300) (by decide +kernel) z1) (m := 300) (by decide +kernel)) z2 (by decide)
 refine Ev.yes (lt _ (by decide)) (Ev.yes (by rw [decide_eq_false k5]; rfl) ?_)
 refine Ev.yes (lt _ (by decide)) (Ev.yes (decide_eq_true k6) (Ev.yes (lt _ (by decide)) (Ev.yes (decide_eq_true k7) (Ev.yes (lt _ (by decide)) (Ev.yes (decide_eq_true k8) ?_)))))
 refine Ev.yes (lt _ (by decide)) (Ev.yes (decide_eq_true k9) (Ev.yes (lt _ (by decide)) (Ev.yes (decide_eq_true k10) (Ev.yes (lt _ (by decide)) (Ev.yes (decide_eq_true k11) ?_)))))
 exact Ev.yes (lt _ (by decide)) (Ev.yes (decide_eq_true k12) (Ev.yes (lt _ (by decide)) (Ev.some (decide_eq_true k13))))
end Qq
