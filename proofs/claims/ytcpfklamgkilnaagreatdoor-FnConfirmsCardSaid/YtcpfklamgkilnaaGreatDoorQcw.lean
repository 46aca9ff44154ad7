/-
  The console's functions come to what Qco tells in plain terms.
  Conditions: the console is valid, texts are such as a machine bears.
-/
import Derived.Test.YtcpfklamgkilnaaGreatDoorPK
namespace Qq
open Go Go.Vt Pt
set_option linter.unusedVariables false
set_option linter.unusedSimpArgs false
def sw (p : Cn × ByteArray) : ByteArray × Cn := (p.2, p.1)
theorem yK {n : Nat} (h : n ≤ 1048576) : n ≤ maxLen := by rw [zg]; omega
theorem Mj (c : Cn) (t : Trick) (h1 : t.1.length ≤ maxLen) (hi : Ins t.1) (h2 : t.2.1.length ≤ maxLen) : Ev (fun k => ze k (c, t)) (sw (jL c t)) := by
 refine Ev.step (fun k => WT k c t) (Ev.bind (xr t h1 hi h2) ?_)
 unfold jL
 cases zi t with
 | true => exact Ev.no rfl (Ev.some rfl)
 | false => exact Ev.yes rfl (Ev.some rfl)
theorem JU (c : Cn) (s : List Int × Int × Bool) (h : s.2.2 = true → s.1.length ≤ maxLen ∧ Ins s.1) : Ev (fun k => uR k (c, (s.1, s.2.1), s.2.2)) (sw (PE c s)) := by
 obtain ⟨p, n, b⟩ := s
 refine Ev.step (fun k => WU k c (p, n) b) ?_
 unfold PE
 cases b with
 | true =>
   obtain ⟨a1, a2⟩ := h rfl
   exact Ev.no rfl (Ev.bind (Z2 (p, n) a1 a2) (Ev.some rfl))
 | false => exact Ev.yes rfl (Ev.some rfl)
theorem uu {c : Scene} (h : SceneOk c.1.length c) : c.1.length ≤ 12 ∧ Ins c.1 := ⟨(yF h.ok).2.2, zL h.ok⟩
theorem ML (n : Int) : Ev (fun k => WD k n) (b0 n) := by
 refine Ev.step (fun k => QM k n) ?_
 unfold b0
 refine Ev.ite (fun h => Ev.ite (fun h2 => Ev.some ?_) (fun h2 => Ev.some ?_)) (fun h => Ev.some ?_)
 ·have a : 2 ≤ n := by simpa using h
  have b : n ≤ 12 := by simpa using h2
  rw [decide_eq_true a, decide_eq_true b, Int.tmod_eq_emod_of_nonneg (by omega)]; rfl
 ·have b : ¬ n ≤ 12 := by simpa using h2
  rw [decide_eq_false b]; simp
 ·have a : ¬ 2 ≤ n := by simpa using h
  rw [decide_eq_false a]; rfl
theorem GE (n : Nat) (hn : n ≤ 12) (a k : Int) : Ev (fun f => jv f (a, k, (n : Int))) (Ml n a k) := by
 refine Ev.step (fun f => YI f _ _ _) (Ev.bind (Xr n (by omega)) (Ev.bind (Np (upTo n) (by rw [vI]; exact hn) k) (Ev.bind (VW _ _ ?_) (Ev.pure _))))
 unfold MZ
 rw [ND n _ _ _ (by simp [vI]; omega)]
 exact yK (by omega)
def imLe (B : Nat) (m : List (Int × List Int)) : Prop := ∀ x l, wP m x = some l → l.length ≤ B
theorem imLe.mono {B C : Nat} {m : List (Int × List Int)} (h : imLe B m) (hc : B ≤ C) : imLe C m := fun x l e => Nat.le_trans (h x l e) hc
theorem Hr (m : List (Int × List Int)) (n x : Int) (ys : List Int) : wP (bK m n ys) x = if x = n then some ys else wP m x := by
 induction m with
 | nil =>
   show (bif x == n then some ys else none) = if x = n then some ys else none
   by_cases h : x = n
   ·rw [if_pos h, h, BEq.rfl]; rfl
   ·have : (x == n) = false := by simpa using h
    rw [if_neg h, this]; rfl
 | cons p r ih =>
   obtain ⟨a, l⟩ := p
   unfold bK
   by_cases h : n = a
   ·subst h
    rw [BEq.rfl, cond_true]
    show (bif x == n then some ys else wP r x) = if x = n then some ys else (bif x == n then some l else wP r x)
    by_cases h2 : x = n
    ·rw [if_pos h2, h2, BEq.rfl]; rfl
    ·have : (x == n) = false := by simpa using h2
     rw [if_neg h2, this]; rfl
   ·have : (n == a) = false := by simpa using h
    rw [this, cond_false]
    show (bif x == a then some l else wP (bK r n ys) x) = if x = n then some ys else (bif x == a then some l else wP r x)
    by_cases h2 : x = a
    ·rw [if_neg (fun e => h (by rw [← e, h2])), h2, BEq.rfl]; rfl
    ·have : (x == a) = false := by simpa using h2
     rw [this, cond_false, cond_false, ih]
theorem imLe.set {B : Nat} {m : List (Int × List Int)} (h : imLe B m) {n : Int} {ys : List Int} (hy : ys.length ≤ B) : imLe B (bK m n ys) := by
 intro x l e
 rw [Hr] at e
 split at e
 ·cases e; exact hy
 ·exact h x l e
theorem imLe.getD {B : Nat} {m : List (Int × List Int)} (h : imLe B m) (x : Int) : ((wP m x).getD []).length ≤ B := by
 cases e : wP m x with
 | none => exact Nat.zero_le _
 | some l => exact h x l e
theorem FP (n : Nat) (a k : Int) {B : Nat} {s : List Int × List (Int × List Int)} (h : imLe B s.2) : imLe (B + 1) (goF n a k s).2 ∧ (goF n a k s).1.length ≤ s.1.length + 1 := by
 unfold goF
 split
 ·exact ⟨h.mono (by omega), by omega⟩
 ·refine ⟨(h.mono (Nat.le_succ B)).set ?_, ?_⟩
  ·have := h.getD a
   rw [List.length_append]; exact Nat.succ_le_succ this
  ·rw [List.length_append]; exact Nat.le_refl _
theorem E7 (n : Nat) (hn : n ≤ 12) (to a : Int) (k : Nat) (hk : k < 2) {B : Nat} (s : List Int × List (Int × List Int)) (hB : imLe B s.2) (hBB : B ≤ 1000) (hq : s.1.length ≤ 1000) {r : List Int × Bool}
 (h : Ev (fun f => zt f to 2 (n : Int) ((k + 1 : Nat) : Int) (goF n a (k : Int) s).2 (a :: (goF n a (k : Int) s).1)) r) :
 Ev (fun f => zt f to 2 (n : Int) (k : Int) s.2 (a :: s.1)) r := by
 have hw : IntKind.i64.wrap ((k : Int) + 1) = ((k + 1 : Nat) : Int) := by rw [zj (by omega) (by omega)]; omega
 refine Ev.step (fun f => yZ f _ _ _ _ _ _) (Ev.yes (decide_eq_true (by omega)) (Ev.yes (decide_eq_true (by rw [List.length_cons]; omega)) (Ev.yes (decide_eq_true (by rw [List.length_cons]; omega)) (Ev.bind (GE n hn a k) ?_))))
 rw [hw]
 unfold goF at h
 cases e : wP s.2 (Ml n a (k : Int)) with
 | some l =>
   rw [e] at h
   exact Ev.no rfl h
 | none =>
   rw [e] at h
   have hg := hB.getD a
   refine Ev.yes rfl (Ev.yes (decide_eq_true (by rw [List.length_cons]; omega)) (Ev.yes (decide_eq_true (by rw [List.length_cons]; omega)) (Ev.bind (yc ((wP s.2 a).getD []) (by omega)) (Ev.yes (decide_eq_true ?_) (Ev.yes (decide_eq_true ?_) h)))))
   ·rw [zc]
    show ((wP s.2 a).getD []).length + 1 ≤ _
    omega
   ·rw [zc, List.length_cons]
    show s.1.length + 1 + 1 ≤ _
    omega
theorem FS (n : Nat) (hn : n ≤ 12) (to : Int) : ∀ (f : Nat) (q : List Int) (m : List (Int × List Int)) (r : List Int × Bool) (B : Nat), imLe B m → B + 2 * f ≤ 500 → q.length + 2 * f ≤ 500 → bfsO n to f q m = some r →
 Ev (fun k => zC k to 2 (n : Int) m q) r
 | 0, _, _, _, _, _, _, _, h => by cases h
 | f + 1, [], m, r, B, hm, hB, hq, h => by
   cases h
   exact Ev.step (fun k => xa k _ _ _ _ _) (Ev.no rfl (Ev.pure _))
 | f + 1, a :: q, m, r, B, hm, hB, hq, h => by
   rw [List.length_cons] at hq
   unfold bfsO at h
   refine Ev.step (fun k => xa k _ _ _ _ _) (Ev.yes (decide_eq_true (by rw [List.length_cons]; omega)) (Ev.yes (decide_eq_true (by rw [List.length_cons]; omega)) (Ev.yes (decide_eq_true (by rw [List.length_cons]; omega)) ?_)))
   split at h
   ·rename_i e
    cases h
    refine Ev.yes (by simp [e]) (Ev.bind (yc _ ?_) (Ev.pure _))
    have := hm.getD to
    omega
   ·rename_i e
    refine Ev.no (by simp [e]) ?_
    obtain ⟨g1, g2⟩ := FP n a 0 (s := (q, m)) hm
    obtain ⟨g3, g4⟩ := FP n a 1 (s := goF n a 0 (q, m)) g1
    dsimp only at g2
    refine E7 n hn to a 0 (by omega) (q, m) hm (by omega) (by dsimp only; omega) (E7 n hn to a 1 (by omega) (goF n a 0 (q, m)) g1 (by omega) (by omega) ?_)
    refine Ev.step (fun k => yZ k _ _ _ _ _ _) (Ev.no rfl (Ev.yes (decide_eq_true (by rw [List.length_cons]; omega)) (Ev.yes (decide_eq_true (Int.le_refl _)) ?_)))
    rw [Int.toNat_natCast, List.take_length]
    show Ev (fun k => zC k to 2 (n : Int) (goF n a 1 (goF n a 0 (q, m))).2 (goF n a 1 (goF n a 0 (q, m))).1) r
    exact FS n hn to f _ _ r (B + 2) g3 (by omega) (by omega) h
theorem SH (n : Nat) (a b : Int) : Ev (fun k => fD k ((n : Int), a, b)) (vN reF (n : Int) a b) := by
 refine Ev.step (fun k => WG k _ _ _) (Ev.bind (ML _) ?_)
 unfold vN
 by_cases hp : b0 (n : Int) = true
 ·rw [hp]
  refine Ev.no rfl ?_
  have hn : n ≤ 12 := by
   unfold b0 at hp
   simp only [Bool.and_eq_true, decide_eq_true_eq] at hp
   omega
  by_cases h : (0 ≤ a ∧ a < n) ∧ 0 ≤ b ∧ b < n
  ·rw [if_pos ⟨rfl, h⟩]
   obtain ⟨⟨h1, h2⟩, h3, h4⟩ := h
   refine Ev.no (decide_eq_false (by omega)) (Ev.no (decide_eq_false (by omega)) (Ev.no (decide_eq_false (by omega)) (Ev.no (decide_eq_false (by omega)) ?_)))
   obtain ⟨r, e, hr⟩ := Kl hp (a := a.toNat) (b := b.toNat) (by omega) (by omega)
   rw [Int.toNat_of_nonneg h1, Int.toNat_of_nonneg h3] at e
   have e2 : reF.bfs ((n : Int)).toNat b 14 [a] [(a, [])] = some r := e
   rw [e2]
   refine Ev.bind (Ev.step (fun k => vY k _ _ _ _) ?_) (Ev.pure _)
   exact FS n hn b 14 [a] [(a, [])] r 0 (fun x l hl => by
    unfold wP at hl
    cases hx : (x == a) with
    | true => rw [hx, cond_true] at hl; cases hl; exact Nat.le_refl _
    | false => rw [hx, cond_false] at hl; cases hl) (by omega) (by simp) e
  ·rw [if_neg (fun x => h x.2)]
   refine Ev.ite (fun _ => Ev.pure _) (fun c1 => Ev.ite (fun _ => Ev.pure _) (fun c2 => Ev.ite (fun _ => Ev.pure _) (fun c3 => Ev.yes (decide_eq_true ?_) (Ev.pure _))))
   simp at c1 c2 c3
   omega
 ·rw [if_neg (fun x => hp x.1)]
  have : b0 (n : Int) = false := by simpa using hp
  rw [this]
  exact Ev.yes rfl (Ev.pure _)
def shB (k : Int) : UInt8 := if k = 0 then 79 else 73
theorem Rx (l : List Int) (hl : l.length ≤ 1048576) : ∀ (r : List Int) (i : Nat), l.drop i = r → Ev (fun k => x9 k (strB ((l.take i).map shB)) l (l.length : Int) (i : Int)) (Mp l)
 | [], i, h => by
   have a := zZ h
   refine Ev.step (fun k => gu k _ _ _ _) (Ev.no a.g ?_)
   rw [List.take_of_length_le a.ge, zU]
   unfold Mp
   by_cases e : l = []
   ·subst e; exact Ev.yes (by decide) (Ev.some rfl)
   ·rw [if_neg e]
    refine Ev.no (decide_eq_false fun e2 => e ?_) (Ev.some rfl)
    have := congrArg ByteArray.size e2
    rw [zK, List.length_map] at this
    exact List.length_eq_zero_iff.1 this
 | x :: r, i, h => by
   have a := zy h (yK hl)
   have ih := Rx l hl r (i + 1) a.next
   have hs : (strB ((l.take i).map shB)).size ≤ 1048576 := by
    rw [zK, List.length_map, List.length_take]; omega
   have e1 : ∀ b : UInt8, shB x = b → strB ((l.take i).map shB) ++ (⟨#[b]⟩ : ByteArray) = strB ((l.take (i + 1)).map shB) := by
    intro b hb
    rw [UM h, List.map_append, List.map_cons, List.map_nil, hb]
    apply ByteArray.ext
    simp [strB]
   refine Ev.step (fun k => gu k _ _ _ _) ?_
   simp only [a.g, a.z, a.get, a.w, cond_true]
   by_cases hx : x = 0
   ·refine Ev.yes (by simp [hx]) (Ev.yes (decide_eq_true ?_) ?_)
    ·have : (⟨#[79]⟩ : ByteArray).size = 1 := rfl
     omega
    ·rw [e1 79 (by unfold shB; rw [if_pos hx])]; exact ih
   ·refine Ev.no (by simp [hx]) (Ev.yes (decide_eq_true ?_) ?_)
    ·have : (⟨#[73]⟩ : ByteArray).size = 1 := rfl
     omega
    ·rw [e1 73 (by unfold shB; rw [if_neg hx])]; exact ih
theorem Rp (l : List Int) (hl : l.length ≤ 1048576) : Ev (fun k => cH k l) (Mp l) :=
 Ev.step (fun k => V8 k l) (Rx l hl l 0 rfl)
theorem Po (n : Int) : Ev (fun k => vw k n) (if 1 ≤ n ∧ n ≤ 8 then tot n 8 [] else -1) := by
 refine Ev.step (fun k => T3 k n) ?_
 by_cases h : 1 ≤ n ∧ n ≤ 8
 ·rw [if_pos h]
  exact Ev.no (by simp; omega) (Ev.no (by simp; omega) (Ev.bind (K1 n 8 [] (by simp; omega) (by simp)) (Ev.pure _)))
 ·rw [if_neg h]
  refine Ev.ite (fun c => Ev.pure _) (fun c => Ev.yes ?_ (Ev.pure _))
  simp at c ⊢; omega
theorem KW {c : Cn} (hc : CnOk c) (w : ByteArray) (l : List Int) (hl : l.length ≤ 1048576) : Ev (fun k => uA k (c, w, l)) (sw (vS reF c w l)) := by
 obtain ⟨q1, q2, q3, hp⟩ := zu hc.tr
 refine Ev.step (fun k => ZD k c w l) ?_
 unfold vS
 simp only [zU]
 have guess : l.length = 1 → Ev (fun k => bif decide (0 < (l.length : Int)) then (vw k (l.getD 0 0)).bind fun y5 => bif decide (y5 ≥ 0) then (zB k y5).bind fun y6 => some (y6, c) else some ((⟨#[110, 111, 110, 101]⟩ : ByteArray), c) else none) (sw (c, guessB (l.getD 0 0))) := by
  intro e
  refine Ev.yes (by rw [e]; rfl) (Ev.bind (Po _) ?_)
  unfold guessB
  by_cases h1 : 1 ≤ l.getD 0 0 ∧ l.getD 0 0 ≤ 8
  ·rw [if_pos h1]
   by_cases h2 : 0 ≤ tot (l.getD 0 0) 8 []
   ·rw [if_pos ⟨h1.1, h1.2, h2⟩]
    exact Ev.yes (decide_eq_true h2) (Ev.bind (zD _ (FF _ 8 [])) (Ev.pure _))
   ·rw [if_neg (fun x => h2 x.2.2)]
    exact Ev.no (decide_eq_false h2) (Ev.pure _)
  ·rw [if_neg h1, if_neg (fun x => h1 ⟨x.1, x.2.1⟩)]
   exact Ev.no rfl (Ev.pure _)
 have last : ¬ (w = ⟨#[102, 97, 114, 111]⟩ ∧ l.length = 2) → Ev (fun k => bif decide (w = ⟨#[103, 117, 101, 115, 115]⟩) then bif ((l.length : Int) == 1) then bif decide (0 < (l.length : Int)) then (vw k (l.getD 0 0)).bind fun y5 => bif decide (y5 ≥ 0) then (zB k y5).bind fun y6 => some (y6, c) else some ((⟨#[110, 111, 110, 101]⟩ : ByteArray), c) else none else some ((⟨#[117, 110, 107, 110, 111, 119, 110, 32, 99, 111, 109, 109, 97, 110, 100]⟩ : ByteArray), c) else some ((⟨#[117, 110, 107, 110, 111, 119, 110, 32, 99, 111, 109, 109, 97, 110, 100]⟩ : ByteArray), c))
  (sw (if w = ⟨#[102, 97, 114, 111]⟩ ∧ l.length = 2 then (c, if (vN reF c.2.1.length (l.getD 0 0) (l.getD 1 0)).2 then Mp (vN reF c.2.1.length (l.getD 0 0) (l.getD 1 0)).1 else YA) else if w = ⟨#[103, 117, 101, 115, 115]⟩ ∧ l.length = 1 then (c, guessB (l.getD 0 0)) else (c, unkB))) := by
  intro hn
  rw [if_neg hn]
  by_cases hg : w = ⟨#[103, 117, 101, 115, 115]⟩
  ·refine Ev.yes (decide_eq_true hg) ?_
   by_cases h1 : l.length = 1
   ·rw [if_pos ⟨hg, h1⟩]
    exact Ev.yes (by simp [h1]) (guess h1)
   ·rw [if_neg (fun x => h1 x.2)]
    exact Ev.no (by simp; omega) (Ev.some rfl)
  ·rw [if_neg (fun x => hg x.1)]
   exact Ev.no (decide_eq_false hg) (Ev.some rfl)
 by_cases hw : w = ⟨#[112, 108, 97, 121]⟩
 ·rw [if_pos hw]
  refine Ev.yes (decide_eq_true hw) (Ev.bind (QS c.1 l (yK (by omega)) (zL hp) (yK (by omega)) hl) ?_)
  refine Ev.bind (JU c (xp c.1 l) (fun e => ?_)) (Ev.some rfl)
  obtain ⟨s1, s2⟩ := uu (c := ((xp c.1 l).1, (xp c.1 l).2.1)) (ZJ e)
  exact ⟨yK (by dsimp only at s1; omega), s2⟩
 ·rw [if_neg hw]
  refine Ev.no (decide_eq_false hw) ?_
  by_cases hf : w = ⟨#[102, 97, 114, 111]⟩
  ·refine Ev.yes (decide_eq_true hf) ?_
   by_cases h2 : l.length = 2
   ·rw [if_pos ⟨hf, h2⟩]
    refine Ev.yes (by simp [h2]) (Ev.yes (by rw [h2]; rfl) (Ev.yes (by rw [h2]; rfl) (Ev.bind (SH c.2.1.length _ _) ?_)))
    cases e : (vN reF c.2.1.length (l.getD 0 0) (l.getD 1 0)).2 with
    | true =>
      refine Ev.no rfl (Ev.bind (Rp _ ?_) (Ev.some rfl))
      have := Vh c.2.1.length (l.getD 0 0) (l.getD 1 0)
      omega
    | false => exact Ev.yes rfl (Ev.some rfl)
   ·exact Ev.no (by simp; omega) (last (fun x => h2 x.2))
  ·exact Ev.no (decide_eq_false hf) (last (fun x => hf x.1))
end Qq
