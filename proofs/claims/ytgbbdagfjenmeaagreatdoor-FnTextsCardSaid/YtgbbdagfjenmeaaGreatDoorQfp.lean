/-
  Packets, moves and steps are recovered from their text.
  Conditions: they are valid.
-/
import Derived.Test.YtgbbdagfjenmeaaGreatDoorPT
namespace Qq
open Go Go.Vt Pt
set_option linter.unusedVariables false
set_option linter.unusedSimpArgs false
set_option linter.unnecessarySimpa false
theorem Ux (x : Int) : ∀ b ∈ (cardB x).data.toList, b ≠ 32 := by
 unfold cardB
 split
 ·rw [V8]
  intro b hb
  rcases List.mem_append.1 hb with h | h
  ·exact fg (card x) b (by rw [yb, wG] at h; exact h)
  ·have : b = 94 := by simpa using h
   rw [this]; decide
 ·intro b hb
  exact fg (card x) b (by rw [yb, wG] at hb; exact hb)
theorem QD (l : List ByteArray) (h : l ≠ []) (hs : ∀ a ∈ l, ∀ b ∈ a.data.toList, b ≠ 32) : cutB (b8 l sp) = l := by
 unfold cutB b8 Tn
 have e2 : w5 sp = [32] := rfl
 rw [wG, e2, Vx, Ws (l.map w5) (by simpa using h) (fun a ha => by
  obtain ⟨x, hx, rfl⟩ := List.mem_map.1 ha
  exact hs x hx), List.map_map]
 conv => rhs; rw [← List.map_id l]
 apply List.map_congr_left
 intro a _
 exact gM a
theorem Pj : ∀ n : Fin 24, Yo (cardB ((n.val : Int) - 12)) = some ((n.val : Int) - 12) := by decide +kernel
theorem V4 {x : Int} (h : 0 ≤ card x) : Yo (cardB x) = some x := by
 have hb : -12 ≤ x ∧ x ≤ 11 := by
  unfold card at h
  split at h
  ·omega
  ·split at h
   ·omega
   ·exact absurd h (by decide)
 have := Pj ⟨(x + 12).toNat, by omega⟩
 have e : (((x + 12).toNat : Nat) : Int) - 12 = x := by omega
 simp only [e] at this
 exact this
theorem RK {f : ByteArray → Option Int} {g : Int → ByteArray} : ∀ {p : List Int}, (∀ x ∈ p, f (g x) = some x) → allO f (p.map g) = some p
 | [], _ => rfl
 | x :: p, h => by
   rw [List.map_cons, allO, h x (by simp), RK (fun y hy => h y (by simp [hy]))]; rfl
theorem U5 {p : List Int} (h : zj p = true) : jR (zu p) = (p, true) := by
 by_cases h0 : p = []
 ·subst h0; decide
 ·have e : zu p = b8 (p.map cardB) sp := by unfold zu; rw [if_pos h, if_neg h0]; rfl
  have ec : cutB (zu p) = p.map cardB := by
   rw [e]
   exact QD _ (by simpa using h0) (fun a ha => by
    obtain ⟨x, _, rfl⟩ := List.mem_map.1 ha
    exact Ux x)
  have hp : ∀ x ∈ p, Yo (cardB x) = some x := fun x hx => V4 ((yp h).2.1 x hx).1
  unfold jR
  rw [if_neg, ec, RK hp]
  ·show (if zj ([] ++ p) = true then ([] ++ p, true) else ([], false)) = _
   rw [List.nil_append, if_pos h]
  ·intro hE
   rw [hE] at ec
   have e1 : cutB ⟨#[101, 109, 112, 116, 121]⟩ = [⟨#[101, 109, 112, 116, 121]⟩] := by decide
   rw [e1] at ec
   cases p with
   | nil => exact h0 rfl
   | cons x r =>
     have hx := hp x (by simp)
     rw [List.map_cons] at ec
     rw [← (List.cons.inj ec).1] at hx
     have : Yo ⟨#[101, 109, 112, 116, 121]⟩ = none := by decide
     rw [this] at hx; cases hx
theorem V5 : ∀ n : Fin 9, xa (yC ((n.val : Int) + 1)) = (n.val : Int) + 1 := by decide +kernel
theorem XD {n : Int} {m : Int × Int} (h : yZ n m = true) : 1 ≤ m.1 ∧ m.1 ≤ 9 ∧ 0 ≤ m.2 ∧ m.2 ≤ 12 := by
 unfold yZ at h
 simp only [Bool.and_eq_true, decide_eq_true_eq] at h
 obtain ⟨h1, h2, h3, h4⟩ := h
 split at h4
 ·simp at h4; omega
 ·repeat (split at h4; · (simp at h4; omega))
  cases h4
theorem aB {m : Int × Int} (h : yZ 12 m = true) : zG m ≠ ⟨#[]⟩ := by
 intro e
 unfold zG at e
 rw [if_pos h] at e
 have := congrArg cutB e
 have e2 := Uu (yC m.1) m.2 (gr m.1)
 have e3 : cutB ((yC m.1 ++ ⟨#[32]⟩) ++ yb m.2) = [yC m.1, yb m.2] := e2
 rw [e3] at this
 have e4 : cutB ⟨#[]⟩ = [⟨#[]⟩] := by decide
 rw [e4] at this
 simp at this
theorem Vk {m : Int × Int} (h : yZ 12 m = true) : yM (zG m) = (m.1, m.2, true) := by
 obtain ⟨h1, h2⟩ := vJ rfl (aB h)
 obtain ⟨k1, k9, _, _⟩ := XD h
 have hn : xa (yC m.1) = m.1 := by
  have := V5 ⟨(m.1 - 1).toNat, by omega⟩
  have e : (((m.1 - 1).toNat : Nat) : Int) + 1 = m.1 := by omega
  simp only [e] at this
  exact this
 unfold yM
 rw [h1]
 show (if ([yC m.1, yb m.2] : List ByteArray).length = 2 ∧ (yJ (yb m.2)).2 = true ∧ zG (xa (yC m.1), (yJ (yb m.2)).1) = zG m then (xa (yC m.1), (yJ (yb m.2)).1, true) else (0, 0, false)) = _
 rw [ug m.2 h2, hn, if_pos ⟨rfl, rfl, rfl⟩]
theorem Ti {n : Nat} {m : Int × Int} (h : yZ (n : Int) m = true) : yZ 12 m = true := by
 unfold yZ at h ⊢
 simp only [Bool.and_eq_true, decide_eq_true_eq] at h ⊢
 obtain ⟨h1, h2, h3, h4⟩ := h
 refine ⟨by omega, by omega, h3, ?_⟩
 by_cases e1 : m.1 = 1
 ·rw [if_pos e1] at h4 ⊢; simp at h4 ⊢; omega
 rw [if_neg e1] at h4 ⊢
 by_cases e2 : m.1 = 2
 ·rw [if_pos e2] at h4 ⊢; simp at h4 ⊢; omega
 rw [if_neg e2] at h4 ⊢
 by_cases e3 : m.1 = 3
 ·rw [if_pos e3] at h4 ⊢; simp at h4 ⊢; omega
 rw [if_neg e3] at h4 ⊢
 by_cases e4 : m.1 = 4
 ·rw [if_pos e4] at h4 ⊢; exact h4
 rw [if_neg e4] at h4 ⊢
 by_cases e5 : m.1 = 5
 ·rw [if_pos e5] at h4 ⊢; exact h4
 rw [if_neg e5] at h4 ⊢
 by_cases e7 : m.1 = 7
 ·rw [if_pos e7] at h4 ⊢; exact h4
 rw [if_neg e7] at h4 ⊢
 by_cases e6 : m.1 = 6
 ·rw [if_pos e6] at h4 ⊢; exact h4
 rw [if_neg e6] at h4 ⊢
 by_cases e8 : m.1 = 8
 ·rw [if_pos e8] at h4 ⊢; simp at h4 ⊢; omega
 rw [if_neg e8] at h4 ⊢
 by_cases e9 : m.1 = 9
 ·rw [if_pos e9] at h4 ⊢; simp at h4 ⊢; omega
 rw [if_neg e9] at h4 ⊢
 cases h4
theorem M6 : ∀ n : Fin 5, chF (yw (n.val : Int)) 5 0 = some (n.val : Int) := by decide +kernel
theorem Ww {s : ByteArray} (h : (cutB s).length = 2) : chF s 5 0 = none := by
 cases hc : chF s 5 0 with
 | none => rfl
 | some k => have := VK s (Uv s 5 0 k hc); omega
theorem Qd {n : Nat} {s : Step} (h : zI (n : Int) s = true) : jq (yc s) = (s.1, s.2.1.1, s.2.1.2, s.2.2, true) := by
 obtain ⟨kd, ⟨mk, mn⟩, a⟩ := s
 unfold zI at h
 simp only [Bool.and_eq_true, decide_eq_true_eq] at h
 obtain ⟨h1, h2, h3⟩ := h
 split at h3
 ·rename_i e
  try dsimp only at e
  subst e
  rw [Bool.and_eq_true, beq_iff_eq] at h3
  have hm := Ti h3.1
  have ha : a = 0 := h3.2
  subst ha
  have ef : yc (1, (mk, mn), 0) = zG (mk, mn) := by
   unfold yc
   rw [if_pos (by unfold zI; simp [hm])]
   rfl
  rw [ef]
  obtain ⟨c1, c2⟩ := vJ rfl (aB hm)
  unfold jq
  rw [Ww (by rw [c1]; rfl)]
  show Xr _ = _
  unfold Xr
  rw [Vk hm, if_pos rfl]
 ·split at h3
  ·rename_i e1 e
   try dsimp only at e
   subst e
   simp only [Bool.and_eq_true, beq_iff_eq, decide_eq_true_eq] at h3
   obtain ⟨b1, b2, b3, b4, b5, b6⟩ := h3
   subst b1 b2
   have ef : yc (2, (0, 0), a) = yw a := by
    unfold yc
    rw [if_pos]
    ·rfl
    ·by_cases hr : a = 2
     ·subst hr; rfl
     ·rw [Bool.or_eq_true]; left
      unfold zI
      simp [b3, b4, hr]
   rw [ef]
   have hc := M6 ⟨a.toNat, by omega⟩
   have e : ((a.toNat : Nat) : Int) = a := by omega
   simp only [e] at hc
   unfold jq
   rw [hc]
  ·split at h3
   ·rename_i e1 e2 e
    try dsimp only at e
    subst e
    simp only [Bool.and_eq_true, beq_iff_eq, decide_eq_true_eq] at h3
    obtain ⟨b1, b2, b3, b4⟩ := h3
    subst b1 b2
    have hb : 0 ≤ a ∧ a < 12 := by omega
    have ef : yc (3, (0, 0), a) = jU a := Rr hb
    rw [ef]
    have hcut := XB a
    unfold jq
    rw [Ww (by rw [hcut]; rfl)]
    show Xr _ = _
    refine Vj (fun hm => ?_) hb rfl
    by_cases hc : (cutB (jU a)).length = 2 ∧ (yJ ((cutB (jU a)).getD 1 ⟨#[]⟩)).2 = true ∧ zG (xa ((cutB (jU a)).getD 0 ⟨#[]⟩), (yJ ((cutB (jU a)).getD 1 ⟨#[]⟩)).1) = jU a
    ·have h3 := hc.2.2
     rw [hcut] at h3
     have em : xa (([⟨#[110, 111, 116, 101]⟩, yb a] : List ByteArray).getD 0 ⟨#[]⟩) = 0 := by
      show xa ⟨#[110, 111, 116, 101]⟩ = 0
      decide +kernel
     rw [em] at h3
     have : zG (0, (yJ (([⟨#[110, 111, 116, 101]⟩, yb a] : List ByteArray).getD 1 ⟨#[]⟩)).1) = ⟨#[]⟩ := by
      unfold zG
      rw [if_neg]
      unfold yZ
      simp
     rw [this] at h3
     have hc2 := hcut
     rw [← h3] at hc2
     have e4 : cutB ⟨#[]⟩ = [⟨#[]⟩] := by decide
     rw [e4] at hc2
     simp at hc2
    ·have : yM (jU a) = (0, 0, false) := by
      unfold yM
      exact if_neg hc
     rw [this] at hm
     cases hm
   ·cases h3
end Qq
