/-
  What a given argument reads as: from the reading of the statements to the plain machine's.
  Conditions: closed facts on the program's tables.
-/
import Derived.Test.YtlgkjckddpnfnaaGreatDoorXvzb
import Derived.ChangeArms
namespace Go.Vt
open Go.RowKit
set_option linter.unusedVariables false
set_option linter.unusedSimpArgs false

/-- The kind of a type, out of the program's tables. -/
def kindL (P : Program) (g : TypeId → Option Ty) : Nat → List Field → Option Ty
  | _, [] => none
  | off, [f] => bif Nat.beq f.offset off then (match g f.type with | some t => bif Nat.beq (P.cellsOf f.type) t.sz then some t else none | none => none) else none
  | off, f :: f2 :: r => bif Nat.beq f.offset off then (match g f.type with
      | some t => bif Nat.beq (P.cellsOf f.type) t.sz then (match kindL P g (off + t.sz) (f2 :: r) with | some u => some (.pair t u) | none => none) else none
      | none => none) else none
def kindOf (P : Program) : Nat → TypeId → Option Ty
  | 0, _ => none
  | d + 1, t => match P.underlying t with
    | some (.int k) => some (.int k)
    | some .bool => some .bool
    | some .string => some .str
    | some (.slice e) => match kindOf P d e with | some u => bif Nat.beq (P.cellsOf e) u.sz then some (.slice u) else none | none => none
    | some (.struct fs) => match kindL P (kindOf P d) 0 fs.toList with | some u => bif Nat.beq (P.cellsOf t) u.sz then some u else none | none => none
    | _ => none

/-- Lengths and numbers are such as a machine bears. -/
def Fits : (t : Ty) → t.den → Prop
  | .int k, n => k.min ≤ n ∧ n ≤ k.max
  | .bool, _ => True
  | .str, s => s.size ≤ maxLen
  | .slice t, xs => xs.length ≤ maxLen ∧ ∀ x ∈ xs, Fits t x
  | .set, _ => False
  | .err, _ => False
  | .pair a b, x => Fits a x.1 ∧ Fits b x.2

theorem list_choice {α : Type} (p : Nat → α → Prop) : ∀ (n : Nat), (∀ i, i < n → ∃ x, p i x) → ∃ xs : List α, xs.length = n ∧ ∀ i x, xs[i]? = some x → p i x
  | 0, _ => ⟨[], rfl, by simp⟩
  | n + 1, h => by
    obtain ⟨xs, h1, h2⟩ := list_choice p n (fun i hi => h i (by omega))
    obtain ⟨x, hx⟩ := h n (by omega)
    refine ⟨xs ++ [x], by simp [h1], fun i y hy => ?_⟩
    rw [List.getElem?_append] at hy
    split at hy
    · exact h2 i y hy
    · rename_i hlt
      have : i = n := by
        rcases Nat.lt_or_ge i (n + 1) with h3 | h3
        · omega
        · rw [List.getElem?_eq_none (by simp; omega)] at hy; cases hy
      subst this
      simp [h1] at hy
      subst hy; exact hx

section
variable {P : Program} {w : World} {H : Type} {enc : TypeId × Value → H} {base : Nat} {spare : Nat → Bool} {held : Bool}

theorem cells_get {a : Addr} {n : Nat} {cs : List Value} (h : w.cells? base a n = some cs) : cs.length = n ∧ ∀ j v, cs[j]? = some v → w.cell? (a.add j) = some v := by
  unfold World.cells? at h
  split at h
  · have hl := mapM_some_length h
    rw [List.length_range] at hl
    refine ⟨hl, fun j v hj => ?_⟩
    have hlt : j < cs.length := (List.getElem?_eq_some_iff.1 hj).1
    rw [mapM_some_get h j j (by rw [List.getElem?_range (by omega)])]
    exact hj
  · cases h
theorem cell_plain {a : Addr} {v : Value} (h : w.cell? a = some v) : a.spot = none ∧ a.block < w.heap.size := by
  unfold World.cell? at h
  split at h
  · rename_i c e f hc
    refine ⟨?_, ?_⟩
    · cases hsp : a.spot with
      | none => rfl
      | some x => simp [hsp] at h
    · rcases Nat.lt_or_ge a.block w.heap.size with h1 | h1
      · exact h1
      · rw [Array.getElem?_eq_none h1] at hc; cases hc
  · cases h

/-- A struct's fields, one after the other. -/
theorem open_fields {d n : Nat} (ih : ∀ (t : TypeId) (u : Ty) (fuel : Nat) (cs : List Value) (x : DataW H × List MemPlace), kindOf P d t = some u → DataW.trod enc P w base spare held fuel t cs = some x → ∃ y : u.den, VR w (fun b => b < w.heap.size) u y cs ∧ Fits u y) :
    ∀ (fs : List Field) (off : Nat) (u : Ty) (cs : List Value), kindL P (kindOf P d) off fs = some u → cs.length = off + u.sz →
      (∀ f ∈ fs, ∃ x, DataW.trod enc P w base spare held n f.type ((cs.drop f.offset).take (P.cellsOf f.type)) = some x) → ∃ y : u.den, VR w (fun b => b < w.heap.size) u y (cs.drop off) ∧ Fits u y
  | [], off, u, cs, h, hl, ht => by cases h
  | [f], off, u, cs, h, hl, ht => by
    unfold kindL at h
    cases ho : Nat.beq f.offset off with
    | false => rw [ho] at h; cases h
    | true =>
      rw [ho, cond_true] at h
      have ho' := Nat.eq_of_beq_eq_true ho
      split at h
      · rename_i t hk
        cases hc : Nat.beq (P.cellsOf f.type) t.sz with
        | false => rw [hc] at h; cases h
        | true =>
          rw [hc, cond_true] at h
          cases h
          have hc' := Nat.eq_of_beq_eq_true hc
          obtain ⟨x, hx⟩ := ht f (by simp)
          rw [ho', hc', List.take_of_length_le (by rw [List.length_drop]; omega)] at hx
          exact ih _ _ _ _ _ hk hx
      · cases h
  | f :: f2 :: r, off, u, cs, h, hl, ht => by
    unfold kindL at h
    cases ho : Nat.beq f.offset off with
    | false => rw [ho] at h; cases h
    | true =>
      rw [ho, cond_true] at h
      have ho' := Nat.eq_of_beq_eq_true ho
      split at h
      · rename_i t hk
        cases hc : Nat.beq (P.cellsOf f.type) t.sz with
        | false => rw [hc] at h; cases h
        | true =>
          rw [hc, cond_true] at h
          have hc' := Nat.eq_of_beq_eq_true hc
          split at h
          · rename_i u2 hk2
            cases h
            obtain ⟨x, hx⟩ := ht f (by simp)
            rw [ho', hc'] at hx
            have hsz : (Ty.pair t u2).sz = t.sz + u2.sz := rfl
            rw [hsz] at hl
            obtain ⟨y1, v1, f1⟩ := ih _ _ _ _ _ hk hx
            obtain ⟨y2, v2, f2'⟩ := open_fields ih (f2 :: r) (off + t.sz) u2 cs hk2 (by omega) (fun g hg => ht g (by simp [List.mem_cons.1 hg]))
            refine ⟨(y1, y2), ⟨_, _, ?_, v1, v2⟩, f1, f2'⟩
            rw [← List.drop_drop, List.take_append_drop]
          · cases h
      · cases h

/-- WHAT A GIVEN ARGUMENT READS AS. -/
theorem open_VR : ∀ (d : Nat) (t : TypeId) (u : Ty) (fuel : Nat) (cs : List Value) (x : DataW H × List MemPlace), kindOf P d t = some u → DataW.trod enc P w base spare held fuel t cs = some x → ∃ y : u.den, VR w (fun b => b < w.heap.size) u y cs ∧ Fits u y := by
  intro d
  induction d with
  | zero => intro t u fuel cs x h; cases h
  | succ d ih =>
    intro t u fuel cs x h hx
    unfold kindOf at h
    split at h
    · rename_i k hu
      cases h
      obtain ⟨n, rfl, _, hw⟩ := DataW.trod_int hu hx
      refine ⟨n, rfl, ?_⟩
      show k.min ≤ n ∧ n ≤ k.max
      simpa [Lit.wf] using hw
    · rename_i hu
      cases h
      obtain ⟨b, rfl, _⟩ := DataW.trod_bool hu hx
      exact ⟨b, rfl, trivial⟩
    · rename_i hu
      cases h
      obtain ⟨s, rfl, _, hs⟩ := DataW.trod_string hu hx
      exact ⟨s, rfl, hs⟩
    · rename_i e hu
      split at h
      · rename_i u' hk
        cases hc : Nat.beq (P.cellsOf e) u'.sz with
        | false => rw [hc] at h; cases h
        | true =>
          rw [hc, cond_true] at h
          cases h
          have hc' := Nat.eq_of_beq_eq_true hc
          rcases DataW.trod_slice hu hx with ⟨rfl, _⟩ | ⟨a, len, cap, elems, rest, n, _, rfl, _, _, hlc, hcm, hel, hget, _, _⟩
          · exact ⟨[], ⟨none, 0, rfl, Nat.le_refl _, .inl rfl⟩, ⟨Nat.zero_le _, fun x hx => by cases hx⟩⟩
          · obtain ⟨ys, h1, h2⟩ := list_choice (fun i (y : u'.den) => ∃ cs, w.cells? base (a.add (i * u'.sz)) u'.sz = some cs ∧ VR w (fun b => b < w.heap.size) u' y cs ∧ Fits u' y) len (fun i hi => by
              have hg := hget i hi
              rw [List.getElem?_eq_getElem (by omega), hc'] at hg
              obtain ⟨cs, hcs, hg⟩ := Option.bind_eq_some_iff.1 hg
              obtain ⟨y, hy, hf⟩ := ih _ _ _ _ _ hk hg
              exact ⟨y, cs, hcs, hy, hf⟩)
            refine ⟨ys, ⟨some a, cap, by rw [h1], by omega, ?_⟩, ⟨by omega, fun y hy => ?_⟩⟩
            · by_cases he : ys = []
              · exact .inl he
              · have hpos : 0 < ys.length := List.length_pos_iff.2 he
                have hp := u'.sz_pos
                -- the address is a plain one
                obtain ⟨cs0, hcs0, hv0, _⟩ := h2 0 ys[0] (by simp)
                obtain ⟨l0, g0⟩ := cells_get hcs0
                have hz : (a.add (0 * u'.sz)) = a := by simp [Addr.add]
                rw [hz] at g0
                have hc0 := g0 0 cs0[0] (by simp)
                have hz2 : a.add 0 = a := by simp [Addr.add]
                rw [hz2] at hc0
                obtain ⟨hsp, hlt⟩ := cell_plain hc0
                obtain ⟨b, o, s⟩ := a
                simp only at hsp hlt
                subst hsp
                refine .inr ⟨b, o, rfl, hlt, fun i y hy => ?_⟩
                obtain ⟨cs, hcs, hv, _⟩ := h2 i y hy
                obtain ⟨l1, g1⟩ := cells_get hcs
                refine ⟨cs, l1, fun j v hj => ?_, hv⟩
                have := g1 j v hj
                rwa [add_none, add_none] at this
            · obtain ⟨i, hi⟩ := List.getElem?_of_mem hy
              obtain ⟨_, _, _, hf⟩ := h2 i y hi
              exact hf
      · cases h
    · rename_i fs hu
      split at h
      · rename_i u' hk
        cases hc : Nat.beq (P.cellsOf t) u'.sz with
        | false => rw [hc] at h; cases h
        | true =>
          rw [hc, cond_true] at h
          cases h
          have hc' := Nat.eq_of_beq_eq_true hc
          obtain ⟨xs, n, _, _, hl, hxl, hg⟩ := DataW.trod_struct hu hx
          have := open_fields (n := n) ih fs.toList 0 u cs hk (by rw [hl, hc']; omega) (fun f hf => by
            obtain ⟨i, hi⟩ := List.getElem?_of_mem hf
            have hi' : fs[i]? = some f := by simpa using hi
            have hlt : i < fs.size := (Array.getElem?_eq_some_iff.1 hi').1
            have := hg i f hi'
            rw [List.getElem?_eq_getElem (by omega)] at this
            exact ⟨_, this⟩)
          simpa using this
      · cases h
    · cases h
end
end Go.Vt
