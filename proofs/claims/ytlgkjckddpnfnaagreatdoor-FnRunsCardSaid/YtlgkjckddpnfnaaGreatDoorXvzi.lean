/-
  Rows of one cell an element, handed to functions of the library: split into elements with their values and blocks, and joined again.
  Conditions: none.
-/
import Derived.Test.YtlgkjckddpnfnaaGreatDoorXvzh
import Derived.Shelf.SlSortCmp.Whole1
namespace Go.Vt
open Go.Proofs Go.Shelf Go.RowKit Go.Sort
set_option linter.unusedVariables false
set_option linter.unusedSimpArgs false

abbrev El (t : Ty) := t.den × Value × List Nat

theorem OL.split {t : Ty} {p : t.den → List Value → List Nat → Prop} : ∀ {xs : List t.den} {cs : List Value} {L : List Nat}, OL 1 p xs cs L →
    ∃ zs : List (El t), zs.map (·.1) = xs ∧ cs.take xs.length = zs.map (·.2.1) ∧ zs.flatMap (·.2.2) = L ∧ ∀ a ∈ zs, p a.1 [a.2.1] a.2.2
  | [], cs, L, h => ⟨[], rfl, by simp, by rw [show L = [] from h]; rfl, fun a ha => by cases ha⟩
  | x :: xs, [], L, h => by obtain ⟨_, _, _, hn, _⟩ := h; simp at hn
  | x :: xs, c :: cs, L, h => by
    obtain ⟨L1, L2, rfl, hn, hp, h⟩ := h
    obtain ⟨zs, h1, h2, h3, h4⟩ := OL.split (cs := cs) h
    refine ⟨(x, c, L1) :: zs, by simp [h1], by simp [h2], by simp [h3], fun a ha => ?_⟩
    rcases List.mem_cons.1 ha with rfl | ha
    · exact hp
    · exact h4 a ha
theorem OL.joins {t : Ty} {p : t.den → List Value → List Nat → Prop} : ∀ (zs : List (El t)) (rest : List Value), (∀ a ∈ zs, p a.1 [a.2.1] a.2.2) → OL 1 p (zs.map (·.1)) (zs.map (·.2.1) ++ rest) (zs.flatMap (·.2.2))
  | [], rest, _ => rfl
  | a :: zs, rest, h => ⟨a.2.2, zs.flatMap (fun a => a.2.2), by simp, by simp, h a (by simp), by
    have := OL.joins zs rest fun b hb => h b (by simp [hb])
    simpa using this⟩

/-- A row of one cell an element, laid open. -/
structure RowO (w : World) (S : Nat → Prop) (t : Ty) (deep : Bool) (b f cap : Nat) (cs : Array Value) (E : TypeId) (zs : List (El t)) : Prop where
  heap : w.heap[b]? = some (.cells cs E (0, 0))
  fit : f + cap ≤ cs.size
  len : zs.length ≤ cap
  cells : (cs.toList.drop f).take zs.length = zs.map (·.2.1)
  p : ∀ a ∈ zs, rowP w S t deep a.1 [a.2.1] a.2.2

variable {w : World} {S : Nat → Prop} {t : Ty} {deep : Bool}

theorem RowO.of (h1 : t.sz = 1) {v : Value} {xs : List t.den} {L : List Nat} (h : ORow w t.sz (rowP w S t deep) v xs L) :
    (v = .slice none 0 0 ∧ xs = [] ∧ L = []) ∨ ∃ b f cap cs E zs, v = .slice (some ⟨b, f, none⟩) xs.length cap ∧ RowO w S t deep b f cap cs E zs ∧ zs.map (·.1) = xs ∧ L = b :: zs.flatMap (·.2.2) := by
  rcases h with h | ⟨b, f, cap, cs, E, Li, hv, hb, hf, hl, rfl, ho⟩
  · exact .inl h
  · rw [h1] at ho hf
    obtain ⟨zs, e1, e2, e3, e4⟩ := OL.split ho
    have hl2 : zs.length = xs.length := by rw [← e1, List.length_map]
    exact .inr ⟨b, f, cap, cs, E, zs, hv, ⟨hb, by omega, by omega, by rw [hl2]; exact e2, e4⟩, e1, by rw [e3]⟩

theorem RowO.row (h1 : t.sz = 1) {b f cap : Nat} {cs : Array Value} {E : TypeId} {zs : List (El t)} (h : RowO w S t deep b f cap cs E zs) :
    ORow w t.sz (rowP w S t deep) (.slice (some ⟨b, f, none⟩) zs.length cap) (zs.map (·.1)) (b :: zs.flatMap (·.2.2)) := by
  refine .inr ⟨b, f, cap, cs, E, zs.flatMap (·.2.2), by rw [List.length_map], h.heap, by rw [h1, Nat.mul_one]; exact h.fit, by rw [List.length_map]; exact h.len, rfl, ?_⟩
  rw [h1]
  have := OL.joins zs ((cs.toList.drop f).drop zs.length) h.p
  rw [← h.cells, List.take_append_drop] at this
  exact this

/-! ### worlds that a sort passes through -/
variable {α : Type} [Inhabited α] {enc : α → Value}

theorem heap_sortWorld_same {b f m : Nat} {d : Array α} {os : Array Obj} {k : Nat} (hk : k < w.heap.size) (hne : k ≠ b) : (sortWorld enc w b f m d os).heap[k]? = w.heap[k]? := by
  unfold sortWorld grow putRow mapBlock Sort.ahead
  dsimp only
  rw [Array.getElem?_append_left (by simpa using hk), Array.getElem?_modify, if_neg (Ne.symm hne)]
theorem heap_sortWorld_row {b f m : Nat} {d : Array α} {os : Array Obj} {cs : Array Value} {E : TypeId} (hb : w.heap[b]? = some (.cells cs E (0, 0))) : (sortWorld enc w b f m d os).heap[b]? = some (.cells (Sort.putCells enc f d cs) E (0, 0)) := by
  have hk : b < w.heap.size := by
    rcases Nat.lt_or_ge b w.heap.size with h | h
    · exact h
    · rw [Array.getElem?_eq_none h] at hb; cases hb
  unfold sortWorld grow putRow mapBlock Sort.ahead
  dsimp only
  rw [Array.getElem?_append_left (by simpa using hk), Array.getElem?_modify, if_pos rfl, hb]
  rfl
theorem lt_of_heap {b : Nat} {o : Obj} (hb : w.heap[b]? = some o) : b < w.heap.size := by
  rcases Nat.lt_or_ge b w.heap.size with h | h
  · exact h
  · rw [Array.getElem?_eq_none h] at hb; cases hb
theorem kept_sortWorld {gw : Gw} {B : Base gw} {b f m : Nat} {d : Array α} {os : Array Obj} (hb : B.mine b) : Kept B (sortWorld enc B.w b f m d os) := by
  refine ⟨rfl, rfl, rfl, ?_, fun k hk hn => heap_sortWorld_same hk (fun e => hn (e ▸ hb)), ?_⟩
  · unfold sortWorld; rw [size_grow, Sort.size_putRow]; exact Nat.le_add_right _ _
  · intro _
    show B.w.drawn ≤ B.w.drawn + m
    omega

theorem putCells_row {f : Nat} {d : Array α} {cs : Array Value} (h : f + d.size ≤ cs.size) : ((Sort.putCells enc f d cs).toList.drop f).take d.size = d.toList.map enc := by
  apply List.ext_getElem?
  intro j
  rw [List.getElem?_take]
  split
  · rename_i hj
    have hj' : f + j < cs.size := by omega
    rw [List.getElem?_drop, Array.getElem?_toList, Sort.putCells, Array.getElem?_mapIdx, Array.getElem?_eq_getElem hj', List.getElem?_map, Array.getElem?_toList, Array.getElem?_eq_getElem hj]
    simp only [Option.map_some]
    rw [if_pos ⟨by omega, by omega⟩, Nat.add_sub_cancel_left, getElem!_pos d j hj]
  · rename_i hj
    rw [List.getElem?_eq_none (by simp; omega)]
theorem size_putCells {f : Nat} {d : Array α} {cs : Array Value} : (Sort.putCells enc f d cs).size = cs.size := by simp [Sort.putCells]

/-- The row's cells hold the elements. -/
theorem RowO.holds {b f cap : Nat} {cs : Array Value} {E : TypeId} {zs : List (El t)} (h : RowO w S t deep b f cap cs E zs) (ds : List α) (e : ds.map enc = zs.map (·.2.1)) : Holds enc w b f ds.toArray := by
  have hl : ds.length = zs.length := by have := congrArg List.length e; simpa using this
  intro j hj
  have hj' : j < ds.length := by simpa using hj
  constructor
  · have h2 : (cs.toList.drop f)[j]? = some (enc ds[j]) := by
      have h3 := congrArg (fun l => l[j]?) h.cells
      simp only [List.getElem?_take] at h3
      rw [if_pos (by omega), ← e, List.getElem?_map, List.getElem?_eq_getElem hj'] at h3
      exact h3
    rw [List.getElem?_drop, Array.getElem?_toList] at h2
    simp only [World.cell?, h.heap, Option.isSome_none, Bool.false_eq_true, if_false]
    rw [h2, getElem!_pos _ j hj]
    rfl
  · simp [World.frozen?, h.heap]

/-- Behind the library's function: other elements, or fewer. -/
theorem RowO.after {b f cap m : Nat} {cs : Array Value} {E : TypeId} {zs : List (El t)} (h : RowO w S t deep b f cap cs E zs) (d : Array α) (hd : d.size = zs.length) (zs' : List (El t)) (hp : ∀ a ∈ zs', rowP w S t deep a.1 [a.2.1] a.2.2)
    (hk : (d.toList.map enc).take zs'.length = zs'.map (·.2.1)) (hlen : zs'.length ≤ zs.length) (hS : ∀ k, S k → k < w.heap.size ∧ k ≠ b) (hL : ∀ a ∈ zs', ∀ k ∈ a.2.2, k < w.heap.size ∧ k ≠ b) (os : Array Obj) :
    RowO (sortWorld enc w b f m d os) S t deep b f cap (Sort.putCells enc f d cs) E zs' := by
  have hfit := h.fit
  have hl := h.len
  refine ⟨heap_sortWorld_row h.heap, by rw [size_putCells]; exact h.fit, by omega, ?_, fun a ha => ?_⟩
  · have := congrArg (List.take zs'.length) (putCells_row (enc := enc) (f := f) (d := d) (cs := cs) (by omega))
    rw [List.take_take, Nat.min_eq_left (by omega)] at this
    rw [this, hk]
  · exact rowP.tell (fun k hk2 => heap_sortWorld_same (hS k hk2).1 (hS k hk2).2) (fun _ h => h) (fun k hk2 => heap_sortWorld_same (hL a ha k hk2).1 (hL a ha k hk2).2) (hp a ha)

/-! ### a function of two rows of numbers, zs the library's functions ask for it -/
theorem kept_grown {W w' : World} (h : KeptW true W (fun b => W.heap.size ≤ b) w') : ∃ q os, w' = grow (W.drewN q) os := by
  refine ⟨w'.drawn - W.drawn, w'.heap.extract W.heap.size w'.heap.size, ?_⟩
  have hh : w'.heap = W.heap ++ w'.heap.extract W.heap.size w'.heap.size := by
    apply Array.ext_getElem?
    intro i
    by_cases hi : i < W.heap.size
    · rw [Array.getElem?_append_left hi]
      exact h.block i hi (by omega)
    · rw [Array.getElem?_append_right (by omega), Array.getElem?_extract]
      have := h.size
      by_cases hi2 : i < w'.heap.size
      · rw [if_pos (by omega)]
        congr 1
        omega
      · rw [if_neg (by omega), Array.getElem?_eq_none (by omega)]
  have hd := h.drawn rfl
  obtain ⟨heap, tape, drawn, os, output⟩ := w'
  have e1 : os = W.os := h.os
  have e2 : tape = W.tape := h.tape
  have e3 : output = W.output := h.output
  subst e1 e2 e3
  unfold grow World.drewN
  dsimp only at hh hd ⊢
  congr 1
  omega
abbrev ints : Ty := .slice (.int .i64)
/-- Nothing is asked of the world; the count of draws is told. -/
abbrev g1 : Gw := ⟨fun _ => True, true⟩
theorem calls2 {P : Program} {g : Nat} {r : Ty} {ext c res nt hs} {x y : List Int} {z : r.den}
    (hg : GivesO P g1 g ⟨[.v ints false, .v ints false], [(false, [⟨r, none⟩])], ext, c, res, nt, hs⟩ (x, y) z) (hr : r.flat = true) {W : World} (eg : ∀ args w, (callFunc g args).run P w = .ok (.enter g args) w)
    {v1 v2 : Value} (h1 : VR W (fun b => b < W.heap.size) ints x [v1]) (h2 : VR W (fun b => b < W.heap.size) ints y [v2]) :
    Calls P g #[v1, v2] W fun e w' => (∃ u, e = .returned u ∧ VR w' (fun _ => True) r z [u]) ∧ ∃ q os, w' = grow (W.drewN q) os := by
  have h := hg ⟨W, fun b => W.heap.size ≤ b, fun _ h => h, fun _ _ => trivial, []⟩ (fun b => b < W.heap.size) [v1, v2] [] [] (fun _ h => h) List.nodup_nil (fun b hb => by cases hb) rfl
    ⟨[], [], [], [], rfl, rfl, ⟨⟨[v1], rfl, fun _ => rfl, h1⟩, rfl, rfl⟩, ⟨⟨[v2], rfl, fun _ => rfl, h2⟩, rfl, rfl⟩⟩
  unfold Does at h
  rw [eg] at h
  refine h.mono fun e w' hh => ?_
  cases e with
  | panicked c => exact hh.elim
  | outgrown => exact hh.elim
  | returned v =>
    obtain ⟨hk, S', vs, L, M, rfl, _, _, _, _, hR, _⟩ := hh
    refine ⟨?_, kept_grown hk⟩
    match vs, hR with
    | [u], hR =>
      refine ⟨u, rfl, ?_⟩
      have h3 : VR w' S' r z [u] := by
        cases r with
        | slice t => cases hr
        | set => cases hr
        | err => exact hR.1
        | int k => exact hR.1
        | bool => exact hR.1
        | str => exact hR.1
        | pair a b => exact hR.1
      exact VR.mono (Same.refl _ _) (fun _ _ => trivial) h3
end Go.Vt
