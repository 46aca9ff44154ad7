/-
  slices.Grow of the nil slice as a function of the library.
  Conditions: the lay of its body, the element's size and zero value.
-/
import Derived.Test.YtlgkjckddpnfnaaGreatDoorXvzj
import Derived.Shelf.Spec.SlicesGrow
namespace Go.Vt
open Go.Proofs Go.Shelf Go.RowKit Go.Sort
set_option linter.unusedVariables false
variable {P : Program} {ρ : Ren} {gw : Gw}
def growF (n : Int) : Option (List Int) := bif decide (0 ≤ n) && decide (n ≤ 1048576) then some [] else none
def growFi : Fi := ⟨[.z (.int .i64), .v (.int .i64) false], [(false, [⟨.slice (.int .i64), some (true, false)⟩])], some (fun _ x => growF x.2), .skip, [], 0, fun _ => none⟩
theorem grow_ok (L : Lays8.n4 P ρ) (i0 : TypeInfo) (z : Value) (hi0 : P.info? (ρ.t 25) = some i0) (hz0 : i0.zero = some z) (hs1 : i0.size = 1) (hb8 : i0.bytes = 8) (hzl : ∀ n, (Builtin.zeroCells z.cells n).size = n)
    {fn : Func} (hf : P.funcs[ρ.f 4]? = some fn) (hn : (fn.name == "runtime.NumGoroutine") = false) (hb : fn.body.isSome = true) : OneF P gw (ρ.f 4) growFi := by
  suffices hg : ∀ (x : List Int × Int) (y : List Int), growF x.2 = some y → GivesO P gw (ρ.f 4) growFi x y from ⟨fun g hg' k x y hy => by cases hg'; exact (hg x y hy).all rfl, fun h => by cases h⟩
  rintro ⟨xs, n⟩ y hy B S vs LL H hS hL hm hH hA
  match vs, hA with
  | [v, u2], hA =>
  obtain ⟨L1, L2, H1, H2, rfl, rfl, ⟨⟨hv, hx⟩, rfl, rfl⟩, ⟨⟨c2, e2, _, h2⟩, rfl, rfl⟩⟩ := hA
  cases (show c2 = [Value.int .i64 n] from h2)
  subst hv
  have e2 : u2 = Value.int .i64 n := e2
  subst e2
  have hy : growF n = some y := hy
  unfold growF at hy
  cases hd : (decide (0 ≤ n) && decide (n ≤ 1048576)) with
  | false => rw [hd] at hy; cases hy
  | true =>
  rw [hd] at hy
  cases hy
  simp only [Bool.and_eq_true, decide_eq_true_eq] at hd
  obtain ⟨d1, d2⟩ := hd
  obtain ⟨m, rfl⟩ := Int.eq_ofNat_of_zero_le d1
  by_cases h0 : m = 0
  · subst h0
    refine Does.of_calls' hf hn hb ((Any8.slices_Grow_room L none 0 0 0 B.w (Nat.le_refl _) (by omega) (by omega) (by omega)).mono ?_)
    rintro e w' ⟨rfl, rfl⟩
    exact ⟨Kept.refl B, S, [.slice none 0 0], [], [], rfl, fun _ h => h, fun _ h => .inl h, List.nodup_nil, (fun c hc => by cases hc), ⟨.inl ⟨rfl, rfl, rfl⟩, fun h => by cases h⟩, rfl⟩
  · refine Does.of_calls' hf hn hb ((Any8.slices_Grow_grow L i0 z hi0 hz0 (by omega) none 0 0 m [] B.w (Nat.le_refl _) (by omega) (by rw [hb8]; omega) (by omega) (by simp) (fun _ => rfl) (fun a h => by cases h)).mono ?_)
    rintro e w' ⟨rfl, rfl⟩
    have hk : Kept B (B.w.drew.alloc (.cells (([] : List Value).toArray ++ Builtin.zeroCells z.cells (0 + m - 0) ++ Builtin.zeroCells z.cells (grownCap B.w (0 + m) 0 (ρ.t 25) - (0 + m))) (ρ.t 25))) := (KeptW.drew (Kept.refl B)).alloc _
    have hG := grownCap_ge B.w (0 + m) 0 (ρ.t 25)
    refine ⟨hk, S, [.slice (some ⟨B.w.heap.size, 0, none⟩) 0 (grownCap B.w (0 + m) 0 (ρ.t 25))], [B.w.heap.size], [], rfl, fun _ h => h, fun _ h => .inl h, by simp, fun c hc => ?_, ⟨.inr ⟨B.w.heap.size, 0, grownCap B.w (0 + m) 0 (ρ.t 25), _, ρ.t 25, [], rfl, by
      exact Array.getElem?_push_size, ?_, Nat.zero_le _, rfl, rfl⟩, fun h => by cases h⟩, rfl⟩
    · have : c = B.w.heap.size := by simpa using hc
      subst this
      exact ⟨B.up _ (Nat.le_refl _), (by show B.w.heap.size < (Array.push _ _).size; rw [Array.size_push]; exact Nat.lt_succ_self _), fun hs => Nat.lt_irrefl _ (hS _ hs)⟩
    · show 0 + grownCap B.w (0 + m) 0 (ρ.t 25) * 1 ≤ _
      rw [Array.size_append, Array.size_append, hzl, hzl, show (([] : List Value).toArray).size = 0 from rfl]
      omega
end Go.Vt
