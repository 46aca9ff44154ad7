/-
  slices.Delete at elements of k cells (own text, after the shelf's walk at one cell).
  Conditions: the lay of the function's body; the element's size and zero value.
-/
import Derived.Shelf.SlLaysE0
import Derived.Shelf.SlicesE.Kit
import Derived.Shelf.RegionOpenPlain
import Derived.WalkKit
import Derived.Deep.LoopGhost
import Derived.Deep.RegionLaw
import Derived.Lib.Walk
import Derived.Sort.WalkB12
import Derived.Shelf.GgSortFunc.RowK
import Derived.Lib.SliceRun
import Derived.Lib.SlicesDelete
namespace Go.Vt
open Go.Proofs
open Go.Shelf Go.RowKit Go.Lib Go.Sort
variable {P : Program} {ρ : Ren}

/-- 'clear(s)', s a slice of n > 0 elements of k cells each. -/
theorem run_clear_sliceK (w : World) (t e ty : TypeId) (z : Value) (ht : P.underlying t = some (.slice e)) (hv : ∀ w, (zeroValue e).run P w = .ok z w) (b o n c : Nat) (hn : 0 < n) (zs : List Value) (hz : (Builtin.zeroCells z.cells n).toList = zs) (h1 : ∀ v ∈ zs, v.oneCell' = true)
    (hc : ∀ j, j < zs.length → (w.cell? ⟨b, o + j, none⟩).isSome = true) (hf : ∀ j, j < zs.length → w.frozen? ⟨b, o + j, none⟩ = false) :
    (Builtin.clear_ #[t] ty #[.slice (some ⟨b, o, none⟩) n c]).run P w = .ok (.tuple #[]) (w.setCells b o zs) := by
  have hst := run_storeCells_cells (P := P) b o zs 0 w (by simpa using hc) (by simpa using hf) h1
  simp only [Nat.add_zero] at hst
  obtain ⟨m, rfl⟩ : ∃ m, n = m + 1 := ⟨n - 1, by omega⟩
  simp [Builtin.clear_, run_underlying ht, hv, hz, hst]

set_option maxHeartbeats 4000000 in
set_option maxRecDepth 1000000 in
/-- slices.Delete, nothing to take out. -/
theorem slices_DeleteK_none (L : SlLaysE0.n45 P ρ) (k : Nat) (aE : ∀ w, (isAgg (ρ.t 23)).run P w = .ok true w) (zE : ∀ w, (Go.sizeOf (ρ.t 23)).run P w = .ok k w) (blk off cap n i : Nat) (w : World) (hcap : n ≤ cap) (hm : cap ≤ 9223372036854775807) (hi : i ≤ n) :
    Calls P (ρ.f 45) #[.slice (some ⟨blk, off, none⟩) n cap, .int .i64 i, .int .i64 i] w fun e w' => e = .returned (.slice (some ⟨blk, off, none⟩) n cap) ∧ w' = w := by
  have mixed := L.mixed; have t0 := L.t0; have a0 := L.a0; have z0 := L.z0; have v0 := L.v0; have t3 := L.t3; have a3 := L.a3; have z3 := L.z3; have v3 := L.v3; have t4 := L.t4; have a4 := L.a4; have z4 := L.z4; have v4 := L.v4; have t22 := L.t22; have a22 := L.a22; have z22 := L.z22; have v22 := L.v22
  obtain ⟨_, _, FG⟩ := L.f45
  go_enter FG, SlBodyN.n45_ntmps ρ
  go_wp2
  all_goals (go_ret; exact ⟨rfl, rfl⟩)

set_option maxHeartbeats 4000000 in
set_option maxRecDepth 1000000 in
/-- slices.Delete at a struct of k cells: the cells behind j are moved to i, what is left over is cleared. -/
theorem slices_DeleteK (L : SlLaysE0.n45 P ρ) (k : Nat) (hk : 0 < k) (aE : ∀ w, (isAgg (ρ.t 23)).run P w = .ok true w) (zE : ∀ w, (Go.sizeOf (ρ.t 23)).run P w = .ok k w) (z : Value) (v23 : ∀ w, (zeroValue (ρ.t 23)).run P w = .ok z w) (i0 : TypeInfo) (hi0 : P.info? (ρ.t 23) = some i0) (hz1 : i0.size = k)
    (blk off cap n i j : Nat) (F : Array Value) (hF : F.size = n * k) (h1 : ∀ v ∈ F.toList, v.oneCell' = true) (zs : List Value) (hzs : (Builtin.zeroCells z.cells (j - i)).toList = zs) (hzl : zs.length = (j - i) * k) (hz1' : ∀ v ∈ zs, v.oneCell' = true)
    (w : World) (hH : Holds id w blk off F) (hcap : n ≤ cap) (hm : n ≤ 9223372036854775807) (hlt : i < j) (hj : j ≤ n) :
    Calls P (ρ.f 45) #[.slice (some ⟨blk, off, none⟩) n cap, .int .i64 i, .int .i64 j] w fun e w' => e = .returned (.slice (some ⟨blk, off, none⟩) (n - (j - i)) cap) ∧ w' = (w.drew.setCells blk (off + i * k) (F.toList.drop (j * k))).setCells blk (off + (n - (j - i)) * k) zs := by
  have mixed := L.mixed; have t0 := L.t0; have a0 := L.a0; have z0 := L.z0; have v0 := L.v0; have t3 := L.t3; have a3 := L.a3; have z3 := L.z3; have v3 := L.v3; have t4 := L.t4; have a4 := L.a4; have z4 := L.z4; have v4 := L.v4; have t22 := L.t22; have a22 := L.a22; have z22 := L.z22; have v22 := L.v22
  have bnd : ∀ {x y : Nat}, x ≤ y → x * k ≤ y * k := fun h => Nat.mul_le_mul_right k h
  obtain ⟨news, hnews⟩ : ∃ news, news = F.toList.drop (j * k) := ⟨_, rfl⟩
  have hlen : news.length = (n - j) * k := by rw [hnews, List.length_drop, Array.length_toList, hF, Nat.sub_mul]
  have hnj : (n - j) * k + j * k = n * k := by rw [← Nat.add_mul]; congr 1; omega
  have hHd : ∀ t, t < F.size → w.drew.cell? ⟨blk, off + t, none⟩ = some F[t]! ∧ w.drew.frozen? ⟨blk, off + t, none⟩ = false := fun t ht => ⟨(hH t ht).1, (hH t ht).2⟩
  have hget : ∀ t u, news[t]? = some u → t < (n - j) * k ∧ w.drew.cell? ⟨blk, off + (j * k + t), none⟩ = some u := by
    intro t u hu
    have ht : t < (n - j) * k := by have := (List.getElem?_eq_some_iff.1 hu).1; rwa [hlen] at this
    refine ⟨ht, ?_⟩
    rw [(hHd (j * k + t) (by omega)).1]
    rw [hnews, List.getElem?_drop, Array.getElem?_toList, Array.getElem?_eq_getElem (by omega)] at hu
    rw [getElem!_pos F (j * k + t) (by omega)]
    exact hu
  obtain ⟨A, hA, hsrc⟩ : ∃ A : Addr, (if cap = j then (some ⟨blk, off, none⟩ : Option Addr) else some ⟨blk, off + j * k, none⟩) = some A ∧ Hid (∀ t u, news[t]? = some u → w.drew.cell? (A.add t) = some u) := by
    by_cases h : cap = j
    · refine ⟨⟨blk, off, none⟩, by simp [h], fun t u hu => ?_⟩
      have := (hget t u hu).1
      have h0 : n - j = 0 := by omega
      rw [h0, Nat.zero_mul] at this
      omega
    · exact ⟨⟨blk, off + j * k, none⟩, by simp [h], fun t u hu => by rw [Addr.add_lit, Nat.add_assoc]; exact (hget t u hu).2⟩
  have s1 : Hid (news.length = (n - j) * k) := hlen
  have s2 : Hid (∀ u ∈ news, u.oneCell' = true) := by
    intro u hu
    rw [hnews] at hu
    exact h1 u (List.mem_of_mem_drop hu)
  have hij : i * k ≤ j * k := bnd (Nat.le_of_lt hlt)
  have s3 : Hid (∀ t, t < news.length → (w.drew.cell? ⟨blk, off + i * k + t, none⟩).isSome = true ∧ w.drew.frozen? ⟨blk, off + i * k + t, none⟩ = false) := by
    intro t ht
    rw [hlen] at ht
    rw [Nat.add_assoc]
    exact ⟨by rw [(hHd (i * k + t) (by omega)).1]; rfl, (hHd (i * k + t) (by omega)).2⟩
  obtain ⟨W1, hW1⟩ : ∃ W1, W1 = w.drew.setCells blk (off + i * k) news := ⟨_, rfl⟩
  have hH1 : ∀ t, t < F.size → (W1.cell? ⟨blk, off + t, none⟩).isSome = true ∧ W1.frozen? ⟨blk, off + t, none⟩ = false := by
    have hHe : Holds id w.drew blk off F := fun t ht => ⟨(hH t ht).1, (hH t ht).2⟩
    have e : W1 = putRow id w.drew blk off (setMany F (i * k) news) := by
      rw [hW1]
      conv => lhs; rw [← putRow_self id w.drew blk off F hHe]
      exact setCells_putRow w.drew blk off news (i * k) F (by omega)
    have hH2 : Holds id W1 blk off (setMany F (i * k) news) := by
      rw [e]
      exact holds_putRow id w.drew blk off F _ hHe (size_setMany _ _ _)
    intro t ht
    have := hH2 t (by rw [size_setMany]; exact ht)
    exact ⟨by rw [this.1]; rfl, this.2⟩
  have hcl : ∀ ty, (Builtin.clear_ #[ρ.t 22] ty #[.slice (some ⟨blk, off + (i + (n - j)) * k, none⟩) (n - (i + (n - j))) (cap - (i + (n - j)))]).run P W1 = .ok (.tuple #[]) (W1.setCells blk (off + (i + (n - j)) * k) zs) :=
    fun ty => run_clear_sliceK W1 _ _ ty _ t22 v23 blk (off + (i + (n - j)) * k) _ _ (by omega) zs (by rw [show n - (i + (n - j)) = j - i by omega]; exact hzs) hz1'
      (fun t ht => by
        have e : (i + (n - j)) * k + (j - i) * k = n * k := by rw [← Nat.add_mul]; congr 1; omega
        rw [Nat.add_assoc]; exact (hH1 _ (by omega)).1)
      (fun t ht => by
        have e : (i + (n - j)) * k + (j - i) * k = n * k := by rw [← Nat.add_mul]; congr 1; omega
        rw [Nat.add_assoc]; exact (hH1 _ (by omega)).2)
  have hW : Hid (W1 = w.drew.setCells blk (off + i * k) news) := hW1
  have hic : i ≤ cap := by omega
  have hjc : j ≤ cap := by omega
  have hN : Hid (news = F.toList.drop (j * k)) := hnews
  clear hW1 hH1 hH hHd hget hnews hlen bnd hnj hij h1 hz1' hzs hzl hF
  obtain ⟨_, _, FG⟩ := L.f45
  go_enter FG, SlBodyN.n45_ntmps ρ
  go_wp2_with fail
  go_region_law_o (refine step_append_room rfl (.tmp 22) (.tmp 25) (ρ.t 22) rfl (ρ.t 23) i0 k t22 hi0 hz1 blk off i cap (by simp [Act.eval, Act.put]) A (n - j) (cap - j) news (by simp [Act.eval, Act.put]) s1.out hsrc.out s2.out (by omega) s3.out ?_; rw [← hW.out])
  go_wp2
  go_ret
  rw [← hN.out, ← hW.out, show n - (j - i) = i + (n - j) by omega]
  exact ⟨rfl, rfl⟩
end Go.Vt
