/-
  slices.Delete as a function of the library: the row is given away.
  Conditions: the lay of its body, the element's size and zero value.
-/
import Derived.Test.YtlgkjckddpnfnaaGreatDoorXvzg
namespace Go.Vt
open Go.Proofs Go.Shelf Go.RowKit Go.Sort
variable {P : Program} {ρ : Ren} {gw : Gw}

def deleteF {α : Type} (x : List α × Int × Int) : Option (List α) :=
  bif decide (0 ≤ x.2.1) && decide (x.2.1 < x.2.2) && decide (x.2.2 ≤ (x.1.length : Int)) && decide (x.1.length ≤ 9223372036854775807) then some (x.1.take x.2.1.toNat ++ x.1.drop x.2.2.toNat) else none
def deleteFi (t : Ty) : Fi := ⟨[.v (.slice t) false, .v (.int .i64) false, .v (.int .i64) false], [(false, [⟨.slice t, some (false, false)⟩])], some (fun _ x => deleteF x), .skip, [], 77777, fun _ => none⟩

theorem setCells_kept (b : Nat) : ∀ (vs : List Value) (o : Nat) (w : World), (w.setCells b o vs).os = w.os ∧ (w.setCells b o vs).tape = w.tape ∧ (w.setCells b o vs).output = w.output ∧ (w.setCells b o vs).heap.size = w.heap.size ∧ ∀ k, k ≠ b → (w.setCells b o vs).heap[k]? = w.heap[k]?
  | [], _, _ => ⟨rfl, rfl, rfl, rfl, fun _ _ => rfl⟩
  | v :: r, o, w => by
    obtain ⟨h1, h2, h3, h4, h5⟩ := setCells_kept b r (o + 1) (w.setCell ⟨b, o, none⟩ v)
    rw [World.setCells]
    refine ⟨h1.trans rfl, h2.trans rfl, h3.trans rfl, h4.trans (by simp [World.setCell]), fun k hk => (h5 k hk).trans ?_⟩
    simp [World.setCell, Array.getElem?_modify, Ne.symm hk]
theorem setCells_drawn (b : Nat) : ∀ (vs : List Value) (o : Nat) (w : World), (w.setCells b o vs).drawn = w.drawn
  | [], _, _ => rfl
  | v :: r, o, w => by rw [World.setCells, setCells_drawn b r (o + 1)]; rfl
theorem Does.of_calls' {w : World} {f : FuncId} {fn : Func} {vs : Array Value} {R : Value → World → Prop} (hf : P.funcs[f]? = some fn) (hn : (fn.name == "runtime.NumGoroutine") = false) (hb : fn.body.isSome = true)
    (h : Calls P f vs w fun e w' => match e with | .returned v => R v w' | _ => False) : Does P f vs w R := by
  have hcall : (callFunc f vs).run P w = .ok (.enter f vs) w := by
    simp only [callFunc, Sem.run_bind, program]
    have hname' : ¬ (fn.name == "runtime.NumGoroutine") = true := by rw [hn]; simp
    have hb' : ¬ fn.body.isNone = true := by cases hfb : fn.body with
      | none => rw [hfb] at hb; cases hb
      | some c => simp
    simp only [Sem.run, hf, Result.andThen_ok]
    rw [if_neg hname', if_neg hb']
    simp [Sem.run, pure]
  unfold Does
  rw [hcall]
  exact h

theorem take_two {α : Type} {A R Z Y : List α} {m : Nat} (h : A.length = m) : A.take m = (((A ++ R).take m ++ Z) ++ Y).take m := by subst h; simp

theorem delete_ok {t : Ty} (ht : t.flat = true) (hk : 0 < t.sz) (L : SlLaysE0.n45 P ρ) (aE : ∀ w, (isAgg (ρ.t 23)).run P w = .ok true w) (zE : ∀ w, (Go.sizeOf (ρ.t 23)).run P w = .ok t.sz w) (z : Value) (v23 : ∀ w, (zeroValue (ρ.t 23)).run P w = .ok z w) (i0 : TypeInfo) (hi0 : P.info? (ρ.t 23) = some i0) (hz1 : i0.size = t.sz)
    (hzl : ∀ n, (Builtin.zeroCells z.cells n).toList.length = n * t.sz) (hzo : ∀ n, ∀ v ∈ (Builtin.zeroCells z.cells n).toList, v.oneCell' = true) {fn : Func} (hf : P.funcs[ρ.f 45]? = some fn) (hn : (fn.name == "runtime.NumGoroutine") = false) (hb : fn.body.isSome = true) :
    OneF P gw (ρ.f 45) (deleteFi t) := by
  suffices hg : ∀ (x : List t.den × Int × Int) (y : List t.den), deleteF x = some y → GivesG P gw (ρ.f 45) (deleteFi t) x y from
    ⟨fun g hg' k x y hy => by cases hg'; exact hg x y hy, fun h => by cases h⟩
  rintro ⟨xs, i, j⟩ y hy B S v us LL hS hL hm hH hA
  obtain ⟨hrow, hA⟩ := hA
  match us, hA with
  | [u1, u2], hA =>
  obtain ⟨⟨c1, rfl, _, h1⟩, ⟨c2, rfl, _, h2⟩⟩ := hA
  cases (show c1 = [Value.int .i64 i] from h1)
  cases (show c2 = [Value.int .i64 j] from h2)
  unfold deleteF at hy
  cases hd : (decide (0 ≤ i) && decide (i < j) && decide (j ≤ (xs.length : Int)) && decide (xs.length ≤ 9223372036854775807)) with
  | false => rw [hd] at hy; cases hy
  | true =>
  rw [hd] at hy
  cases hy
  simp only [Bool.and_eq_true, decide_eq_true_eq] at hd
  obtain ⟨⟨⟨d1, d2⟩, d3⟩, d4⟩ := hd
  obtain ⟨a, rfl⟩ := Int.eq_ofNat_of_zero_le d1
  obtain ⟨b', rfl⟩ := Int.eq_ofNat_of_zero_le (Int.le_trans d1 (Int.le_of_lt d2))
  have d2' : a < b' := by omega
  have d3' : b' ≤ xs.length := by omega
  have d4' : xs.length ≤ 9223372036854775807 := d4
  rcases hrow with ⟨_, h0, _⟩ | ⟨b, f0, cap, cs, E, Li, rfl, e2, e3, e4, rfl, e6⟩
  · rw [show xs = [] from h0] at d3'; simp at d3'; omega
  have e7 := OL.flatly (e := false) ht e6
  have hlen : xs.length * t.sz ≤ cs.size - f0 := by simpa using OL.len e7
  have hf0 : f0 ≤ cs.size := by omega
  have hlen2 : xs.length * t.sz ≤ (cs.toList.drop f0).length := by simpa using hlen
  have bnd : ∀ {x y : Nat}, x ≤ y → x * t.sz ≤ y * t.sz := fun h => Nat.mul_le_mul_right t.sz h
  obtain ⟨F, hFd⟩ : ∃ F : Array Value, F = ((cs.toList.drop f0).take (xs.length * t.sz)).toArray := ⟨_, rfl⟩
  have hF : F.size = xs.length * t.sz := by rw [hFd, List.size_toArray, List.length_take, Nat.min_eq_left hlen2]
  have hFl : F.toList = (cs.toList.drop f0).take (xs.length * t.sz) := by rw [hFd]
  have hF1 : ∀ v ∈ F.toList, v.oneCell' = true := by rw [hFl]; exact OL.ones e7
  have hHold : Holds id B.w b f0 F := fun q hq => by
    have hq' : f0 + q < cs.size := by rw [hF] at hq; omega
    constructor
    · show B.w.cell? ⟨b, f0 + q, none⟩ = some F[q]!
      have : F[q]! = cs[f0 + q] := by
        rw [getElem!_pos F q hq]
        simp [hFd]
      rw [this]
      simp [World.cell?, e2, hq']
    · simp [World.frozen?, e2]
  refine Does.of_calls' hf hn hb ((slices_DeleteK L t.sz hk aE zE z v23 i0 hi0 hz1 b f0 cap xs.length a b' F hF hF1 _ rfl (hzl _) (hzo _) B.w hHold e4 d4' d2' d3').mono ?_)
  rintro e w' ⟨rfl, rfl⟩
  have k1 := setCells_kept b (F.toList.drop (b' * t.sz)) (f0 + a * t.sz) B.w.drew
  have k2 := setCells_kept b (Builtin.zeroCells z.cells (b' - a)).toList (f0 + (xs.length - (b' - a)) * t.sz) (B.w.drew.setCells b (f0 + a * t.sz) (F.toList.drop (b' * t.sz)))
  have hbm := hm b (by simp)
  constructor
  · exact ⟨k2.1.trans (k1.1.trans rfl), k2.2.1.trans (k1.2.1.trans rfl), k2.2.2.1.trans (k1.2.2.1.trans rfl), by rw [k2.2.2.2.1, k1.2.2.2.1]; exact Nat.le_refl _, fun k hk hmk => by
      have hne : k ≠ b := fun e => hmk (e ▸ hbm.1)
      exact (k2.2.2.2.2 k hne).trans ((k1.2.2.2.2 k hne).trans rfl), fun _ => by rw [setCells_drawn, setCells_drawn]; exact Nat.le_succ _⟩
  · have hsz := heap_setCells b (Builtin.zeroCells z.cells (b' - a)).toList (f0 + (xs.length - (b' - a)) * t.sz) _ _ _ (heap_setCells b (F.toList.drop (b' * t.sz)) (f0 + a * t.sz) B.w.drew cs E e2)
    have hl : (xs.take a ++ xs.drop b').length = xs.length - (b' - a) := by simp; omega
    refine ⟨S, [.slice (some ⟨b, f0, none⟩) (xs.length - (b' - a)) cap], [b], [], rfl, fun _ h => h, fun _ h => .inl h, by simp, fun c hc => ?_, ?_, rfl⟩
    · have : c = b := by simpa using hc
      subst this
      exact ⟨hbm.1, by rw [k2.2.2.2.1, k1.2.2.2.1]; exact hbm.2.1, hbm.2.2⟩
    · have hl2 : (xs.take a ++ xs.drop b').length ≤ cap := by rw [hl]; exact Nat.le_trans (Nat.sub_le _ _) e4
      refine ⟨.inr ⟨b, f0, cap, _, E, [], congrArg (fun m => Value.slice (some ⟨b, f0, none⟩) m cap) hl.symm, hsz, by simp [e3], hl2, rfl, ?_⟩, fun h => by cases h⟩
      show OL t.sz (rowP _ S t false) (xs.take a ++ xs.drop b') ((setMany (setMany cs (f0 + a * t.sz) (F.toList.drop (b' * t.sz))) (f0 + (xs.length - (b' - a)) * t.sz) (Builtin.zeroCells z.cells (b' - a)).toList).toList.drop f0) []
      have q1 : a * t.sz ≤ b' * t.sz := bnd (Nat.le_of_lt d2')
      have q2 : b' * t.sz ≤ xs.length * t.sz := bnd d3'
      have q3 : (xs.length - (b' - a)) * t.sz + (b' - a) * t.sz = xs.length * t.sz := by rw [← Nat.add_mul]; congr 1; omega
      have q4 : (xs.length - (b' - a)) * t.sz = a * t.sz + (xs.length - b') * t.sz := by rw [← Nat.add_mul]; congr 1; omega
      have q5 : (xs.length - b') * t.sz + b' * t.sz = xs.length * t.sz := by rw [← Nat.add_mul]; congr 1; omega
      have hnl : (F.toList.drop (b' * t.sz)).length = (xs.length - b') * t.sz := by
        rw [List.length_drop, Array.length_toList, hF]; omega
      have hcl : cs.toList.length = cs.size := rfl
      have g1 := toList_setMany (F.toList.drop (b' * t.sz)) (f0 + a * t.sz) cs (by rw [hnl]; omega)
      have g2 := toList_setMany (Builtin.zeroCells z.cells (b' - a)).toList (f0 + (xs.length - (b' - a)) * t.sz) (setMany cs (f0 + a * t.sz) (F.toList.drop (b' * t.sz))) (by rw [hzl, size_setMany]; omega)
      obtain ⟨L', o1, o2, _⟩ := OL.takeN a e7
      have : L' = [] := List.eq_nil_iff_forall_not_mem.2 fun x hx => by have := o2 x hx; cases this
      subst this
      have cutp : ∀ (l : List Value) (m : Nat) (X : List Value), f0 ≤ l.length → (l.take (f0 + m) ++ X).drop f0 = (l.drop f0).take m ++ X := fun l m X h => by
        rw [List.drop_append_of_le_length (by rw [List.length_take]; omega), List.drop_take, Nat.add_sub_cancel_left]
      have c1 : (setMany cs (f0 + a * t.sz) (F.toList.drop (b' * t.sz))).toList.drop f0 = (cs.toList.drop f0).take (a * t.sz) ++ (F.toList.drop (b' * t.sz) ++ cs.toList.drop (f0 + a * t.sz + (F.toList.drop (b' * t.sz)).length)) := by
        rw [g1, List.append_assoc, cutp _ _ _ (by rw [hcl]; exact hf0)]
      have ha : (xs.take a).length = a := by simp; omega
      have p1 : OL t.sz (rowP B.w S t false) (xs.take a) ((cs.toList.drop f0).take (a * t.sz)) [] := OL.pre o1 (by rw [ha, List.take_take, Nat.min_self]) (by rw [ha, List.length_take]; omega)
      have hdl : (xs.drop b').length * t.sz = (xs.length - b') * t.sz := by rw [List.length_drop]
      have p2 : OL t.sz (rowP B.w S t false) (xs.drop b') (F.toList.drop (b' * t.sz)) [] := OL.pre (OL.dropN b' e7) (by rw [hdl, hFl, List.drop_take, List.take_take]; congr 1; omega) (by rw [hdl, hnl]; exact Nat.le_refl _)
      have p3 := OL.append p1 (by rw [ha, List.length_take]; omega) p2
      have p4 : OL t.sz (rowP B.w S t false) (xs.take a ++ xs.drop b') ((setMany (setMany cs (f0 + a * t.sz) (F.toList.drop (b' * t.sz))) (f0 + (xs.length - (b' - a)) * t.sz) (Builtin.zeroCells z.cells (b' - a)).toList).toList.drop f0) [] := by
        refine OL.pre p3 ?_ ?_
        · rw [hl, g2, List.append_assoc, cutp _ _ _ (by rw [Array.length_toList, size_setMany]; exact hf0), c1, ← List.append_assoc, ← List.append_assoc]
          exact take_two (by rw [List.length_append, List.length_take, hnl]; omega)
        · rw [hl, List.length_drop]; refine Nat.le_trans ?_ (Nat.le_of_eq (congrArg (· - f0) ((size_setMany _ _ _).trans (size_setMany _ _ _)).symm)); omega
      exact OL.mapP p4 fun x c l _ hp => flat_rowP ht hp
end Go.Vt
