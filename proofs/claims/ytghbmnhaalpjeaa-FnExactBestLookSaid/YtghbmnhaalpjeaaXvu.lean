/-
  A function's run: what the plain machine says that it gives, it gives.
  Conditions: the table of types is right (TyOk); so is the table of functions (FnOk).
-/
import Derived.Test.YtghbmnhaalpjeaaXvt
namespace Go.Vt
open Go.RowKit
set_option linter.unusedVariables false
set_option linter.unusedSimpArgs false

section
variable {P : Program} {ρ : Type} {w0 w : World} {S0 : Nat → Prop} {σ : St} {a : Act} {Im : Nat → Prop} {hd : Nat → Value} {bl : Nat → List Nat} {Q : Exit → Act → World → Prop}

theorem retCell_row {r : RC} {v : CV} {x : r.t.den} (hx : retCell σ r v = some x) (ho : r.own ≠ none) : ∀ k ∈ v.owns, IsRow σ k := by
  obtain ⟨t, o⟩ := r
  cases o with
  | none => exact (ho rfl).elim
  | some dn =>
    obtain ⟨d, n⟩ := dn
    intro k hk
    cases v with
    | dead => cases hk
    | nil => cases hk
    | val _ _ => cases hk
    | own c =>
      obtain rfl : k = c := by simpa [CV.owns] using hk
      cases t with
      | slice t =>
        unfold retCell at hx
        dsimp only at hx
        split at hx
        · rename_i u xs e m hc; exact ⟨u, xs, e, m, hc⟩
        · cases hx
      | int k' =>
        have hx' : σ.cvAs (.int k') (.own k) = some x := hx
        unfold St.cvAs at hx'; dsimp only at hx'
        split at hx'
        · rename_i u xs e m hc; exact ⟨u, xs, e, m, hc⟩
        · cases hx'
      | bool =>
        have hx' : σ.cvAs .bool (.own k) = some x := hx
        unfold St.cvAs at hx'; dsimp only at hx'
        split at hx'
        · rename_i u xs e m hc; exact ⟨u, xs, e, m, hc⟩
        · cases hx'
      | str =>
        have hx' : σ.cvAs .str (.own k) = some x := hx
        unfold St.cvAs at hx'; dsimp only at hx'
        split at hx'
        · rename_i u xs e m hc; exact ⟨u, xs, e, m, hc⟩
        · cases hx'
      | pair s t =>
        have hx' : σ.cvAs (.pair s t) (.own k) = some x := hx
        unfold St.cvAs at hx'; dsimp only at hx'
        split at hx'
        · rename_i u xs e m hc; exact ⟨u, xs, e, m, hc⟩
        · cases hx'

theorem ownRs_cons (r : RC) (v : CV) (rs : List RC) (l : List CV) : ∀ k ∈ ownRs (r :: rs) (v :: l), (r.own ≠ none ∧ k ∈ v.owns) ∨ k ∈ ownRs rs l := by
  intro k hk
  obtain ⟨t, o⟩ := r
  cases o with
  | none => exact .inr hk
  | some dn =>
    rcases List.mem_append.1 (show k ∈ v.owns ++ ownRs rs l from hk) with h | h
    · exact .inl ⟨by simp, h⟩
    · exact .inr h

theorem retCells_rows : ∀ {rs : List RC} {l : List CV} {y : Rden rs}, retCells σ rs l = some y → ∀ k ∈ ownRs rs l, IsRow σ k
  | [], l, y, hx, k, hk => by cases l <;> cases hk
  | [r], [v], y, hx, k, hk => by
    rcases ownRs_cons r v [] [] k hk with ⟨h1, h2⟩ | h
    · exact retCell_row (x := y) hx h1 k h2
    · cases h
  | r :: s :: q, v :: l, y, hx, k, hk => by
    unfold retCells at hx
    obtain ⟨x1, h1, hx⟩ := Option.bind_eq_some_iff.1 hx
    obtain ⟨x2, h2, hx⟩ := Option.bind_eq_some_iff.1 hx
    rcases ownRs_cons r v _ _ k hk with ⟨g1, g2⟩ | h
    · exact retCell_row h1 g1 k g2
    · exact retCells_rows h2 k h
  | [_], [], _, hx, _, _ => by simp [retCells] at hx
  | [_], _ :: _ :: _, _, hx, _, _ => by simp [retCells] at hx
  | _ :: _ :: _, [], _, hx, _, _ => by simp [retCells] at hx

theorem own_split (h : SRi w0 S0 σ a w Im hd bl) : ∀ {rs : List RC} {l : List CV}, (ownRs rs l).Nodup → (∀ k ∈ ownRs rs l, IsRow σ k) → (ownLs bl rs l).Nodup ∧ ∀ b ∈ ownLs bl rs l, b ∉ ownSs bl rs l
  | [], l, _, _ => by cases l <;> exact ⟨List.nodup_nil, fun b hb => by cases hb⟩
  | _ :: _, [], _, _ => ⟨List.nodup_nil, fun b hb => by cases hb⟩
  | ⟨t, none⟩ :: rs, v :: l, hn, hr => by
    have ih := own_split h (rs := rs) (l := l) hn hr
    have e1 : ownLs bl (⟨t, none⟩ :: rs) (v :: l) = ownLs bl rs l := by
      have : ownL bl ⟨t, none⟩ v = [] := by cases v <;> rfl
      simp [ownLs, this]
    have e2 : ownSs bl (⟨t, none⟩ :: rs) (v :: l) = ownSs bl rs l := by
      have : ownS bl ⟨t, none⟩ v = [] := by cases v <;> rfl
      simp [ownSs, this]
    rw [e1, e2]; exact ih
  | ⟨t, some (d, n)⟩ :: rs, v :: l, hn, hr => by
    have hn' : (v.owns ++ ownRs rs l).Nodup := hn
    rw [List.nodup_append] at hn'
    have ih := own_split h (rs := rs) (l := l) hn'.2.1 (fun k hk => hr k (List.mem_append.2 (.inr hk)))
    cases v with
    | own c =>
      obtain ⟨t', xs, d', n', hg⟩ := hr c (List.mem_append.2 (.inl (by simp [CV.owns])))
      have hbl := (h.own c _ hg).1
      have hapart : ∀ b ∈ bl c, ∀ k ∈ ownRs rs l, b ∉ bl k := by
        intro b hb k hk
        obtain ⟨t2, xs2, d2, n2, hg2⟩ := hr k (List.mem_append.2 (.inr hk))
        have hne : c ≠ k := fun e => hn'.2.2 c (by simp [CV.owns]) k hk e
        exact h.apart c _ k _ hg hg2 hne b hb
      have hL : ∀ b ∈ ownL bl ⟨t, some (d, n)⟩ (.own c), b ∈ bl c := by
        intro b hb
        cases d with
        | true => exact hb
        | false => exact List.mem_of_mem_take hb
      have hS : ∀ b ∈ ownS bl ⟨t, some (d, n)⟩ (.own c), b ∈ bl c := by
        intro b hb
        cases d with
        | true => cases hb
        | false => exact List.mem_of_mem_drop hb
      have hLn : (ownL bl ⟨t, some (d, n)⟩ (.own c)).Nodup := by
        cases d with
        | true => exact hbl
        | false => exact hbl.sublist (List.take_sublist _ _)
      have hLS : ∀ b ∈ ownL bl ⟨t, some (d, n)⟩ (.own c), b ∉ ownS bl ⟨t, some (d, n)⟩ (.own c) := by
        intro b hb hb2
        cases d with
        | true => cases hb2
        | false =>
          have h1 : b ∈ (bl c).take 1 := hb
          have h2 : b ∈ (bl c).drop 1 := hb2
          have h3 := hbl
          rw [← List.take_append_drop 1 (bl c), List.nodup_append] at h3
          exact h3.2.2 b h1 b h2 rfl
      refine ⟨?_, fun b hb hb2 => ?_⟩
      · show (ownL bl _ _ ++ ownLs bl rs l).Nodup
        rw [List.nodup_append]
        refine ⟨hLn, ih.1, fun b hb b' hb' e => ?_⟩
        subst e
        obtain ⟨k, hk, hbk⟩ := ownLs_mem hb'
        exact hapart b (hL b hb) k hk hbk
      · rcases List.mem_append.1 (show b ∈ ownL bl _ _ ++ ownLs bl rs l from hb) with h1 | h1 <;> rcases List.mem_append.1 (show b ∈ ownS bl _ _ ++ ownSs bl rs l from hb2) with h2 | h2
        · exact hLS b h1 h2
        · obtain ⟨k, hk, hbk⟩ := ownSs_mem h2; exact hapart b (hL b h1) k hk hbk
        · obtain ⟨k, hk, hbk⟩ := ownLs_mem h1; exact hapart b (hS b h2) k hk hbk
        · exact ih.2 b h1 h2
    | dead => exact ⟨by simpa [ownLs, ownL] using ih.1, fun b hb hb2 => ih.2 b (by simpa [ownLs, ownL] using hb) (by simpa [ownSs, ownS] using hb2)⟩
    | nil => exact ⟨by simpa [ownLs, ownL] using ih.1, fun b hb hb2 => ih.2 b (by simpa [ownLs, ownL] using hb) (by simpa [ownSs, ownS] using hb2)⟩
    | val _ _ => exact ⟨by simpa [ownLs, ownL] using ih.1, fun b hb hb2 => ih.2 b (by simpa [ownLs, ownL] using hb) (by simpa [ownSs, ownS] using hb2)⟩

theorem ReadOk.of {S : Nat → Prop} : ∀ {rs : List RC} {l : List CV}, (allOwnB rs = true ∨ ∀ k, IsRow σ k → ∀ b ∈ bl k, S b) → ReadOk σ bl S rs l
  | [], l, _ => by cases l <;> trivial
  | _ :: _, [], _ => trivial
  | r :: rs, v :: l, h => by
    refine ⟨fun hn => ?_, ReadOk.of (h.imp_left fun h => ?_)⟩
    · rcases h with h | h
      · unfold allOwnB at h
        rw [List.all_cons, Bool.and_eq_true] at h
        exact .inl (by simpa [hn] using h.1)
      · exact .inr fun k _ hk => h k hk
    · unfold allOwnB at h ⊢
      rw [List.all_cons, Bool.and_eq_true] at h
      exact h.2

theorem oneVal_eq (vs : List Value) : (if h : vs.toArray.size = 1 then vs.toArray[0] else .tuple vs.toArray) = oneVal vs := by
  match vs with
  | [] => rfl
  | [v] => rfl
  | _ :: _ :: _ => rfl

theorem aRet_ok {E : Env} (hE : ∀ T ti, E.ty T = some ti → TyOk P T ti) (h : SRi w0 S0 σ a w Im hd bl) {fn : Func} {res : List ResultVar} (hres : fn.results.toList = res) {rs : List (Bool × List RC)} {y : Rden (flatRs rs)} (hr : aRet E res rs σ = some y) :
    ∃ v, (results fn a.tmps).run P w = .ok v w ∧ ResR w0 w S0 rs y v := by
  unfold aRet at hr
  split at hr
  · rename_i l hp
    cases hk : (nodupB (ownRs (flatRs rs) l) && (allOwnB (flatRs rs) || (ownRs (flatRs rs) l).isEmpty)) with
    | false => rw [hk] at hr; cases hr
    | true =>
      rw [hk, cond_true] at hr
      rw [Bool.and_eq_true, Bool.or_eq_true] at hk
      have hnd := nodupB_iff.1 hk.1
      obtain ⟨vs, h1, h2⟩ := retParts_ok hE h hp
      have hrows := retCells_rows hr
      have hsp := own_split h hnd hrows
      have hb : ∀ b ∈ ownLs bl (flatRs rs) l, w0.heap.size ≤ b ∧ b < w.heap.size ∧ ¬ Im b := fun b hb => by
        obtain ⟨k, hk, hbk⟩ := ownLs_mem hb
        obtain ⟨t, xs, d, n, hg⟩ := hrows k hk
        exact (h.own k _ hg).2 b hbk
      refine ⟨_, ?_, fun b => Im b ∨ b ∈ ownSs bl (flatRs rs) l ∨ (allOwnB (flatRs rs) = false ∧ ∃ k, IsRow σ k ∧ b ∈ bl k), vs, ownLs bl (flatRs rs) l, rfl, fun b hb => .inl (h.sub b hb), fun b hb => ?_, hsp.1, fun b hb' => ⟨(hb b hb').1, (hb b hb').2.1, fun hS => ?_⟩,
        retCells_ok h (fun b hb => .inl hb) h1 hr (fun b hb => .inr (.inl hb)) (ReadOk.of ?_)⟩
      · unfold results
        rw [Array.mapM_eq_mapM_toList, hres]
        have h2' : (List.mapM (m := Sem) (fun
          | .tmp t => pure (a.tmps.getD t undef)
          | .cell b t => do loadVar t (← asAddr (a.tmps.getD b undef))) res).run P w = .ok (partVals rs vs) w := h2
        simp only [Sem.run_bind, Sem.run_map, Sem.run_pure]
        rw [← oneVal_eq]
        exact congrArg (fun r : Result (List Value) => Result.andThen (Result.andThen r (fun a w' => Result.ok a.toArray w')) (fun a w' => Result.ok (if h : a.size = 1 then a[0] else Value.tuple a) w')) h2'
      · rcases hb with hb | hb | ⟨_, k, ⟨t, xs, d, n, hg⟩, hb⟩
        · exact (h.new b hb).imp_right fun h1 => ⟨h1, h.lt b hb⟩
        · obtain ⟨k, hk, hbk⟩ := ownSs_mem hb
          obtain ⟨t, xs, d, n, hg⟩ := hrows k hk
          have := (h.own k _ hg).2 b hbk
          exact .inr ⟨this.1, this.2.1⟩
        · have := (h.own k _ hg).2 b hb
          exact .inr ⟨this.1, this.2.1⟩
      · rcases hS with hS | hS | ⟨hS, _⟩
        · exact (hb b hb').2.2 hS
        · exact hsp.2 b hb' hS
        · rcases hk.2 with h3 | h3
          · rw [h3] at hS; cases hS
          · have h3' : ownRs (flatRs rs) l = [] := by simpa using h3
            obtain ⟨k, hk', _⟩ := ownLs_mem hb'
            rw [h3'] at hk'; cases hk'
      · cases hall : allOwnB (flatRs rs) with
        | true => exact .inl rfl
        | false => exact .inr fun k hk b hb => .inr (.inr ⟨rfl, k, hk, hb⟩)
  · cases hr

end
end Go.Vt
