/-
  What a function hands back, told by the plain machine.
  Conditions: the table of types is right (TyOk).
-/
import Derived.Test.YtlgkjckddpnfnaaGreatDoorXvs
namespace Go.Vt
open Go.RowKit
set_option linter.unusedVariables false
set_option linter.unusedSimpArgs false

section
variable {P : Program} {ρ : Type} {gw : Gw} {w0 : Base gw} {w : World} {S0 : Nat → Prop} {σ : St} {a : Act} {Im : Nat → Prop} {hd : Nat → Value} {bl : Nat → List Nat} {Q : Exit → Act → World → Prop}

/-- The blocks of a result that are handed back as the caller's own; those that may be read alone. -/
def ownL (bl : Nat → List Nat) : RC → CV → List Nat
  | ⟨_, some (d, _)⟩, .own c => bif d then bl c else (bl c).take 1
  | _, _ => []
def ownS (bl : Nat → List Nat) : RC → CV → List Nat
  | ⟨_, some (d, _)⟩, .own c => bif d then [] else (bl c).drop 1
  | _, _ => []
def ownLs (bl : Nat → List Nat) : List RC → List CV → List Nat
  | r :: rs, v :: vs => ownL bl r v ++ ownLs bl rs vs
  | _, _ => []
def ownSs (bl : Nat → List Nat) : List RC → List CV → List Nat
  | r :: rs, v :: vs => ownS bl r v ++ ownSs bl rs vs
  | _, _ => []
def ReadOk (σ : St) (bl : Nat → List Nat) (S : Nat → Prop) : List RC → List CV → Prop
  | r :: rs, v :: vs => (r.own = none → r.t.flat = true ∨ ∀ k ∈ v.owns, IsTr σ k → ∀ b ∈ bl k, S b) ∧ ReadOk σ bl S rs vs
  | _, _ => True

theorem plain_ok (h : SRi w0 S0 σ a w Im hd bl) {S : Nat → Prop} (hI : ∀ b, Im b → S b) {t : Ty} {v : CV} {x : t.den} {u : Value} (hu : CVR w Im hd u v) (hx : σ.cvAs t v = some x) (hr : t.flat = true ∨ ∀ k ∈ v.owns, IsTr σ k → ∀ b ∈ bl k, S b) : VR w S t x [u] := by
  have hrd := cvAs_read h hx hu
  rcases hr with hf | hr
  · exact VR.flat hf hrd
  · refine VR.mono (Same.refl _ _) (fun b hb => ?_) hrd
    rcases hb with hb | ⟨k, hk, hrow, hb⟩
    · exact hI b hb
    · exact hr k hk hrow b hb

theorem retCell_ok (h : SRi w0 S0 σ a w Im hd bl) {S : Nat → Prop} (hI : ∀ b, Im b → S b) {r : RC} {v : CV} {x : r.t.den} {u : Value} (hu : CVR w Im hd u v) (hx : retCell σ r v = some x)
    (hS : ∀ b ∈ ownS bl r v, S b) (hr : r.own = none → r.t.flat = true ∨ ∀ k ∈ v.owns, IsTr σ k → ∀ b ∈ bl k, S b) : RCR w S u (ownL bl r v) r x := by
  obtain ⟨t, o⟩ := r
  cases o with
  | none =>
    have hv := plain_ok h hI (t := t) (x := x) hu (by cases t <;> exact hx) (hr rfl)
    cases t <;> exact ⟨hv, rfl⟩
  | some dn =>
    obtain ⟨d, n⟩ := dn
    cases t with
    | slice t =>
      unfold retCell at hx
      dsimp only at hx
      cases v with
      | dead => cases hx
      | val t' y => cases hx
      | unk => cases hx
      | nil => cases hx; exact ⟨.inl ⟨hu, rfl, rfl⟩, fun _ _ => hu⟩
      | own c =>
        dsimp only at hx
        split at hx
        · rename_i u' xs e m hc
          cases hk : ((!d || e) && (!n || m || !xs.isEmpty)) with
          | false => rw [hk] at hx; cases hx
          | true =>
            rw [hk, cond_true] at hx
            obtain ⟨ee, rfl⟩ := as_some hx
            cases ee
            rw [Bool.and_eq_true] at hk
            have hrow := h.objs c _ hc
            have hu' : u = hd c := hu
            rw [hu']
            refine ⟨?_, fun hn hxs => ?_⟩
            · rcases hrow.1 with ⟨e1, e2, e3⟩ | ⟨b, f0, cap, cs, F, Li, e1, e2, e3, e4, e5, e6⟩
              · refine .inl ⟨e1, e2, ?_⟩
                show (bif d then bl c else (bl c).take 1) = []
                rw [e3]; cases d <;> rfl
              · cases d with
                | true =>
                  have : e = true := by simpa using hk.1
                  subst this
                  exact .inr ⟨b, f0, cap, cs, F, Li, e1, e2, e3, e4, e5, e6⟩
                | false =>
                  refine .inr ⟨b, f0, cap, cs, F, [], e1, e2, e3, e4, ?_, ?_⟩
                  · show (bl c).take 1 = [b]; rw [e5]; rfl
                  · have hLi : ∀ x ∈ Li, S x := fun x hx => hS x (by show x ∈ (bl c).drop 1; rw [e5]; exact hx)
                    cases e with
                    | true => exact OL.nodeep e6 hLi
                    | false =>
                      have : OL t.sz (rowP w S t false) xs (cs.toList.drop f0) Li := e6.mapP fun y c l _ hp => ⟨VR.mono (Same.refl _ _) hI hp.1, hp.2⟩
                      have hnil : ∀ {ys : List t.den} {c : List Value} {L : List Nat}, OL t.sz (rowP w S t false) ys c L → L = [] := by
                        intro ys
                        induction ys with
                        | nil => intro c L h; exact h
                        | cons y ys ih => intro c L h; obtain ⟨L1, L2, rfl, _, hp, h⟩ := h; rw [hp.2, ih h]; rfl
                      have e7 := hnil this
                      rw [e7] at this
                      exact this
            · have hk2 := hk.2
              subst hn
              simp only [Bool.not_true, Bool.false_or, Bool.or_eq_true] at hk2
              rcases hk2 with hm | hm
              · exact hrow.2 hm hxs
              · have hxs' : xs = [] := hxs
                rw [hxs'] at hm; cases hm
        · cases hx
    | int k =>
      have hv := plain_ok h hI (t := .int k) (x := x) hu hx (.inl rfl)
      cases v with
      | own c =>
        exfalso
        have hx' : σ.cvAs (.int k) (.own c) = some x := hx
        unfold St.cvAs at hx'
        dsimp only at hx'
        split at hx'
        · obtain ⟨e, _⟩ := as_some hx'; cases e
        · obtain ⟨e, _⟩ := as_some hx'; cases e
        · cases hx'
      | dead => exact ⟨hv, rfl⟩
      | nil => exact ⟨hv, rfl⟩
      | val _ _ => exact ⟨hv, rfl⟩
      | unk => exact ⟨hv, rfl⟩
    | bool =>
      have hv := plain_ok h hI (t := .bool) (x := x) hu hx (.inl rfl)
      cases v with
      | own c =>
        exfalso
        have hx' : σ.cvAs .bool (.own c) = some x := hx
        unfold St.cvAs at hx'
        dsimp only at hx'
        split at hx'
        · obtain ⟨e, _⟩ := as_some hx'; cases e
        · obtain ⟨e, _⟩ := as_some hx'; cases e
        · cases hx'
      | dead => exact ⟨hv, rfl⟩
      | nil => exact ⟨hv, rfl⟩
      | val _ _ => exact ⟨hv, rfl⟩
      | unk => exact ⟨hv, rfl⟩
    | str =>
      have hv := plain_ok h hI (t := .str) (x := x) hu hx (.inl rfl)
      cases v with
      | own c =>
        exfalso
        have hx' : σ.cvAs .str (.own c) = some x := hx
        unfold St.cvAs at hx'
        dsimp only at hx'
        split at hx'
        · obtain ⟨e, _⟩ := as_some hx'; cases e
        · obtain ⟨e, _⟩ := as_some hx'; cases e
        · cases hx'
      | dead => exact ⟨hv, rfl⟩
      | nil => exact ⟨hv, rfl⟩
      | val _ _ => exact ⟨hv, rfl⟩
      | unk => exact ⟨hv, rfl⟩
    | err =>
      have hv := plain_ok h hI (t := .err) (x := x) hu hx (.inl rfl)
      cases v with
      | own c =>
        exfalso
        have hx' : σ.cvAs .err (.own c) = some x := hx
        unfold St.cvAs at hx'
        dsimp only at hx'
        split at hx'
        · obtain ⟨e, _⟩ := as_some hx'; cases e
        · obtain ⟨e, _⟩ := as_some hx'; cases e
        · cases hx'
      | dead => exact ⟨hv, rfl⟩
      | nil => exact ⟨hv, rfl⟩
      | val _ _ => exact ⟨hv, rfl⟩
      | unk => exact ⟨hv, rfl⟩
    | set => cases hx
    | pair s t =>
      cases v with
      | own c =>
        have hx' : (match obGet σ.ob c with | some (.box l) => implode (.pair s t) l | _ => none) = some x := hx
        cases hc : obGet σ.ob c with
        | none => rw [hc] at hx'; cases hx'
        | some o =>
          rw [hc] at hx'
          cases o with
          | box l =>
            obtain ⟨b, cs, E, e1, e2, e3, e4⟩ := BoxR.of (h.objs c _ hc) (show implode (.pair s t) l = some x from hx')
            have hu' : u = hd c := hu
            refine ⟨b, cs, E, hu'.trans e1, e2, ?_, VR.mono (Same.refl _ _) hI e4⟩
            show (bif d then bl c else (bl c).take 1) = [b]
            rw [e3]; cases d <;> rfl
          | _ => cases hx'
      | _ => cases hx
theorem retCells_ok (h : SRi w0 S0 σ a w Im hd bl) {S : Nat → Prop} (hI : ∀ b, Im b → S b) : ∀ {rs : List RC} {l : List CV} {y : Rden rs} {vs : List Value}, CVs w Im hd vs l → retCells σ rs l = some y →
    (∀ b ∈ ownSs bl rs l, S b) → ReadOk σ bl S rs l → RCs w S vs (ownLs bl rs l) rs y
  | [], [], y, vs, hv, hx, hS, hr => by match vs, hv with | [], _ => rfl
  | [r], [v], y, vs, hv, hx, hS, hr => by
    match vs, hv with
    | [u], hv =>
      have := retCell_ok h hI (r := r) (v := v) (x := y) hv.1 hx (fun b hb => hS b (by simp [ownSs, hb])) hr.1
      show RCR w S u (ownL bl r v ++ []) r y
      rw [List.append_nil]; exact this
  | r :: s :: q, v :: l, y, vs, hv, hx, hS, hr => by
    unfold retCells at hx
    obtain ⟨x1, h1, hx⟩ := Option.bind_eq_some_iff.1 hx
    obtain ⟨x2, h2, hx⟩ := Option.bind_eq_some_iff.1 hx
    cases hx
    match l, vs, hv with
    | v2 :: l, u :: u2 :: us, hv =>
      refine ⟨ownL bl r v, ownLs bl (s :: q) (v2 :: l), rfl, retCell_ok h hI hv.1 h1 (fun b hb => hS b (by simp [ownSs, hb])) hr.1, retCells_ok h hI hv.2 h2 (fun b hb => hS b ?_) hr.2⟩
      show b ∈ ownS bl r v ++ ownSs bl (s :: q) (v2 :: l)
      exact List.mem_append.2 (.inr hb)
    | [], _, _ => simp [retCells] at h2
  | [], _ :: _, _, _, _, hx, _, _ => by simp [retCells] at hx
  | [_], [], _, _, _, hx, _, _ => by simp [retCells] at hx
  | [_], _ :: _ :: _, _, _, _, hx, _, _ => by simp [retCells] at hx
  | _ :: _ :: _, [], _, _, _, hx, _, _ => by simp [retCells] at hx

theorem cellsVal_take {g : Bool} {n : Nat} {us : List Value} (h : us.length = n) (vs : List Value) : cellsVal g ((us ++ vs).take n) = cellsVal g us := by rw [← h, List.take_left]

/-- The values of a function's results. -/
theorem retParts_ok {E : Env} (hE : ∀ T ti, E.ty T = some ti → TyOk P T ti) (h : SRi w0 S0 σ a w Im hd bl) : ∀ {res : List ResultVar} {rs : List (Bool × List RC)} {l : List CV}, retParts E σ res rs = some l →
    ∃ vs, CVs w Im hd vs l ∧ (res.mapM (m := Sem) fun
      | .tmp t => pure (a.tmps.getD t undef)
      | .cell b t => do loadVar t (← asAddr (a.tmps.getD b undef))).run P w = .ok (partVals rs vs) w
  | [], [], l, hr => by
    unfold retParts at hr
    cases hr
    exact ⟨[], trivial, by simp [partVals]⟩
  | .tmp t :: res, (g, rl) :: rs, l, hr => by
    unfold retParts at hr
    split at hr
    · rename_i v w' hs hw
      cases hk : (!g && Nat.beq rl.length 1) with
      | false => rw [hk] at hr; cases hr
      | true =>
        rw [hk, cond_true] at hr
        cases hr
        rw [Bool.and_eq_true] at hk
        have hg : g = false := by simpa using hk.1
        have hl := Nat.eq_of_beq_eq_true hk.2
        subst hg
        obtain ⟨vs, h1, h2⟩ := retParts_ok hE h hw
        have hx := h.ev (.tmp t)
        have e2 : σ.ev (.tmp t) = .cv v := hs
        rw [e2] at hx
        refine ⟨a.tmps.getD t undef :: vs, ⟨hx, h1⟩, ?_⟩
        rw [List.mapM_cons]
        simp only [Sem.run_bind, Sem.run_pure, Result.andThen_ok, h2, partVals, hl]
        rfl
    · rename_i vs' w' hs hw
      cases hk : (g && Nat.beq rl.length vs'.length) with
      | false => rw [hk] at hr; cases hr
      | true =>
        rw [hk, cond_true] at hr
        cases hr
        rw [Bool.and_eq_true] at hk
        have hg : g = true := hk.1
        have hl := Nat.eq_of_beq_eq_true hk.2
        subst hg
        obtain ⟨vs, h1, h2⟩ := retParts_ok hE h hw
        have hx := h.ev (.tmp t)
        have e2 : σ.ev (.tmp t) = .ag vs' := hs
        rw [e2] at hx
        obtain ⟨us, e3, hus⟩ := hx
        have hul := hus.len
        refine ⟨us ++ vs, hus.app h1, ?_⟩
        rw [List.mapM_cons]
        have e4 : a.tmps.getD t undef = .agg us.toArray := e3
        simp only [Sem.run_bind, Sem.run_pure, Result.andThen_ok, h2, partVals, hl, e4]
        rw [← hul, List.take_left, List.drop_left]
        rfl
    · rename_i c w' hs hw
      cases hk : (!g && Nat.beq rl.length 1) with
      | false => rw [hk] at hr; cases hr
      | true =>
        rw [hk, cond_true] at hr
        cases hr
        rw [Bool.and_eq_true] at hk
        have hg : g = false := by simpa using hk.1
        have hl := Nat.eq_of_beq_eq_true hk.2
        subst hg
        obtain ⟨vs, h1, h2⟩ := retParts_ok hE h hw
        have hx := h.ev (.tmp t)
        have e2 : σ.ev (.tmp t) = .adr c 0 := hs
        rw [e2] at hx
        obtain ⟨b, hx1, hx2⟩ := hx
        refine ⟨a.tmps.getD t undef :: vs, ⟨hx2.trans hx1.symm, h1⟩, ?_⟩
        rw [List.mapM_cons]
        simp only [Sem.run_bind, Sem.run_pure, Result.andThen_ok, h2, partVals, hl]
        rfl
    · cases hr
  | .cell b T :: res, (g, rl) :: rs, l, hr => by
    unfold retParts at hr
    split at hr
    · rename_i c o n agg w' hs hT hw
      split at hr
      · rename_i vs' hc
        cases hk : (Nat.beq o 0 && Nat.beq n vs'.length && Nat.beq rl.length n && (agg == g)) with
        | false => rw [hk] at hr; cases hr
        | true =>
          rw [hk, cond_true] at hr
          cases hr
          simp only [Bool.and_eq_true] at hk
          obtain ⟨⟨⟨k1, k2⟩, k3⟩, k4⟩ := hk
          obtain rfl := Nat.eq_of_beq_eq_true k1
          have k2' := Nat.eq_of_beq_eq_true k2
          have k3' := Nat.eq_of_beq_eq_true k3
          obtain rfl : agg = g := by simpa using k4
          obtain ⟨vs, h1, h2⟩ := retParts_ok hE h hw
          have hx := h.ev (.tmp b)
          have e2 : σ.ev (.tmp b) = .adr c 0 := hs
          rw [e2] at hx
          obtain ⟨bb, e3, e4⟩ := hx
          obtain ⟨bb', cs, F, e5, hb, _, hcs⟩ := h.objs c _ hc
          rw [e3] at e5; cases e5
          have hlen := hcs.len
          obtain ⟨⟨i, hi, hsz⟩, hagg, hone⟩ := size_ok hE hT
          have hat : At w bb 0 cs.toList := by
            have := drop_at hb 0 cs.size
            rwa [List.drop_zero, List.take_of_length_le (by simp)] at this
          have hload := run_load_at (P := P) (T := T) hat hi (by rw [hsz, k2', hlen]) hagg (fun e => by rw [hlen, ← k2']; exact hone e)
          have hload' : (loadVar T ⟨bb, 0, none⟩).run P w = .ok (cellsVal agg cs.toList) w := by
            simpa [Instr.loadAt, Instr.sureAddr] using hload
          refine ⟨cs.toList ++ vs, hcs.app h1, ?_⟩
          rw [List.mapM_cons]
          have e6 : a.tmps.getD b undef = .pointer (some ⟨bb, 0, none⟩) := e4
          have hasA : (asAddr (.pointer (some ⟨bb, 0, none⟩))).run P w = .ok ⟨bb, 0, none⟩ w := by simp [asAddr]
          simp only [Sem.run_bind, Sem.run_pure, Result.andThen_ok, e6, hasA, hload', h2, partVals]
          rw [show rl.length = cs.toList.length by omega, List.take_left, List.drop_left]
      · cases hr
    · cases hr
  | [], _ :: _, l, hr => by simp [retParts] at hr
  | .tmp _ :: _, [], l, hr => by simp [retParts] at hr
  | .cell _ _ :: _, [], l, hr => by simp [retParts] at hr

theorem ownLs_mem {bl : Nat → List Nat} : ∀ {rs : List RC} {l : List CV} {b : Nat}, b ∈ ownLs bl rs l → ∃ k ∈ ownRs rs l, b ∈ bl k
  | [], l, b, h => by cases l <;> cases h
  | r :: rs, [], b, h => by cases h
  | ⟨t, none⟩ :: rs, v :: l, b, h => by
    have h' : b ∈ ownLs bl rs l := by
      have : ownL bl ⟨t, none⟩ v = [] := by cases v <;> rfl
      simpa [ownLs, this] using h
    obtain ⟨k, h1, h2⟩ := ownLs_mem h'
    exact ⟨k, h1, h2⟩
  | ⟨t, some (d, n)⟩ :: rs, v :: l, b, h => by
    rcases List.mem_append.1 (show b ∈ ownL bl ⟨t, some (d, n)⟩ v ++ ownLs bl rs l from h) with h | h
    · cases v with
      | own c =>
        refine ⟨c, by simp [ownRs, CV.owns], ?_⟩
        cases d with
        | true => exact h
        | false => exact List.mem_of_mem_take h
      | dead => cases h
      | nil => cases h
      | val _ _ => cases h
      | unk => cases h
    · obtain ⟨k, h1, h2⟩ := ownLs_mem h
      exact ⟨k, by simp [ownRs, h1], h2⟩
theorem ownSs_mem {bl : Nat → List Nat} : ∀ {rs : List RC} {l : List CV} {b : Nat}, b ∈ ownSs bl rs l → ∃ k ∈ ownRs rs l, b ∈ bl k
  | [], l, b, h => by cases l <;> cases h
  | r :: rs, [], b, h => by cases h
  | ⟨t, none⟩ :: rs, v :: l, b, h => by
    have h' : b ∈ ownSs bl rs l := by
      have : ownS bl ⟨t, none⟩ v = [] := by cases v <;> rfl
      simpa [ownSs, this] using h
    obtain ⟨k, h1, h2⟩ := ownSs_mem h'
    exact ⟨k, h1, h2⟩
  | ⟨t, some (d, n)⟩ :: rs, v :: l, b, h => by
    rcases List.mem_append.1 (show b ∈ ownS bl ⟨t, some (d, n)⟩ v ++ ownSs bl rs l from h) with h | h
    · cases v with
      | own c =>
        refine ⟨c, by simp [ownRs, CV.owns], ?_⟩
        cases d with
        | true => cases h
        | false => exact List.mem_of_mem_drop h
      | dead => cases h
      | nil => cases h
      | val _ _ => cases h
      | unk => cases h
    · obtain ⟨k, h1, h2⟩ := ownSs_mem h
      exact ⟨k, by simp [ownRs, h1], h2⟩

end
end Go.Vt
