/-
  A function's run: what the plain machine says that it gives, it gives.
  Conditions: the table of types is right (TyOk); so is the table of functions (FnOk).
-/
import Derived.Test.YtlgkjckddpnfnaaGreatDoorXvt
namespace Go.Vt
open Go.RowKit
set_option linter.unusedVariables false
set_option linter.unusedSimpArgs false

section
variable {P : Program} {ρ : Type} {gw : Gw} {w0 : Base gw} {w : World} {S0 : Nat → Prop} {σ : St} {a : Act} {Im : Nat → Prop} {hd : Nat → Value} {bl : Nat → List Nat} {Q : Exit → Act → World → Prop}

/-- It is there. -/
def IsEx (σ : St) (k : Nat) : Prop := ∃ o, obGet σ.ob k = some o
theorem retCell_row {r : RC} {v : CV} {x : r.t.den} (hx : retCell σ r v = some x) (ho : r.own ≠ none) : ∀ k ∈ v.owns, IsOb σ k := by
  obtain ⟨t, o⟩ := r
  cases o with
  | none => exact (ho rfl).elim
  | some dn =>
    obtain ⟨d, n⟩ := dn
    intro k hk
    cases v with
    | dead => cases hk
    | nil => cases hk
    | val _ _ => cases hk
    | unk => cases hk
    | own c =>
      obtain rfl : k = c := by simpa [CV.owns] using hk
      cases t with
      | slice t =>
        unfold retCell at hx
        dsimp only at hx
        split at hx
        · rename_i u xs e m hc; exact .inl ⟨u, xs, e, m, hc⟩
        · cases hx
      | int k' =>
        have hx' : σ.cvAs (.int k') (.own k) = some x := hx
        unfold St.cvAs at hx'; dsimp only at hx'
        split at hx'
        · rename_i u xs e m hc; exact .inl ⟨u, xs, e, m, hc⟩
        · obtain ⟨e, _⟩ := as_some hx'; cases e
        · cases hx'
      | bool =>
        have hx' : σ.cvAs .bool (.own k) = some x := hx
        unfold St.cvAs at hx'; dsimp only at hx'
        split at hx'
        · rename_i u xs e m hc; exact .inl ⟨u, xs, e, m, hc⟩
        · obtain ⟨e, _⟩ := as_some hx'; cases e
        · cases hx'
      | str =>
        have hx' : σ.cvAs .str (.own k) = some x := hx
        unfold St.cvAs at hx'; dsimp only at hx'
        split at hx'
        · rename_i u xs e m hc; exact .inl ⟨u, xs, e, m, hc⟩
        · obtain ⟨e, _⟩ := as_some hx'; cases e
        · cases hx'
      | err =>
        have hx' : σ.cvAs .err (.own k) = some x := hx
        unfold St.cvAs at hx'; dsimp only at hx'
        split at hx'
        · rename_i u xs e m hc; exact .inl ⟨u, xs, e, m, hc⟩
        · obtain ⟨e, _⟩ := as_some hx'; cases e
        · cases hx'
      | set => cases hx
      | pair s t =>
        have hx' : (match obGet σ.ob k with | some (.box l) => implode (.pair s t) l | _ => none) = some x := hx
        cases hc : obGet σ.ob k with
        | none => rw [hc] at hx'; cases hx'
        | some o =>
          rw [hc] at hx'
          cases o with
          | box l => exact .inr ⟨l, hc⟩
          | _ => cases hx'

theorem ownRs_cons (r : RC) (v : CV) (rs : List RC) (l : List CV) : ∀ k ∈ ownRs (r :: rs) (v :: l), (r.own ≠ none ∧ k ∈ v.owns) ∨ k ∈ ownRs rs l := by
  intro k hk
  obtain ⟨t, o⟩ := r
  cases o with
  | none => exact .inr hk
  | some dn =>
    rcases List.mem_append.1 (show k ∈ v.owns ++ ownRs rs l from hk) with h | h
    · exact .inl ⟨by simp, h⟩
    · exact .inr h

theorem retCells_rows : ∀ {rs : List RC} {l : List CV} {y : Rden rs}, retCells σ rs l = some y → ∀ k ∈ ownRs rs l, IsOb σ k
  | [], l, y, hx, k, hk => by cases l <;> cases hk
  | [r], [v], y, hx, k, hk => by
    rcases ownRs_cons r v [] [] k hk with ⟨h1, h2⟩ | h
    · exact retCell_row (x := y) hx h1 k h2
    · cases h
  | r :: s :: q, v :: l, y, hx, k, hk => by
    unfold retCells at hx
    obtain ⟨x1, h1, hx⟩ := Option.bind_eq_some_iff.1 hx
    obtain ⟨x2, h2, hx⟩ := Option.bind_eq_some_iff.1 hx
    rcases ownRs_cons r v _ _ k hk with ⟨g1, g2⟩ | h
    · exact retCell_row h1 g1 k g2
    · exact retCells_rows h2 k h
  | [_], [], _, hx, _, _ => by simp [retCells] at hx
  | [_], _ :: _ :: _, _, hx, _, _ => by simp [retCells] at hx
  | _ :: _ :: _, [], _, hx, _, _ => by simp [retCells] at hx

theorem own_split (h : SRi w0 S0 σ a w Im hd bl) : ∀ {rs : List RC} {l : List CV}, (ownRs rs l).Nodup → (∀ k ∈ ownRs rs l, IsOb σ k) → (ownLs bl rs l).Nodup ∧ ∀ b ∈ ownLs bl rs l, b ∉ ownSs bl rs l
  | [], l, _, _ => by cases l <;> exact ⟨List.nodup_nil, fun b hb => by cases hb⟩
  | _ :: _, [], _, _ => ⟨List.nodup_nil, fun b hb => by cases hb⟩
  | ⟨t, none⟩ :: rs, v :: l, hn, hr => by
    have ih := own_split h (rs := rs) (l := l) hn hr
    have e1 : ownLs bl (⟨t, none⟩ :: rs) (v :: l) = ownLs bl rs l := by
      have : ownL bl ⟨t, none⟩ v = [] := by cases v <;> rfl
      simp [ownLs, this]
    have e2 : ownSs bl (⟨t, none⟩ :: rs) (v :: l) = ownSs bl rs l := by
      have : ownS bl ⟨t, none⟩ v = [] := by cases v <;> rfl
      simp [ownSs, this]
    rw [e1, e2]; exact ih
  | ⟨t, some (d, n)⟩ :: rs, v :: l, hn, hr => by
    have hn' : (v.owns ++ ownRs rs l).Nodup := hn
    rw [List.nodup_append] at hn'
    have ih := own_split h (rs := rs) (l := l) hn'.2.1 (fun k hk => hr k (List.mem_append.2 (.inr hk)))
    cases v with
    | own c =>
      obtain ⟨o', hg⟩ := (hr c (List.mem_append.2 (.inl (by simp [CV.owns])))).some
      have hbl := (h.own c _ hg).1
      have hapart : ∀ b ∈ bl c, ∀ k ∈ ownRs rs l, b ∉ bl k := by
        intro b hb k hk
        obtain ⟨o2, hg2⟩ := (hr k (List.mem_append.2 (.inr hk))).some
        have hne : c ≠ k := fun e => hn'.2.2 c (by simp [CV.owns]) k hk e
        exact h.apart c _ k _ hg hg2 hne b hb
      have hL : ∀ b ∈ ownL bl ⟨t, some (d, n)⟩ (.own c), b ∈ bl c := by
        intro b hb
        cases d with
        | true => exact hb
        | false => exact List.mem_of_mem_take hb
      have hS : ∀ b ∈ ownS bl ⟨t, some (d, n)⟩ (.own c), b ∈ bl c := by
        intro b hb
        cases d with
        | true => cases hb
        | false => exact List.mem_of_mem_drop hb
      have hLn : (ownL bl ⟨t, some (d, n)⟩ (.own c)).Nodup := by
        cases d with
        | true => exact hbl
        | false => exact hbl.sublist (List.take_sublist _ _)
      have hLS : ∀ b ∈ ownL bl ⟨t, some (d, n)⟩ (.own c), b ∉ ownS bl ⟨t, some (d, n)⟩ (.own c) := by
        intro b hb hb2
        cases d with
        | true => cases hb2
        | false =>
          have h1 : b ∈ (bl c).take 1 := hb
          have h2 : b ∈ (bl c).drop 1 := hb2
          have h3 := hbl
          rw [← List.take_append_drop 1 (bl c), List.nodup_append] at h3
          exact h3.2.2 b h1 b h2 rfl
      refine ⟨?_, fun b hb hb2 => ?_⟩
      · show (ownL bl _ _ ++ ownLs bl rs l).Nodup
        rw [List.nodup_append]
        refine ⟨hLn, ih.1, fun b hb b' hb' e => ?_⟩
        subst e
        obtain ⟨k, hk, hbk⟩ := ownLs_mem hb'
        exact hapart b (hL b hb) k hk hbk
      · rcases List.mem_append.1 (show b ∈ ownL bl _ _ ++ ownLs bl rs l from hb) with h1 | h1 <;> rcases List.mem_append.1 (show b ∈ ownS bl _ _ ++ ownSs bl rs l from hb2) with h2 | h2
        · exact hLS b h1 h2
        · obtain ⟨k, hk, hbk⟩ := ownSs_mem h2; exact hapart b (hL b h1) k hk hbk
        · obtain ⟨k, hk, hbk⟩ := ownLs_mem h1; exact hapart b (hS b h2) k hk hbk
        · exact ih.2 b h1 h2
    | dead => exact ⟨by simpa [ownLs, ownL] using ih.1, fun b hb hb2 => ih.2 b (by simpa [ownLs, ownL] using hb) (by simpa [ownSs, ownS] using hb2)⟩
    | nil => exact ⟨by simpa [ownLs, ownL] using ih.1, fun b hb hb2 => ih.2 b (by simpa [ownLs, ownL] using hb) (by simpa [ownSs, ownS] using hb2)⟩
    | val _ _ => exact ⟨by simpa [ownLs, ownL] using ih.1, fun b hb hb2 => ih.2 b (by simpa [ownLs, ownL] using hb) (by simpa [ownSs, ownS] using hb2)⟩
    | unk => exact ⟨by simpa [ownLs, ownL] using ih.1, fun b hb hb2 => ih.2 b (by simpa [ownLs, ownL] using hb) (by simpa [ownSs, ownS] using hb2)⟩

theorem ReadOk.of {S : Nat → Prop} {K : Nat → Prop} : ∀ {rs : List RC} {l : List CV}, (∀ v ∈ l, ∀ k ∈ v.owns, K k) → (allOwnB rs = true ∨ ∀ k, K k → IsTr σ k → ∀ b ∈ bl k, S b) → ReadOk σ bl S rs l
  | [], l, _, _ => by cases l <;> trivial
  | _ :: _, [], _, _ => trivial
  | r :: rs, v :: l, hK, h => by
    refine ⟨fun hn => ?_, ReadOk.of (fun v hv => hK v (by simp [hv])) (h.imp_left fun h => ?_)⟩
    · rcases h with h | h
      · unfold allOwnB at h
        rw [List.all_cons, Bool.and_eq_true] at h
        exact .inl (by simpa [hn] using h.1)
      · exact .inr fun k hm hk => h k (hK v (by simp) k hm) hk
    · unfold allOwnB at h ⊢
      rw [List.all_cons, Bool.and_eq_true] at h
      exact h.2

theorem oneVal_eq (vs : List Value) : (if h : vs.toArray.size = 1 then vs.toArray[0] else .tuple vs.toArray) = oneVal vs := by
  match vs with
  | [] => rfl
  | [v] => rfl
  | _ :: _ :: _ => rfl

/-- What a function hands back; the objects under other numbers than K's stay aside. -/
theorem aRet_core {E : Env} (hE : ∀ T ti, E.ty T = some ti → TyOk P T ti) (h : SRi w0 S0 σ a w Im hd bl) {fn : Func} {res : List ResultVar} (hres : fn.results.toList = res) {rs : List (Bool × List RC)} {y : Rden (flatRs rs)} (hr : aRet E res rs σ = some y) (K : Nat → Prop)
    (hK : ∀ l, retParts E σ res rs = some l → ∀ v ∈ l, ∀ k ∈ v.owns, K k) :
    ∃ (S' : Nat → Prop) (vs : List Value) (L : List Nat), (results fn a.tmps).run P w = .ok (oneVal (partVals rs vs)) w ∧ (∀ b, S0 b → S' b) ∧ (∀ b, Im b → S' b) ∧ (∀ b, S' b → Im b ∨ ∃ k, K k ∧ IsEx σ k ∧ b ∈ bl k) ∧ L.Nodup ∧
      (∀ b ∈ L, (∃ k, K k ∧ IsOb σ k ∧ b ∈ bl k) ∧ ¬ S' b) ∧ RCs w S' vs L (flatRs rs) y := by
  unfold aRet at hr
  split at hr
  · rename_i l hp
    cases hk : (nodupB (ownRs (flatRs rs) l) && (allOwnB (flatRs rs) || (ownRs (flatRs rs) l).isEmpty)) with
    | false => rw [hk] at hr; cases hr
    | true =>
      rw [hk, cond_true] at hr
      rw [Bool.and_eq_true, Bool.or_eq_true] at hk
      have hnd := nodupB_iff.1 hk.1
      obtain ⟨vs, h1, h2⟩ := retParts_ok hE h hp
      have hrows := retCells_rows hr
      have hsp := own_split h hnd hrows
      have hKl := hK l hp
      have hKo : ∀ (rs : List RC) (l : List CV), (∀ v ∈ l, ∀ k ∈ v.owns, K k) → ∀ k ∈ ownRs rs l, K k := by
        intro rs
        induction rs with
        | nil => intro l _ k hk; cases l <;> cases hk
        | cons r rs ih =>
          intro l hl k hk
          cases l with
          | nil =>
            have : ownRs (r :: rs) [] = [] := by obtain ⟨t, o⟩ := r; cases o <;> rfl
            rw [this] at hk; cases hk
          | cons v l =>
            obtain ⟨t, o⟩ := r
            cases o with
            | none => exact ih l (fun v hv => hl v (by simp [hv])) k hk
            | some dn =>
              rcases List.mem_append.1 (show k ∈ v.owns ++ ownRs rs l from hk) with hk | hk
              · exact hl v (by simp) k hk
              · exact ih l (fun v hv => hl v (by simp [hv])) k hk
      have hKr := hKo (flatRs rs) l hKl
      refine ⟨fun b => Im b ∨ b ∈ ownSs bl (flatRs rs) l ∨ (allOwnB (flatRs rs) = false ∧ ∃ k, K k ∧ IsEx σ k ∧ b ∈ bl k), vs, ownLs bl (flatRs rs) l, ?_, fun b hb => .inl (h.sub b hb), fun b hb => .inl hb, fun b hb => ?_, hsp.1, fun b hb' => ⟨?_, fun hS => ?_⟩,
        retCells_ok h (fun b hb => .inl hb) h1 hr (fun b hb => .inr (.inl hb)) (ReadOk.of hKl ?_)⟩
      · unfold results
        rw [Array.mapM_eq_mapM_toList, hres]
        have h2' : (List.mapM (m := Sem) (fun
          | .tmp t => pure (a.tmps.getD t undef)
          | .cell b t => do loadVar t (← asAddr (a.tmps.getD b undef))) res).run P w = .ok (partVals rs vs) w := h2
        simp only [Sem.run_bind, Sem.run_map, Sem.run_pure]
        rw [← oneVal_eq]
        exact congrArg (fun r : Result (List Value) => Result.andThen (Result.andThen r (fun a w' => Result.ok a.toArray w')) (fun a w' => Result.ok (if h : a.size = 1 then a[0] else Value.tuple a) w')) h2'
      · rcases hb with hb | hb | ⟨_, hb⟩
        · exact .inl hb
        · obtain ⟨k, hk, hbk⟩ := ownSs_mem hb
          exact .inr ⟨k, hKr k hk, (hrows k hk).some, hbk⟩
        · exact .inr hb
      · obtain ⟨k, hk, hbk⟩ := ownLs_mem hb'
        exact ⟨k, hKr k hk, hrows k hk, hbk⟩
      · obtain ⟨k, hk0, hbk⟩ := ownLs_mem hb'
        obtain ⟨o0, hg⟩ := (hrows k hk0).some
        rcases hS with hS | hS | ⟨hS, _⟩
        · exact ((h.own k _ hg).2 b hbk).2.2 hS
        · exact hsp.2 b hb' hS
        · rcases hk.2 with h3 | h3
          · rw [h3] at hS; cases hS
          · have h3' : ownRs (flatRs rs) l = [] := by simpa using h3
            rw [h3'] at hk0; cases hk0
      · cases hall : allOwnB (flatRs rs) with
        | true => exact .inl rfl
        | false => exact .inr fun k hk ⟨o, hg, _⟩ b hb => .inr (.inr ⟨rfl, k, hk, ⟨o, hg⟩, hb⟩)
  · cases hr

def kFrom : Nat → Nat → List Nat
  | _, 0 => [] | n, m + 1 => (500000 + n) :: kFrom (n + 1) m
theorem kFrom_ge : ∀ {m n k : Nat}, k ∈ kFrom n m → 500000 + n ≤ k
  | 0, n, k, h => by cases h
  | m + 1, n, k, h => by
    rcases List.mem_cons.1 h with rfl | h
    · exact Nat.le_refl _
    · have := kFrom_ge h; omega
theorem kFrom_nodup : ∀ (m n : Nat), (kFrom n m).Nodup
  | 0, n => List.nodup_nil
  | m + 1, n => List.nodup_cons.2 ⟨fun h => by have := kFrom_ge h; omega, kFrom_nodup m (n + 1)⟩
theorem ioOut1_ok (h : SRi w0 S0 σ a w Im hd bl) {S' : Nat → Prop} (hS : ∀ b, Im b → S' b) {n : Nat} {c : RC} {x : c.t.den} (hx : ioOut1 σ n c = some x) : IsOb σ (500000 + n) ∧ ∀ v, v = hd (500000 + n) → IoRC c → RCR w S' v (bl (500000 + n)) c x := by
  obtain ⟨ct, co⟩ := c
  cases ct with
  | int _ => cases hx
  | bool => cases hx
  | str => cases hx
  | set => cases hx
  | err => cases hx
  | pair s t =>
    cases co with
    | none => cases hx
    | some dn =>
      have hx' : (match obGet σ.ob (500000 + n) with | some (.box l) => implode (.pair s t) l | _ => none) = some x := hx
      cases hc : obGet σ.ob (500000 + n) with
      | none => rw [hc] at hx'; cases hx'
      | some o =>
        rw [hc] at hx'
        cases o with
        | box l =>
          refine ⟨.inr ⟨l, hc⟩, fun v hv _ => ?_⟩
          rw [hv]
          exact BoxR.mono hS (BoxR.of (h.objs _ _ hc) (show implode (.pair s t) l = some x from hx'))
        | _ => cases hx'
  | slice t =>
    cases co with
    | none => cases hx
    | some dn =>
      obtain ⟨d, n0⟩ := dn
      unfold ioOut1 at hx
      dsimp only at hx
      split at hx
      · rename_i u xs e m hc
        cases hk : (t.flat || (bif d then e else !e)) with
        | false => rw [hk] at hx; cases hx
        | true =>
          rw [hk] at hx
          obtain ⟨ee, rfl⟩ := as_some (show (Ty.slice u).as (.slice t) xs = some x from hx)
          cases ee
          refine ⟨.inl ⟨_, _, _, _, hc⟩, fun v hv hn0 => ?_⟩
          have e1 : n0 = false := by cases n0 <;> first | rfl | exact hn0.elim
          subst e1
          rw [hv]
          have ho := (h.objs _ _ hc).1
          refine ⟨?_, fun e => by cases e⟩
          rcases ho with h1 | ⟨b, f0, cap, cs, F, Li, e1, e2, e3, e4, e5, e6⟩
          · exact .inl h1
          · refine .inr ⟨b, f0, cap, cs, F, Li, e1, e2, e3, e4, e5, ?_⟩
            cases hf : t.flat with
            | true => exact e6.mapP fun y c l _ hp => flat_rowP hf hp
            | false =>
              rw [hf, Bool.false_or] at hk
              have e6' : OL t.sz (rowP w S' t e) xs (cs.toList.drop f0) Li := e6.mapP fun y c l hl hp => rowP.tell (Same.refl _ _) hS (fun _ _ => rfl) hp
              cases d <;> cases e <;> first | exact e6' | cases hk
      · cases hx
theorem ioOut_ok (h : SRi w0 S0 σ a w Im hd bl) {S' : Nat → Prop} (hS : ∀ b, Im b → S' b) : ∀ {ios : List RC} {n : Nat} {z : Rden ios} {H : List Value}, ioOut σ n ios = some z → (∀ c ∈ ios, IoRC c) → H.length = ios.length → (∀ j v, H[j]? = some v → hd (500000 + n + j) = v) →
    (∀ k ∈ kFrom n ios.length, IsOb σ k) ∧ RCs w S' H ((kFrom n ios.length).flatMap bl) ios z
  | [], n, z, H, _, _, hl, _ => by
    have : H = [] := by simpa using hl
    subst this
    exact ⟨(fun k hk => by cases hk), rfl⟩
  | [c], n, z, H, hz, hio, hl, hH => by
    match H, hl with
    | [v], _ =>
      obtain ⟨k1, k2⟩ := ioOut1_ok h hS (show ioOut1 σ n c = some z from hz)
      refine ⟨fun k hk => by have : k = 500000 + n := by simpa [kFrom] using hk
                             subst this; exact k1, ?_⟩
      have hc := hio c (by simp)
      have hv : v = hd (500000 + n) := by have := hH 0 v rfl; simpa using this.symm
      have := k2 v hv hc
      show RCR w S' v ((kFrom n 1).flatMap bl) c z
      have e3 : (kFrom n 1).flatMap bl = bl (500000 + n) := by simp [kFrom]
      rw [e3]; exact this
  | c :: d :: r, n, z, H, hz, hio, hl, hH => by
    match H, hl with
    | v :: u :: us, hl =>
      obtain ⟨x1, h1, hz⟩ := Option.bind_eq_some_iff.1 (show ((ioOut1 σ n c).bind fun x => (ioOut σ (n + 1) (d :: r)).bind fun y => some (x, y)) = some z from hz)
      obtain ⟨x2, h2, hz⟩ := Option.bind_eq_some_iff.1 hz
      cases hz
      obtain ⟨k1, k2⟩ := ioOut1_ok h hS h1
      obtain ⟨j1, j2⟩ := ioOut_ok h hS (ios := d :: r) (n := n + 1) (H := u :: us) h2 (fun c hc => hio c (by simp [hc])) (by simpa using hl) (fun j v hj => by have := hH (j + 1) v (by simpa using hj); rw [← this]; congr 1; omega)
      have hc := hio c (by simp)
      have hv : v = hd (500000 + n) := by have := hH 0 v rfl; simpa using this.symm
      refine ⟨fun k hk => ?_, bl (500000 + n), (kFrom (n + 1) (d :: r).length).flatMap bl, by simp [kFrom], k2 v hv hc, j2⟩
      rcases List.mem_cons.1 (show k ∈ (500000 + n) :: kFrom (n + 1) (d :: r).length from hk) with rfl | hk
      · exact k1
      · exact j1 k hk
theorem rows_nodup (h : SRi w0 S0 σ a w Im hd bl) : ∀ (l : List Nat), l.Nodup → (∀ k ∈ l, IsOb σ k) → (l.flatMap bl).Nodup := by
  intro l
  induction l with
  | nil => intro _ _; simp
  | cons k l ih =>
    intro hl hr
    rw [List.nodup_cons] at hl
    rw [List.flatMap_cons, List.nodup_append]
    obtain ⟨o0, hg⟩ := (hr k (by simp)).some
    refine ⟨(h.own k _ hg).1, ih hl.2 (fun k' hk' => hr k' (by simp [hk'])), fun b hb b' hb' e => ?_⟩
    subst e
    obtain ⟨k', hk', hb'⟩ := List.mem_flatMap.1 hb'
    obtain ⟨o', hg'⟩ := (hr k' (by simp [hk'])).some
    exact h.apart k _ k' _ hg hg' (fun e => hl.1 (e ▸ hk')) b hb hb'

theorem aRetI_ok {E : Env} (hE : ∀ T ti, E.ty T = some ti → TyOk P T ti) (h : SRi w0 S0 σ a w Im hd bl) {fn : Func} {res : List ResultVar} (hres : fn.results.toList = res) {rs : List (Bool × List RC)} {ios : List RC} (hio : ∀ c ∈ ios, IoRC c) (hl : w0.hs.length = ios.length) {y : Oden (flatRs rs) ios} (hr : aRetI E res rs σ ios = some y) :
    ∃ v, (results fn a.tmps).run P w = .ok v w ∧ ResR w0 w S0 rs ios w0.hs y v := by
  cases ios with
  | nil =>
    obtain ⟨S', vs, L, h1, h2, h3, h4, h5, h6, h7⟩ := aRet_core hE h hres hr (fun _ => True) (fun _ _ _ _ _ _ => trivial)
    have hh : w0.hs = [] := by simpa using hl
    refine ⟨_, h1, S', vs, L, [], rfl, h2, fun b hb => ?_, by simpa using h5, fun b hb => ?_, h7, by rw [hh]; rfl⟩
    · rcases h4 b hb with h8 | ⟨k, _, ⟨o, hg⟩, hb⟩
      · exact (h.new b h8).imp_right fun h9 => ⟨h9, h.lt b h8⟩
      · have := (h.own k _ hg).2 b hb; exact .inr ⟨this.1, this.2.1⟩
    · have hb' : b ∈ L := by simpa using hb
      obtain ⟨⟨k, _, hob, hbk⟩, hn⟩ := h6 b hb'
      obtain ⟨o, hg⟩ := hob.some
      have := (h.own k _ hg).2 b hbk
      exact ⟨this.1, this.2.1, hn⟩
  | cons i r =>
    have hr2 : (match retParts E σ res rs with
      | some w => chk (lowB w) ((aRet E res rs σ).bind fun y => (ioOut σ 0 (i :: r)).bind fun z => some (y, z))
      | none => none) = some y := hr
    clear hr
    have hr := hr2
    clear hr2
    split at hr
    · rename_i l hp
      obtain ⟨hlow, hr⟩ := chk_some hr
      obtain ⟨y1, hy1, hr⟩ := Option.bind_eq_some_iff.1 hr
      obtain ⟨z, hz, hr⟩ := Option.bind_eq_some_iff.1 hr
      cases hr
      obtain ⟨S', vs, L, h1, h2, h3, h4, h5, h6, h7⟩ := aRet_core hE h hres hy1 (fun k => k < 500000) (fun l' hl' v hv k hk => by
        rw [hp] at hl'; cases hl'
        have := List.all_eq_true.1 (List.all_eq_true.1 hlow v hv) k hk
        exact blt_lt this)
      obtain ⟨j1, j2⟩ := ioOut_ok h h3 (n := 0) (H := w0.hs) hz hio hl (fun j v hj => by simpa using h.io j v hj)
      have hfar : ∀ b k, k < 500000 → IsEx σ k → b ∈ bl k → b ∉ (kFrom 0 (i :: r).length).flatMap bl := fun b k hk ⟨o, hg⟩ hb hb2 => by
        obtain ⟨k', hk', hb2⟩ := List.mem_flatMap.1 hb2
        obtain ⟨o', hg'⟩ := (j1 k' hk').some
        have := kFrom_ge hk'
        exact h.apart k _ k' _ hg hg' (fun e => by omega) b hb hb2
      refine ⟨_, h1, S', vs, L, (kFrom 0 (i :: r).length).flatMap bl, rfl, h2, fun b hb => ?_, ?_, fun b hb => ?_, h7, j2⟩
      · rcases h4 b hb with h8 | ⟨k, _, ⟨o, hg⟩, hb⟩
        · exact (h.new b h8).imp_right fun h9 => ⟨h9, h.lt b h8⟩
        · have := (h.own k _ hg).2 b hb; exact .inr ⟨this.1, this.2.1⟩
      · rw [List.nodup_append]
        refine ⟨h5, rows_nodup h _ (kFrom_nodup _ _) j1, fun b hb b' hb' e => ?_⟩
        subst e
        obtain ⟨⟨k, hk, hrow, hbk⟩, _⟩ := h6 b hb
        exact hfar b k hk hrow.some hbk hb'
      · rcases List.mem_append.1 hb with hb | hb
        · obtain ⟨⟨k, _, hob, hbk⟩, hn⟩ := h6 b hb
          obtain ⟨o, hg⟩ := hob.some
          have := (h.own k _ hg).2 b hbk
          exact ⟨this.1, this.2.1, hn⟩
        · obtain ⟨k', hk', hb2⟩ := List.mem_flatMap.1 hb
          obtain ⟨o', hg'⟩ := (j1 k' hk').some
          have := (h.own k' _ hg').2 b hb2
          refine ⟨this.1, this.2.1, fun hS => ?_⟩
          rcases h4 b hS with h8 | ⟨k, hk, hrow, hbk⟩
          · exact this.2.2 h8
          · exact hfar b k hk hrow hbk hb
    · cases hr

end
end Go.Vt
