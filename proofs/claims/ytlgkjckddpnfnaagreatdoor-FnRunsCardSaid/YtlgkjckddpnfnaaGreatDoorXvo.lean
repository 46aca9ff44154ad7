/-
  The plain machine's cuts, conversions and captures tell what the model's do.
  Conditions: the table of types is right (TyOk).
-/
import Derived.Test.YtlgkjckddpnfnaaGreatDoorXvn
import Derived.Laws.Slices
import Derived.Laws.BytesString
namespace Go.Vt
open Go.RowKit
set_option linter.unusedVariables false
set_option linter.unusedSimpArgs false

section
variable {P : Program} {ρ : Type} {gw : Gw} {w0 : Base gw} {w : World} {S0 : Nat → Prop} {σ : St} {a : Act} {Im : Nat → Prop} {hd : Nat → Value} {bl : Nat → List Nat} {Q : Exit → Act → World → Prop}

theorem bound_run {k : IntKind} {i y : Nat} {code : BoundsCode} (h : i ≤ y) : (Instr.sliceBound (.int k (i : Int)) y code).run P w = .ok i w := by
  simp [Instr.sliceBound, asIntOf, h]

/-- What holds of a cut's bounds where it doesn't panic. -/
theorem aBounds_of (h : SRi w0 S0 σ a w Im hd bl) {n : Nat} {lo hi : Option Operand} {next : Nat → Nat → Option ρ} {r : ρ} (hn : aBounds (n : Int) (lo.map σ.ev) (hi.map σ.ev) next = some r) :
    ∃ l h' : Nat, l ≤ h' ∧ h' ≤ n ∧ next l h' = some r ∧ (lo = none → l = 0) ∧
      ∀ (isSlice : Bool) (cap : Nat), n ≤ cap → (Instr.sliceBounds isSlice n cap (lo.map a.eval) (hi.map a.eval) none).run P w = .ok (l, h', cap) w := by
  unfold aBounds at hn
  have key : ∀ (hv : Option Value) (m : Nat), (hv = none ∧ m = n ∨ ∃ k, hv = some (.int k (m : Int))) →
      (match lo.map σ.ev with
        | none => chk (decide (0 ≤ (m : Int))) (chk (decide ((m : Int) ≤ n)) (next 0 (m : Int).toNat))
        | some l => match aIx l with
          | some l => chk (decide (0 ≤ l)) (chk (decide (l ≤ (m : Int))) (chk (decide ((m : Int) ≤ n)) (next l.toNat (m : Int).toNat)))
          | none => none) = some r → ∃ l : Nat, l ≤ m ∧ m ≤ n ∧ next l m = some r ∧ (lo = none → l = 0) ∧
        ∀ (isSlice : Bool) (cap : Nat), n ≤ cap → (Instr.sliceBounds isSlice n cap (lo.map a.eval) hv none).run P w = .ok (l, m, cap) w := by
    intro hv m hrun hl
    cases lo with
    | none =>
      simp only [Option.map_none] at hl ⊢
      obtain ⟨_, hl⟩ := chk_some hl
      obtain ⟨h2, hl⟩ := chk_some hl
      have h2' : (m : Int) ≤ n := of_decide_eq_true h2
      refine ⟨0, Nat.zero_le _, by omega, by simpa using hl, fun _ => rfl, fun isSlice cap hc => ?_⟩
      rcases hrun with ⟨rfl, rfl⟩ | ⟨k, rfl⟩
      · simp [Instr.sliceBounds]
      · have hb : ∀ code, (Instr.sliceBound (.int k (m : Int)) cap code).run P w = .ok m w := fun code => bound_run (by omega)
        simp [Instr.sliceBounds, hb]
    | some l =>
      simp only [Option.map_some] at hl ⊢
      cases hx : aIx (σ.ev l) with
      | none => simp [hx] at hl
      | some z =>
        simp only [hx] at hl
        obtain ⟨h1, hl⟩ := chk_some hl
        obtain ⟨h2, hl⟩ := chk_some hl
        obtain ⟨h3, hl⟩ := chk_some hl
        have h1' : 0 ≤ z := of_decide_eq_true h1
        have h2' : z ≤ (m : Int) := of_decide_eq_true h2
        have h3' : (m : Int) ≤ n := of_decide_eq_true h3
        obtain ⟨q, rfl⟩ : ∃ q : Nat, z = q := ⟨z.toNat, by omega⟩
        obtain ⟨k, ek⟩ := aIx_of (h.ev l) hx
        refine ⟨q, by omega, by omega, by simpa using hl, (fun e => by cases e), fun isSlice cap hc => ?_⟩
        have hb : ∀ code, (Instr.sliceBound (.int k (q : Int)) m code).run P w = .ok q w := fun code => bound_run (by omega)
        rcases hrun with ⟨rfl, rfl⟩ | ⟨k', rfl⟩
        · simp [Instr.sliceBounds, ek, hb]
        · have hb' : ∀ code, (Instr.sliceBound (.int k' (m : Int)) cap code).run P w = .ok m w := fun code => bound_run (by omega)
          simp [Instr.sliceBounds, ek, hb, hb']
  cases hi with
  | none =>
    simp only [Option.map_none] at hn
    obtain ⟨l, h1, h2, h3, h4, h5⟩ := key none n (.inl ⟨rfl, rfl⟩) hn
    exact ⟨l, n, h1, h2, h3, h4, h5⟩
  | some x =>
    simp only [Option.map_some] at hn
    cases hx : aIx (σ.ev x) with
    | none => simp [hx] at hn
    | some z =>
      simp only [hx] at hn
      obtain ⟨k, ek⟩ := aIx_of (h.ev x) hx
      have hz : 0 ≤ z ∧ z ≤ n := by
        cases lo with
        | none =>
          simp only [Option.map_none] at hn
          obtain ⟨h1, hn⟩ := chk_some hn
          obtain ⟨h2, hn⟩ := chk_some hn
          exact ⟨of_decide_eq_true h1, of_decide_eq_true h2⟩
        | some l =>
          simp only [Option.map_some] at hn
          cases hl : aIx (σ.ev l) with
          | none => simp [hl] at hn
          | some y =>
            simp only [hl] at hn
            obtain ⟨h1, hn⟩ := chk_some hn
            obtain ⟨h2, hn⟩ := chk_some hn
            obtain ⟨h3, hn⟩ := chk_some hn
            exact ⟨Int.le_trans (of_decide_eq_true h1) (of_decide_eq_true h2), of_decide_eq_true h3⟩
      obtain ⟨m, rfl⟩ : ∃ m : Nat, z = m := ⟨z.toNat, by omega⟩
      obtain ⟨l, h1, h2, h3, h4, h5⟩ := key (some (a.eval x)) m (.inr ⟨k, by rw [ek]⟩) hn
      exact ⟨l, m, h1, h2, h3, h4, h5⟩
/-- The same, in whatever world. -/
theorem aBounds_any (h : SRi w0 S0 σ a w Im hd bl) {n : Nat} {lo hi : Option Operand} {next : Nat → Nat → Option ρ} {r : ρ} (hn : aBounds (n : Int) (lo.map σ.ev) (hi.map σ.ev) next = some r) :
    ∃ l h' : Nat, l ≤ h' ∧ h' ≤ n ∧ next l h' = some r ∧ (lo = none → l = 0) ∧
      ∀ (w' : World) (isSlice : Bool) (cap : Nat), n ≤ cap → (Instr.sliceBounds isSlice n cap (lo.map a.eval) (hi.map a.eval) none).run P w' = .ok (l, h', cap) w' := by
  unfold aBounds at hn
  have key : ∀ (hv : Option Value) (m : Nat), (hv = none ∧ m = n ∨ ∃ k, hv = some (.int k (m : Int))) →
      (match lo.map σ.ev with
        | none => chk (decide (0 ≤ (m : Int))) (chk (decide ((m : Int) ≤ n)) (next 0 (m : Int).toNat))
        | some l => match aIx l with
          | some l => chk (decide (0 ≤ l)) (chk (decide (l ≤ (m : Int))) (chk (decide ((m : Int) ≤ n)) (next l.toNat (m : Int).toNat)))
          | none => none) = some r → ∃ l : Nat, l ≤ m ∧ m ≤ n ∧ next l m = some r ∧ (lo = none → l = 0) ∧
        ∀ (w' : World) (isSlice : Bool) (cap : Nat), n ≤ cap → (Instr.sliceBounds isSlice n cap (lo.map a.eval) hv none).run P w' = .ok (l, m, cap) w' := by
    intro hv m hrun hl
    cases lo with
    | none =>
      simp only [Option.map_none] at hl ⊢
      obtain ⟨_, hl⟩ := chk_some hl
      obtain ⟨h2, hl⟩ := chk_some hl
      have h2' : (m : Int) ≤ n := of_decide_eq_true h2
      refine ⟨0, Nat.zero_le _, by omega, by simpa using hl, fun _ => rfl, fun w' isSlice cap hc => ?_⟩
      rcases hrun with ⟨rfl, rfl⟩ | ⟨k, rfl⟩
      · simp [Instr.sliceBounds]
      · have hb : ∀ code, (Instr.sliceBound (.int k (m : Int)) cap code).run P w' = .ok m w' := fun code => bound_run (by omega)
        simp [Instr.sliceBounds, hb]
    | some l =>
      simp only [Option.map_some] at hl ⊢
      cases hx : aIx (σ.ev l) with
      | none => simp [hx] at hl
      | some z =>
        simp only [hx] at hl
        obtain ⟨h1, hl⟩ := chk_some hl
        obtain ⟨h2, hl⟩ := chk_some hl
        obtain ⟨h3, hl⟩ := chk_some hl
        have h1' : 0 ≤ z := of_decide_eq_true h1
        have h2' : z ≤ (m : Int) := of_decide_eq_true h2
        have h3' : (m : Int) ≤ n := of_decide_eq_true h3
        obtain ⟨q, rfl⟩ : ∃ q : Nat, z = q := ⟨z.toNat, by omega⟩
        obtain ⟨k, ek⟩ := aIx_of (h.ev l) hx
        refine ⟨q, by omega, by omega, by simpa using hl, (fun e => by cases e), fun w' isSlice cap hc => ?_⟩
        have hb : ∀ code, (Instr.sliceBound (.int k (q : Int)) m code).run P w' = .ok q w' := fun code => bound_run (by omega)
        rcases hrun with ⟨rfl, rfl⟩ | ⟨k', rfl⟩
        · simp [Instr.sliceBounds, ek, hb]
        · have hb' : ∀ code, (Instr.sliceBound (.int k' (m : Int)) cap code).run P w' = .ok m w' := fun code => bound_run (by omega)
          simp [Instr.sliceBounds, ek, hb, hb']
  cases hi with
  | none =>
    simp only [Option.map_none] at hn
    obtain ⟨l, h1, h2, h3, h4, h5⟩ := key none n (.inl ⟨rfl, rfl⟩) hn
    exact ⟨l, n, h1, h2, h3, h4, h5⟩
  | some x =>
    simp only [Option.map_some] at hn
    cases hx : aIx (σ.ev x) with
    | none => simp [hx] at hn
    | some z =>
      simp only [hx] at hn
      obtain ⟨k, ek⟩ := aIx_of (h.ev x) hx
      have hz : 0 ≤ z ∧ z ≤ n := by
        cases lo with
        | none =>
          simp only [Option.map_none] at hn
          obtain ⟨h1, hn⟩ := chk_some hn
          obtain ⟨h2, hn⟩ := chk_some hn
          exact ⟨of_decide_eq_true h1, of_decide_eq_true h2⟩
        | some l =>
          simp only [Option.map_some] at hn
          cases hl : aIx (σ.ev l) with
          | none => simp [hl] at hn
          | some y =>
            simp only [hl] at hn
            obtain ⟨h1, hn⟩ := chk_some hn
            obtain ⟨h2, hn⟩ := chk_some hn
            obtain ⟨h3, hn⟩ := chk_some hn
            exact ⟨Int.le_trans (of_decide_eq_true h1) (of_decide_eq_true h2), of_decide_eq_true h3⟩
      obtain ⟨m, rfl⟩ : ∃ m : Nat, z = m := ⟨z.toNat, by omega⟩
      obtain ⟨l, h1, h2, h3, h4, h5⟩ := key (some (a.eval x)) m (.inr ⟨k, by rw [ek]⟩) hn
      exact ⟨l, m, h1, h2, h3, h4, h5⟩

/-- A row that is read alone, cut. -/
theorem VR.cut {t : Ty} {xs : List t.den} {A : Option Addr} {cap l h : Nat} (hv : VR w Im (.slice t) xs [.slice A xs.length cap]) (hl : l ≤ h) (hh : h ≤ xs.length) (hc : xs.length ≤ cap) :
    VR w Im (.slice t) ((xs.take h).drop l) [.slice (if cap = l then A else A.map (·.add (l * t.sz))) (h - l) (cap - l)] := by
  have hlen : ((xs.take h).drop l).length = h - l := by rw [List.length_drop, List.length_take]; omega
  refine ⟨_, cap - l, by rw [hlen], by omega, ?_⟩
  obtain ⟨A', cap', e, _, hr⟩ := hv
  simp only [List.cons.injEq, Value.slice.injEq, and_true] at e
  obtain ⟨rfl, _, rfl⟩ := e
  by_cases he : (xs.take h).drop l = []
  · exact .inl he
  · have hlt : l < h := by
      rcases Nat.lt_or_ge l h with h1 | h1
      · exact h1
      · exfalso; apply he; rw [← List.length_eq_zero_iff, hlen]; omega
    rcases hr with rfl | ⟨b, o, rfl, hb, hr⟩
    · simp at he
    · refine .inr ⟨b, o + l * t.sz, by rw [if_neg (by omega)]; simp [add_none], hb, fun i x hx => ?_⟩
      rw [List.getElem?_drop, List.getElem?_take] at hx
      split at hx
      · obtain ⟨cs, h1, h2, h3⟩ := hr (l + i) x hx
        refine ⟨cs, h1, ?_, h3⟩
        rwa [Nat.add_mul, ← Nat.add_assoc] at h2
      · cases hx

theorem run_cut {T e : TypeId} (hu : P.underlying T = some (.slice e)) {i : TypeInfo} (hi : P.info? e = some i) {A : Option Addr} {n cap l h : Nat} {lo hi' : Option Value}
    (hb : (Instr.sliceBounds true n cap lo hi' none).run P w = .ok (l, h, cap) w) :
    (Instr.sliceAt T (.slice A n cap) lo hi' none).run P w = .ok (.slice (if cap = l then A else A.map (·.add (l * i.size))) (h - l) (cap - l)) w := by
  simp [Instr.sliceAt, Instr.slice, run_underlying hu, hb, run_size hi]

theorem OL.takeN {α : Type} {n : Nat} {p : α → List Value → List Nat → Prop} : ∀ {xs : List α} {cs : List Value} {L : List Nat} (k : Nat), OL n p xs cs L → ∃ L', OL n p (xs.take k) cs L' ∧ (∀ b ∈ L', b ∈ L) ∧ (L.Nodup → L'.Nodup)
  | [], cs, L, k, h => ⟨[], by cases k <;> rfl, by simp, fun _ => List.nodup_nil⟩
  | x :: xs, cs, L, 0, h => ⟨[], rfl, by simp, fun _ => List.nodup_nil⟩
  | x :: xs, cs, L, k + 1, h => by
    obtain ⟨L1, L2, rfl, hn, hp, h⟩ := h
    obtain ⟨L', h1, h2, h3⟩ := OL.takeN k h
    refine ⟨L1 ++ L', ⟨L1, L', rfl, hn, hp, h1⟩, fun b hb => ?_, fun hL => ?_⟩
    · rcases List.mem_append.1 hb with hb | hb
      · simp [hb]
      · simp [h2 b hb]
    · rw [List.nodup_append] at hL ⊢
      exact ⟨hL.1, h3 hL.2.1, fun b hb c hc => hL.2.2 b hb c (h2 c hc)⟩

theorem OL.dropG {α : Type} {n : Nat} {p : α → List Value → List Nat → Prop} : ∀ {xs : List α} {cs : List Value} {L : List Nat} (k : Nat), OL n p xs cs L → ∃ L', OL n p (xs.drop k) (cs.drop (k * n)) L' ∧ (∀ b ∈ L', b ∈ L) ∧ (L.Nodup → L'.Nodup)
  | [], cs, L, k, h => ⟨[], by rw [List.drop_nil]; exact rfl, by simp, fun _ => List.nodup_nil⟩
  | x :: xs, cs, L, 0, h => ⟨L, by simpa using h, fun _ h => h, fun h => h⟩
  | x :: xs, cs, L, k + 1, h => by
    obtain ⟨L1, L2, rfl, hn, hp, h⟩ := h
    obtain ⟨L', h1, h2, h3⟩ := OL.dropG k h
    refine ⟨L', ?_, fun b hb => by simp [h2 b hb], fun hL => h3 (List.nodup_append.1 hL).2.1⟩
    rw [List.drop_drop] at h1
    rw [List.drop_succ_cons, show (k + 1) * n = n + k * n by rw [Nat.add_mul]; omega]
    exact h1

/-- A row of one's own is cut, and stays one's own. -/
theorem SRi.cutRow (h : SRi w0 S0 σ a w Im hd bl) {c d : Nat} (hd5 : d < 500000) {t : Ty} {xs : List t.den} {dp cn : Bool} (hc : obGet σ.ob c = some (.row t xs dp cn)) {l m : Nat} (hl : l ≤ m) (hm : m ≤ xs.length) {A : Option Addr} {cap : Nat} (eA : hd c = .slice A xs.length cap) :
    ∃ hd' bl', SRi w0 S0 ((σ.kill c).new d (.row t ((xs.take m).drop l) dp false)) a w Im hd' bl' ∧ hd' d = .slice (if cap = l then A else A.map (·.add (l * t.sz))) (m - l) (cap - l) := by
  obtain ⟨g1, lo⟩ := h.takeOut hc
  have hlen : ((xs.take m).drop l).length = m - l := by rw [List.length_drop, List.length_take]; omega
  rcases lo.row with ⟨e1, e2, e3⟩ | ⟨b, f0, cap', cs, F, Li, e1, hb, hcs, hle, e3, hol⟩
  · subst e2
    rw [e1] at eA
    cases eA
    have hm0 : m = 0 := by simpa using hm
    subst hm0
    obtain rfl : l = 0 := by omega
    refine ⟨_, _, g1.new_ d hd5 (v := .slice none 0 0) (L := []) (fun k p _ _ b _ hb => by cases hb) List.nodup_nil (fun b hb => by cases hb) ⟨.inl ⟨rfl, by simp, rfl⟩, fun e => by cases e⟩, by simp⟩
  · rw [e1] at eA
    cases eA
    have hnd := lo.nodup
    rw [e3] at hnd
    rw [List.nodup_cons] at hnd
    obtain ⟨L1, o1, o2, o3⟩ := OL.takeN m hol
    obtain ⟨L2, q1, q2, q3⟩ := OL.dropG l o1
    have hsub : ∀ x ∈ b :: L2, x ∈ bl c := fun x hx => by
      rw [e3]
      rcases List.mem_cons.1 hx with rfl | hx
      · simp
      · simp [o2 x (q2 x hx)]
    refine ⟨_, _, g1.new_ d hd5 (v := .slice (if cap = l then some ⟨b, f0, none⟩ else (some ⟨b, f0, none⟩ : Option Addr).map (·.add (l * t.sz))) (m - l) (cap - l)) (L := b :: L2) (fun k p _ hp x hx hx2 => lo.free k p hp x hx (hsub x hx2))
      (List.nodup_cons.2 ⟨fun hx => hnd.1 (o2 b (q2 b hx)), q3 (o3 hnd.2)⟩) (fun x hx => lo.own x (hsub x hx)) ⟨.inr ⟨b, if cap = l then f0 else f0 + l * t.sz, cap - l, cs, F, L2, ?_, hb, ?_, by rw [hlen]; omega, rfl, ?_⟩, fun e => by cases e⟩, by simp⟩
    · rw [hlen]
      by_cases e : cap = l
      · simp [e]
      · simp [e, add_none]
    · by_cases e : cap = l
      · simp only [e, if_true, Nat.sub_self, Nat.zero_mul, Nat.add_zero]; omega
      · simp only [e, if_false]
        have : l * t.sz + (cap - l) * t.sz = cap * t.sz := by rw [← Nat.add_mul]; congr 1; omega
        omega
    · by_cases e : cap = l
      · simp only [e, if_true]
        have hnil : (xs.take m).drop l = [] := List.eq_nil_of_length_eq_zero (by rw [hlen]; omega)
        rw [hnil] at q1 ⊢
        exact q1
      · simp only [e, if_false]
        rw [List.drop_drop] at q1
        exact OL.tell (Same.refl _ _) (fun _ x => x) (fun _ _ => rfl) q1

theorem aSlice_ok {E : Env} (hE : ∀ T ti, E.ty T = some ti → TyOk P T ti) (h : SRi w0 S0 σ a w Im hd bl) {o : Oper} {T d : Nat} {x : Operand} {lo hi mx : Option Operand} (ho : o.op = .slice T x lo hi mx) (hd' : o.dst = some d) (hmx : mx = none)
    {next : St → Option ρ} {r : ρ} (hn : aSlice E σ T d (σ.ev x) (lo.map σ.ev) (hi.map σ.ev) next = some r) : o.wp P a w (Goes w0 S0 next r) Q := by
  subst hmx
  have hx := h.ev x
  have hop : ∀ {v : Value}, (Instr.sliceAt T (a.eval x) (lo.map a.eval) (hi.map a.eval) none).run P w = .ok v w → (execOp a.eval o).run P w = .ok (.value v) w := by
    intro v hv
    simp [execOp, ho, hv]
  unfold aSlice at hn
  split at hn
  · -- a text
    rename_i s hs
    rw [hs] at hx
    have ex := str_of hx
    split at hn
    · rename_i hT
      obtain ⟨dd, hd2, hk, _⟩ := hE T _ hT
      cases (show dd = _ from hk)
      obtain ⟨l, h', h1, h2, h3, _, h5⟩ := aBounds_of (P := P) h hn
      refine wp_value (hop (v := .string (s.extract l h')) ?_) (w' := w) ⟨_, h3, Im, hd, bl, ?_⟩
      · rw [ex]
        have := h5 false s.size (Nat.le_refl _)
        simp [Instr.sliceAt, Instr.slice, run_underlying hd2, this]
      · rw [hd']; exact h.put (some d) svr
    · cases hn
  · -- a plain row
    rename_i t xs hs
    rw [hs] at hx
    split at hn
    · rename_i u hT
      obtain ⟨h0, hn⟩ := chk_some hn
      obtain rfl := Ty.same_eq h0
      obtain ⟨e, hu, i, z, hi', hsz, _⟩ := kind_slice hE hT
      obtain ⟨l, h', h1, h2, h3, _, h5⟩ := aBounds_of (P := P) h hn
      have hx' : VR w Im (.slice u) xs [a.eval x] := hx
      obtain ⟨A, cap, ev, hc, _⟩ := hx'
      simp only [List.cons.injEq, and_true] at ev
      have hr := run_cut (P := P) hu hi' (A := A) (h5 true cap hc)
      rw [← ev] at hr
      refine wp_value (hop hr) ⟨_, h3, Im, hd, bl, ?_⟩
      rw [hd']
      refine h.put (some d) ?_
      rw [hsz]
      have hx2 : VR w Im (.slice u) xs [a.eval x] := hx
      rw [ev] at hx2
      exact VR.cut hx2 h1 h2 hc
    · cases hn
  · -- a row of one's own
    rename_i c hs
    rw [hs] at hx
    have ex : a.eval x = hd c := hx
    split at hn
    · rename_i t xs dp cn u hc hT
      obtain ⟨h0, hn⟩ := chk_some hn
      obtain rfl := Ty.same_eq h0
      obtain ⟨e, hu, i, z, hi', hsz, _⟩ := kind_slice hE hT
      have hrow := h.objs c _ hc
      obtain ⟨A, cap, eA, hcap⟩ : ∃ A cap, hd c = .slice A xs.length cap ∧ xs.length ≤ cap := by
        rcases hrow.1 with ⟨e1, rfl, _⟩ | ⟨b, f0, cap, cs, F, Li, e1, _, _, h4, _⟩
        · exact ⟨none, 0, e1, Nat.le_refl _⟩
        · exact ⟨_, cap, e1, h4⟩
      obtain ⟨l, h', h1, h2, h3, h4, h5⟩ := aBounds_of (P := P) h hn
      have hr := run_cut (P := P) hu hi' (A := A) (h5 true cap hcap)
      cases hfl : (Env.flag E (cutKey T d) && Nat.blt d 500000) with
      | true =>
        rw [hfl, cond_true] at h3
        rw [Bool.and_eq_true] at hfl
        obtain ⟨hd2, bl2, g1, g2⟩ := h.cutRow (by have := hfl.2; rw [Nat.blt_eq] at this; exact this) hc h1 h2 eA
        rw [← eA, ← ex, hsz] at hr
        refine wp_value (hop hr) ?_
        rw [hd', ← g2]
        exact ⟨_, h3, Im, hd2, bl2, g1.put (some d) (av := .cv (.own d)) rfl⟩
      | false =>
      rw [hfl, cond_false] at h3
      rw [← eA, ← ex] at hr
      refine wp_value (hop hr) ?_
      rw [hd']
      obtain ⟨Im', g1, g2, g3, g4⟩ := h.freeze c
      have hrd : VR w Im' (.slice u) xs [hd c] := VR.mono (Same.refl _ _) (fun b hb => hb.elim (g2 b) (fun hb => g4 _ hc rfl b hb)) hrow.read
      rw [eA] at hrd
      refine ⟨_, h3, Im', hd, bl, g1.put (some d) ?_⟩
      rw [hsz]
      exact VR.cut hrd h1 h2 hcap
    · cases hn
  · -- nil
    rename_i hs
    rw [hs] at hx
    have ex : a.eval x = .slice none 0 0 := hx
    split at hn
    · rename_i u hT
      obtain ⟨e, hu, i, z, hi', hsz, _⟩ := kind_slice hE hT
      obtain ⟨l, h', h1, h2, h3, h4, h5⟩ := aBounds_of (P := P) (n := 0) h hn
      have hr := run_cut (P := P) hu hi' (A := none) (h5 true 0 (Nat.le_refl _))
      obtain rfl : h' = 0 := by omega
      obtain rfl : l = 0 := by omega
      rw [← ex] at hr
      refine wp_value (hop hr) ⟨_, h3, Im, hd, bl, ?_⟩
      rw [hd']
      exact h.put (some d) (av := .cv .nil) (by simp; exact rfl)
    · cases hn
  · -- an array
    rename_i c hs
    rw [hs] at hx
    obtain ⟨b, e1, ex⟩ := hx
    split at hn
    · rename_i t xs n u hc hT
      obtain ⟨h0, hn⟩ := chk_some hn
      rw [Bool.and_eq_true] at h0
      obtain rfl := Ty.same_eq h0.1
      have hlen := Nat.eq_of_beq_eq_true h0.2
      obtain ⟨e, hu, ⟨i, z, hi', hsz, _⟩, _⟩ := hE T _ hT
      obtain ⟨b', cs, F, e2, hb, hcs, hbl, hf, hol⟩ := h.objs c _ hc
      rw [e1] at e2; cases e2
      obtain ⟨l, h', h1, h2, h3, h4, h5⟩ := aBounds_of (P := P) h hn
      have hr : (Instr.sliceAt T (a.eval x) (lo.map a.eval) (hi.map a.eval) none).run P w = .ok (.slice (if xs.length = l then some ⟨b, 0, none⟩ else (some ⟨b, 0, none⟩ : Option Addr).map (·.add (l * u.sz))) (h' - l) (xs.length - l)) w := by
        have h5' := h5 false xs.length (Nat.le_refl _)
        rw [hlen] at h5' ⊢
        rw [ex]
        simp [Instr.sliceAt, run_underlying hu, Instr.sureAddr, h5', run_size hi', hsz]
        split <;> rfl
      refine wp_value (hop hr) ?_
      rw [hd']
      have hk : SRi w0 S0 (σ.kill c) a w (fun x => Im x ∨ x ∈ bl c) hd bl := h.sub_ ⟨Same.refl _ _, fun _ x => .inl x, fun d => by
          show CVR w _ hd (hd d) (bif Nat.beq d c then .dead else .own d); cases Nat.beq d c <;> first | rfl | trivial, fun d o v k => by
          show AVR w _ hd v (bif Nat.beq d c then .cv .dead else .adr d o); cases Nat.beq d c <;> first | exact k | trivial, fun d n i o v k => by
          show AVR w _ hd v (bif Nat.beq d c then .cv .dead else .el d n i o); cases Nat.beq d c <;> first | exact k | trivial⟩ (fun b hb => hb) (fun _ => ⟨_, hc⟩)
      have hrd : VR w (fun x => Im x ∨ x ∈ bl c) (.slice u) xs [.slice (some ⟨b, 0, none⟩) xs.length xs.length] := by
        refine ⟨_, xs.length, rfl, Nat.le_refl _, .inr ⟨b, 0, rfl, .inr (by rw [hbl]; simp), fun i x hx => ?_⟩⟩
        obtain ⟨l, hp, _, hle⟩ := hol.get i x hx
        refine ⟨_, VR.sz hp.1, ?_, VR.mono (Same.refl _ _) (fun b hb => .inl hb) hp.1⟩
        have := drop_at hb (i * u.sz) u.sz
        rwa [Nat.zero_add]
      refine ⟨_, h3, _, hd, bl, hk.put (some d) ?_⟩
      exact VR.cut hrd h1 h2 (Nat.le_refl _)
    · cases hn
  · cases hn

theorem aConv_ok {E : Env} (hE : ∀ T ti, E.ty T = some ti → TyOk P T ti) (h : SRi w0 S0 σ a w Im hd bl) {S D : Nat} {x : AV} {v : Value} (hx : AVR w Im hd v x) {next : AV → Option ρ} {r : ρ} (hn : aConv E σ S D x next = some r) :
    ∃ u av, (convert S D v).run P w = .ok u w ∧ AVR w Im hd u av ∧ next av = some r := by
  unfold aConv at hn
  split at hn
  · rename_i hS hD
    obtain ⟨d1, h1, _⟩ := hE S _ hS
    obtain ⟨d2, h2, hk, _⟩ := hE D _ hD
    cases (show d2 = _ from hk)
    rw [int_of hx]
    exact ⟨_, _, by simp [convert, run_underlying h1, run_underlying h2, Conv.intToInt], ivr, hn⟩
  · rename_i hS hD
    obtain ⟨d1, h1, hk1, _⟩ := hE S _ hS
    obtain ⟨d2, h2, hk, _⟩ := hE D _ hD
    cases (show d2 = _ from hk)
    cases (show d1 = _ from hk1)
    rw [str_of hx]
    exact ⟨_, _, by simp [convert, run_underlying h1, run_underlying h2], svr, hn⟩
  · rename_i c hS hD
    split at hn
    · rename_i xs hB hxs
      obtain ⟨d2, h2, hk, _⟩ := hE D _ hD
      cases (show d2 = _ from hk)
      obtain ⟨_, e, h1, h3⟩ := hE _ _ hB
      rw [Nat.add_sub_cancel] at h1
      obtain ⟨a, cap, ev, hc, hr⟩ := cvAs_read h hxs hx
      cases ev
      refine ⟨_, _, ?_, svr, hn⟩
      rw [run_convert_bytes_string w S D e a _ cap h1 h3 h2]
      rcases hr with rfl | ⟨b, o, rfl, hb, hr⟩
      · cases a with
        | none => rfl
        | some a => exact run_bytesToString w a 0 cap [] (run_loadCells_list w a [] (fun j v hj => by cases hj))
      · refine run_bytesToString w _ _ cap xs ?_
        have := run_loadCells_at (P := P) (w := w) (b := b) (o := o) (cs := xs.map (Value.int .u8)) (fun j u hj => by
          rw [List.getElem?_map] at hj
          obtain ⟨x, hx, rfl⟩ := Option.map_eq_some_iff.1 hj
          obtain ⟨cs, _, hat, hcs⟩ := hr j x hx
          cases (show cs = [Value.int .u8 x] from hcs)
          have := hat 0 _ rfl
          simpa [Ty.sz] using this)
        rwa [List.length_map] at this
    · cases hn
  · cases hn

/-! ### captures -/
theorem sealBox_ok (h : SRi w0 S0 σ a w Im hd bl) {c : Nat} {τ : St} {l : List CV} (hs : σ.sealBox c = some (τ, l)) :
    ∃ Im', SRi w0 S0 τ a w Im' hd bl ∧ (∀ b, Im b → Im' b) ∧ ∀ v, AVR w Im hd v (.adr c 0) → RefR w Im' (fun _ => undef) v l := by
  unfold St.sealBox at hs
  split at hs
  · rename_i l0 hc0
    obtain ⟨Im1, h1, i1, i2, i3⟩ := freezeAll_ok h (ownsAll l0)
    dsimp only at hs
    split at hs
    · rename_i l' hc
      cases hp : plainCells l' with
      | false => rw [hp] at hs; cases hs
      | true =>
        rw [hp] at hs
        simp only [cond_true, Option.some.injEq, Prod.mk.injEq] at hs
        obtain ⟨rfl, rfl⟩ := hs
        obtain ⟨b, cs, F, e1, hb, hbl, hcs⟩ := h1.objs c _ hc
        have href : ∀ o v, AVR w Im1 hd v (.adr c o) → RefR w (fun x => Im1 x ∨ x ∈ bl c) (fun _ => undef) v (l'.drop o) := by
          intro o v hv
          obtain ⟨b', e2, rfl⟩ := hv
          rw [e1] at e2; cases e2
          refine ⟨plain_drop hp o, b, o, cs.toList.drop o, .inr (by rw [hbl]; simp), rfl, ?_, ?_⟩
          · have := drop_at hb o cs.size
            rwa [List.take_of_length_le (by simp)] at this
          · have := (plain_CVs (hd2 := fun _ => undef) hp hcs).drop o
            exact CVs.plain (Same.refl _ _) (fun b hb => .inl hb) this
        refine ⟨fun x => Im1 x ∨ x ∈ bl c, h1.sub_ ⟨Same.refl _ _, fun _ x => .inl x, fun e => ?_, fun e o v k => ?_, fun e n i o v k => ?_⟩ (fun b hb => hb) (fun _ => ⟨_, hc⟩), fun b hb => .inl (i1 b hb), fun v hv => ?_⟩
        · show CVR w _ hd (hd e) (bif Nat.beq e c then .dead else .own e)
          cases Nat.beq e c
          · exact rfl
          · exact trivial
        · show AVR w _ hd v (bif Nat.beq e c then .ref (l'.drop o) else .adr e o)
          rw [beqN]
          by_cases q : e = c
          · subst q; simp only [decide_true, cond_true]; exact href o v k
          · simp only [q, decide_false, cond_false]; exact k
        · show AVR w _ hd v (bif Nat.beq e c then .cv .dead else .el e n i o)
          cases Nat.beq e c <;> first | exact k | trivial
        · have := href 0 v hv
          simpa using this
    · cases hs
  · cases hs

theorem RefR.wider {Im' : Nat → Prop} (hi : ∀ b, Im b → Im' b) {v : Value} {l : List CV} (h : RefR w Im (fun _ => undef) v l) : RefR w Im' (fun _ => undef) v l := RefR.tell (Same.refl _ _) hi h

theorem capture_ok : ∀ {xs : List Operand} {σ : St} {Im : Nat → Prop}, SRi w0 S0 σ a w Im hd bl → ∀ {τ : St} {l : List (List CV)}, σ.capture xs = some (τ, l) →
    ∃ Im', SRi w0 S0 τ a w Im' hd bl ∧ (∀ b, Im b → Im' b) ∧ RefRs w Im' (fun _ => undef) (xs.map a.eval) l
  | [], σ, Im, h, τ, l, hc => by
    unfold St.capture at hc
    cases hc
    exact ⟨Im, h, fun _ x => x, trivial⟩
  | x :: xs, σ, Im, h, τ, l, hc => by
    unfold St.capture at hc
    split at hc
    · rename_i l' he
      obtain ⟨⟨τ', m⟩, hm, e⟩ := Option.map_eq_some_iff.1 hc
      cases e
      obtain ⟨Im', h1, h2, h3⟩ := capture_ok h hm
      have hx := h.ev x
      rw [he] at hx
      exact ⟨Im', h1, h2, RefR.wider h2 hx, h3⟩
    · rename_i c he
      split at hc
      · rename_i τ1 l1 hs
        obtain ⟨⟨τ', m⟩, hm, e⟩ := Option.map_eq_some_iff.1 hc
        cases e
        obtain ⟨Im1, g1, g2, g3⟩ := sealBox_ok h hs
        obtain ⟨Im', h1, h2, h3⟩ := capture_ok g1 hm
        have hx := h.ev x
        rw [he] at hx
        exact ⟨Im', h1, fun b hb => h2 b (g2 b hb), RefR.wider h2 (g3 _ hx), h3⟩
      · cases hc
    · cases hc

end
end Go.Vt
