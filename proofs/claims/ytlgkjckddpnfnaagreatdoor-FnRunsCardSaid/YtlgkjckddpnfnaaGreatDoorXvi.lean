/-
  The plain machine's rows: made, appended to, cut.
  Conditions: the table of types is right (TyOk).
-/
import Derived.Test.YtlgkjckddpnfnaaGreatDoorXvh
namespace Go.Vt
open Go.RowKit
set_option linter.unusedVariables false
set_option linter.unusedSimpArgs false

section
variable {P : Program} {ρ : Type} {gw : Gw} {w0 : Base gw} {w : World} {S0 : Nat → Prop} {σ : St} {a : Act} {Im : Nat → Prop} {hd : Nat → Value} {bl : Nat → List Nat} {Q : Exit → Act → World → Prop}

/-! ### parts -/
def IsRow (σ : St) (k : Nat) : Prop := ∃ t xs d n, obGet σ.ob k = some (.row t xs d n)
def IsTr (σ : St) (k : Nat) : Prop := ∃ o, obGet σ.ob k = some o ∧ o.tree = true
theorem IsRow.tr {σ : St} {k : Nat} (h : IsRow σ k) : IsTr σ k := by
  obtain ⟨t, xs, d, n, h⟩ := h
  exact ⟨_, h, rfl⟩
theorem cvAs_read (h : SRi w0 S0 σ a w Im hd bl) {t : Ty} {c : CV} {x : t.den} {v : Value} (hx : σ.cvAs t c = some x) (hv : CVR w Im hd v c) :
    VR w (fun b => Im b ∨ ∃ k ∈ c.owns, IsTr σ k ∧ b ∈ bl k) t x [v] := by
  unfold St.cvAs at hx
  split at hx
  · rename_i k
    split at hx
    · rename_i u xs d n hc
      have := (h.objs k _ hc).read
      rw [show v = hd k from hv]
      exact VR.mono (Same.refl _ _) (fun b hb => hb.imp_right fun hb => ⟨k, by simp [CV.owns], ⟨_, hc, rfl⟩, hb⟩) (as_VR hx this)
    · rename_i l hc
      have hr : VR w (fun b => Im b ∨ b ∈ bl k) .set (some l) [hd k] := ⟨hd k, bl k, rfl, fun _ hb => .inr hb, h.objs k _ hc⟩
      rw [show v = hd k from hv]
      exact VR.mono (Same.refl _ _) (fun b hb => hb.imp_right fun hb => ⟨k, by simp [CV.owns], ⟨_, hc, rfl⟩, hb⟩) (as_VR hx hr)
    · cases hx
  · unfold CV.as at hx
    split at hx
    · exact VR.mono (Same.refl _ _) (fun b hb => .inl hb) (as_VR hx hv)
    · split at hx
      · cases hx
        exact ⟨none, 0, by rw [show v = _ from hv]; rfl, Nat.le_refl _, .inl rfl⟩
      · cases hx
    · cases hx

theorem impl_len : ∀ {t : Ty} {l : List CV} {x : t.den}, σ.impl t l = some x → l.length = t.sz
  | .int k, l, x, h => by unfold St.impl at h; split at h <;> first | rfl | cases h
  | .bool, l, x, h => by unfold St.impl at h; split at h <;> first | rfl | cases h
  | .str, l, x, h => by unfold St.impl at h; split at h <;> first | rfl | cases h
  | .slice t, l, x, h => by unfold St.impl at h; split at h <;> first | rfl | cases h
  | .set, l, x, h => by unfold St.impl at h; split at h <;> first | rfl | cases h
  | .err, l, x, h => by unfold St.impl at h; split at h <;> first | rfl | cases h
  | .pair s t, l, x, h => by
    unfold St.impl at h
    obtain ⟨y, hy, h⟩ := Option.bind_eq_some_iff.1 h
    obtain ⟨z, hz, h⟩ := Option.bind_eq_some_iff.1 h
    have h1 := impl_len hy
    have h2 := impl_len hz
    rw [List.length_take] at h1
    rw [List.length_drop] at h2
    have := t.sz_pos
    show l.length = s.sz + t.sz
    omega

theorem owns_mem {l : List CV} {c : CV} (hc : c ∈ l) : ∀ k ∈ c.owns, k ∈ ownsAll l := fun k hk => List.mem_flatMap.2 ⟨c, hc, hk⟩

theorem impl_read (h : SRi w0 S0 σ a w Im hd bl) : ∀ {t : Ty} {l : List CV} {x : t.den} {cs : List Value}, σ.impl t l = some x → CVs w Im hd cs l →
    VR w (fun b => Im b ∨ ∃ k ∈ ownsAll l, IsTr σ k ∧ b ∈ bl k) t x cs
  | .int k, l, x, cs, hx, hv => by
    unfold St.impl at hx
    split at hx
    · match cs, hv with
      | [v], hv => exact VR.mono (Same.refl _ _) (fun b hb => hb.imp_right fun ⟨k, hk, hb⟩ => ⟨k, owns_mem (by simp) k hk, hb⟩) (cvAs_read h hx hv.1)
    · cases hx
  | .bool, l, x, cs, hx, hv => by
    unfold St.impl at hx
    split at hx
    · match cs, hv with
      | [v], hv => exact VR.mono (Same.refl _ _) (fun b hb => hb.imp_right fun ⟨k, hk, hb⟩ => ⟨k, owns_mem (by simp) k hk, hb⟩) (cvAs_read h hx hv.1)
    · cases hx
  | .str, l, x, cs, hx, hv => by
    unfold St.impl at hx
    split at hx
    · match cs, hv with
      | [v], hv => exact VR.mono (Same.refl _ _) (fun b hb => hb.imp_right fun ⟨k, hk, hb⟩ => ⟨k, owns_mem (by simp) k hk, hb⟩) (cvAs_read h hx hv.1)
    · cases hx
  | .slice t, l, x, cs, hx, hv => by
    unfold St.impl at hx
    split at hx
    · match cs, hv with
      | [v], hv => exact VR.mono (Same.refl _ _) (fun b hb => hb.imp_right fun ⟨k, hk, hb⟩ => ⟨k, owns_mem (by simp) k hk, hb⟩) (cvAs_read h hx hv.1)
    · cases hx
  | .set, l, x, cs, hx, hv => by
    unfold St.impl at hx
    split at hx
    · match cs, hv with
      | [v], hv => exact VR.mono (Same.refl _ _) (fun b hb => hb.imp_right fun ⟨k, hk, hb⟩ => ⟨k, owns_mem (by simp) k hk, hb⟩) (cvAs_read h hx hv.1)
    · cases hx
  | .err, l, x, cs, hx, hv => by
    unfold St.impl at hx
    split at hx
    · match cs, hv with
      | [v], hv => exact VR.mono (Same.refl _ _) (fun b hb => hb.imp_right fun ⟨k, hk, hb⟩ => ⟨k, owns_mem (by simp) k hk, hb⟩) (cvAs_read h hx hv.1)
    · cases hx
  | .pair s t, l, x, cs, hx, hv => by
    unfold St.impl at hx
    obtain ⟨y, hy, hx⟩ := Option.bind_eq_some_iff.1 hx
    obtain ⟨z, hz, hx⟩ := Option.bind_eq_some_iff.1 hx
    cases hx
    refine ⟨cs.take s.sz, cs.drop s.sz, (List.take_append_drop _ _).symm, ?_, ?_⟩
    · exact VR.mono (Same.refl _ _) (fun b hb => hb.imp_right fun ⟨k, hk, hb⟩ => ⟨k, (by
        obtain ⟨c, hc, hk⟩ := List.mem_flatMap.1 hk
        exact owns_mem (List.mem_of_mem_take hc) k hk), hb⟩) (impl_read h hy (hv.take s.sz))
    · exact VR.mono (Same.refl _ _) (fun b hb => hb.imp_right fun ⟨k, hk, hb⟩ => ⟨k, (by
        obtain ⟨c, hc, hk⟩ := List.mem_flatMap.1 hk
        exact owns_mem (List.mem_of_mem_drop hc) k hk), hb⟩) (impl_read h hz (hv.drop s.sz))

def blk (bl : Nat → List Nat) : CV → List Nat | .own c => bl c | _ => []
/-- A cell that is a tree of the call's own, or leads to no memory. -/
def St.treeC (σ : St) : CV → Bool
  | .own c => match obGet σ.ob c with | some (.row _ _ d _) => d | some (.mp _) => true | _ => false
  | .val t _ => t.flat | .nil => true | .unk => true | .dead => false
theorem treeB_eq (l : List CV) : σ.treeB l = (nodupB (ownsAll l) && l.all σ.treeC) := by
  unfold St.treeB
  congr 1

theorem cvAs_tree (h : SRi w0 S0 σ a w Im hd bl) {t : Ty} {c : CV} {x : t.den} {v : Value} (ht : σ.treeC c = true) (hx : σ.cvAs t c = some x) (hv : CVR w Im hd v c) : OT w t x [v] (blk bl c) := by
  unfold St.cvAs at hx
  split at hx
  · rename_i k
    split at hx
    · rename_i u xs d n hc
      obtain ⟨e, rfl⟩ := as_some hx
      subst e
      have hd' : d = true := by simpa [St.treeC, hc] using ht
      subst hd'
      exact ⟨hd k, by rw [show v = hd k from hv], (h.objs k _ hc).1⟩
    · rename_i l hc
      obtain ⟨e, rfl⟩ := as_some hx
      subst e
      exact ⟨hd k, by rw [show v = hd k from hv], h.objs k _ hc⟩
    · cases hx
  · unfold CV.as at hx
    split at hx
    · rename_i u y
      obtain ⟨rfl, rfl⟩ := as_some hx
      exact VR.own (w := w) (S := Im) ht hv
    · split at hx
      · cases hx
        exact ⟨v, rfl, .inl ⟨hv, rfl, rfl⟩⟩
      · cases hx
    · cases hx

theorem impl_tree (h : SRi w0 S0 σ a w Im hd bl) : ∀ {t : Ty} {l : List CV} {x : t.den} {cs : List Value}, l.all σ.treeC = true → σ.impl t l = some x → CVs w Im hd cs l →
    OT w t x cs (l.flatMap (blk bl))
  | .int k, l, x, cs, ht, hx, hv => by
    unfold St.impl at hx
    split at hx
    · match cs, hv with
      | [v], hv => rw [List.flatMap_cons, List.flatMap_nil, List.append_nil]; exact cvAs_tree h (by simpa using ht) hx hv.1
    · cases hx
  | .bool, l, x, cs, ht, hx, hv => by
    unfold St.impl at hx
    split at hx
    · match cs, hv with
      | [v], hv => rw [List.flatMap_cons, List.flatMap_nil, List.append_nil]; exact cvAs_tree h (by simpa using ht) hx hv.1
    · cases hx
  | .str, l, x, cs, ht, hx, hv => by
    unfold St.impl at hx
    split at hx
    · match cs, hv with
      | [v], hv => rw [List.flatMap_cons, List.flatMap_nil, List.append_nil]; exact cvAs_tree h (by simpa using ht) hx hv.1
    · cases hx
  | .slice t, l, x, cs, ht, hx, hv => by
    unfold St.impl at hx
    split at hx
    · match cs, hv with
      | [v], hv => rw [List.flatMap_cons, List.flatMap_nil, List.append_nil]; exact cvAs_tree h (by simpa using ht) hx hv.1
    · cases hx
  | .set, l, x, cs, ht, hx, hv => by
    unfold St.impl at hx
    split at hx
    · match cs, hv with
      | [v], hv => rw [List.flatMap_cons, List.flatMap_nil, List.append_nil]; exact cvAs_tree h (by simpa using ht) hx hv.1
    · cases hx
  | .err, l, x, cs, ht, hx, hv => by
    unfold St.impl at hx
    split at hx
    · match cs, hv with
      | [v], hv => rw [List.flatMap_cons, List.flatMap_nil, List.append_nil]; exact cvAs_tree h (by simpa using ht) hx hv.1
    · cases hx
  | .pair s t, l, x, cs, ht, hx, hv => by
    unfold St.impl at hx
    obtain ⟨y, hy, hx⟩ := Option.bind_eq_some_iff.1 hx
    obtain ⟨z, hz, hx⟩ := Option.bind_eq_some_iff.1 hx
    cases hx
    have ht' := List.all_eq_true.1 ht
    refine ⟨cs.take s.sz, cs.drop s.sz, (l.take s.sz).flatMap (blk bl), (l.drop s.sz).flatMap (blk bl), (List.take_append_drop _ _).symm, ?_, impl_tree h ?_ hy (hv.take s.sz), impl_tree h ?_ hz (hv.drop s.sz)⟩
    · rw [← List.flatMap_append, List.take_append_drop]
    · exact List.all_eq_true.2 fun c hc => ht' c (List.mem_of_mem_take hc)
    · exact List.all_eq_true.2 fun c hc => ht' c (List.mem_of_mem_drop hc)

/-- Elements, side by side. -/
def EL (σ : St) (t : Ty) : List CV → List t.den → Prop
  | l, [] => l = []
  | l, x :: xs => t.sz ≤ l.length ∧ σ.impl t (l.take t.sz) = some x ∧ EL σ t (l.drop t.sz) xs

theorem EL_len {t : Ty} : ∀ {xs : List t.den} {l : List CV}, EL σ t l xs → l.length = xs.length * t.sz
  | [], l, h => by rw [show l = [] from h]; simp
  | x :: xs, l, h => by
    have := EL_len h.2.2
    rw [List.length_drop] at this
    rw [List.length_cons, Nat.add_mul, Nat.one_mul]
    have := h.1
    omega
theorem EL_tree (h : SRi w0 S0 σ a w Im hd bl) {t : Ty} : ∀ {xs : List t.den} {l : List CV} {cs : List Value}, l.all σ.treeC = true → EL σ t l xs → CVs w Im hd cs l → OL t.sz (OT w t) xs cs (l.flatMap (blk bl))
  | [], l, cs, _, he, hv => by rw [show l = [] from he]; rfl
  | x :: xs, l, cs, ht, he, hv => by
    have ht' := List.all_eq_true.1 ht
    have hlen := hv.len
    refine ⟨(l.take t.sz).flatMap (blk bl), (l.drop t.sz).flatMap (blk bl), ?_, by have := he.1; omega, impl_tree h (List.all_eq_true.2 fun c hc => ht' c (List.mem_of_mem_take hc)) he.2.1 (hv.take _),
      EL_tree h (List.all_eq_true.2 fun c hc => ht' c (List.mem_of_mem_drop hc)) he.2.2 (hv.drop _)⟩
    rw [← List.flatMap_append, List.take_append_drop]
theorem EL_read (h : SRi w0 S0 σ a w Im hd bl) {t : Ty} : ∀ {xs : List t.den} {l : List CV} {cs : List Value} {S : Nat → Prop}, (∀ b, Im b → S b) → (∀ k ∈ ownsAll l, ∀ b ∈ bl k, S b) → EL σ t l xs → CVs w Im hd cs l →
    OL t.sz (fun x cs L => VR w S t x cs ∧ L = []) xs cs []
  | [], l, cs, S, _, _, he, hv => rfl
  | x :: xs, l, cs, S, hs, ho, he, hv => by
    have hlen := hv.len
    refine ⟨[], [], rfl, by have := he.1; omega, ⟨VR.mono (Same.refl _ _) (fun b hb => ?_) (impl_read h he.2.1 (hv.take _)), rfl⟩, EL_read h hs (fun k hk b hb => ?_) he.2.2 (hv.drop _)⟩
    · rcases hb with hb | ⟨k, hk, _, hb⟩
      · exact hs b hb
      · obtain ⟨c, hc, hk⟩ := List.mem_flatMap.1 hk
        exact ho k (owns_mem (List.mem_of_mem_take hc) k hk) b hb
    · obtain ⟨c, hc, hk⟩ := List.mem_flatMap.1 hk
      exact ho k (owns_mem (List.mem_of_mem_drop hc) k hk) b hb

/-! ### rows are given away -/
theorem nodupB_iff : ∀ {l : List Nat}, nodupB l = true ↔ l.Nodup
  | [] => by simp [nodupB]
  | c :: l => by
    simp only [nodupB, Bool.and_eq_true, Bool.not_eq_true', List.nodup_cons, nodupB_iff]
    rw [← hasB_mem, Bool.eq_false_iff]

theorem killAll_ok (h : SRi w0 S0 σ a w Im hd bl) : ∀ (l : List Nat), SRi w0 S0 (σ.killAll l) a w Im hd bl := by
  intro l
  induction l generalizing σ with
  | nil => exact h
  | cons c l ih => exact ih (h.kill c)
theorem obGet_sub {σ : St} {c : Nat} {r : Rn} {d : Nat} {p : Ob} (h : obGet (σ.sub c r).ob d = some p) : d ≠ c ∧ ∃ o, obGet σ.ob d = some o ∧ p = o.map r := by
  have hp' : obGet (obMap r (obDel σ.ob c)) d = some p := h
  rw [obGet_map, obGet_del] at hp'
  by_cases e : d = c
  · simp [e] at hp'
  · simp only [e, if_false] at hp'
    obtain ⟨o, ho, rfl⟩ := Option.map_eq_some_iff.1 hp'
    exact ⟨e, o, ho, rfl⟩
theorem killAll_get : ∀ {l : List Nat} {σ : St} {d : Nat} {p : Ob}, obGet (σ.killAll l).ob d = some p → d ∉ l ∧ ∃ o, obGet σ.ob d = some o
  | [], σ, d, p, h => ⟨by simp, p, h⟩
  | c :: l, σ, d, p, h => by
    obtain ⟨h1, o, h2⟩ := killAll_get (σ := σ.kill c) h
    obtain ⟨h3, q, h4, _⟩ := obGet_sub h2
    exact ⟨by simp [h3, h1], q, h4⟩
theorem freeze_get {σ : St} {c d : Nat} {p : Ob} (h : obGet (σ.freeze c).ob d = some p) : d ≠ c ∧ ∃ o, obGet σ.ob d = some o := by
  unfold St.freeze at h
  split at h
  · obtain ⟨h1, o, h2, _⟩ := obGet_sub h; exact ⟨h1, o, h2⟩
  · obtain ⟨h1, o, h2, _⟩ := obGet_sub h; exact ⟨h1, o, h2⟩
  · obtain ⟨h1, o, h2, _⟩ := obGet_sub h; exact ⟨h1, o, h2⟩
theorem row_map {r : Rn} {o : Ob} {t : Ty} {xs : List t.den} {d n : Bool} (h : .row t xs d n = o.map r) : o = .row t xs d n := by
  cases o with
  | row t' xs' d' n' => exact h.symm
  | arr _ _ => cases h
  | box _ => cases h
  | hole _ _ _ _ => cases h
  | tl _ _ _ => cases h
  | mp _ => cases h
  | hol _ _ _ _ => cases h
theorem freeze_row {σ : St} {c d : Nat} {t : Ty} {xs : List t.den} {e n : Bool} (h : obGet σ.ob d = some (.row t xs e n)) (hne : d ≠ c) : obGet (σ.freeze c).ob d = some (.row t xs e n) := by
  have key : ∀ r, obGet (σ.sub c r).ob d = some (.row t xs e n) := by
    intro r
    show obGet (obMap r (obDel σ.ob c)) d = _
    rw [obGet_map, obGet_del]; simp [hne, h, Ob.map]
  unfold St.freeze
  split
  · exact key _
  · exact key _
  · exact key _
theorem map_tree {r : Rn} {o : Ob} (h : o.tree = true) : o.map r = o := by cases o <;> first | rfl | cases h
theorem freeze_tree {σ : St} {c d : Nat} {o : Ob} (h : obGet σ.ob d = some o) (ht : o.tree = true) (hne : d ≠ c) : obGet (σ.freeze c).ob d = some o := by
  have key : ∀ r, obGet (σ.sub c r).ob d = some o := by
    intro r
    show obGet (obMap r (obDel σ.ob c)) d = _
    rw [obGet_map, obGet_del, if_neg hne, h]
    show some (o.map r) = some o
    rw [map_tree ht]
  unfold St.freeze
  split
  · exact key _
  · exact key _
  · exact key _
theorem kill_row {σ : St} {c d : Nat} {t : Ty} {xs : List t.den} {e n : Bool} (h : obGet σ.ob d = some (.row t xs e n)) (hne : d ≠ c) : obGet (σ.kill c).ob d = some (.row t xs e n) := by
  show obGet (obMap _ (obDel σ.ob c)) d = _
  rw [obGet_map, obGet_del]; simp [hne, h, Ob.map]
theorem freezeAll_ok (h : SRi w0 S0 σ a w Im hd bl) : ∀ (l : List Nat), ∃ Im', SRi w0 S0 (σ.freezeAll l) a w Im' hd bl ∧ (∀ b, Im b → Im' b) ∧ (∀ b, Im' b → Im b ∨ ∃ c ∈ l, b ∈ bl c) ∧
    (∀ c ∈ l, ∀ o, obGet σ.ob c = some o → o.tree = true → ∀ b ∈ bl c, Im' b) := by
  intro l
  induction l generalizing σ Im with
  | nil => exact ⟨Im, h, fun _ x => x, fun _ x => .inl x, fun c hc => by cases hc⟩
  | cons c l ih =>
    obtain ⟨Im1, h1, i1, i2, i3⟩ := h.freeze c
    obtain ⟨Im2, h2, j1, j2, j3⟩ := ih h1
    refine ⟨Im2, h2, fun b hb => j1 b (i1 b hb), fun b hb => ?_, fun k hk o hg ht b hb => ?_⟩
    · rcases j2 b hb with hb | ⟨k, hk, hb⟩
      · rcases i2 b hb with hb | hb
        · exact .inl hb
        · exact .inr ⟨c, by simp, hb⟩
      · exact .inr ⟨k, by simp [hk], hb⟩
    · by_cases e : k = c
      · subst e; exact j1 b (i3 o hg ht b hb)
      · have hk' : k ∈ l := by simpa [e] using hk
        exact j3 k hk' o (freeze_tree hg ht e) ht b hb
theorem freezeAll_get : ∀ {l : List Nat} {σ : St} {d : Nat} {p : Ob}, obGet (σ.freezeAll l).ob d = some p → d ∉ l ∧ ∃ o, obGet σ.ob d = some o
  | [], σ, d, p, h => ⟨by simp, p, h⟩
  | c :: l, σ, d, p, h => by
    obtain ⟨h1, o, h2⟩ := freezeAll_get (σ := σ.freeze c) h
    obtain ⟨h3, q, h4⟩ := freeze_get h2
    exact ⟨by simp [h3, h1], q, h4⟩

/-- What a part that is a tree owns: no block twice, none of another's. -/
theorem tree_nodup (h : SRi w0 S0 σ a w Im hd bl) : ∀ {l : List CV}, (ownsAll l).Nodup → l.all σ.treeC = true → (l.flatMap (blk bl)).Nodup
  | [], _, _ => by simp
  | c :: l, hn, ht => by
    rw [List.all_cons, Bool.and_eq_true] at ht
    have hn' : (c.owns ++ ownsAll l).Nodup := by simpa [ownsAll] using hn
    rw [List.nodup_append] at hn'
    have ih := tree_nodup h hn'.2.1 ht.2
    rw [List.flatMap_cons, List.nodup_append]
    cases c with
    | own k =>
      have hk : ∃ o, obGet σ.ob k = some o := by
        have := ht.1
        unfold St.treeC at this
        cases hg : obGet σ.ob k with
        | none => simp [hg] at this
        | some o => exact ⟨o, rfl⟩
      obtain ⟨o, ho⟩ := hk
      refine ⟨(h.own k o ho).1, ih, fun b hb b' hb' e => ?_⟩
      subst e
      obtain ⟨c', hc', hb''⟩ := List.mem_flatMap.1 hb'
      cases c' with
      | own k' =>
        have hk2 : ∃ o, obGet σ.ob k' = some o := by
          have := List.all_eq_true.1 ht.2 _ hc'
          unfold St.treeC at this
          cases hg : obGet σ.ob k' with
          | none => simp [hg] at this
          | some o => exact ⟨o, rfl⟩
        obtain ⟨o', ho'⟩ := hk2
        have hne : k ≠ k' := fun e => hn'.2.2 k (by simp [CV.owns]) k' (List.mem_flatMap.2 ⟨_, hc', by simp [CV.owns]⟩) e
        exact h.apart k o k' o' ho ho' hne b hb hb''
      | dead => cases hb''
      | nil => cases hb''
      | val t x => cases hb''
      | unk => cases hb''
    | dead => simpa [blk] using ih
    | nil => simpa [blk] using ih
    | val t x => simpa [blk] using ih
    | unk => simpa [blk] using ih
theorem tree_mem {l : List CV} {b : Nat} (hb : b ∈ l.flatMap (blk bl)) : ∃ k ∈ ownsAll l, b ∈ bl k := by
  obtain ⟨c, hc, hb⟩ := List.mem_flatMap.1 hb
  cases c with
  | own k => exact ⟨k, List.mem_flatMap.2 ⟨_, hc, by simp [CV.owns]⟩, hb⟩
  | dead => cases hb
  | nil => cases hb
  | val t x => cases hb
  | unk => cases hb
theorem tree_row {l : List CV} (ht : l.all σ.treeC = true) : ∀ k ∈ ownsAll l, ∃ o, obGet σ.ob k = some o ∧ o.tree = true := by
  intro k hk
  obtain ⟨c, hc, hk⟩ := List.mem_flatMap.1 hk
  cases c with
  | own c =>
    have e : k = c := by simpa [CV.owns] using hk
    subst e
    have := List.all_eq_true.1 ht _ hc
    unfold St.treeC at this
    cases hg : obGet σ.ob k with
    | none => simp [hg] at this
    | some o =>
      cases o with
      | row t xs d n => exact ⟨_, rfl, rfl⟩
      | arr _ _ => simp [hg] at this
      | box _ => simp [hg] at this
      | hole _ _ _ _ => simp [hg] at this
      | tl _ _ _ => simp [hg] at this
      | mp _ => exact ⟨_, rfl, rfl⟩
      | hol _ _ _ _ => simp [hg] at this
  | dead => cases hk
  | nil => cases hk
  | val t x => cases hk
  | unk => cases hk
theorem live_row {l : List CV} (ht : l.all σ.live = true) : ∀ k ∈ ownsAll l, ∃ o, obGet σ.ob k = some o ∧ o.tree = true := by
  intro k hk
  obtain ⟨c, hc, hk⟩ := List.mem_flatMap.1 hk
  cases c with
  | own c =>
    have e : k = c := by simpa [CV.owns] using hk
    subst e
    have := List.all_eq_true.1 ht _ hc
    unfold St.live at this
    cases hg : obGet σ.ob k with
    | none => simp [hg] at this
    | some o =>
      cases o with
      | row t xs d n => exact ⟨_, rfl, rfl⟩
      | arr _ _ => simp [hg] at this
      | box _ => simp [hg] at this
      | hole _ _ _ _ => simp [hg] at this
      | tl _ _ _ => simp [hg] at this
      | mp _ => exact ⟨_, rfl, rfl⟩
      | hol _ _ _ _ => simp [hg] at this
  | dead => cases hk
  | nil => cases hk
  | val t x => cases hk
  | unk => cases hk

/-- Elements are given into a row: how the row reads them from here on. -/
theorem SRi.give (h : SRi w0 S0 σ a w Im hd bl) {t : Ty} {l : List CV} {xs : List t.den} {cs : List Value} (he : EL σ t l xs) (hv : CVs w Im hd cs l) (hlive : l.all σ.live = true) {tree : Bool} (htree : tree = true → σ.treeB l = true) :
    ∃ Im' M, SRi w0 S0 (σ.give tree (ownsAll l)) a w Im' hd bl ∧ (∀ b, Im b → Im' b) ∧ OL t.sz (rowP w Im' t tree) xs cs M ∧ M.Nodup ∧
      (∀ b ∈ M, w0.mine b ∧ b < w.heap.size ∧ ¬ Im' b) ∧ (∀ d p, obGet (σ.give tree (ownsAll l)).ob d = some p → (∃ o, obGet σ.ob d = some o) ∧ ∀ b ∈ bl d, b ∉ M) ∧ (∀ b ∈ M, ∃ k ∈ ownsAll l, b ∈ bl k) ∧
      (∀ b, Im' b → Im b ∨ ∃ k ∈ ownsAll l, b ∈ bl k) := by
  cases tree with
  | true =>
    have ht := htree rfl
    rw [treeB_eq, Bool.and_eq_true] at ht
    have hnd := nodupB_iff.1 ht.1
    refine ⟨Im, l.flatMap (blk bl), killAll_ok h _, fun _ x => x, EL_tree h ht.2 he hv, tree_nodup h hnd ht.2, fun b hb => ?_, fun d p hp => ?_, fun b hb => tree_mem hb, fun b hb => .inl hb⟩
    · obtain ⟨k, hk, hb⟩ := tree_mem hb
      obtain ⟨o', hg, _⟩ := tree_row ht.2 k hk
      exact (h.own k _ hg).2 b hb
    · obtain ⟨hnot, o, ho⟩ := killAll_get hp
      refine ⟨⟨o, ho⟩, fun b hb hb2 => ?_⟩
      obtain ⟨k, hk, hb2⟩ := tree_mem hb2
      obtain ⟨o', hg, _⟩ := tree_row ht.2 k hk
      exact h.apart d o k _ ho hg (fun e => hnot (e ▸ hk)) b hb hb2
  | false =>
    obtain ⟨Im', h1, i1, i2, i3⟩ := freezeAll_ok h (ownsAll l)
    refine ⟨Im', [], h1, i1, ?_, List.nodup_nil, (fun b hb => by cases hb), (fun d p hp => ⟨(freezeAll_get hp).2, (fun b _ hb => by cases hb)⟩), (fun b hb => by cases hb), i2⟩
    exact EL_read h i1 (fun k hk b hb => by
      obtain ⟨o', hg, ht'⟩ := live_row hlive k hk
      exact i3 k hk o' hg ht' b hb) he hv

end
end Go.Vt
