/-
  The plain machine's structs, built part by part, tell what the model's do.
  Conditions: the table of types is right (TyOk).
-/
import Derived.Test.YtlgkjckddpnfnaaGreatDoorXvj
namespace Go.Vt
open Go.RowKit
set_option linter.unusedVariables false
set_option linter.unusedSimpArgs false

section
variable {P : Program} {ρ : Type} {gw : Gw} {w0 : Base gw} {w : World} {S0 : Nat → Prop} {σ : St} {a : Act} {Im : Nat → Prop} {hd : Nat → Value} {bl : Nat → List Nat} {Q : Exit → Act → World → Prop}

theorem CVs.splice {vs us : List Value} {l m : List CV} (h : CVs w Im hd vs l) (k : CVs w Im hd us m) (o : Nat) : CVs w Im hd (splice vs o us) (splice l o m) := by
  unfold Vt.splice
  rw [k.len]
  exact ((h.take o).app k).app (h.drop _)
theorem splice_len {α : Type} {l new : List α} {o : Nat} (h : o + new.length ≤ l.length) : (splice l o new).length = l.length := by
  unfold splice; simp; omega

theorem fold_splice (off : Nat) (l cs : List Value) (h : off + l.length ≤ cs.length) : ((l.zipIdx 0).foldl (fun cs (x : Value × Nat) => cs.setIfInBounds (off + x.2) x.1) cs.toArray).toList = splice cs off l := by
  obtain ⟨h1, h2⟩ := Great.foldl_set off l 0 cs.toArray
  apply List.ext_getElem?
  intro k
  have h3 := h2 k
  rw [← Array.getElem?_toList] at h3
  rw [h3]
  unfold splice
  simp only [Nat.add_zero, List.size_toArray, List.getElem?_toArray]
  by_cases hk : off ≤ k ∧ k < off + l.length ∧ k < cs.length
  · rw [if_pos hk, List.append_assoc, List.getElem?_append_right (by simp; omega), List.getElem?_append_left (by simp; omega)]
    simp; congr 1; omega
  · rw [if_neg hk]
    by_cases h4 : k < off
    · rw [List.append_assoc, List.getElem?_append_left (by simp; omega)]; simp [List.getElem?_take, h4]
    · rw [List.getElem?_append_right (by simp; omega)]
      simp only [List.length_append, List.length_take, List.getElem?_drop]
      congr 1; omega

theorem mapM_get {f : Field → Option (Nat × Nat)} : ∀ {fs : List Field} {ps : List (Nat × Nat)}, fs.mapM f = some ps → ∀ (j : Nat) (x : Field), fs[j]? = some x → ∃ p, ps[j]? = some p ∧ f x = some p
  | [], ps, h, j, x, hx => by simp at hx
  | y :: fs, ps, h, j, x, hx => by
    simp only [List.mapM_cons, Option.bind_eq_bind, Option.pure_def, Option.bind_eq_some_iff, Option.some.injEq] at h
    obtain ⟨p, hp, qs, hqs, rfl⟩ := h
    cases j with
    | zero => exact ⟨p, rfl, by cases (show some y = some x from hx); exact hp⟩
    | succ j => obtain ⟨q, h1, h2⟩ := mapM_get hqs j x hx; exact ⟨q, h1, h2⟩

theorem fill_of {E : Env} (hE : ∀ T ti, E.ty T = some ti → TyOk P T ti) (h : SRi w0 S0 σ a w Im hd bl) {T : Nat} {fields : Array Field} (hu : P.underlying T = some (.struct fields)) {places : List (Nat × Nat)}
    (hpl : fields.toList.mapM (fun f => (P.info? f.type).map fun i => (f.offset, i.size)) = some places) : ∀ {ps : List (Nat × Operand)} {zs : List Value} {l : List CV} {av : AV}, CVs w Im hd zs l →
    aBuild E σ T (ps.map fun p => (p.1, σ.ev p.2)) l = some av →
    ∃ cs, Instr.fill (places.toArray[·]?) zs.toArray (ps.map fun p => (p.1, a.eval p.2)) = some cs ∧ AVR w Im hd (.agg cs) av
  | [], zs, l, av, hz, hb => by
    unfold aBuild at hb
    simp at hb
    subst hb
    exact ⟨zs.toArray, by simp [Instr.fill], zs, rfl, hz⟩
  | (f, x) :: ps, zs, l, av, hz, hb => by
    rw [List.map_cons] at hb
    unfold aBuild at hb
    simp only at hb
    split at hb
    · rename_i off n agg cs hf hc
      cases hk : (Nat.beq cs.length n && Nat.ble (off + n) l.length) with
      | false => rw [hk] at hb; cases hb
      | true =>
        rw [hk, cond_true] at hb
        rw [Bool.and_eq_true] at hk
        have hcl := Nat.eq_of_beq_eq_true hk.1
        have hle := Nat.le_of_ble_eq_true hk.2
        obtain ⟨fields', fld, hu', hfld, hoff, hsz⟩ := aField_ok hE hf
        rw [hu] at hu'; cases hu'
        obtain ⟨⟨i, hi, his⟩, _⟩ := size_ok hE hsz
        obtain ⟨p, hp1, hp2⟩ := mapM_get hpl f fld (by simpa using hfld)
        simp only [hi, Option.map_some, Option.some.injEq] at hp2
        obtain ⟨us, hu1, hu2, _, hu4⟩ := cells_of h (h.ev x) hc
        have hul := hu2.len
        have hzl := hz.len
        obtain ⟨cs', h1, h2⟩ := fill_of hE h hu hpl (hz.splice hu2 off) hb
        refine ⟨cs', ?_, h2⟩
        rw [List.map_cons]
        unfold Instr.fill
        have hpp : places.toArray[f]? = some (off, n) := by rw [List.getElem?_toArray, hp1, ← hp2, hoff, his]
        simp only [hpp, hu1]
        rw [if_neg (by simp; omega)]
        rw [← h1]
        congr 1
        rw [← Array.foldl_toList, Array.toList_zipIdx]
        have := fold_splice off us zs (by omega)
        rw [← this]
    · cases hb

theorem aBuild_ok {E : Env} (hE : ∀ T ti, E.ty T = some ti → TyOk P T ti) (h : SRi w0 S0 σ a w Im hd bl) {T : Nat} {ps : Array (Nat × Operand)} {fs ks eq} (hT : E.ty T = some (.struct fs ks eq)) {av : AV}
    (hb : aBuild E σ T (ps.toList.map fun p => (p.1, σ.ev p.2)) (ks.map zeroCell) = some av) : ∃ v, (Instr.build T (ps.map fun (i, x) => (i, a.eval x))).run P w = .ok v w ∧ AVR w Im hd v av := by
  obtain ⟨fields, hu, ⟨i, z, hi, _, hz, hzc⟩, _, _, ⟨places, hpl⟩, _⟩ := hE T _ hT
  obtain ⟨cs, h1, h2⟩ := fill_of hE h hu hpl (kindZeros_CVs ks) hb
  refine ⟨.agg cs, run_build w T _ cs ?_, h2⟩
  unfold Program.built
  simp only [hi, hu, hz, hpl]
  rw [Array.toList_map, ← h1]
  congr 1
  rw [← hzc]

end
end Go.Vt
