/-
  The plain machine's reading operations tell what the model's do.
  Conditions: the table of types is right (TyOk).
-/
import Derived.Test.YtlgkjckddpnfnaaGreatDoorXvf
namespace Go.Vt
open Go.RowKit
set_option linter.unusedVariables false
set_option linter.unusedSimpArgs false

section
variable {P : Program} {ρ : Type} {gw : Gw} {w0 : Base gw} {w : World} {S0 : Nat → Prop} {σ : St} {a : Act} {Im : Nat → Prop} {hd : Nat → Value} {bl : Nat → List Nat} {Q : Exit → Act → World → Prop}

/-- An object turns: its row may be written, a part of what it owned may become immutable. -/
theorem SRi.obj (h : SRi w0 S0 σ a w Im hd bl) {c : Nat} {o o' : Ob} (hc : obGet σ.ob c = some o) {w' : World} {Im' : Nat → Prop} {L : List Nat}
    (hw : ∀ b, b < w.heap.size → b ∉ bl c → w'.heap[b]? = w.heap[b]?) (hsz : w.heap.size ≤ w'.heap.size) (hb : Kept w0 w')
    (hi : ∀ b, Im b → Im' b) (hi' : ∀ b, Im' b → Im b ∨ (b ∈ bl c ∧ b ∉ L)) (hL : L.Nodup) (hLs : ∀ b ∈ L, b ∈ bl c)
    (ho : ObR w' Im' hd (hd c) L o') : SRi w0 S0 { σ with ob := obPut σ.ob c o' } a w' Im' hd (fun d => if d = c then L else bl d) := by
  have hown := h.own c o hc
  have hImb : ∀ b, Im b → b ∉ bl c := fun b hb hb2 => (hown.2 b hb2).2.2 hb
  have hs : Same Im w w' := fun b hb => hw b (h.lt b hb) (hImb b hb)
  have T : Tell w w' Im Im' hd hd ⟨.own, .adr, .el⟩ := Tell.keep hd hs hi
  have g : ∀ d p, obGet (obPut σ.ob c o') d = some p → (d = c ∧ p = o') ∨ (d ≠ c ∧ obGet σ.ob d = some p) := by
    intro d p hp
    rw [obGet_put] at hp
    by_cases e : c = d
    · simp [e] at hp; exact .inl ⟨e.symm, hp.symm⟩
    · simp [e] at hp; exact .inr ⟨Ne.symm e, hp⟩
  refine ⟨hb, fun b hb => hi b (h.sub b hb), fun b hb => ?_, fun b hb => ?_, h.nodef, h.size, fun i av hi => ?_, fun d p hp => ?_, fun d p hp => ?_, fun d p e q hp hq hne => ?_, h.io⟩
  · rcases hi' b hb with h1 | h1
    · exact h.new b h1
    · exact .inr (hown.2 b h1.1).1
  · rcases hi' b hb with h1 | h1
    · exact Nat.lt_of_lt_of_le (h.lt b h1) hsz
    · exact Nat.lt_of_lt_of_le (hown.2 b h1.1).2.1 hsz
  · have := (h.slots i av hi).tell T; rwa [AV.map_id] at this
  · rcases g d p hp with ⟨rfl, rfl⟩ | ⟨hne, hp⟩
    · simpa using ho
    · simp only [hne, if_false]
      have := (h.objs d p hp).tell T (fun b hb => hw b ((h.own d p hp).2 b hb).2.1 (h.apart d p c o hp hc hne b hb))
      rwa [Ob.map_id] at this
  · rcases g d p hp with ⟨rfl, rfl⟩ | ⟨hne, hp⟩
    · simp only [if_true]
      refine ⟨hL, fun b hb => ⟨(hown.2 b (hLs b hb)).1, Nat.lt_of_lt_of_le (hown.2 b (hLs b hb)).2.1 hsz, fun hb2 => ?_⟩⟩
      rcases hi' b hb2 with h1 | h1
      · exact (hown.2 b (hLs b hb)).2.2 h1
      · exact h1.2 hb
    · simp only [hne, if_false]
      refine ⟨(h.own d p hp).1, fun b hb => ⟨((h.own d p hp).2 b hb).1, Nat.lt_of_lt_of_le ((h.own d p hp).2 b hb).2.1 hsz, fun hb2 => ?_⟩⟩
      rcases hi' b hb2 with h1 | h1
      · exact ((h.own d p hp).2 b hb).2.2 h1
      · exact h.apart d p c o hp hc hne b hb h1.1
  · rcases g d p hp with ⟨rfl, rfl⟩ | ⟨hd1, hp1⟩ <;> rcases g e q hq with ⟨rfl, rfl⟩ | ⟨hd2, hq1⟩
    · exact (hne rfl).elim
    · simp only [if_true, hd2, if_false]; intro b hb hb2; exact h.apart e q d o hq1 hc hd2 b hb2 (hLs b hb)
    · simp only [if_true, hd1, if_false]; exact fun b hb hb2 => h.apart d p e o hp1 hc hd1 b hb (hLs b hb2)
    · simp only [hd1, hd2, if_false]; exact h.apart d p e q hp1 hq1 hne

theorem plain_CVs {hd2 : Nat → Value} : ∀ {vs : List Value} {l : List CV}, plainCells l = true → CVs w Im hd vs l → CVs w Im hd2 vs l
  | [], [], _, _ => trivial
  | v :: vs, c :: l, hp, h => by
    have hp' : plainCells l = true := by
      unfold plainCells at hp ⊢
      simp only [List.all_cons, Bool.and_eq_true] at hp
      exact hp.2
    refine ⟨?_, plain_CVs hp' h.2⟩
    cases c with
    | dead => exact trivial
    | nil => exact h.1
    | val t x => exact h.1
    | own d => simp [plainCells] at hp
    | unk => exact h.1
  | [], _ :: _, _, h => h.elim
  | _ :: _, [], _, h => h.elim
theorem plain_drop {l : List CV} (h : plainCells l = true) (n : Nat) : plainCells (l.drop n) = true := by
  unfold plainCells at *
  rw [List.all_eq_true] at *
  exact fun x hx => h x (List.mem_of_mem_drop hx)
theorem plain_explode : ∀ (t : Ty) (x : t.den), plainCells (explode t x) = true
  | .int _, _ => rfl | .bool, _ => rfl | .str, _ => rfl | .slice _, _ => rfl | .set, _ => rfl | .err, _ => rfl
  | .pair a b, x => by
    have h1 := plain_explode a x.1
    have h2 := plain_explode b x.2
    unfold plainCells at *
    show ((explode a x.1 ++ explode b x.2).all _) = true
    rw [List.all_append, h1, h2]; rfl

/-- What a row's element i reads as. -/
theorem row_elem {v : Value} {L : List Nat} {t : Ty} {xs : List t.den} {d cn : Bool} (h : ObR w Im hd v L (.row t xs d cn)) {i : Nat} (hi : i < xs.length) :
    ∃ b f cap, v = .slice (some ⟨b, f, none⟩) xs.length cap ∧ b ∈ L ∧ ∃ cs, cs.length = t.sz ∧ At w b (f + i * t.sz) cs ∧ (t.flat = true ∨ d = false → VR w Im t (xs.getD i t.dflt) cs) := by
  rcases h.1 with ⟨rfl, rfl, rfl⟩ | ⟨b, f, cap, cs, E, Li, rfl, hb, h1, h2, rfl, hl⟩
  · simp at hi
  · obtain ⟨l, hp, hl2, hle⟩ := hl.get i xs[i] (by simp [hi])
    rw [List.drop_drop] at hp
    rw [List.length_drop] at hle
    have e : xs.getD i t.dflt = xs[i] := by simp [List.getD, hi]
    rw [e]
    refine ⟨b, f, cap, rfl, by simp, _, ?_, drop_at hb (f + i * t.sz) t.sz, fun hf => ?_⟩
    · rw [List.length_take, List.length_drop]; rw [Nat.add_mul, Nat.one_mul] at hle; omega
    · cases d with
      | false => exact hp.1
      | true =>
        rcases hf with hf | hf
        · exact VR.flat hf (OT.read (S := fun _ => True) hp (fun _ _ => trivial))
        · cases hf

theorem top_ptr {c b f : Nat} (h : hd c = .pointer (some ⟨b, f, none⟩)) : Value.top (hd c) = some (b, f) := by rw [h]; rfl
theorem top_slice {v : Value} {b f n k : Nat} (h : v = .slice (some ⟨b, f, none⟩) n k) : Value.top v = some (b, f) := by rw [h]; rfl

theorem OL.nodeep {t : Ty} {xs : List t.den} {cs : List Value} {L : List Nat} {S : Nat → Prop} (h : OL t.sz (OT w t) xs cs L) (hs : ∀ b ∈ L, S b) : OL t.sz (fun x cs L => VR w S t x cs ∧ L = []) xs cs [] := by
  induction xs generalizing cs L with
  | nil => rfl
  | cons x xs ih =>
    obtain ⟨L1, L2, rfl, hn, hp, h⟩ := h
    exact ⟨[], [], rfl, hn, ⟨hp.read (fun b hb => hs b (by simp [hb])), rfl⟩, ih h (fun b hb => hs b (by simp [hb]))⟩

/-- A row of rows is looked into: what lies within is immutable from here on. -/
theorem SRi.soften (h : SRi w0 S0 σ a w Im hd bl) {c : Nat} {t : Ty} {xs : List t.den} {cn : Bool} (hc : obGet σ.ob c = some (.row t xs true cn)) :
    ∃ Im' bl', SRi w0 S0 { σ with ob := obPut σ.ob c (.row t xs false cn) } a w Im' hd bl' ∧ (∀ b, Im b → Im' b) := by
  have ho := h.objs c _ hc
  have hown := h.own c _ hc
  rcases ho.1 with ⟨e1, rfl, e3⟩ | ⟨b, f0, cap, cs, E, Li, e1, hb, h1, h2, e5, hl⟩
  · exact ⟨Im, _, h.obj hc (fun _ _ _ => rfl) (Nat.le_refl _) h.below (fun _ x => x) (fun b hb => .inl hb) (L := []) List.nodup_nil (fun b hb => by cases hb) ⟨.inl ⟨e1, rfl, rfl⟩, ho.2⟩, fun _ x => x⟩
  · refine ⟨fun b' => Im b' ∨ b' ∈ Li, _, h.obj hc (fun _ _ _ => rfl) (Nat.le_refl _) h.below (fun _ x => .inl x) (fun b' hb' => ?_) (L := [b]) (by simp) (fun b' hb' => by simp at hb'; rw [e5, hb']; simp) ⟨.inr ⟨b, f0, cap, cs, E, [], e1, hb, h1, h2, rfl, ?_⟩, ho.2⟩, fun _ x => .inl x⟩
    · rcases hb' with h3 | h3
      · exact .inl h3
      · refine .inr ⟨by rw [e5]; simp [h3], fun h4 => ?_⟩
        simp at h4
        have := hown.1
        rw [e5, List.nodup_cons] at this
        exact this.1 (h4 ▸ h3)
    · exact OL.nodeep (S := fun b' => Im b' ∨ b' ∈ Li) hl (fun b' hb' => .inr hb')

/-- A variable is read. -/
theorem aLoad_ok {E : Env} (hE : ∀ T ti, E.ty T = some ti → TyOk P T ti) (h : SRi w0 S0 σ a w Im hd bl) {T : Nat} {x : AV} {v : Value} (hx : AVR w Im hd v x)
    {next : St → AV → Option ρ} {r : ρ} (hn : aLoad E σ T x next = some r) :
    ∃ u τ av Im' bl', (Instr.loadAt T v).run P w = .ok u w ∧ SRi w0 S0 τ a w Im' hd bl' ∧ AVR w Im' hd u av ∧ next τ av = some r := by
  unfold aLoad at hn
  cases hT : aSize E T with
  | none => simp [hT] at hn
  | some p =>
    obtain ⟨n, agg⟩ := p
    obtain ⟨⟨i, hi, hsz⟩, hagg, h1⟩ := size_ok hE hT
    simp only [hT] at hn
    cases x with
    | cv c => cases hn
    | ag l => cases hn
    | fn f l => cases hn
    | tup l => cases hn
    | adr c o =>
      simp only at hn
      cases hc : obGet σ.ob c with
      | none => simp [hc] at hn
      | some ob =>
        cases ob with
        | hole t xs i v => simp [hc] at hn
        | tl t xs n => simp [hc] at hn
        | mp l => simp [hc] at hn
        | hol t xs i l => simp [hc] at hn
        | row t xs d cn => simp [hc] at hn
        | arr t xs => simp [hc] at hn
        | box l =>
          simp only [hc] at hn
          obtain ⟨h2, h3⟩ := chk_some hn
          have hle := Nat.le_of_ble_eq_true h2
          obtain ⟨b, e1, rfl⟩ := hx
          obtain ⟨b', cs, F, e2, hb, _, hcs⟩ := h.objs c _ hc
          rw [e1] at e2; cases e2
          have hlen := hcs.len
          have hl : ((cs.toList.drop o).take n).length = n := by rw [List.length_take, List.length_drop, hlen]; omega
          refine ⟨_, σ, _, Im, bl, run_load_at (drop_at hb o n) hi (by rw [hl]; exact hsz) hagg (fun e => by rw [hl]; exact h1 e), h, ofCells_AVR ((hcs.drop o).take n), h3⟩
    | ref l =>
      simp only at hn
      obtain ⟨h2, h3⟩ := chk_some hn
      have hle := Nat.le_of_ble_eq_true h2
      obtain ⟨pl, b, o, vs, hb, rfl, hat, hcs⟩ := hx
      have hlen := hcs.len
      have hl : (vs.take n).length = n := by rw [List.length_take, hlen]; omega
      have hat' : At w b o (vs.take n) := fun j u hj => hat j u (by rw [List.getElem?_take] at hj; split at hj <;> first | exact hj | cases hj)
      exact ⟨_, σ, _, Im, bl, run_load_at hat' hi (by rw [hl]; exact hsz) hagg (fun e => by rw [hl]; exact h1 e), h, ofCells_AVR ((plain_CVs pl hcs).take n), h3⟩
    | el c m j o =>
      simp only at hn
      cases hc : obGet σ.ob c with
      | none => simp [hc] at hn
      | some ob =>
        cases ob with
        | hole t xs i v => simp [hc] at hn
        | tl t xs n => simp [hc] at hn
        | mp l => simp [hc] at hn
        | hol t xs i l => simp [hc] at hn
        | box l => simp [hc] at hn
        | row t xs d cn =>
          simp only [hc] at hn
          obtain ⟨h2, h3⟩ := chk_some hn
          obtain ⟨h4, h5⟩ := chk_some h3
          have hm : Nat.beq m t.sz = true ∧ Nat.ble (o + n) m = true := by simpa using h2
          obtain rfl := Nat.eq_of_beq_eq_true hm.1
          have hle := Nat.le_of_ble_eq_true hm.2
          have hj : j < xs.length := of_decide_eq_true h4
          obtain ⟨b, f1, e1, rfl⟩ := hx
          -- the state in which the element may be read
          obtain ⟨τ, Im', bl', hτ, hget, hsub, hnext⟩ : ∃ τ Im' bl', SRi w0 S0 τ a w Im' hd bl' ∧ (∃ d', obGet τ.ob c = some (.row t xs d' cn) ∧ (t.flat = true ∨ d' = false)) ∧ (∀ b, Im b → Im' b) ∧
              next τ (ofCells agg (((explode t (xs.getD j t.dflt)).drop o).take n)) = some r := by
            cases hf : t.flat || !d with
            | true =>
              rw [hf] at h5
              refine ⟨σ, Im, bl, h, ⟨d, hc, ?_⟩, fun _ x => x, h5⟩
              simpa [Bool.or_eq_true] using hf
            | false =>
              rw [hf] at h5
              have hd' : d = true := by simp at hf; exact hf.2
              subst hd'
              obtain ⟨Im', bl', h6, h7⟩ := h.soften hc
              exact ⟨_, Im', bl', h6, ⟨false, by rw [obGet_put]; simp, .inr rfl⟩, h7, h5⟩
          obtain ⟨d', hget, hfd⟩ := hget
          obtain ⟨b', f0, cap, e2, _, cs, hcl, hat, hvr⟩ := row_elem (hτ.objs c _ hget) hj
          rw [top_slice e2] at e1; cases e1
          have hv := hvr hfd
          have hcs : CVs w Im' hd cs (explode t (xs.getD j t.dflt)) := explode_CVs hv
          have hl : ((cs.drop o).take n).length = n := by rw [List.length_take, List.length_drop, hcl]; omega
          have hat' : At w b (f1 + j * t.sz + o) ((cs.drop o).take n) := fun q u hq => by
            rw [List.getElem?_take] at hq
            split at hq
            · rw [List.getElem?_drop] at hq
              have := hat (o + q) u hq
              rwa [← Nat.add_assoc] at this
            · cases hq
          exact ⟨_, τ, _, Im', bl', run_load_at hat' hi (by rw [hl]; exact hsz) hagg (fun e => by rw [hl]; exact h1 e), hτ, ofCells_AVR ((hcs.drop o).take n), hnext⟩
        | arr t xs =>
          simp only [hc] at hn
          obtain ⟨h2, h3⟩ := chk_some hn
          obtain ⟨h4, h5⟩ := chk_some h3
          have hm : (Nat.beq m t.sz = true ∧ Nat.ble (o + n) m = true) ∧ t.flat = true := by simpa using h2
          obtain rfl := Nat.eq_of_beq_eq_true hm.1.1
          have hle := Nat.le_of_ble_eq_true hm.1.2
          have hj : j < xs.length := of_decide_eq_true h4
          obtain ⟨b, f1, e1, rfl⟩ := hx
          obtain ⟨b', cs0, F, e2, hb, hs0, _, _, hol⟩ := h.objs c _ hc
          rw [top_ptr e2] at e1; cases e1
          obtain ⟨l, hp, _, hle2⟩ := hol.get j xs[j] (by simp [hj])
          have e : xs.getD j t.dflt = xs[j] := by simp [List.getD, hj]
          rw [e] at h5
          have hcs : CVs w Im hd _ (explode t xs[j]) := explode_CVs hp.1
          have hcl : ((cs0.toList.drop (j * t.sz)).take t.sz).length = t.sz := VR.sz hp.1
          have hl : ((((cs0.toList.drop (j * t.sz)).take t.sz).drop o).take n).length = n := by rw [List.length_take, List.length_drop, hcl]; omega
          have hat := drop_at hb (j * t.sz) t.sz
          rw [Nat.zero_add]
          have hat' : At w b (j * t.sz + o) ((((cs0.toList.drop (j * t.sz)).take t.sz).drop o).take n) := fun q u hq => by
            rw [List.getElem?_take] at hq
            split at hq
            · rw [List.getElem?_drop] at hq
              have := hat (o + q) u hq
              rwa [← Nat.add_assoc] at this
            · cases hq
          exact ⟨_, σ, _, Im, bl, run_load_at hat' hi (by rw [hl]; exact hsz) hagg (fun e => by rw [hl]; exact h1 e), h, ofCells_AVR ((hcs.drop o).take n), h5⟩

theorem aField_ok {E : Env} (hE : ∀ T ti, E.ty T = some ti → TyOk P T ti) {T f off n : Nat} {agg : Bool} (h : aField E T f = some (off, n, agg)) :
    ∃ fields fld, P.underlying T = some (.struct fields) ∧ fields[f]? = some fld ∧ fld.offset = off ∧ aSize E fld.type = some (n, agg) := by
  unfold aField at h
  split at h
  · rename_i fs ks eq hT
    split at h
    · rename_i off' u hf
      obtain ⟨p, hp, e⟩ := Option.map_eq_some_iff.1 h
      simp only [Prod.mk.injEq] at e
      obtain ⟨rfl, rfl, rfl⟩ := e
      obtain ⟨fields, hu, _, _, hfs, _⟩ := hE T _ hT
      obtain ⟨fld, h1, h2, h3⟩ := hfs f _ u hf
      exact ⟨fields, fld, hu, h1, h2, by rw [h3]; exact hp⟩
    · cases h
  · cases h

theorem run_fieldAt {T f off n : Nat} {agg : Bool} {E : Env} (hE : ∀ T ti, E.ty T = some ti → TyOk P T ti) (h : aField E T f = some (off, n, agg)) (hn : 1 ≤ n) (b o : Nat) (w : World) :
    (Instr.fieldAt T (.pointer (some ⟨b, o, none⟩)) f).run P w = .ok (.pointer (some ⟨b, o + off, none⟩)) w := by
  obtain ⟨fields, fld, hu, hf, rfl, hs⟩ := aField_ok hE h
  obtain ⟨⟨i, hi, hsz⟩, _, _⟩ := size_ok hE hs
  have h0 : ¬ i.size = 0 := by omega
  simp [Instr.fieldAt, run_underlying hu, hf, Instr.sureAddr, fieldPlace, run_size hi, h0, add_none]

theorem run_field {T f off n : Nat} {agg : Bool} {E : Env} (hE : ∀ T ti, E.ty T = some ti → TyOk P T ti) (h : aField E T f = some (off, n, agg)) {vs : List Value} {l : List CV} (hv : CVs w Im hd vs l) (hl : off + n ≤ l.length) :
    ∃ u, (Instr.field T (.agg vs.toArray) f).run P w = .ok u w ∧ AVR w Im hd u (ofCells agg ((l.drop off).take n)) := by
  obtain ⟨fields, fld, hu, hf, rfl, hs⟩ := aField_ok hE h
  obtain ⟨⟨i, hi, hsz⟩, hagg, h1⟩ := size_ok hE hs
  have hlen := hv.len
  have hd' := ((hv.drop fld.offset).take n)
  refine ⟨cellsVal agg ((vs.drop fld.offset).take n), ?_, ofCells_AVR hd'⟩
  cases agg with
  | true =>
    simp [Instr.field, run_underlying hu, hf, asAgg, part, hagg w, run_size hi, hsz, cellsVal]
  | false =>
    obtain rfl := h1 rfl
    have hlt : fld.offset < vs.length := by omega
    simp [Instr.field, run_underlying hu, hf, asAgg, part, hagg w, hlt, cellsVal]
    rw [List.head?_take, List.head?_drop]
    simp [hlt]


theorem run_indexAt_slice {T e i len cap : Nat} {t : Ty} {k : IntKind} (hu : P.underlying T = some (.slice e)) (he : ElemOk P e t) {b o : Nat} (hi : i < len) (w : World) :
    (Instr.indexAt T (.slice (some ⟨b, o, none⟩) len cap) (.int k (i : Int))).run P w = .ok (.pointer (some ⟨b, o + i * t.sz, none⟩)) w := by
  obtain ⟨ie, z, h1, h2, _⟩ := he
  have h3 : (0 : Int) ≤ (i : Int) ∧ (i : Int) < (len : Int) := by omega
  simp [Instr.indexAt, asIntOf, run_underlying hu, run_size h1, h2, hi, add_none]

theorem run_indexAt_arr {T e i n : Nat} {t : Ty} {k : IntKind} (hu : P.underlying T = some (.array n e)) (he : ElemOk P e t) {b : Nat} (hi : i < n) (h2 : 2 ≤ n) (w : World) :
    (Instr.indexAt T (.pointer (some ⟨b, 0, none⟩)) (.int k (i : Int))).run P w = .ok (.pointer (some ⟨b, i * t.sz, none⟩)) w := by
  obtain ⟨ie, z, h1, h3, _⟩ := he
  have h4 : ¬ n ≤ 1 := by omega
  simp [Instr.indexAt, asIntOf, run_underlying hu, run_size h1, h3, hi, Instr.sureAddr, add_none, h4]

theorem RefR.of_VR {t : Ty} {x : t.den} {b o : Nat} {cs : List Value} (hb : Im b) (hat : At w b o cs) (hv : VR w Im t x cs) : AVR w Im hd (.pointer (some ⟨b, o, none⟩)) (.ref (explode t x)) :=
  ⟨plain_explode t x, b, o, cs, hb, rfl, hat, explode_CVs hv⟩

/-- An element's address. -/
theorem aIndexAddr_ok {E : Env} (hE : ∀ T ti, E.ty T = some ti → TyOk P T ti) (h : SRi w0 S0 σ a w Im hd bl) {T : Nat} {x : AV} {v : Value} {k : IntKind} {i : Int} (hx : AVR w Im hd v x)
    {next : AV → Option ρ} {r : ρ} (hn : aIndexAddr E σ T x i next = some r) :
    ∃ u av, (Instr.indexAt T v (.int k i)).run P w = .ok u w ∧ AVR w Im hd u av ∧ next av = some r := by
  unfold aIndexAddr at hn
  split at hn
  · rename_i t u xs hT
    obtain ⟨h1, hn⟩ := chk_some hn
    obtain ⟨h2, hn⟩ := chk_some hn
    obtain ⟨h3, hn⟩ := chk_some hn
    obtain rfl := Ty.same_eq h1
    have h2' : 0 ≤ i := of_decide_eq_true h2
    have h3' : i < (xs.length : Int) := of_decide_eq_true h3
    obtain ⟨j, rfl⟩ : ∃ j : Nat, i = j := ⟨i.toNat, by omega⟩
    have hj : j < xs.length := by omega
    obtain ⟨e, hu, he⟩ := kind_slice hE hT
    obtain ⟨A, cap, ev, hc, hr⟩ := hx
    simp only [List.cons.injEq, and_true] at ev
    subst ev
    rcases hr with rfl | ⟨b, o, rfl, hb, hr⟩
    · simp at hj
    · obtain ⟨cs, hcl, hat, hv⟩ := hr j xs[j] (by simp [hj])
      refine ⟨_, _, run_indexAt_slice hu he hj w, ?_, hn⟩
      have e : xs.getD (j : Int).toNat t.dflt = xs[j] := by simp [List.getD, hj]
      rw [e]
      exact RefR.of_VR hb hat hv
  · rename_i t c hT
    cases hc : obGet σ.ob c with
    | none => simp [hc] at hn
    | some ob =>
      cases ob with
      | box l => simp [hc] at hn
      | arr t xs => simp [hc] at hn
      | row u xs d cn =>
        simp only [hc] at hn
        obtain ⟨h1, hn⟩ := chk_some hn
        obtain ⟨h2, hn⟩ := chk_some hn
        obtain ⟨h3, hn⟩ := chk_some hn
        obtain rfl := Ty.same_eq h1
        have h2' : 0 ≤ i := of_decide_eq_true h2
        have h3' : i < (xs.length : Int) := of_decide_eq_true h3
        obtain ⟨j, rfl⟩ : ∃ j : Nat, i = j := ⟨i.toNat, by omega⟩
        have hj : j < xs.length := by omega
        obtain ⟨e, hu, he⟩ := kind_slice hE hT
        obtain ⟨b, f0, cap, e2, _⟩ := row_elem (h.objs c _ hc) hj
        have ev : v = hd c := hx
        rw [ev, e2]
        refine ⟨_, _, run_indexAt_slice hu he hj w, ?_, hn⟩
        exact ⟨b, f0, top_slice e2, rfl⟩
      | hole u xs z c0 =>
        simp only [hc] at hn
        obtain ⟨h1, hn1⟩ := chk_some hn
        obtain ⟨h2, hn2⟩ := chk_some hn1
        obtain ⟨h3, hn3⟩ := chk_some hn2
        obtain rfl := Ty.same_eq h1
        have h2' : 0 ≤ i := of_decide_eq_true h2
        have h3' : i < (xs.length : Int) := of_decide_eq_true h3
        obtain ⟨j, rfl⟩ : ∃ j : Nat, i = j := ⟨i.toNat, by omega⟩
        have hj : j < xs.length := by omega
        obtain ⟨e, hu, he⟩ := kind_slice hE hT
        obtain ⟨b, f0, cap, cs, F, L1, L2, u', e2, _⟩ := h.objs c _ hc
        have ev : v = hd c := hx
        rw [ev, e2]
        refine ⟨_, _, run_indexAt_slice hu he hj w, ?_, hn3⟩
        exact ⟨b, f0, top_slice e2, by simp [Ty.sz]⟩
      | mp l => simp [hc] at hn
      | hol u xs z l0 =>
        simp only [hc] at hn
        obtain ⟨h1, hn1⟩ := chk_some hn
        obtain ⟨h2, hn2⟩ := chk_some hn1
        obtain ⟨h3, hn3⟩ := chk_some hn2
        obtain rfl := Ty.same_eq h1
        have h2' : 0 ≤ i := of_decide_eq_true h2
        have h3' : i < (xs.length : Int) := of_decide_eq_true h3
        obtain ⟨j, rfl⟩ : ∃ j : Nat, i = j := ⟨i.toNat, by omega⟩
        have hj : j < xs.length := by omega
        obtain ⟨e, hu, he⟩ := kind_slice hE hT
        obtain ⟨b, f0, cap, cs, F, L1, L2, e2, _⟩ := h.objs c _ hc
        have ev : v = hd c := hx
        rw [ev, e2]
        refine ⟨_, _, run_indexAt_slice hu he hj w, ?_, hn3⟩
        exact ⟨b, f0, top_slice e2, rfl⟩
      | tl u xs n0 =>
        simp only [hc] at hn
        obtain ⟨h1, hn1⟩ := chk_some hn
        obtain ⟨h2, hn2⟩ := chk_some hn1
        obtain ⟨h3, hn3⟩ := chk_some hn2
        obtain rfl := Ty.same_eq h1
        have h2' : 0 ≤ i := of_decide_eq_true h2
        have h3' : i < (xs.length : Int) := of_decide_eq_true h3
        obtain ⟨j, rfl⟩ : ∃ j : Nat, i = j := ⟨i.toNat, by omega⟩
        have hj : j < xs.length := by omega
        obtain ⟨e, hu, he⟩ := kind_slice hE hT
        have ev : v = hd c := hx
        rcases h.objs c _ hc with ⟨_, e1, _⟩ | ⟨b, f0, cap, cs, F, Li, e2, _⟩
        · rw [e1] at hj; simp at hj
        rw [ev, e2]
        refine ⟨_, _, run_indexAt_slice hu he hj w, ?_, hn3⟩
        exact ⟨b, f0, top_slice e2, rfl⟩
  · rename_i n t c hT
    cases hc : obGet σ.ob c with
    | none => simp [hc] at hn
    | some ob =>
      cases ob with
      | tl t xs n => simp [hc] at hn
      | mp l => simp [hc] at hn
      | hol t xs i l => simp [hc] at hn
      | hole t xs i v => simp [hc] at hn
      | box l => simp [hc] at hn
      | row u xs d cn => simp [hc] at hn
      | arr u xs =>
        simp only [hc] at hn
        obtain ⟨h1, hn⟩ := chk_some hn
        obtain ⟨h2, hn⟩ := chk_some hn
        obtain ⟨h3, hn⟩ := chk_some hn
        have h1' : (Ty.same t u = true ∧ Nat.beq xs.length n = true) ∧ Nat.ble 2 n = true := by simpa using h1
        obtain rfl := Ty.same_eq h1'.1.1
        have hlen := Nat.eq_of_beq_eq_true h1'.1.2
        have h22 := Nat.le_of_ble_eq_true h1'.2
        have h2' : 0 ≤ i := of_decide_eq_true h2
        have h3' : i < (xs.length : Int) := of_decide_eq_true h3
        obtain ⟨j, rfl⟩ : ∃ j : Nat, i = j := ⟨i.toNat, by omega⟩
        obtain ⟨e, hu, he, _⟩ := hE T _ hT
        obtain ⟨b, e1, rfl⟩ := hx
        refine ⟨_, _, run_indexAt_arr hu he (by omega) h22 w, ?_, hn⟩
        exact ⟨b, 0, top_ptr e1, by simp⟩
  · cases hn

theorem aIndexStr_ok {E : Env} (hE : ∀ T ti, E.ty T = some ti → TyOk P T ti) {T : Nat} {x : AV} {v : Value} {k : IntKind} {i : Int} (hx : AVR w Im hd v x)
    {next : AV → Option ρ} {r : ρ} (hn : aIndexStr E T x i next = some r) :
    ∃ u av, (Instr.index T v (.int k i)).run P w = .ok u w ∧ AVR w Im hd u av ∧ next av = some r := by
  unfold aIndexStr at hn
  split at hn
  · rename_i s hT
    obtain ⟨h2, hn⟩ := chk_some hn
    obtain ⟨h3, hn⟩ := chk_some hn
    have h2' : 0 ≤ i := of_decide_eq_true h2
    have h3' : i < (s.size : Int) := of_decide_eq_true h3
    obtain ⟨d, hd2, hk, _⟩ := hE T _ hT
    cases (show d = _ from hk)
    rw [str_of hx]
    have hlt : i.toNat < s.size := by omega
    refine ⟨_, _, ?_, ivr, hn⟩
    have e : s[i.toNat]? = some (s.data.toList.getD i.toNat 0) := by
      rw [getElem?_pos s i.toNat hlt]
      congr 1
      have hl : i.toNat < s.data.toList.length := by simpa using hlt
      rw [List.getD, List.getElem?_eq_getElem hl]
      rfl
    simp [Instr.index, asIntOf, run_underlying hd2, h2', e]
  · cases hn

theorem aLen_ok {E : Env} (hE : ∀ T ti, E.ty T = some ti → TyOk P T ti) (h : SRi w0 S0 σ a w Im hd bl) {T : Nat} {ts : List Nat} {ty : TypeId} {x : AV} {v : Value} (hx : AVR w Im hd v x) {next : AV → Option ρ} {r : ρ} (hn : aLen E σ T x next = some r) :
    ∃ u av, (Builtin.len_ (T :: ts).toArray ty #[v]).run P w = .ok u w ∧ AVR w Im hd u av ∧ next av = some r := by
  have sl : ∀ {t : Ty}, E.ty T = some (.one (.slice t)) → ∀ {A : Option Addr} {n k : Nat}, v = .slice A n k → (Builtin.len_ (T :: ts).toArray ty #[v]).run P w = .ok (.int .i64 (n : Int)) w := by
    intro t hT A n k e
    obtain ⟨d, hu, _⟩ := kind_slice hE hT
    subst e
    simp [Builtin.len_, run_underlying hu, goInt]
  unfold aLen at hn
  split at hn
  · rename_i hT
    split at hn
    · obtain ⟨d, hu, hk, _⟩ := hE T _ hT
      cases (show d = _ from hk)
      rw [str_of hx]
      exact ⟨_, _, by simp [Builtin.len_, run_underlying hu, goInt], ivr, hn⟩
    · cases hn
  · rename_i hT
    split at hn
    · exact ⟨_, _, sl hT (nil_of hx), ivr, hn⟩
    · obtain ⟨A, cap, e, _⟩ := hx
      simp only [List.cons.injEq, and_true] at e
      exact ⟨_, _, sl hT e, ivr, hn⟩
    · rename_i c
      cases hc : obGet σ.ob c with
      | none => simp [hc] at hn
      | some ob =>
        cases ob with
        | box l => simp [hc] at hn
        | arr t xs => simp [hc] at hn
        | row t xs d cn =>
          simp only [hc] at hn
          have ev : v = hd c := hx
          rcases (h.objs c _ hc).1 with ⟨e1, rfl, _⟩ | ⟨b, f0, cap, cs, E, Li, e1, _⟩
          · exact ⟨_, _, sl hT (ev.trans e1), ivr, hn⟩
          · exact ⟨_, _, sl hT (ev.trans e1), ivr, hn⟩
        | hole t xs i c0 =>
          simp only [hc] at hn
          have ev : v = hd c := hx
          obtain ⟨b, f0, cap, cs, F, L1, L2, u', e2, _⟩ := h.objs c _ hc
          exact ⟨_, _, sl hT (ev.trans e2), ivr, hn⟩
        | mp l => simp [hc] at hn
        | hol t xs i l =>
          simp only [hc] at hn
          have ev : v = hd c := hx
          obtain ⟨b, f0, cap, cs, F, L1, L2, e2, _⟩ := h.objs c _ hc
          exact ⟨_, _, sl hT (ev.trans e2), ivr, hn⟩
        | tl t xs n0 =>
          simp only [hc] at hn
          have ev : v = hd c := hx
          rcases h.objs c _ hc with ⟨e1, rfl, _⟩ | ⟨b, f0, cap, cs, F, Li, e2, _⟩
          · exact ⟨_, _, sl hT (ev.trans e1), ivr, hn⟩
          · exact ⟨_, _, sl hT (ev.trans e2), ivr, hn⟩
    · cases hn
  · cases hn

theorem aMaxMin_ok {big : Bool} {l : List AV} {av : AV} (hn : aMaxMin big l = some av) : ∃ x y k m n, l = [x, y] ∧ x = .cv (.val (.int k) m) ∧ y = .cv (.val (.int k) n) ∧
    av = .cv (.val (.int k) (bif big then (bif decide (n > m) then n else m) else (bif decide (n < m) then n else m))) := by
  unfold aMaxMin at hn
  split at hn
  · rename_i k x k' y
    cases hk : kSame k k' with
    | false => rw [hk] at hn; cases hn
    | true =>
      rw [hk] at hn
      obtain rfl := kSame_eq hk
      cases hn
      exact ⟨_, _, _, _, _, rfl, rfl, rfl, rfl⟩
  · cases hn

theorem PRs.get : ∀ {vs : List Value} {l : List (Bool × List CV)}, PRs w Im hd vs l → ∀ (j : Nat) (c : Bool × List CV), l[j]? = some c → ∃ v, vs[j]? = some v ∧ PR w Im hd v c
  | [], [], _, j, c, hj => by simp at hj
  | v :: vs, c :: cs, h, 0, d, hj => ⟨v, rfl, by cases (show some c = some d from hj); exact h.1⟩
  | v :: vs, c :: cs, h, j + 1, d, hj => PRs.get h.2 j d hj
theorem PR.avr {v : Value} : ∀ {p : Bool × List CV}, PR w Im hd v p → AVR w Im hd v (ofCells p.1 p.2)
  | (true, l), h => h
  | (false, []), _ => trivial
  | (false, [c]), h => h
  | (false, _ :: _ :: _), _ => trivial
theorem PR.of {v : Value} : ∀ {p : Bool × List CV}, AVR w Im hd v (ofCells p.1 p.2) → PR w Im hd v p
  | (true, l), h => h
  | (false, []), _ => trivial
  | (false, [c]), h => h
  | (false, _ :: _ :: _), _ => trivial

theorem run_extract {i : Nat} {vs : List Value} {v : Value} (h : vs[i]? = some v) (w : World) : (Instr.extract (.tuple vs.toArray) i).run P w = .ok v w := by
  simp [Instr.extract, h]

end
end Go.Vt
