/-
  The plain machine's literals and made rows tell what the model's do.
  Conditions: the table of types is right (TyOk).
-/
import Derived.Test.YtlgkjckddpnfnaaGreatDoorXvi
namespace Go.Vt
open Go.RowKit
set_option linter.unusedVariables false
set_option linter.unusedSimpArgs false

section
variable {P : Program} {ρ : Type} {gw : Gw} {w0 : Base gw} {w : World} {S0 : Nat → Prop} {σ : St} {a : Act} {Im : Nat → Prop} {hd : Nat → Value} {bl : Nat → List Nat} {Q : Exit → Act → World → Prop}

/-- The world turns only where nothing is spoken of. -/
theorem SRi.world2 {w' : World} {L : List Nat} (h : SRi w0 S0 σ a w Im hd bl) (hw : ∀ b, b < w.heap.size → b ∉ L → w'.heap[b]? = w.heap[b]?) (hsz : w.heap.size ≤ w'.heap.size) (hb : Kept w0 w')
    (hI : ∀ b ∈ L, ¬ Im b) (hf : ∀ d p, obGet σ.ob d = some p → ∀ b ∈ bl d, b ∉ L) : SRi w0 S0 σ a w' Im hd bl := by
  have T : Tell w w' Im Im hd hd ⟨.own, .adr, .el⟩ := Tell.keep hd (fun b hb => hw b (h.lt b hb) (fun h2 => hI b h2 hb)) fun _ x => x
  refine ⟨hb, h.sub, h.new, fun b hb => Nat.lt_of_lt_of_le (h.lt b hb) hsz, h.nodef, h.size, fun i av hi => ?_, fun c o hc => ?_, fun c o hc => ?_, h.apart, h.io⟩
  · have := (h.slots i av hi).tell T; rwa [AV.map_id] at this
  · have := (h.objs c o hc).tell T (fun b hb => hw b ((h.own c o hc).2 b hb).2.1 (hf c o hc b hb)); rwa [Ob.map_id] at this
  · exact ⟨(h.own c o hc).1, fun b hb => ⟨((h.own c o hc).2 b hb).1, Nat.lt_of_lt_of_le ((h.own c o hc).2 b hb).2.1 hsz, ((h.own c o hc).2 b hb).2.2⟩⟩

theorem OL.tell {w' : World} {Im' : Nat → Prop} {t : Ty} {d : Bool} {xs : List t.den} {cs : List Value} {M : List Nat} (hs : Same Im w w') (hi : ∀ b, Im b → Im' b) (hM : ∀ b ∈ M, w'.heap[b]? = w.heap[b]?)
    (h : OL t.sz (rowP w Im t d) xs cs M) : OL t.sz (rowP w' Im' t d) xs cs M :=
  h.mapP fun x c l hl hp => rowP.tell hs hi (fun b hb => hM b (hl b hb)) hp

/-- A new row in the block that was just made. -/
theorem SRi.madeRow {w' : World} (h : SRi w0 S0 σ a w Im hd bl) (c : Nat) (hc5 : c < 500000) {t : Ty} {xs : List t.den} {d cn : Bool} {cap : Nat} {cs : Array Value} {F : TypeId} {M : List Nat}
    (hw : ∀ b, b < w.heap.size → w'.heap[b]? = w.heap[b]?) (hsz : w'.heap.size = w.heap.size + 1) (hb : Kept w0 w')
    (hnew : w'.heap[w.heap.size]? = some (.cells cs F (0, 0))) (hcs : cs.size = cap * t.sz) (hle : xs.length ≤ cap)
    (hol : OL t.sz (rowP w Im t d) xs cs.toList M) (hM : M.Nodup) (hMb : ∀ b ∈ M, w0.mine b ∧ b < w.heap.size ∧ ¬ Im b)
    (hfree : ∀ k p, k ≠ c → obGet σ.ob k = some p → ∀ b ∈ bl k, b ∉ M) (hcn : cn = true → xs ≠ []) :
    ∃ hd' bl', SRi w0 S0 (σ.new c (.row t xs d cn)) a w' Im hd' bl' ∧ hd' c = .slice (some ⟨w.heap.size, 0, none⟩) xs.length cap := by
  have h' := h.world hw (by omega) hb
  refine ⟨_, _, h'.new_ c hc5 (v := .slice (some ⟨w.heap.size, 0, none⟩) xs.length cap) (L := w.heap.size :: M) (fun k p hk hp b hbk hbL => ?_) ?_ (fun b hbL => ?_) ⟨.inr ⟨w.heap.size, 0, cap, cs, F, M, rfl, hnew, by omega, hle, rfl, ?_⟩, fun e1 e2 => (hcn e1 e2).elim⟩, by simp⟩
  · rcases List.mem_cons.1 hbL with rfl | hbL
    · have := ((h.own k p hp).2 _ hbk).2.1; omega
    · exact hfree k p hk hp b hbk hbL
  · rw [List.nodup_cons]
    exact ⟨fun hm => by have := (hMb _ hm).2.1; omega, hM⟩
  · rcases List.mem_cons.1 hbL with rfl | hbL
    · exact ⟨Kept.fresh h.below (Nat.le_refl _), by omega, fun hi => Nat.lt_irrefl _ (h.lt _ hi)⟩
    · exact ⟨(hMb b hbL).1, by have := (hMb b hbL).2.1; omega, (hMb b hbL).2.2⟩
  · exact hol.tell (fun b hb => hw b (h.lt b hb)) (fun _ x => x) (fun b hb => hw b (hMb b hb).2.1)

/-! ### slice literals -/
theorem parts_of (h : SRi w0 S0 σ a w Im hd bl) {t : Ty} {n : Nat} : ∀ {ps : List (Nat × Operand)} {i : Nat} {l : List CV} {xs : List t.den},
    aParts σ t n i (ps.map fun p => (p.1, σ.ev p.2)) = some (l, xs) →
    ∃ vs : List Value, ps.map (fun p => (p.1, a.eval p.2)) = (vs.zipIdx i).map (fun x => (x.2, x.1)) ∧ (∀ v ∈ vs, v.cells.size = t.sz) ∧ i + vs.length = n ∧ xs.length = vs.length ∧
      EL σ t l xs ∧ l.all σ.live = true ∧ CVs w Im hd (vs.flatMap fun v => v.cells.toList) l ∧ ∀ u ∈ vs.flatMap (fun v => v.cells.toList), u.oneCell' = true
  | [], i, l, xs, hp => by
    unfold aParts at hp
    simp only [List.map_nil, beqN] at hp
    by_cases e : i = n
    · simp [e] at hp
      obtain ⟨rfl, rfl⟩ := hp
      exact ⟨[], by simp, by simp, by simpa using e, rfl, rfl, rfl, trivial, by simp⟩
    · simp [e] at hp
  | (j, x) :: ps, i, l, xs, hp => by
    rw [List.map_cons] at hp
    unfold aParts at hp
    simp only [beqN] at hp
    by_cases e : i = j
    · subst e
      simp only [decide_true, cond_true] at hp
      split at hp
      · rename_i cs hcs
        split at hp
        · rename_i y l' xs' hy hrest
          cases hp
          obtain ⟨vs, h1, h2, h3, h4, h5, h6, h7, h8⟩ := parts_of h hrest
          obtain ⟨us, hu1, hu2, hu3, hu4⟩ := cells_of h (h.ev x) hcs
          have hlen := impl_len hy
          have hlen2 := hu2.len
          refine ⟨a.eval x :: vs, ?_, ?_, ?_, ?_, ?_, ?_, ?_, ?_⟩
          · simp [h1]
          · intro v hv
            rcases List.mem_cons.1 hv with rfl | hv
            · rw [hu1]; simp; omega
            · exact h2 v hv
          · simp; omega
          · simp [h4]
          · refine ⟨by rw [List.length_append]; omega, ?_, ?_⟩
            · rw [← hlen, List.take_left]; exact hy
            · rw [← hlen, List.drop_left]; exact h5
          · rw [List.all_append, hu3, h6]; rfl
          · rw [List.flatMap_cons, hu1]
            exact hu2.app h7
          · rw [List.flatMap_cons, hu1]
            intro u hu
            rcases List.mem_append.1 hu with hu | hu
            · exact hu4 u (by simpa using hu)
            · exact h8 u hu
        · cases hp
      · cases hp
    · simp [e] at hp

theorem run_buildSlice0 {T e n : Nat} {ps : Array (Nat × Value)} {vs : List Value} {i : TypeInfo} {z : Value} {s : Nat} (hu : P.underlying T = some (.slice e)) (hi : P.info? e = some i) (hz : i.zero = some z) (hs : i.size = s) (hsp : 0 < s)
    (hsmall : n * s ≤ 16777216) (hps : ps.toList = (vs.zipIdx 0).map fun x => (x.2, x.1)) (hvs : ∀ v ∈ vs, v.cells.size = s) (hn : vs.length = n) (w : World) :
    (Instr.buildSlice T n ps).run P w = .ok (.slice (some ⟨w.heap.size, 0, none⟩) n n) (w.alloc (.cells (vs.flatMap fun v => v.cells.toList).toArray e)) := by
  subst hs
  by_cases h0 : n = 0
  · subst h0
    obtain rfl : vs = [] := by simpa using hn
    have hp : ps.toList = [] := by simpa using hps
    simp [Instr.buildSlice, run_underlying hu, run_size hi, Instr.fill, newRow, hp, Array.range_zero']
  · refine run_buildSlice w T e n ps _ i z hu hi hz (by omega) (fun h => ?_) ?_
    · rcases Nat.mul_eq_zero.1 h with h | h <;> omega
    · rw [hps]
      exact Great.fill_whole hsp vs _ hvs (by rw [hn]; simp)

theorem aBuildSlice_ok {E : Env} (hE : ∀ T ti, E.ty T = some ti → TyOk P T ti) (h : SRi w0 S0 σ a w Im hd bl) {o : Oper} {T d n : Nat} {ps : Array (Nat × Operand)} (ho : o.op = .buildSlice T n ps) (hd' : o.dst = some d) (hd5 : d < 500000)
    {next : St → Option ρ} {r : ρ} (hn : aBuildSlice E σ T d n (ps.toList.map fun p => (p.1, σ.ev p.2)) next = some r) : o.wp P a w (Goes w0 S0 next r) Q := by
  unfold aBuildSlice at hn
  split at hn
  · rename_i t hT
    obtain ⟨e, hu, i, z, hi, hs, _, hz, _⟩ := kind_slice hE hT
    split at hn
    · rename_i l xs hp
      obtain ⟨h0, hn⟩ := chk_some hn
      have hsmall := Nat.le_of_ble_eq_true h0
      obtain ⟨vs, h1, h2, h3, h4, h5, h6, h7, h8⟩ := parts_of h hp
      rw [Nat.zero_add] at h3
      have hop : (execOp a.eval o).run P w = .ok (.value (.slice (some ⟨w.heap.size, 0, none⟩) n n)) (w.alloc (.cells (vs.flatMap fun v => v.cells.toList).toArray e)) := by
        have := run_buildSlice0 (ps := ps.map fun (i, x) => (i, a.eval x)) hu hi hz hs t.sz_pos hsmall (by rw [Array.toList_map]; exact h1) h2 h3 w
        simp [execOp, ho, this]
      refine wp_value hop ?_
      rw [hd']
      obtain ⟨Im', M, g1, g2, g3, g4, g5, g6, g7, g8⟩ := h.give h5 h7 h6 (tree := σ.treeB l) (fun e => e)
      have hlen := h7.len
      obtain ⟨hd2, bl2, k1, k2⟩ := g1.madeRow (w' := w.alloc (.cells (vs.flatMap fun v => v.cells.toList).toArray e)) d hd5 (t := t) (xs := xs) (d := σ.treeB l) (cn := false) (cap := n) (M := M) (fun b hb => alloc_old _ _ _ hb) (alloc_size _ _)
        (h.below.alloc _) (alloc_new _ _) (by rw [List.size_toArray, hlen, EL_len h5]; rw [h4, h3]) (by omega) g3 g4 g5 (fun k p _ hp => (g6 k p hp).2) (fun e => by cases e)
      refine ⟨_, hn, Im', hd2, bl2, k1.put (some d) (av := .cv (.own d)) ?_⟩
      show _ = hd2 d
      rw [k2, h4, h3]
    · cases hn
  · cases hn

theorem madeCells_zero (t : Ty) (z : Array Value) (hz : z.toList = zeroVal t) (n : Nat) : (madeCells z (n * t.sz)).toList = (List.replicate n (zeroVal t)).flatten := by
  have hzs : z.size = t.sz := by rw [← Array.length_toList, hz, zeroVal_len]
  have hp := t.sz_pos
  apply List.ext_getElem?
  intro k
  unfold madeCells
  have e : List.replicate n (zeroVal t) = (List.replicate n (Value.agg z)).map fun v => v.cells.toList := by
    rw [List.map_replicate]; congr 1; rw [← hz]; rfl
  rw [e, ← List.flatMap_def, Great.flat_get hp _ (fun v hv => by rw [List.eq_of_mem_replicate hv]; exact hzs)]
  by_cases hk : k < n * t.sz
  · have h1 : k / t.sz < n := Nat.div_lt_of_lt_mul (by rw [Nat.mul_comm]; exact hk)
    have h2 : k % t.sz < z.size := by rw [hzs]; exact Nat.mod_lt _ hp
    simp [hk, hzs, h1]
    rw [show (Value.agg z).cells = z from rfl]
    rw [getElem!_pos z (k % t.sz) h2, Array.getElem?_eq_getElem h2]
  · have h1 : ¬ k / t.sz < n := fun h => hk ((Nat.div_lt_iff_lt_mul hp).1 h)
    simp [hk, h1]

theorem aMakeSlice_ok {E : Env} (hE : ∀ T ti, E.ty T = some ti → TyOk P T ti) (h : SRi w0 S0 σ a w Im hd bl) {o : Oper} {T d : Nat} {x y : Operand} (ho : o.op = .makeSlice T x y) (hd' : o.dst = some d) (hd5 : d < 500000)
    {next : St → Option ρ} {r : ρ} (hn : aMakeSlice E σ T d (σ.ev x) (σ.ev y) next = some r) : o.wp P a w (Goes w0 S0 next r) Q := by
  unfold aMakeSlice at hn
  split at hn
  · rename_i t n c hT hx hy
    obtain ⟨h1, hn⟩ := chk_some hn
    obtain ⟨h2, hn⟩ := chk_some hn
    obtain ⟨h3, hn3⟩ := chk_some hn
    have h1' : 0 ≤ n := of_decide_eq_true h1
    have h2' : n ≤ (rowMax : Int) := of_decide_eq_true h2
    have h3' : n = c := by simpa using h3
    subst h3'
    obtain ⟨m, rfl⟩ : ∃ m : Nat, n = m := ⟨n.toNat, by omega⟩
    have hm : m ≤ 4294967296 := by unfold rowMax at h2'; omega
    obtain ⟨e, hu, i, z, hi, hs, hby, hz, hzc⟩ := kind_slice hE hT
    obtain ⟨kx, ex⟩ := aIx_of (h.ev x) hx
    obtain ⟨ky, ey⟩ := aIx_of (h.ev y) hy
    have hr := run_make (P := P) w T e i z hu hi hz kx ky m m (by omega) (Int.le_refl _) (by
      have : i.bytes * m ≤ 4096 * 4294967296 := Nat.mul_le_mul hby hm
      have h4 : ((i.bytes * m : Nat) : Int) ≤ ((4096 * 4294967296 : Nat) : Int) := by exact_mod_cast this
      rw [Int.natCast_mul] at h4
      exact Int.le_trans h4 (by decide)) (by omega)
    simp only [Int.toNat_natCast] at hr
    have hop : (execOp a.eval o).run P w = .ok (.value (.slice (some ⟨w.heap.size, 0, none⟩) m m)) (w.alloc (.cells (madeCells z.cells (m * i.size)) e)) := by
      simp [execOp, ho, ex, ey, hr]
    refine wp_value hop ?_
    rw [hd']
    have hmc := madeCells_zero t z.cells hzc m
    rw [hs]
    obtain ⟨hd2, bl2, k1, k2⟩ := h.madeRow (w' := w.alloc (.cells (madeCells z.cells (m * t.sz)) e)) d hd5 (t := t) (xs := List.replicate m t.dflt) (d := true) (cn := false) (cap := m) (M := []) (fun b hb => alloc_old _ _ _ hb) (alloc_size _ _)
      (h.below.alloc _) (alloc_new _ _) (size_madeCells _ _) (by simp) (by rw [hmc]; exact OL_zero (zero_OT t) m) List.nodup_nil (fun b hb => by cases hb) (fun k p _ hp b _ hb => by cases hb) (fun e => by cases e)
    refine ⟨_, hn3, Im, hd2, bl2, k1.put (some d) (av := .cv (.own d)) ?_⟩
    show _ = hd2 d
    rw [k2]; simp
  · cases hn

end
end Go.Vt
