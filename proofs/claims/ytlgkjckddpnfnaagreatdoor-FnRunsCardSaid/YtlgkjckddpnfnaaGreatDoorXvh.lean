/-
  The plain machine's making of variables, structs and rows tells what the model's does.
  Conditions: the table of types is right (TyOk).
-/
import Derived.Test.YtlgkjckddpnfnaaGreatDoorXvg
import Derived.Laws.Tables
import Derived.Great.BuildSlice
namespace Go.Vt
open Go.RowKit
set_option linter.unusedVariables false
set_option linter.unusedSimpArgs false

section
variable {P : Program} {ρ : Type} {gw : Gw} {w0 : Base gw} {w : World} {S0 : Nat → Prop} {σ : St} {a : Act} {Im : Nat → Prop} {hd : Nat → Value} {bl : Nat → List Nat} {Q : Exit → Act → World → Prop}

theorem alloc_old (w : World) (o : Obj) (b : Nat) (h : b < w.heap.size) : (w.alloc o).heap[b]? = w.heap[b]? := Below.heap_alloc w o b h
theorem alloc_new (w : World) (o : Obj) : (w.alloc o).heap[w.heap.size]? = some o := by show (w.heap.push o)[w.heap.size]? = _; simp
theorem alloc_size (w : World) (o : Obj) : (w.alloc o).heap.size = w.heap.size + 1 := by show (w.heap.push o).size = _; simp

theorem SRi.alloc (h : SRi w0 S0 σ a w Im hd bl) (o : Obj) : SRi w0 S0 σ a (w.alloc o) Im hd bl :=
  h.world (fun b hb => alloc_old w o b hb) (by rw [alloc_size]; omega) (h.below.alloc o)

/-- A new object in the block that was just made. -/
theorem SRi.made (h : SRi w0 S0 σ a w Im hd bl) {w' : World} (c : Nat) (hc5 : c < 500000) {o : Ob} {v : Value} (hw : ∀ b, b < w.heap.size → w'.heap[b]? = w.heap[b]?) (hsz : w'.heap.size = w.heap.size + 1) (hb : Kept w0 w')
    (ho : ObR w' Im (fun d => if d = c then v else hd d) v [w.heap.size] o) : SRi w0 S0 (σ.new c o) a w' Im (fun d => if d = c then v else hd d) (fun d => if d = c then [w.heap.size] else bl d) := by
  have h' := h.world hw (by omega) hb
  refine h'.new_ c hc5 (fun d p _ hp b hb hb2 => ?_) (by simp) (fun b hb => ?_) ho
  · simp at hb2; have := ((h.own d p hp).2 b hb).2.1; omega
  · simp at hb; subst hb
    exact ⟨Kept.fresh h.below (Nat.le_refl _), by omega, fun hi => Nat.lt_irrefl _ (h.lt _ hi)⟩

theorem hd_one (h : SRi w0 S0 σ a w Im hd bl) {c : Nat} {t : Ty} {xs : List t.den} {d n : Bool} (hc : obGet σ.ob c = some (.row t xs d n)) : (hd c).oneCell' = true := by
  rcases (h.objs c _ hc).1 with ⟨e, _⟩ | ⟨b, f0, cap, cs, E, Li, e, _⟩ <;> rw [e] <;> rfl
theorem live_one (h : SRi w0 S0 σ a w Im hd bl) {c : CV} {v : Value} (hl : σ.live c = true) (hv : CVR w Im hd v c) : v.oneCell' = true := by
  cases c with
  | dead => cases hl
  | nil => rw [show v = _ from hv]; rfl
  | val t x => exact VR.one (t := t) hv v (by simp)
  | unk => obtain ⟨b, rfl⟩ := hv; rfl
  | own c =>
    unfold St.live at hl
    split at hl
    · cases hl
    · rename_i d e
      cases e
      split at hl
      · rename_i hc; rw [show v = _ from hv]; exact hd_one h hc
      · rename_i hc
        obtain ⟨b, e, _⟩ := h.objs _ _ hc
        rw [show v = _ from hv, e]; rfl
      · cases hl
    · rename_i h1 h2; exact absurd rfl (h2 c)
theorem lives_one (h : SRi w0 S0 σ a w Im hd bl) : ∀ {l : List CV} {vs : List Value}, l.all σ.live = true → CVs w Im hd vs l → ∀ u ∈ vs, u.oneCell' = true
  | [], [], _, _ => by simp
  | c :: l, v :: vs, hl, hv => by
    rw [List.all_cons, Bool.and_eq_true] at hl
    intro u hu
    rcases List.mem_cons.1 hu with rfl | hu
    · exact live_one h hl.1 hv.1
    · exact lives_one h hl.2 hv.2 u hu
  | [], _ :: _, _, hv => hv.elim
  | _ :: _, [], _, hv => hv.elim

/-- A value's cells. -/
theorem cells_of (h : SRi w0 S0 σ a w Im hd bl) {v : Value} {av : AV} {l : List CV} (hv : AVR w Im hd v av) (hl : σ.cells av = some l) :
    ∃ cs, v.cells = cs.toArray ∧ CVs w Im hd cs l ∧ l.all σ.live = true ∧ ∀ u ∈ cs, u.oneCell' = true := by
  unfold St.cells at hl
  split at hl
  · rename_i c
    cases hc : σ.live c with
    | false => rw [hc] at hl; cases hl
    | true =>
      rw [hc] at hl; cases hl
      have h1 := live_one h hc hv
      exact ⟨[v], cells_one h1, ⟨hv, trivial⟩, by simp [hc], by simpa using h1⟩
  · rename_i l'
    cases hc : l'.all σ.live with
    | false => rw [hc] at hl; cases hl
    | true =>
      rw [hc] at hl; cases hl
      obtain ⟨vs, rfl, hvs⟩ := hv
      exact ⟨vs, rfl, hvs, hc, lives_one h hc hvs⟩
  · cases hl

/-! ### variables -/
theorem kindZero_CVR : ∀ (t : Ty), CVR w Im hd (kindZero t) (zeroCell t)
  | .int k => (rfl : [Value.int k 0] = _)
  | .bool => (rfl : [Value.bool false] = _)
  | .str => (rfl : [Value.string _] = _)
  | .slice t => (rfl : Value.slice none 0 0 = _)
  | .set => ⟨_, [], rfl, (fun _ hb => nomatch hb), rfl, rfl⟩
  | .err => ⟨_, rfl, rfl⟩
  | .pair a b => trivial
theorem kindZeros_CVs : ∀ (ks : List Ty), CVs w Im hd (ks.map kindZero) (ks.map zeroCell)
  | [] => trivial
  | k :: ks => ⟨kindZero_CVR k, kindZeros_CVs ks⟩

theorem run_alloc {T : Nat} {i : TypeInfo} {z : Value} (hi : P.info? T = some i) (hz : i.zero = some z) (w : World) : (Instr.alloc T true (.tuple #[])).run P w = .ok (.pointer (some ⟨w.heap.size, 0, none⟩)) (w.alloc (.cells z.cells T)) := by
  simp [Instr.alloc, run_zero hi hz, newVar, newRow]

theorem OL_zero {t : Ty} {p : t.den → List Value → List Nat → Prop} (hp : p t.dflt (zeroVal t) []) : ∀ n, OL t.sz p (List.replicate n t.dflt) (List.replicate n (zeroVal t)).flatten []
  | 0 => rfl
  | n + 1 => by
    have hl := zeroVal_len t
    rw [List.replicate_succ, List.replicate_succ, List.flatten_cons]
    refine ⟨[], [], rfl, by rw [List.length_append]; omega, ?_, ?_⟩
    · rw [← hl, List.take_left]; exact hp
    · rw [← hl, List.drop_left, hl]; exact OL_zero hp n
theorem zero_OT : ∀ (t : Ty), OT w t t.dflt (zeroVal t) []
  | .int k => ⟨rfl, rfl⟩ | .bool => ⟨rfl, rfl⟩ | .str => ⟨rfl, rfl⟩
  | .slice t => ⟨_, rfl, .inl ⟨rfl, rfl, rfl⟩⟩
  | .set => ⟨_, rfl, rfl, rfl⟩
  | .err => ⟨⟨_, rfl, rfl⟩, rfl⟩
  | .pair a b => ⟨_, _, [], [], rfl, rfl, zero_OT a, zero_OT b⟩

theorem aAlloc_ok {E : Env} (hE : ∀ T ti, E.ty T = some ti → TyOk P T ti) (h : SRi w0 S0 σ a w Im hd bl) {o : Oper} {T d : Nat} (ho : o.op = .alloc T) (hd' : o.dst = some d) (hd5 : d < 500000)
    {next : St → Option ρ} {r : ρ} (hn : aAlloc E σ T d next = some r) : o.wp P a w (Goes w0 S0 next r) Q := by
  unfold aAlloc at hn
  have hop : ∀ {i : TypeInfo} {z : Value} (w : World), P.info? T = some i → i.zero = some z → (execOp a.eval o).run P w = .ok (.value (.pointer (some ⟨w.heap.size, 0, none⟩))) (w.alloc (.cells z.cells T)) := by
    intro i z w hi hz
    simp [execOp, ho, run_alloc hi hz]
  split at hn
  · rename_i t hT
    obtain ⟨_, _, _, i, z, hi, _, hz, hzc⟩ := hE T _ hT
    refine wp_value (hop w hi hz) ?_
    have h2 := h.made (w' := w.alloc (.cells z.cells T)) d hd5 (o := .box [zeroCell t]) (v := .pointer (some ⟨w.heap.size, 0, none⟩)) (fun b hb => alloc_old _ _ _ hb) (alloc_size _ _) (h.below.alloc _)
      ⟨w.heap.size, z.cells, T, rfl, alloc_new _ _, rfl, by rw [hzc]; exact ⟨kindZero_CVR t, trivial⟩⟩
    rw [hd']
    refine ⟨_, hn, _, _, _, h2.put (some d) (av := .adr d 0) ⟨w.heap.size, by simp, rfl⟩⟩
  · rename_i fs ks eq hT
    obtain ⟨_, _, ⟨i, z, hi, _, hz, hzc⟩, _⟩ := hE T _ hT
    refine wp_value (hop w hi hz) ?_
    have h2 := h.made (w' := w.alloc (.cells z.cells T)) d hd5 (o := .box (ks.map zeroCell)) (v := .pointer (some ⟨w.heap.size, 0, none⟩)) (fun b hb => alloc_old _ _ _ hb) (alloc_size _ _) (h.below.alloc _)
      ⟨w.heap.size, z.cells, T, rfl, alloc_new _ _, rfl, by rw [hzc]; exact kindZeros_CVs ks⟩
    rw [hd']
    refine ⟨_, hn, _, _, _, h2.put (some d) (av := .adr d 0) ⟨w.heap.size, by simp, rfl⟩⟩
  · rename_i n t hT
    obtain ⟨hf, hn⟩ := chk_some hn
    obtain ⟨e, _, _, i, z, hi, hs, hz, hzc⟩ := hE T _ hT
    refine wp_value (hop w hi hz) ?_
    have h2 := h.made (w' := w.alloc (.cells z.cells T)) d hd5 (o := .arr t (List.replicate n t.dflt)) (v := .pointer (some ⟨w.heap.size, 0, none⟩)) (fun b hb => alloc_old _ _ _ hb) (alloc_size _ _) (h.below.alloc _)
      ⟨w.heap.size, z.cells, T, rfl, alloc_new _ _, by
        rw [← Array.length_toList, hzc, List.length_replicate, List.length_flatten, List.map_replicate, zeroVal_len, List.sum_replicate_nat],
        rfl, hf, by rw [hzc]; exact OL_zero ⟨OT.read (S := Im) (zero_OT t) (fun b hb => by cases hb), rfl⟩ n⟩
    rw [hd']
    refine ⟨_, hn, _, _, _, h2.put (some d) (av := .adr d 0) ⟨w.heap.size, by simp, rfl⟩⟩
  · cases hn
  · cases hn
  · cases hn

theorem CVs.fresh {c : Nat} {v : Value} : ∀ {vs : List Value} {l : List CV}, CVs w Im hd vs l → CVs w Im (fun d => if d = c then v else hd d) vs (l.map (CV.map (rnKill c))) := fun h => h.tell (Tell.fresh c v)

theorem hasB_mem {c : Nat} : ∀ {l : List Nat}, hasB c l = true ↔ c ∈ l
  | [] => by simp [hasB]
  | d :: l => by
    simp only [hasB, beqN, Bool.or_eq_true, decide_eq_true_eq, hasB_mem, List.mem_cons]
    constructor
    · rintro (h | h)
      · exact .inl h.symm
      · exact .inr h
    · rintro (h | h)
      · exact .inl h.symm
      · exact .inr h
theorem map_kill {l : List CV} {d : Nat} (h : hasB d (ownsAll l) = false) : l.map (CV.map (rnKill d)) = l := by
  have e : l.map (CV.map (rnKill d)) = l.map id := by
    apply List.map_congr_left
    intro c hc
    cases c with
    | own k =>
      have hne : ¬ k = d := by
        intro e; subst e
        have : hasB k (ownsAll l) = true := hasB_mem.2 (List.mem_flatMap.2 ⟨_, hc, by simp [CV.owns]⟩)
        rw [this] at h; cases h
      show (bif Nat.beq k d then CV.dead else .own k) = .own k
      rw [beqN]; simp [hne]
    | _ => rfl
  rw [e, List.map_id]

/-- A variable that begins with a value. (What it holds isn't spoken of under its own number.) -/
theorem aBox_ok {E : Env} (h : SRi w0 S0 σ a w Im hd bl) {o : Oper} {T d : Nat} {x : Operand} (ho : o.op = .box T x) (hd' : o.dst = some d) (hd5 : d < 500000)
    {next : St → Option ρ} {r : ρ} (hn : aBox σ d (σ.ev x) next = some r) : o.wp P a w (Goes w0 S0 next r) Q := by
  unfold aBox at hn
  split at hn
  · rename_i l hl
    obtain ⟨hfree, hn⟩ := chk_some hn
    obtain ⟨cs, hc, hcs, _, _⟩ := cells_of h (h.ev x) hl
    have hop : (execOp a.eval o).run P w = .ok (.value (.pointer (some ⟨w.heap.size, 0, none⟩))) (w.alloc (.cells cs.toArray T)) := by
      simp [execOp, ho, Instr.box, newVar, newRow, hc]
    refine wp_value hop ?_
    have hT := hcs.tell (Tell.keep (w' := w.alloc (.cells cs.toArray T)) hd (fun b hb => alloc_old _ _ _ (h.lt b hb)) (fun _ x => x))
    rw [CV.map_id', List.map_id] at hT
    have hcs' := CVs.fresh (c := d) (v := .pointer (some ⟨w.heap.size, 0, none⟩)) hT
    have e := map_kill (l := l) (d := d) (by simpa using hfree)
    rw [e] at hcs'
    have h2 := h.made (w' := w.alloc (.cells cs.toArray T)) d hd5 (o := .box l) (v := .pointer (some ⟨w.heap.size, 0, none⟩)) (fun b hb => alloc_old _ _ _ hb) (alloc_size _ _) (h.below.alloc _)
      ⟨w.heap.size, cs.toArray, T, rfl, alloc_new _ _, rfl, hcs'⟩
    rw [hd']
    refine ⟨_, hn, _, _, _, h2.put (some d) (av := .adr d 0) ⟨w.heap.size, by simp, rfl⟩⟩
  · cases hn

end
end Go.Vt
