/-
  A region whose operations may come up in more than one order comes to what the text's order comes to.
  Conditions: the table of types is right (TyOk); the functions give what the plain machine says (Gives).
-/
import Derived.Test.YtijdgiejhgfmlabDoorXvw
namespace Go.Vt
open Go.RowKit
set_option linter.unusedVariables false
set_option linter.unusedSimpArgs false

/-! ### what comes before -/
theorem maskFold {acc : List Nat} {i : Nat} : ∀ {l : List Edge} {s : Nat}, Nat.testBit (l.foldl (fun s e => bif Region.binds .any e then Nat.lor (Nat.lor s (2 ^ e.on)) (acc.getD e.on 0) else s) s) i = true →
    Nat.testBit s i = true ∨ ∃ e ∈ l, Region.binds .any e = true ∧ (e.on = i ∨ Nat.testBit (acc.getD e.on 0) i = true)
  | [], s, h => .inl h
  | e :: l, s, h => by
    rw [List.foldl_cons] at h
    rcases maskFold h with h | ⟨e', he, hb, h⟩
    · cases hb : Region.binds .any e with
      | false => rw [hb, cond_false] at h; exact .inl h
      | true =>
        rw [hb, cond_true] at h
        have h' : ((s ||| 2 ^ e.on) ||| acc.getD e.on 0).testBit i = true := h
        rw [Nat.testBit_or, Nat.testBit_or, Bool.or_eq_true, Bool.or_eq_true] at h'
        rcases h' with (h | h) | h
        · exact .inl h
        · rw [Nat.testBit_two_pow] at h
          exact .inr ⟨e, by simp, hb, .inl (by simpa using h)⟩
        · exact .inr ⟨e, by simp, hb, .inr h⟩
    · exact .inr ⟨e', by simp [he], hb, h⟩
theorem masks_old : ∀ {l : List Oper} {acc : List Nat} {j : Nat}, j < acc.length → (masks l acc).getD j 0 = acc.getD j 0
  | [], _, _, _ => rfl
  | o :: l, acc, j, h => by
    unfold masks
    rw [masks_old (by simp; omega), List.getD_eq_getElem?_getD, List.getD_eq_getElem?_getD, List.getElem?_append_left h]
theorem masks_len : ∀ {l : List Oper} {acc : List Nat}, (masks l acc).length = acc.length + l.length
  | [], _ => rfl
  | o :: l, acc => by unfold masks; rw [masks_len]; simp; omega
theorem masks_spec : ∀ {l : List Oper} {acc : List Nat} {t : Nat} {o : Oper} {i : Nat}, l[t]? = some o → Nat.testBit ((masks l acc).getD (acc.length + t) 0) i = true →
    ∃ e ∈ o.after.toList, Region.binds .any e = true ∧ (e.on = i ∨ (e.on < acc.length + t ∧ Nat.testBit ((masks l acc).getD e.on 0) i = true))
  | [], _, _, _, _, h, _ => by simp at h
  | o :: l, acc, 0, o', i, h, hb => by
    cases (show some o = some o' from h)
    have e1 : (masks (o :: l) acc).getD (acc.length + 0) 0 = maskOf acc o := by
      unfold masks
      rw [masks_old (by simp), List.getD_eq_getElem?_getD, List.getElem?_append_right (by simp)]
      simp
    rw [e1] at hb
    rcases maskFold hb with hb | ⟨e, he, hbd, hb⟩
    · simp at hb
    · refine ⟨e, he, hbd, hb.imp_right fun hb => ?_⟩
      have hlt : e.on < acc.length := by
        rcases Nat.lt_or_ge e.on acc.length with h1 | h1
        · exact h1
        · rw [List.getD_eq_getElem?_getD, List.getElem?_eq_none h1] at hb; simp at hb
      refine ⟨by omega, ?_⟩
      unfold masks
      rw [masks_old (by simp; omega), List.getD_eq_getElem?_getD, List.getElem?_append_left hlt, ← List.getD_eq_getElem?_getD]
      exact hb
  | o :: l, acc, t + 1, o', i, h, hb => by
    unfold masks at hb ⊢
    have e2 : acc.length + (t + 1) = (acc ++ [maskOf acc o]).length + t := by simp; omega
    rw [e2] at hb ⊢
    exact masks_spec (l := l) (by simpa using h) hb

theorem aliens_mem {m j : Nat} : ∀ {ks : List (List Nat)} {i t : Nat} {k : List Nat} {c : Nat}, ks[t]? = some k → c ∈ k → i + t ≠ j → Nat.testBit m (i + t) = false → c ∈ aliens m j i ks
  | [], i, t, k, c, h, _, _, _ => by simp at h
  | k0 :: ks, i, 0, k, c, h, hc, hne, hb => by
    cases (show some k0 = some k from h)
    unfold aliens
    rw [beqN]
    simp only [Nat.add_zero] at hne hb
    simp only [hne, decide_false, hb, Bool.or_self, cond_false]
    exact List.mem_append.2 (.inl hc)
  | k0 :: ks, i, t + 1, k, c, h, hc, hne, hb => by
    unfold aliens
    exact List.mem_append.2 (.inr (aliens_mem (t := t) (by simpa using h) hc (by omega) (by rw [show i + 1 + t = i + (t + 1) by omega]; exact hb)))
theorem noneB_ok {l : List Nat} {v : AV} {N : List (Nat × Ob)} (h : noneB l v N = true) : ∀ c ∈ l, c ∉ mkeys v ∧ ∀ p ∈ N, p.1 ≠ c ∧ c ∉ obKeys p.2 := by
  unfold noneB at h
  rw [List.all_eq_true] at h
  have nh : ∀ {c : Nat} {l : List Nat}, (!hasB c l) = true → c ∉ l := fun h hm => by rw [hasB_mem.2 hm] at h; cases h
  intro c hc
  have := h c hc
  rw [Bool.and_eq_true, List.all_eq_true] at this
  refine ⟨nh this.1, fun p hp => ?_⟩
  have hp' := this.2 p hp
  rw [Bool.and_eq_true] at hp'
  refine ⟨fun e => ?_, nh hp'.2⟩
  rw [e] at hp'
  simp at hp'

section
variable {P : Program} {ρ : Type} {gw : World → Prop} {w0 : Base gw} {w : World} {S0 : Nat → Prop} {σ σ' : St} {a : Act} {Im : Nat → Prop} {hd : Nat → Value} {bl : Nat → List Nat} {Q : Exit → Act → World → Prop}
variable {E : Env} {ops : Array Oper}

/-! ### slots and objects that are added -/
theorem slGet_set_ne {l : List AV} {d t : Nat} {v : AV} (h : d ≠ t) : slGet (slSet l d v) t = slGet l t := by
  rw [slGet_eq, slGet_eq, slSet_eq, List.getElem?_set]; simp [h]
theorem slSet_same {l : List AV} {t : Nat} {v : AV} (h : slGet l t = v) : slSet l t v = l := by
  rw [slSet_eq]
  apply List.ext_getElem?
  intro i
  rw [List.getElem?_set]
  by_cases e : t = i
  · subst e
    simp only [if_true]
    split
    · rename_i hlt
      rw [slGet_eq, List.getElem?_eq_getElem hlt] at h
      rw [List.getElem?_eq_getElem hlt, ← h]; rfl
    · rename_i hlt; rw [List.getElem?_eq_none (by omega)]
  · simp [e]
theorem add_slot {dst : Option Nat} {v : AV} {N : List (Nat × Ob)} {t : Nat} (h : ∀ d, dst = some d → d ≠ t) : slGet (σ.add dst v N).sl t = slGet σ.sl t := by
  cases dst with
  | none => rfl
  | some d => exact slGet_set_ne (h d rfl)
theorem add_ob {dst : Option Nat} {v : AV} {N : List (Nat × Ob)} : (σ.add dst v N).ob = N ++ σ.ob := by cases dst <;> rfl
theorem obGet_append : ∀ {N l : List (Nat × Ob)} {c : Nat}, (∀ p ∈ N, p.1 ≠ c) → obGet (N ++ l) c = obGet l c
  | [], _, _, _ => rfl
  | (d, o) :: N, l, c, h => by
    rw [List.cons_append, obGet_cons, if_neg (h (d, o) (by simp))]
    exact obGet_append fun p hp => h p (by simp [hp])
theorem obGet_append_in : ∀ {N l : List (Nat × Ob)} {c : Nat}, (∃ p ∈ N, p.1 = c) → obGet (N ++ l) c = obGet N c
  | [], _, _, h => by obtain ⟨p, hp, _⟩ := h; cases hp
  | (d, o) :: N, l, c, h => by
    rw [List.cons_append, obGet_cons, obGet_cons]
    by_cases e : d = c
    · simp [e]
    · simp only [e, if_false]
      obtain ⟨p, hp, hpc⟩ := h
      rcases List.mem_cons.1 hp with rfl | hp
      · exact (e hpc).elim
      · exact obGet_append_in ⟨p, hp, hpc⟩
theorem obGet_swap {M N l : List (Nat × Ob)} (h : ∀ p ∈ M, ∀ q ∈ N, p.1 ≠ q.1) (c : Nat) : obGet (M ++ (N ++ l)) c = obGet (N ++ (M ++ l)) c := by
  by_cases hM : ∃ p ∈ M, p.1 = c
  · obtain ⟨p, hp, rfl⟩ := hM
    rw [obGet_append_in ⟨p, hp, rfl⟩, obGet_append (fun q hq => (h p hp q hq).symm), obGet_append_in ⟨p, hp, rfl⟩]
  · have hM' : ∀ p ∈ M, p.1 ≠ c := fun p hp e => hM ⟨p, hp, e⟩
    rw [obGet_append hM']
    by_cases hN : ∃ p ∈ N, p.1 = c
    · rw [obGet_append_in hN, obGet_append_in hN]
    · have hN' : ∀ p ∈ N, p.1 ≠ c := fun p hp e => hN ⟨p, hp, e⟩
      rw [obGet_append hN', obGet_append hN', obGet_append hM']
theorem Free.slot {c : Nat} (h : Free σ c) (t : Nat) : c ∉ mkeys (slGet σ.sl t) := by
  rw [slGet_eq]
  cases ht : σ.sl[t]? with
  | none => simp [mkeys, CV.owns]
  | some av => exact h.sl av (List.mem_of_getElem? ht)
theorem Free.add {c : Nat} (h : Free σ c) {dst : Option Nat} {v : AV} {N : List (Nat × Ob)} (hv : c ∉ mkeys v) (hN : ∀ p ∈ N, p.1 ≠ c ∧ c ∉ obKeys p.2) : Free (σ.add dst v N) c := by
  have h' := h.more hN
  refine ⟨fun av hav => ?_, fun d o hd => h'.ob d o (by rw [add_ob] at hd; exact hd), h.lt⟩
  cases dst with
  | none => exact h.sl av hav
  | some d =>
    have hav' : av ∈ slSet σ.sl d v := hav
    rw [slSet_eq] at hav'
    rcases List.mem_or_eq_of_mem_set hav' with h1 | h1
    · exact h.sl av h1
    · rw [h1]; exact hv

/-! ### one operation, told for every state that it can't tell from this one -/
structure Fact (P : Program) {gw : World → Prop} (w0 : Base gw) (S0 : Nat → Prop) (Q : Exit → Act → World → Prop) (E : Env) (ops : Array Oper) (j : Nat) (o : Oper) (σ : St) (v : AV) (N : List (Nat × Ob)) : Prop where
  new : NewOk (opKeys E o) N
  alien : ∀ c ∈ aliens ((masks ops.toList []).getD j 0) j 0 (ops.toList.map (opKeys E)), c ∉ mkeys v ∧ ∀ p ∈ N, p.1 ≠ c ∧ c ∉ obKeys p.2
  does : ∀ σ' a w, Agree ops o σ σ' → (∀ c ∈ opKeys E o, Free σ' c) → SR w0 S0 σ' a w → wpOp P ops Q j (fun a' w' => SR w0 S0 (σ'.add o.dst v N) a' w') a w

theorem wpOp_some {j : Nat} {o : Oper} {K : Act → World → Prop} (ho : ops[j]? = some o) (h : if Region.wanted o (yielded ops a.tmps) then o.wp P a w K Q else K (a.put o.dst undef) w) : wpOp P ops Q j K a w := by
  unfold wpOp
  simp only [ho]
  split at h
  · rename_i hw; rw [if_pos hw]; exact .inl h
  · rename_i hw; rw [if_neg hw]; exact h

/-- One operation of the text's order. -/
theorem fact_of (hE : ∀ T ti, E.ty T = some ti → TyOk P T ti) {ck : (fi : Fi) → Aden fi.ps → Option (Oden (flatRs fi.rs) (ioOf fi.ps))} (hG : ∀ f ids fi, E.fn f ids = some fi → ∀ x y, ck fi x = some y → Gives P gw f fi x y)
    {j : Nat} {o : Oper} {l : List Oper} (ho : ops[j]? = some o) {next : St → Option ρ} {r : ρ} (hn : dOps E ck ops.toList (masks ops.toList []) (ops.toList.map (opKeys E)) j (o :: l) σ next = some r) :
    ∃ v N, Fact P w0 S0 Q E ops j o σ v N ∧ dOps E ck ops.toList (masks ops.toList []) (ops.toList.map (opKeys E)) (j + 1) l (σ.add o.dst v N) next = some r := by
  have go : ∀ (hw : ∀ σ' a w, Agree ops o σ σ' → SR w0 S0 σ' a w → Region.wanted o (yielded ops a.tmps) = true),
      (dOp E σ ck o fun v N => chk (noneB (aliens ((masks ops.toList []).getD j 0) j 0 (ops.toList.map (opKeys E))) v N) (dOps E ck ops.toList (masks ops.toList []) (ops.toList.map (opKeys E)) (j + 1) l (σ.add o.dst v N) next)) = some r →
      ∃ v N, Fact P w0 S0 Q E ops j o σ v N ∧ dOps E ck ops.toList (masks ops.toList []) (ops.toList.map (opKeys E)) (j + 1) l (σ.add o.dst v N) next = some r := by
    intro hw hg
    obtain ⟨v, N, h1, h2, h3⟩ := dOp_par hg
    obtain ⟨h4, h5⟩ := chk_some h1
    refine ⟨v, N, ⟨h2, noneB_ok h4, fun σ' a w hA hF hS => ?_⟩, h5⟩
    refine wpOp_some ho ?_
    rw [if_pos (hw σ' a w hA hS)]
    obtain ⟨Im, hd, bl, hS⟩ := hS
    have e : dOp E σ' ck o (fun v N => some (v, N)) = some (v, N) := by rw [dOp_congr hA]; exact h3 _ _
    refine Oper.wp_mono (fun a' w' hd' => ?_) (dOp_ok (Q := Q) hE hG hS hF e)
    obtain ⟨v', N', e', hs⟩ := hd'
    cases e'
    exact hs
  have skip : ∀ (hw : ∀ σ' a w, Agree ops o σ σ' → SR w0 S0 σ' a w → Region.wanted o (yielded ops a.tmps) = false),
      dOps E ck ops.toList (masks ops.toList []) (ops.toList.map (opKeys E)) (j + 1) l (σ.add o.dst (.tup []) []) next = some r →
      ∃ v N, Fact P w0 S0 Q E ops j o σ v N ∧ dOps E ck ops.toList (masks ops.toList []) (ops.toList.map (opKeys E)) (j + 1) l (σ.add o.dst v N) next = some r := by
    intro hw hg
    refine ⟨.tup [], [], ⟨NewOk.none _, fun c _ => ⟨by simp [mkeys], fun p hp => by cases hp⟩, fun σ' a w hA hF hS => ?_⟩, hg⟩
    refine wpOp_some ho ?_
    rw [if_neg (by rw [hw σ' a w hA hS]; simp)]
    obtain ⟨Im, hd, bl, hS⟩ := hS
    exact ⟨Im, hd, bl, hS.put o.dst (av := .tup []) undef_tup⟩
  unfold dOps at hn
  dsimp only at hn
  split at hn
  · rename_i hg
    exact go (fun _ _ _ _ _ => by simp [Region.wanted, hg]) hn
  · rename_i g want hg
    split at hn
    · rename_i t ht
      have ht' : (ops[g]?).bind (·.dst) = some t := by rw [← Array.getElem?_toList]; exact ht
      split at hn
      · rename_i b hb
        have hlook : t ∈ o.looksAt ops := by
          unfold Oper.looksAt
          refine List.mem_append_right _ ?_
          rw [hg]
          simp [ht']
        have hwant : ∀ σ' a w, Agree ops o σ σ' → SR w0 S0 σ' a w → Region.wanted o (yielded ops a.tmps) = (b == want) := by
          intro σ' a w hA ⟨Im, hd, bl, hS⟩
          have := slot_bool hS (show slGet σ'.sl t = .cv (.val .bool b) by rw [hA.slot t hlook]; exact hb)
          have hy : yielded ops a.tmps g = some b := by simp [yielded, ht', this]
          simp [Region.wanted, hg, hy]
        have hput : ∀ b', b' = b → σ.put (some t) (.cv (.val .bool b')) = σ := fun b' e => by
          subst e
          show { σ with sl := slSet σ.sl t _ } = σ
          rw [slSet_same hb]
        cases b with
        | true =>
          rw [hput true rfl] at hn
          cases want with
          | true => exact go (fun σ' a w hA hS => by rw [hwant σ' a w hA hS]; rfl) hn
          | false => exact skip (fun σ' a w hA hS => by rw [hwant σ' a w hA hS]; rfl) hn
        | false =>
          rw [hput false rfl] at hn
          cases want with
          | true => exact skip (fun σ' a w hA hS => by rw [hwant σ' a w hA hS]; rfl) hn
          | false => exact go (fun σ' a w hA hS => by rw [hwant σ' a w hA hS]; rfl) hn
      · rename_i hb
        have hlook : t ∈ o.looksAt ops := by
          unfold Oper.looksAt
          refine List.mem_append_right _ ?_
          rw [hg]
          simp [ht']
        refine skip (fun σ' a w hA ⟨Im, hd, bl, hS⟩ => ?_) hn
        have := slot_undef hS (show slGet σ'.sl t = .tup [] by rw [hA.slot t hlook]; exact hb)
        have hy : yielded ops a.tmps g = none := by simp [yielded, ht', this, undef]
        simp [Region.wanted, hg, hy]
      · cases hn
    · cases hn

/-! ### all orders -/
def AAny (P : Program) {gw : World → Prop} (w0 : Base gw) (S0 : Nat → Prop) (Q : Exit → Act → World → Prop) (E : Env) (ops : Array Oper) (fin : St → Prop) : Nat → Array Bool → St → Prop
  | 0, listed, σ => Region.ready .any ops listed = [] ∧ fin σ
  | f + 1, listed, σ => (Region.ready .any ops listed = [] → fin σ) ∧ ∀ i ∈ Region.ready .any ops listed, ∃ o v N, ops[i]? = some o ∧ Fact P w0 S0 Q E ops i o σ v N ∧ AAny P w0 S0 Q E ops fin f (listed.setIfInBounds i true) (σ.add o.dst v N)

theorem Alike.agree {τ : St} {o : Oper} (hA : Alike σ τ) (h : Agree ops o τ σ') : Agree ops o σ σ' :=
  ⟨fun t ht => by rw [h.slot t ht, hA.sl], fun t ht c hc => by rw [h.key t ht c (by rw [hA.sl]; exact hc), hA.ob]⟩
theorem Alike.fact {τ : St} {j : Nat} {o : Oper} {v : AV} {N : List (Nat × Ob)} (hA : Alike σ τ) (h : Fact P w0 S0 Q E ops j o σ v N) : Fact P w0 S0 Q E ops j o τ v N :=
  ⟨h.new, h.alien, fun σ' a w hg => h.does σ' a w (hA.agree hg)⟩
theorem Alike.add {τ : St} (hA : Alike σ τ) (dst : Option Nat) (v : AV) (N : List (Nat × Ob)) : Alike (σ.add dst v N) (τ.add dst v N) := by
  refine ⟨?_, fun c => ?_⟩
  · cases dst with
    | none => exact hA.sl
    | some d => show slSet τ.sl d v = slSet σ.sl d v; rw [hA.sl]
  · rw [add_ob, add_ob]
    by_cases h : ∃ p ∈ N, p.1 = c
    · rw [obGet_append_in h, obGet_append_in h]
    · have h' : ∀ p ∈ N, p.1 ≠ c := fun p hp e => h ⟨p, hp, e⟩
      rw [obGet_append h', obGet_append h', hA.ob]
theorem AAny.alike {fin : St → Prop} (hfin : ∀ σ τ, Alike σ τ → fin σ → fin τ) : ∀ {f : Nat} {listed : Array Bool} {σ τ : St}, Alike σ τ → AAny P w0 S0 Q E ops fin f listed σ → AAny P w0 S0 Q E ops fin f listed τ
  | 0, listed, σ, τ, hA, h => ⟨h.1, hfin σ τ hA h.2⟩
  | f + 1, listed, σ, τ, hA, h => ⟨fun h0 => hfin σ τ hA (h.1 h0), fun i hi => by
    obtain ⟨o, v, N, h1, h2, h3⟩ := h.2 i hi
    exact ⟨o, v, N, h1, hA.fact h2, AAny.alike hfin (hA.add _ _ _) h3⟩⟩

/-- What is listed is closed, and nobody speaks of what is still to be made. -/
structure Inv (E : Env) (ops : Array Oper) (listed : Array Bool) (σ : St) : Prop where
  closed : ∀ j oj, ops[j]? = some oj → listed.getD j false = true → ∀ e ∈ oj.after, Region.binds .any e = true → listed.getD e.on false = true
  free : ∀ j oj, ops[j]? = some oj → listed.getD j true = false → ∀ c ∈ opKeys E oj, Free σ c

theorem getD_not {listed : Array Bool} {i : Nat} (h : listed.getD i true = false) : listed.getD i false = false := by
  rcases Nat.lt_or_ge i listed.size with h' | h'
  · simp [h'] at h ⊢; exact h
  · simp [Array.getElem?_eq_none h'] at h

/-- What comes before something that may come up now is listed. -/
theorem before_listed {listed : Array Bool} (hc : ∀ j oj, ops[j]? = some oj → listed.getD j false = true → ∀ e ∈ oj.after, Region.binds .any e = true → listed.getD e.on false = true) :
    ∀ (j : Nat) (oj : Oper), ops[j]? = some oj → (∀ e ∈ oj.after, Region.binds .any e = true → listed.getD e.on false = true) → ∀ i, Nat.testBit ((masks ops.toList []).getD j 0) i = true → listed.getD i false = true := by
  intro j
  induction j using Nat.strongRecOn with
  | _ j ih =>
    intro oj hj hdeps i hb
    have hs := masks_spec (l := ops.toList) (acc := []) (t := j) (o := oj) (i := i) (by rw [Array.getElem?_toList]; exact hj) (by simpa using hb)
    obtain ⟨e, he, hbd, h⟩ := hs
    have hon := hdeps e (by simpa using he) hbd
    rcases h with h | ⟨hlt, h⟩
    · rw [← h]; exact hon
    · simp only [List.length_nil, Nat.zero_add] at hlt
      cases ho : ops[e.on]? with
      | none =>
        have : ops.toList.length ≤ e.on := by rw [Array.length_toList]; exact Array.getElem?_eq_none_iff.1 ho
        rw [List.getD_eq_getElem?_getD, List.getElem?_eq_none (by rw [masks_len]; simpa using this)] at h
        simp at h
      | some o' => exact ih e.on hlt o' ho (fun e' he' hb' => hc e.on o' ho hon e' he' hb') i h

theorem Inv.add {listed : Array Bool} (inv : Inv E ops listed σ) {i : Nat} {o : Oper} {v : AV} {N : List (Nat × Ob)} (hi : i ∈ Region.ready .any ops listed) (ho : ops[i]? = some o) (hF : Fact P w0 S0 Q E ops i o σ v N) : Inv E ops (listed.setIfInBounds i true) (σ.add o.dst v N) := by
  obtain ⟨hun, oi, hoi, hall⟩ := mem_ready.1 hi
  have : oi = o := Option.some.inj (hoi.symm.trans ho)
  subst this
  refine ⟨fun j oj hj hl e he hb => ?_, fun j oj hj hl c hc => ?_⟩
  · by_cases hij : i = j
    · subst hij
      have : oj = oi := Option.some.inj (hj.symm.trans hoi)
      subst this
      exact getD_set_true (hall e he hb)
    · rw [getD_set_ne false hij] at hl
      exact getD_set_true (inv.closed j oj hj hl e he hb)
  · have hij : i ≠ j := by
      intro e; subst e
      have hsz : i < listed.size ∨ listed.size ≤ i := Nat.lt_or_ge _ _
      rcases hsz with h | h
      · simp [h] at hl
      · simp [Array.getElem?_eq_none h] at hun
    rw [getD_set_ne true hij] at hl
    have hfree := inv.free j oj hj hl c hc
    have hnb : Nat.testBit ((masks ops.toList []).getD i 0) j = false := by
      cases hb : Nat.testBit ((masks ops.toList []).getD i 0) j with
      | false => rfl
      | true =>
        have := before_listed inv.closed i oi hoi hall j hb
        rw [getD_not hl] at this; cases this
    have hal := hF.alien c (aliens_mem (t := j) (k := opKeys E oj) (by rw [List.getElem?_map, Array.getElem?_toList, hj]; rfl) hc (by omega) (by rw [Nat.zero_add]; exact hnb))
    exact hfree.add hal.1 hal.2

theorem wpAny_of {fin : St → Prop} (hQ : ∀ σ a w, fin σ → SR w0 S0 σ a w → Q .normal a w) : ∀ (f : Nat) (listed : Array Bool) (σ : St) (a : Act) (w : World), Inv E ops listed σ → SR w0 S0 σ a w → AAny P w0 S0 Q E ops fin f listed σ → wpAny P .any ops Q f listed a w
  | 0, listed, σ, a, w, inv, hS, h => ⟨h.1, hQ σ a w h.2 hS⟩
  | f + 1, listed, σ, a, w, inv, hS, h => ⟨fun h0 => hQ σ a w (h.1 h0) hS, fun i hi => by
    obtain ⟨o, v, N, ho, hF, hr⟩ := h.2 i hi
    obtain ⟨hun, oi, hoi, hall⟩ := mem_ready.1 hi
    have : oi = o := Option.some.inj (hoi.symm.trans ho)
    subst this
    refine wpOp_mono (fun a' w' hs => wpAny_of hQ f _ _ a' w' (inv.add hi ho hF) hs hr) (hF.does σ a w ⟨fun _ _ => rfl, fun _ _ _ _ => rfl⟩ (inv.free i oi ho hun) hS)⟩

theorem AAny_first {fin : St → Prop} (hfin : ∀ σ τ, Alike σ τ → fin σ → fin τ) (hdis : ∀ (i j : Nat) (oi oj : Oper), ops[i]? = some oi → ops[j]? = some oj → i ≠ j → ∀ c ∈ opKeys E oi, c ∉ opKeys E oj) {i : Nat} {oi : Oper} {v : AV} {N : List (Nat × Ob)} (hi : ops[i]? = some oi) :
    ∀ (f : Nat) (listed : Array Bool) (σ : St), Inv E ops listed σ →
      (∀ j oj, ops[j]? = some oj → j ≠ i → listed.getD j true = false → (∀ e ∈ oj.after, Region.binds .any e = true → e.on ≠ i) → oi.apart ops oj = true) →
      i ∈ Region.ready .any ops listed → Fact P w0 S0 Q E ops i oi σ v N → AAny P w0 S0 Q E ops fin f (listed.setIfInBounds i true) (σ.add oi.dst v N) → AAny P w0 S0 Q E ops fin (f + 1) listed σ := by
  intro f
  induction f with
  | zero =>
    intro listed σ inv _ hr hF H
    refine ⟨fun h => (by rw [h] at hr; cases hr), fun j hj => ?_⟩
    by_cases hji : j = i
    · subst hji; exact ⟨oi, v, N, hi, hF, H⟩
    · have := ready_mono hj hji
      rw [H.1] at this; cases this
  | succ f ih =>
    intro listed σ inv hfree hr hF H
    refine ⟨fun h => (by rw [h] at hr; cases hr), fun j hj => ?_⟩
    by_cases hji : j = i
    · subst hji; exact ⟨oi, v, N, hi, hF, H⟩
    · obtain ⟨oj, u, M, hoj, hFj, hrest⟩ := H.2 j (ready_mono hj hji)
      obtain ⟨hjun, oj', hoj', hall⟩ := mem_ready.1 hj
      have : oj' = oj := Option.some.inj (hoj'.symm.trans hoj)
      subst this
      obtain ⟨hiun, oi', hoi', hiall⟩ := mem_ready.1 hr
      have hnot : ∀ e ∈ oj'.after, Region.binds .any e = true → e.on ≠ i := fun e he hb heq => by
        have h1 := hall e he hb
        rw [heq, getD_not hiun] at h1
        cases h1
      have hap := Oper.apart_spec (hfree j oj' hoj hji hjun hnot)
      obtain ⟨h1, h2, h3⟩ := hap
      have hFi := inv.free i oi hi hiun
      have hFj' := inv.free j oj' hoj hjun
      have hNk : ∀ c, (∀ k ∈ opKeys E oi, k ≠ c) → ∀ p ∈ N, p.1 ≠ c := fun c hc p hp => hc _ (hF.new.2.1 p hp)
      have hMk : ∀ c, (∀ k ∈ opKeys E oj', k ≠ c) → ∀ p ∈ M, p.1 ≠ c := fun c hc p hp => hc _ (hFj.new.2.1 p hp)
      -- j, told from here
      have hFj0 : Fact P w0 S0 Q E ops j oj' σ u M := by
        refine ⟨hFj.new, hFj.alien, fun σ' a w hA hf hS => hFj.does σ' a w ⟨fun t ht => ?_, fun t ht c hc => ?_⟩ hf hS⟩
        · rw [hA.slot t ht, add_slot (fun d hd e => h1 d hd (e ▸ ht))]
        · rw [add_slot (fun d hd e => h1 d hd (e ▸ ht))] at hc
          rw [hA.key t ht c hc, add_ob, obGet_append (hNk c fun k hk e => (hFi k hk).slot t (e ▸ hc))]
      have hinv := inv.add hj hoj hFj0
      have hFi2 : Fact P w0 S0 Q E ops i oi (σ.add oj'.dst u M) v N := by
        refine ⟨hF.new, hF.alien, fun σ' a w hA hf hS => hF.does σ' a w ⟨fun t ht => ?_, fun t ht c hc => ?_⟩ hf hS⟩
        · rw [hA.slot t ht, add_slot (fun d hd e => h3 d hd (e ▸ ht))]
        · rw [hA.key t ht c (by rw [add_slot (fun d hd e => h3 d hd (e ▸ ht))]; exact hc), add_ob, obGet_append (hMk c fun k hk e => (hFj' k hk).slot t (e ▸ hc))]
      refine ⟨oj', u, M, hoj, hFj0, ih (listed.setIfInBounds j true) (σ.add oj'.dst u M) hinv (fun k ok hk hki hun hno => ?_) (ready_mono hr (Ne.symm hji)) hFi2 ?_⟩
      · refine hfree k ok hk hki ?_ hno
        by_cases hjk : j = k
        · subst hjk; exact hjun
        · rw [getD_set_ne true hjk] at hun; exact hun
      · rw [Array.setIfInBounds_comm _ _ hji]
        refine AAny.alike hfin ⟨?_, fun c => ?_⟩ hrest
        · show ((σ.add oj'.dst u M).add oi.dst v N).sl = ((σ.add oi.dst v N).add oj'.dst u M).sl
          cases hdi : oi.dst with
          | none => cases oj'.dst <;> rfl
          | some d =>
            cases hdj : oj'.dst with
            | none => rfl
            | some e =>
              have hne : d ≠ e := fun k => h2 d hdi (by rw [hdj, k])
              show slSet (slSet σ.sl e u) d v = slSet (slSet σ.sl d v) e u
              rw [slSet_eq, slSet_eq, slSet_eq, slSet_eq, List.set_comm _ _ hne]
        · rw [add_ob, add_ob, add_ob, add_ob]
          refine obGet_swap (fun p hp q hq e => ?_) c
          exact hdis i j oi oj' hi hoj (Ne.symm hji) p.1 (hF.new.2.1 p hp) (e ▸ hFj.new.2.1 q hq)

theorem AAny_lex (hE : ∀ T ti, E.ty T = some ti → TyOk P T ti) {ck : (fi : Fi) → Aden fi.ps → Option (Oden (flatRs fi.rs) (ioOf fi.ps))} (hG : ∀ f ids fi, E.fn f ids = some fi → ∀ x y, ck fi x = some y → Gives P gw f fi x y)
    {fin : St → Prop} (hfin : ∀ σ τ, Alike σ τ → fin σ → fin τ) (hdis : ∀ (i j : Nat) (oi oj : Oper), ops[i]? = some oi → ops[j]? = some oj → i ≠ j → ∀ c ∈ opKeys E oi, c ∉ opKeys E oj) {next : St → Option ρ} {r : ρ} (hnext : ∀ σ, next σ = some r → fin σ) :
    ∀ (l : List Oper) (k : Nat) (listed : Array Bool) (σ : St), (∀ j, l[j]? = ops[k + j]?) → Region.lexFrom .any ops l.length k listed = true → Inv E ops listed σ →
      dOps E ck ops.toList (masks ops.toList []) (ops.toList.map (opKeys E)) k l σ next = some r → AAny P w0 S0 Q E ops fin l.length listed σ
  | [], k, listed, σ, hl, hB, inv, hn => ⟨by simpa [Region.lexFrom] using hB, hnext σ hn⟩
  | o :: l, k, listed, σ, hl, hB, inv, hn => by
    have h0 : ops[k]? = some o := by simpa using (hl 0).symm
    simp only [List.length_cons, Region.lexFrom, Bool.and_eq_true] at hB
    obtain ⟨⟨hr, hf⟩, hB'⟩ := hB
    have hr' : k ∈ Region.ready .any ops listed := by simpa using hr
    obtain ⟨v, N, hF, hrest⟩ := fact_of (Q := Q) (w0 := w0) (S0 := S0) hE hG h0 hn
    exact AAny_first hfin hdis h0 l.length listed σ inv (Region.free_spec h0 hf) hr' hF
      (AAny_lex hE hG hfin hdis hnext l (k + 1) _ _ (fun j => by have := hl (j + 1); simpa [Nat.add_assoc, Nat.add_comm 1 j] using this) hB' (inv.add hr' h0 hF) hrest)

theorem flat_dis {ks : List (List Nat)} (h : (ks.flatMap id).Nodup) : ∀ (i j : Nat) (a b : List Nat), ks[i]? = some a → ks[j]? = some b → i ≠ j → ∀ c ∈ a, c ∉ b := by
  induction ks with
  | nil => intro i j a b hi; simp at hi
  | cons k ks ih =>
    rw [List.flatMap_cons, List.nodup_append] at h
    intro i j a b hi hj hne c hc hcb
    cases i with
    | zero =>
      cases j with
      | zero => exact hne rfl
      | succ j =>
        cases (show some k = some a from hi)
        exact h.2.2 c hc c (List.mem_flatMap.2 ⟨b, List.mem_of_getElem? (by simpa using hj), hcb⟩) rfl
    | succ i =>
      cases j with
      | zero =>
        cases (show some k = some b from hj)
        exact h.2.2 c hcb c (List.mem_flatMap.2 ⟨a, List.mem_of_getElem? (by simpa using hi), hc⟩) rfl
      | succ j => exact ih h.2.1 i j a b (by simpa using hi) (by simpa using hj) (by omega) c hc hcb

theorem SR.drawn (h : SR w0 S0 σ a w) : SR w0 S0 σ a { w with drawn := w.drawn + 1 } := by
  obtain ⟨Im, hd, bl, h⟩ := h
  exact ⟨Im, hd, bl, h.world (w' := { w with drawn := w.drawn + 1 }) (fun _ _ => rfl) (Nat.le_refl _) h.below.drew⟩

/-- A region whose operations may come up in more than one order. -/
theorem aDraw_ok (hm : P.follows .mixedOrders = true) (hE : ∀ T ti, E.ty T = some ti → TyOk P T ti) {ck : (fi : Fi) → Aden fi.ps → Option (Oden (flatRs fi.rs) (ioOf fi.ps))} (hG : ∀ f ids fi, E.fn f ids = some fi → ∀ x y, ck fi x = some y → Gives P gw f fi x y)
    (h : SR w0 S0 σ a w) {id : Nat} {next : St → Option ρ} {r : ρ} (hn : aDraw E ck ops σ next = some r) : (Code.region id ops true).wp P (fun e a w => e = .normal ∧ Goes w0 S0 next r a w) a w := by
  unfold aDraw at hn
  dsimp only at hn
  obtain ⟨h1, hn⟩ := chk_some hn
  simp only [Bool.and_eq_true] at h1
  obtain ⟨⟨hlex, hnd⟩, hfree⟩ := h1
  unfold Region.lexB at hlex
  rw [Bool.and_eq_true] at hlex
  have hfree' := List.all_eq_true.1 hfree
  have hkeys : ∀ j oj, ops[j]? = some oj → (ops.toList.map (opKeys E))[j]? = some (opKeys E oj) := fun j oj hj => by rw [List.getElem?_map, Array.getElem?_toList, hj]; rfl
  have inv0 : Inv E ops (Array.replicate ops.size false) σ := by
    refine ⟨fun j oj hj hl => ?_, fun j oj hj _ c hc => ?_⟩
    · rcases Nat.lt_or_ge j ops.size with h | h
      · simp [h] at hl
      · simp [h] at hl
    · exact freeB_ok (hfree' c (List.mem_flatMap.2 ⟨_, List.mem_of_getElem? (hkeys j oj hj), hc⟩))
  have hfin : ∀ σ τ, Alike σ τ → (∃ υ, Alike υ σ ∧ next υ = some r) → ∃ υ, Alike υ τ ∧ next υ = some r := fun σ τ hA ⟨υ, h1, h2⟩ => ⟨υ, ⟨hA.sl.trans h1.sl, fun c => (hA.ob c).trans (h1.ob c)⟩, h2⟩
  have H := AAny_lex (Q := fun e a w => e = .normal ∧ Goes w0 S0 next r a w) (w0 := w0) (S0 := S0) hE hG (fin := fun σ => ∃ υ, Alike υ σ ∧ next υ = some r) hfin
    (fun i j oi oj hi hj hne => flat_dis (nodupB_iff.1 hnd) i j _ _ (hkeys i oi hi) (hkeys j oj hj) hne) (fun σ hs => ⟨σ, Alike.refl σ, hs⟩) ops.toList 0 (Array.replicate ops.size false) σ (fun j => by simp) (by simpa using hlex.2) inv0 hn
  refine wp_region_any hm ?_
  have := wpAny_of (Q := fun e a w => e = .normal ∧ Goes w0 S0 next r a w) (fun σ a w ⟨υ, hA, hs⟩ hS => ⟨rfl, υ, hs, Alike.SR (σ := σ) ⟨hA.sl.symm, fun c => (hA.ob c).symm⟩ hS⟩) _ _ σ a _ inv0 h.drawn H
  rw [Array.length_toList] at this
  exact this

end
end Go.Vt
