/-
  A region whose operations may come up in more than one order comes to what the text's order comes to.
  Conditions: the table of types is right (TyOk); the functions give what the plain machine says (Gives).
-/
import Derived.Test.YtlgkjckddpnfnaaGreatDoorXvw
namespace Go.Vt
open Go.RowKit
set_option linter.unusedVariables false
set_option linter.unusedSimpArgs false

/-! ### what comes before -/
theorem maskFold {acc : List Nat} {i : Nat} : ∀ {l : List Edge} {s : Nat}, Nat.testBit (l.foldl (fun s e => bif Region.binds .any e then Nat.lor (Nat.lor s (2 ^ e.on)) (acc.getD e.on 0) else s) s) i = true →
    Nat.testBit s i = true ∨ ∃ e ∈ l, Region.binds .any e = true ∧ (e.on = i ∨ Nat.testBit (acc.getD e.on 0) i = true)
  | [], s, h => .inl h
  | e :: l, s, h => by
    rw [List.foldl_cons] at h
    rcases maskFold h with h | ⟨e', he, hb, h⟩
    · cases hb : Region.binds .any e with
      | false => rw [hb, cond_false] at h; exact .inl h
      | true =>
        rw [hb, cond_true] at h
        have h' : ((s ||| 2 ^ e.on) ||| acc.getD e.on 0).testBit i = true := h
        rw [Nat.testBit_or, Nat.testBit_or, Bool.or_eq_true, Bool.or_eq_true] at h'
        rcases h' with (h | h) | h
        · exact .inl h
        · rw [Nat.testBit_two_pow] at h
          exact .inr ⟨e, by simp, hb, .inl (by simpa using h)⟩
        · exact .inr ⟨e, by simp, hb, .inr h⟩
    · exact .inr ⟨e', by simp [he], hb, h⟩
theorem masks_old : ∀ {l : List Oper} {acc : List Nat} {j : Nat}, j < acc.length → (masks l acc).getD j 0 = acc.getD j 0
  | [], _, _, _ => rfl
  | o :: l, acc, j, h => by
    unfold masks
    rw [masks_old (by simp; omega), List.getD_eq_getElem?_getD, List.getD_eq_getElem?_getD, List.getElem?_append_left h]
theorem masks_len : ∀ {l : List Oper} {acc : List Nat}, (masks l acc).length = acc.length + l.length
  | [], _ => rfl
  | o :: l, acc => by unfold masks; rw [masks_len]; simp; omega
theorem masks_spec : ∀ {l : List Oper} {acc : List Nat} {t : Nat} {o : Oper} {i : Nat}, l[t]? = some o → Nat.testBit ((masks l acc).getD (acc.length + t) 0) i = true →
    ∃ e ∈ o.after.toList, Region.binds .any e = true ∧ (e.on = i ∨ (e.on < acc.length + t ∧ Nat.testBit ((masks l acc).getD e.on 0) i = true))
  | [], _, _, _, _, h, _ => by simp at h
  | o :: l, acc, 0, o', i, h, hb => by
    cases (show some o = some o' from h)
    have e1 : (masks (o :: l) acc).getD (acc.length + 0) 0 = maskOf acc o := by
      unfold masks
      rw [masks_old (by simp), List.getD_eq_getElem?_getD, List.getElem?_append_right (by simp)]
      simp
    rw [e1] at hb
    rcases maskFold hb with hb | ⟨e, he, hbd, hb⟩
    · simp at hb
    · refine ⟨e, he, hbd, hb.imp_right fun hb => ?_⟩
      have hlt : e.on < acc.length := by
        rcases Nat.lt_or_ge e.on acc.length with h1 | h1
        · exact h1
        · rw [List.getD_eq_getElem?_getD, List.getElem?_eq_none h1] at hb; simp at hb
      refine ⟨by omega, ?_⟩
      unfold masks
      rw [masks_old (by simp; omega), List.getD_eq_getElem?_getD, List.getElem?_append_left hlt, ← List.getD_eq_getElem?_getD]
      exact hb
  | o :: l, acc, t + 1, o', i, h, hb => by
    unfold masks at hb ⊢
    have e2 : acc.length + (t + 1) = (acc ++ [maskOf acc o]).length + t := by simp; omega
    rw [e2] at hb ⊢
    exact masks_spec (l := l) (by simpa using h) hb

theorem aliens_mem {m j : Nat} : ∀ {ks : List (List Nat)} {i t : Nat} {k : List Nat} {c : Nat}, ks[t]? = some k → c ∈ k → i + t ≠ j → Nat.testBit m (i + t) = false → c ∈ aliens m j i ks
  | [], i, t, k, c, h, _, _, _ => by simp at h
  | k0 :: ks, i, 0, k, c, h, hc, hne, hb => by
    cases (show some k0 = some k from h)
    unfold aliens
    rw [beqN]
    simp only [Nat.add_zero] at hne hb
    simp only [hne, decide_false, hb, Bool.or_self, cond_false]
    exact List.mem_append.2 (.inl hc)
  | k0 :: ks, i, t + 1, k, c, h, hc, hne, hb => by
    unfold aliens
    exact List.mem_append.2 (.inr (aliens_mem (t := t) (by simpa using h) hc (by omega) (by rw [show i + 1 + t = i + (t + 1) by omega]; exact hb)))
theorem noneB_ok {l m : List Nat} {v : AV} {N : List (Nat × Ob)} (h : noneB l m v N = true) : (∀ c ∈ l, c ∉ mkeys v) ∧ ∀ c ∈ m, ∀ p ∈ N, p.1 ≠ c ∧ c ∉ obKeys p.2 := by
  unfold noneB at h
  rw [Bool.and_eq_true, List.all_eq_true, List.all_eq_true] at h
  have nh : ∀ {c : Nat} {l : List Nat}, (!hasB c l) = true → c ∉ l := fun h hm => by rw [hasB_mem.2 hm] at h; cases h
  refine ⟨fun c hc => nh (h.1 c hc), fun c hc p hp => ?_⟩
  have this := h.2 c hc
  rw [List.all_eq_true] at this
  have hp' := this p hp
  rw [Bool.and_eq_true] at hp'
  refine ⟨fun e => ?_, nh hp'.2⟩
  rw [e] at hp'
  simp at hp'

section
variable {P : Program} {ρ : Type} {gw : Gw} {w0 : Base gw} {w : World} {S0 : Nat → Prop} {σ σ' : St} {a : Act} {Im : Nat → Prop} {hd : Nat → Value} {bl : Nat → List Nat} {Q : Exit → Act → World → Prop}
variable {E : Env} {ops : Array Oper}

/-! ### slots and objects that are added -/
theorem slGet_set_ne {l : List AV} {d t : Nat} {v : AV} (h : d ≠ t) : slGet (slSet l d v) t = slGet l t := by
  rw [slGet_eq, slGet_eq, slSet_eq, List.getElem?_set]; simp [h]
theorem slSet_same {l : List AV} {t : Nat} {v : AV} (h : slGet l t = v) : slSet l t v = l := by
  rw [slSet_eq]
  apply List.ext_getElem?
  intro i
  rw [List.getElem?_set]
  by_cases e : t = i
  · subst e
    simp only [if_true]
    split
    · rename_i hlt
      rw [slGet_eq, List.getElem?_eq_getElem hlt] at h
      rw [List.getElem?_eq_getElem hlt, ← h]; rfl
    · rename_i hlt; rw [List.getElem?_eq_none (by omega)]
  · simp [e]
theorem add_slot {dst : Option Nat} {v : AV} {N : List (Nat × Ob)} {t : Nat} (h : ∀ d, dst = some d → d ≠ t) : slGet (σ.add dst v N).sl t = slGet σ.sl t := by
  cases dst with
  | none => rfl
  | some d => exact slGet_set_ne (h d rfl)
theorem add_ob {dst : Option Nat} {v : AV} {N : List (Nat × Ob)} : (σ.add dst v N).ob = N ++ σ.ob := by cases dst <;> rfl
theorem obGet_append : ∀ {N l : List (Nat × Ob)} {c : Nat}, (∀ p ∈ N, p.1 ≠ c) → obGet (N ++ l) c = obGet l c
  | [], _, _, _ => rfl
  | (d, o) :: N, l, c, h => by
    rw [List.cons_append, obGet_cons, if_neg (h (d, o) (by simp))]
    exact obGet_append fun p hp => h p (by simp [hp])
theorem obGet_append_in : ∀ {N l : List (Nat × Ob)} {c : Nat}, (∃ p ∈ N, p.1 = c) → obGet (N ++ l) c = obGet N c
  | [], _, _, h => by obtain ⟨p, hp, _⟩ := h; cases hp
  | (d, o) :: N, l, c, h => by
    rw [List.cons_append, obGet_cons, obGet_cons]
    by_cases e : d = c
    · simp [e]
    · simp only [e, if_false]
      obtain ⟨p, hp, hpc⟩ := h
      rcases List.mem_cons.1 hp with rfl | hp
      · exact (e hpc).elim
      · exact obGet_append_in ⟨p, hp, hpc⟩
theorem obGet_swap {M N l : List (Nat × Ob)} (h : ∀ p ∈ M, ∀ q ∈ N, p.1 ≠ q.1) (c : Nat) : obGet (M ++ (N ++ l)) c = obGet (N ++ (M ++ l)) c := by
  by_cases hM : ∃ p ∈ M, p.1 = c
  · obtain ⟨p, hp, rfl⟩ := hM
    rw [obGet_append_in ⟨p, hp, rfl⟩, obGet_append (fun q hq => (h p hp q hq).symm), obGet_append_in ⟨p, hp, rfl⟩]
  · have hM' : ∀ p ∈ M, p.1 ≠ c := fun p hp e => hM ⟨p, hp, e⟩
    rw [obGet_append hM']
    by_cases hN : ∃ p ∈ N, p.1 = c
    · rw [obGet_append_in hN, obGet_append_in hN]
    · have hN' : ∀ p ∈ N, p.1 ≠ c := fun p hp e => hN ⟨p, hp, e⟩
      rw [obGet_append hN', obGet_append hN', obGet_append hM']
theorem Free.slot {c : Nat} (h : Free σ c) (t : Nat) : c ∉ mkeys (slGet σ.sl t) := by
  rw [slGet_eq]
  cases ht : σ.sl[t]? with
  | none => simp [mkeys, CV.owns]
  | some av => exact h.sl av (List.mem_of_getElem? ht)
theorem Free.add {c : Nat} (h : Free σ c) {dst : Option Nat} {v : AV} {N : List (Nat × Ob)} (hv : c ∉ mkeys v) (hN : ∀ p ∈ N, p.1 ≠ c ∧ c ∉ obKeys p.2) : Free (σ.add dst v N) c := by
  have h' := h.more hN
  refine ⟨fun av hav => ?_, fun d o hd => h'.ob d o (by rw [add_ob] at hd; exact hd), h.lt⟩
  cases dst with
  | none => exact h.sl av hav
  | some d =>
    have hav' : av ∈ slSet σ.sl d v := hav
    rw [slSet_eq] at hav'
    rcases List.mem_or_eq_of_mem_set hav' with h1 | h1
    · exact h.sl av h1
    · rw [h1]; exact hv

/-! ### one operation, told for every state that it can't tell from this one -/
abbrev eks (E : Env) (ops : Array Oper) : List (List Nat) := ops.toList.map (dKeys E ops.toList)
structure Fact (P : Program) {gw : Gw} (w0 : Base gw) (S0 : Nat → Prop) (Q : Exit → Act → World → Prop) (E : Env) (ops : Array Oper) (j : Nat) (o : Oper) (σ : St) (v : AV) (N : List (Nat × Ob)) (K : List Nat) : Prop where
  new : NewOk (opKeys E o ++ K) N
  alien : ∀ c ∈ aliens ((masks ops.toList []).getD j 0) j 0 (ops.toList.map (opKeys E)) ++ eaten (opKeys E o) (eks E ops), c ∉ mkeys v
  alien2 : ∀ c ∈ aliens ((masks ops.toList []).getD j 0) j 0 (ops.toList.map (opKeys E)), ∀ p ∈ N, p.1 ≠ c ∧ c ∉ obKeys p.2
  keys : ∀ c ∈ K, c ∈ dKeys E ops.toList o
  does : ∀ σ' a w, Agree ops o σ σ' → (∀ c ∈ opKeys E o, Free σ' c) → SR w0 S0 σ' a w → wpOp P ops Q j (fun a' w' => SR w0 S0 (σ'.addK K o.dst v N) a' w') a w

theorem wpOp_some {j : Nat} {o : Oper} {K : Act → World → Prop} (ho : ops[j]? = some o) (h : if Region.wanted o (yielded ops a.tmps) then o.wp P a w K Q else K (a.put o.dst undef) w) : wpOp P ops Q j K a w := by
  unfold wpOp
  simp only [ho]
  split at h
  · rename_i hw; rw [if_pos hw]; exact .inl h
  · rename_i hw; rw [if_neg hw]; exact h
theorem getD_map {α β : Type} {f : α → β} {l : List α} {j : Nat} {x : α} {d : β} (h : l[j]? = some x) : (l.map f).getD j d = f x := by
  rw [List.getD, List.getElem?_map, h]; rfl

/-- One operation of the text's order. -/
theorem fact_of (hE : ∀ T ti, E.ty T = some ti → TyOk P T ti) {ck : (fi : Fi) → Aden fi.ps → Option (Oden (flatRs fi.rs) (ioOf fi.ps))} (hG : ∀ f ids fi, E.fn f ids = some fi → ∀ x y, ck fi x = some y → Gives P gw f fi x y)
    {j : Nat} {o : Oper} {l : List Oper} (ho : ops[j]? = some o) {next : St → Option ρ} {r : ρ} (hn : dOps E ck ops.toList (masks ops.toList []) (ops.toList.map (opKeys E)) (eks E ops) j (o :: l) σ next = some r) :
    ∃ v N K, Fact P w0 S0 Q E ops j o σ v N K ∧ dOps E ck ops.toList (masks ops.toList []) (ops.toList.map (opKeys E)) (eks E ops) (j + 1) l (σ.addK K o.dst v N) next = some r := by
  have hoL : ops.toList[j]? = some o := by rw [Array.getElem?_toList]; exact ho
  have hkj : (ops.toList.map (opKeys E)).getD j [] = opKeys E o := getD_map hoL
  have hej : (eks E ops).getD j [] = dKeys E ops.toList o := getD_map hoL
  have go : ∀ (hw : ∀ σ' a w, Agree ops o σ σ' → SR w0 S0 σ' a w → Region.wanted o (yielded ops a.tmps) = true),
      (dOp E σ ck ((eks E ops).getD j []) o fun v N => chk (noneB (aliens ((masks ops.toList []).getD j 0) j 0 (ops.toList.map (opKeys E)) ++ eaten ((ops.toList.map (opKeys E)).getD j []) (eks E ops)) (aliens ((masks ops.toList []).getD j 0) j 0 (ops.toList.map (opKeys E)) ++ eaten ((ops.toList.map (opKeys E)).getD j [] ++ (eks E ops).getD j []) (eks E ops)) v N) (dOps E ck ops.toList (masks ops.toList []) (ops.toList.map (opKeys E)) (eks E ops) (j + 1) l (σ.addK ((eks E ops).getD j []) o.dst v N) next)) = some r →
      ∃ v N K, Fact P w0 S0 Q E ops j o σ v N K ∧ dOps E ck ops.toList (masks ops.toList []) (ops.toList.map (opKeys E)) (eks E ops) (j + 1) l (σ.addK K o.dst v N) next = some r := by
    intro hw hg
    rw [hkj, hej] at hg
    obtain ⟨v, N, h1, h2, h3⟩ := dOp_par hg
    obtain ⟨h4, h5⟩ := chk_some h1
    refine ⟨v, N, _, ⟨h2, (noneB_ok h4).1, fun c hc => (noneB_ok h4).2 c (List.mem_append_left _ hc), fun c hc => hc, fun σ' a w hA hF hS => ?_⟩, h5⟩
    refine wpOp_some ho ?_
    rw [if_pos (hw σ' a w hA hS)]
    obtain ⟨Im, hd, bl, hS⟩ := hS
    have e : dOp E σ' ck (dKeys E ops.toList o) o (fun v N => some (v, N)) = some (v, N) := by rw [dOp_congr hA]; exact h3 _ _
    refine Oper.wp_mono (fun a' w' hd' => ?_) (dOp_ok (Q := Q) hE hG hS hF e)
    obtain ⟨v', N', e', hs⟩ := hd'
    cases e'
    exact hs
  have skip : ∀ (hw : ∀ σ' a w, Agree ops o σ σ' → SR w0 S0 σ' a w → Region.wanted o (yielded ops a.tmps) = false),
      dOps E ck ops.toList (masks ops.toList []) (ops.toList.map (opKeys E)) (eks E ops) (j + 1) l (σ.addK [] o.dst (.tup []) []) next = some r →
      ∃ v N K, Fact P w0 S0 Q E ops j o σ v N K ∧ dOps E ck ops.toList (masks ops.toList []) (ops.toList.map (opKeys E)) (eks E ops) (j + 1) l (σ.addK K o.dst v N) next = some r := by
    intro hw hg
    refine ⟨.tup [], [], [], ⟨NewOk.none _, (fun c _ => by simp [mkeys]), (fun c _ p hp => by cases hp), (fun c hc => by cases hc), fun σ' a w hA hF hS => ?_⟩, hg⟩
    refine wpOp_some ho ?_
    rw [if_neg (by rw [hw σ' a w hA hS]; simp)]
    obtain ⟨Im, hd, bl, hS⟩ := hS
    exact ⟨Im, hd, bl, hS.put o.dst (av := .tup []) undef_tup⟩
  unfold dOps at hn
  dsimp only at hn
  split at hn
  · rename_i hg
    exact go (fun _ _ _ _ _ => by simp [Region.wanted, hg]) hn
  · rename_i g want hg
    split at hn
    · rename_i t ht
      have ht' : (ops[g]?).bind (·.dst) = some t := by rw [← Array.getElem?_toList]; exact ht
      split at hn
      · rename_i b hb
        have hlook : t ∈ o.looksAt ops := by
          unfold Oper.looksAt
          refine List.mem_append_right _ ?_
          rw [hg]
          simp [ht']
        have hwant : ∀ σ' a w, Agree ops o σ σ' → SR w0 S0 σ' a w → Region.wanted o (yielded ops a.tmps) = (b == want) := by
          intro σ' a w hA ⟨Im, hd, bl, hS⟩
          have := slot_bool hS (show slGet σ'.sl t = .cv (.val .bool b) by rw [hA.slot t hlook]; exact hb)
          have hy : yielded ops a.tmps g = some b := by simp [yielded, ht', this]
          simp [Region.wanted, hg, hy]
        have hput : ∀ b', b' = b → σ.put (some t) (.cv (.val .bool b')) = σ := fun b' e => by
          subst e
          show { σ with sl := slSet σ.sl t _ } = σ
          rw [slSet_same hb]
        cases b with
        | true =>
          rw [hput true rfl] at hn
          cases want with
          | true => exact go (fun σ' a w hA hS => by rw [hwant σ' a w hA hS]; rfl) hn
          | false => exact skip (fun σ' a w hA hS => by rw [hwant σ' a w hA hS]; rfl) hn
        | false =>
          rw [hput false rfl] at hn
          cases want with
          | true => exact skip (fun σ' a w hA hS => by rw [hwant σ' a w hA hS]; rfl) hn
          | false => exact go (fun σ' a w hA hS => by rw [hwant σ' a w hA hS]; rfl) hn
      · rename_i hb
        have hlook : t ∈ o.looksAt ops := by
          unfold Oper.looksAt
          refine List.mem_append_right _ ?_
          rw [hg]
          simp [ht']
        refine skip (fun σ' a w hA ⟨Im, hd, bl, hS⟩ => ?_) hn
        have := slot_undef hS (show slGet σ'.sl t = .tup [] by rw [hA.slot t hlook]; exact hb)
        have hy : yielded ops a.tmps g = none := by simp [yielded, ht', this, undef]
        simp [Region.wanted, hg, hy]
      · cases hn
    · cases hn

/-! ### all orders -/
def AAny (P : Program) {gw : Gw} (w0 : Base gw) (S0 : Nat → Prop) (Q : Exit → Act → World → Prop) (E : Env) (ops : Array Oper) (fin : Array Bool → St → Prop) : Nat → Array Bool → St → Prop
  | 0, listed, σ => fin listed σ
  | f + 1, listed, σ => Region.ready .any ops listed ≠ [] ∧ ∀ i ∈ Region.ready .any ops listed, ∃ o v N K, ops[i]? = some o ∧ Fact P w0 S0 Q E ops i o σ v N K ∧ AAny P w0 S0 Q E ops fin f (listed.setIfInBounds i true) (σ.addK K o.dst v N)

theorem Alike.agree {τ : St} {o : Oper} (hA : Alike σ τ) (h : Agree ops o τ σ') : Agree ops o σ σ' :=
  ⟨fun t ht => by rw [h.slot t ht, hA.sl], fun t ht c hc => by rw [h.key t ht c (by rw [hA.sl]; exact hc), hA.ob]⟩
theorem Alike.fact {τ : St} {j : Nat} {o : Oper} {v : AV} {N : List (Nat × Ob)} {K : List Nat} (hA : Alike σ τ) (h : Fact P w0 S0 Q E ops j o σ v N K) : Fact P w0 S0 Q E ops j o τ v N K :=
  ⟨h.new, h.alien, h.alien2, h.keys, fun σ' a w hg => h.does σ' a w (hA.agree hg)⟩
theorem Alike.addK {τ : St} (hA : Alike σ τ) (K : List Nat) (dst : Option Nat) (v : AV) (N : List (Nat × Ob)) : Alike (σ.addK K dst v N) (τ.addK K dst v N) := by
  refine ⟨?_, fun c => ?_⟩
  · cases dst with
    | none => exact hA.sl
    | some d => show slSet τ.sl d v = slSet σ.sl d v; rw [hA.sl]
  · rw [addK_ob, addK_ob, obGet_app, obGet_app, obGet_dels, obGet_dels, hA.ob]
theorem AAny.alike {fin : Array Bool → St → Prop} (hfin : ∀ L σ τ, Alike σ τ → fin L σ → fin L τ) : ∀ {f : Nat} {listed : Array Bool} {σ τ : St}, Alike σ τ → AAny P w0 S0 Q E ops fin f listed σ → AAny P w0 S0 Q E ops fin f listed τ
  | 0, listed, σ, τ, hA, h => hfin listed σ τ hA h
  | f + 1, listed, σ, τ, hA, h => ⟨h.1, fun i hi => by
    obtain ⟨o, v, N, K, h1, h2, h3⟩ := h.2 i hi
    exact ⟨o, v, N, K, h1, hA.fact h2, AAny.alike hfin (hA.addK _ _ _ _) h3⟩⟩

/-- What is said of appends to what the region itself has made. -/
def Eats (E : Env) (ops : Array Oper) : Prop := ∀ (i : Nat) (oi : Oper) (t ip : Nat) (p : Oper), ops[i]? = some oi → eatTmp oi = some t → findDst t 0 ops.toList = some (ip, p) → ∀ c ∈ opKeys E p,
  Nat.testBit ((masks ops.toList []).getD i 0) ip = true ∧ ∀ (j : Nat) (oj : Oper), ops[j]? = some oj → j ≠ i → t ∉ oj.looksAt ops
theorem findDst_at {t : Nat} : ∀ {l : List Oper} {k i : Nat} {p : Oper}, findDst t k l = some (i, p) → k ≤ i ∧ l[i - k]? = some p ∧ p.dst = some t
  | [], _, _, _, h => by cases h
  | o :: r, k, i, p, h => by
    unfold findDst at h
    cases hd : dstB o.dst t with
    | true =>
      rw [hd, cond_true] at h
      cases h
      refine ⟨Nat.le_refl _, by simp, ?_⟩
      cases ho : o.dst with
      | none => rw [ho] at hd; cases hd
      | some d => rw [ho] at hd; rw [Nat.eq_of_beq_eq_true (show Nat.beq d t = true from hd)]
    | false =>
      rw [hd, cond_false] at h
      obtain ⟨h1, h2, h3⟩ := findDst_at h
      refine ⟨by omega, ?_, h3⟩
      rw [show i - k = (i - (k + 1)) + 1 by omega, List.getElem?_cons_succ]
      exact h2
theorem noLook_ok {t j : Nat} : ∀ {l : List Oper} {i0 : Nat}, noLook ops t j i0 l = true → ∀ (i : Nat) (o : Oper), l[i]? = some o → i0 + i ≠ j → t ∉ o.looksAt ops
  | [], _, _, i, o, h, _ => by simp at h
  | x :: l, i0, hl, 0, o, h, hne => by
    cases h
    unfold noLook at hl
    rw [Bool.and_eq_true, Bool.or_eq_true] at hl
    intro hm
    rcases hl.1 with h1 | h1
    · exact hne (Nat.eq_of_beq_eq_true h1)
    · rw [hasB_mem.2 hm] at h1; cases h1
  | x :: l, i0, hl, i + 1, o, h, hne => by
    unfold noLook at hl
    rw [Bool.and_eq_true] at hl
    exact noLook_ok hl.2 i o (by simpa using h) (by omega)
theorem eatsOk_ok : ∀ {l : List Oper} {j0 : Nat}, eatsOk E ops (masks ops.toList []) j0 l = true → ∀ (i : Nat) (oi : Oper) (t ip : Nat) (p : Oper), l[i]? = some oi → eatTmp oi = some t → findDst t 0 ops.toList = some (ip, p) → ∀ c ∈ opKeys E p,
    Nat.testBit ((masks ops.toList []).getD (j0 + i) 0) ip = true ∧ ∀ (j : Nat) (oj : Oper), ops[j]? = some oj → j ≠ j0 + i → t ∉ oj.looksAt ops
  | [], _, _, i, oi, t, ip, p, h, _, _, _, _ => by simp at h
  | x :: l, j0, hl, 0, oi, t, ip, p, h, ht, hf, c, hc => by
    cases h
    unfold eatsOk at hl
    rw [Bool.and_eq_true] at hl
    have h1 := hl.1
    rw [ht] at h1
    dsimp only at h1
    rw [hf] at h1
    dsimp only at h1
    rw [Bool.or_eq_true] at h1
    rcases h1 with h1 | h1
    · rw [List.isEmpty_iff.1 h1] at hc; cases hc
    · rw [Bool.and_eq_true] at h1
      exact ⟨h1.1, fun j oj hj hne => noLook_ok h1.2 j oj (by rw [Array.getElem?_toList]; exact hj) (by omega)⟩
  | x :: l, j0, hl, i + 1, oi, t, ip, p, h, ht, hf, c, hc => by
    unfold eatsOk at hl
    rw [Bool.and_eq_true] at hl
    have := eatsOk_ok hl.2 i oi t ip p (by simpa using h) ht hf c hc
    rw [show j0 + (i + 1) = j0 + 1 + i by omega]
    exact this
theorem dKeys_of {o : Oper} {c : Nat} (h : c ∈ dKeys E ops.toList o) : ∃ t ip p, eatTmp o = some t ∧ findDst t 0 ops.toList = some (ip, p) ∧ c ∈ opKeys E p := by
  unfold dKeys at h
  split at h
  · rename_i t ht
    split at h
    · rename_i i p hp
      exact ⟨t, i, p, ht, hp, h⟩
    · cases h
  · cases h

/-- What is listed is closed, nobody speaks of what is still to be made, and of what is to be appended to one slot alone. -/
structure Inv (E : Env) (ops : Array Oper) (listed : Array Bool) (σ : St) : Prop where
  closed : ∀ j oj, ops[j]? = some oj → listed.getD j false = true → ∀ e ∈ oj.after, Region.binds .any e = true → listed.getD e.on false = true
  free : ∀ j oj, ops[j]? = some oj → listed.getD j true = false → ∀ c ∈ opKeys E oj, Free σ c
  eat : ∀ (i : Nat) (oi : Oper) (t ip : Nat) (p : Oper), ops[i]? = some oi → eatTmp oi = some t → findDst t 0 ops.toList = some (ip, p) → ∀ c ∈ opKeys E p, ∀ t', t' ≠ t → c ∉ mkeys (slGet σ.sl t')

theorem getD_not {listed : Array Bool} {i : Nat} (h : listed.getD i true = false) : listed.getD i false = false := by
  rcases Nat.lt_or_ge i listed.size with h' | h'
  · simp [h'] at h ⊢; exact h
  · simp [Array.getElem?_eq_none h'] at h

/-- What comes before something that may come up now is listed. -/
theorem before_listed {listed : Array Bool} (hc : ∀ j oj, ops[j]? = some oj → listed.getD j false = true → ∀ e ∈ oj.after, Region.binds .any e = true → listed.getD e.on false = true) :
    ∀ (j : Nat) (oj : Oper), ops[j]? = some oj → (∀ e ∈ oj.after, Region.binds .any e = true → listed.getD e.on false = true) → ∀ i, Nat.testBit ((masks ops.toList []).getD j 0) i = true → listed.getD i false = true := by
  intro j
  induction j using Nat.strongRecOn with
  | _ j ih =>
    intro oj hj hdeps i hb
    have hs := masks_spec (l := ops.toList) (acc := []) (t := j) (o := oj) (i := i) (by rw [Array.getElem?_toList]; exact hj) (by simpa using hb)
    obtain ⟨e, he, hbd, h⟩ := hs
    have hon := hdeps e (by simpa using he) hbd
    rcases h with h | ⟨hlt, h⟩
    · rw [← h]; exact hon
    · simp only [List.length_nil, Nat.zero_add] at hlt
      cases ho : ops[e.on]? with
      | none =>
        have : ops.toList.length ≤ e.on := by rw [Array.length_toList]; exact Array.getElem?_eq_none_iff.1 ho
        rw [List.getD_eq_getElem?_getD, List.getElem?_eq_none (by rw [masks_len]; simpa using this)] at h
        simp at h
      | some o' => exact ih e.on hlt o' ho (fun e' he' hb' => hc e.on o' ho hon e' he' hb') i h

theorem closed_add {listed : Array Bool} (hc : ∀ j oj, ops[j]? = some oj → listed.getD j false = true → ∀ e ∈ oj.after, Region.binds .any e = true → listed.getD e.on false = true) {i : Nat} (hi : i ∈ Region.ready .any ops listed) :
    ∀ j oj, ops[j]? = some oj → (listed.setIfInBounds i true).getD j false = true → ∀ e ∈ oj.after, Region.binds .any e = true → (listed.setIfInBounds i true).getD e.on false = true := by
  obtain ⟨hun, oi, hoi, hall⟩ := mem_ready.1 hi
  intro j oj hj hl e he hb
  by_cases hij : i = j
  · subst hij
    have : oj = oi := Option.some.inj (hj.symm.trans hoi)
    subst this
    exact getD_set_true (hall e he hb)
  · rw [getD_set_ne false hij] at hl
    exact getD_set_true (hc j oj hj hl e he hb)

theorem Free.less {c : Nat} {K : List Nat} (h : Free σ c) : Free { σ with ob := dels σ.ob K } c := ⟨h.sl, fun d o hd => h.ob d o (by
  have hd' : obGet (dels σ.ob K) d = some o := hd
  rw [obGet_dels] at hd'
  split at hd'
  · cases hd'
  · exact hd'), h.lt⟩
theorem Free.addK {c : Nat} (h : Free σ c) {K : List Nat} {dst : Option Nat} {v : AV} {N : List (Nat × Ob)} (hv : c ∉ mkeys v) (hN : ∀ p ∈ N, p.1 ≠ c ∧ c ∉ obKeys p.2) : Free (σ.addK K dst v N) c :=
  Free.add (σ := { σ with ob := dels σ.ob K }) (h.less (K := K)) hv hN

theorem Inv.add {listed : Array Bool} (hdis : ∀ (i j : Nat) (oi oj : Oper), ops[i]? = some oi → ops[j]? = some oj → i ≠ j → ∀ c ∈ opKeys E oi, c ∉ opKeys E oj) (inv : Inv E ops listed σ) {i : Nat} {o : Oper} {v : AV} {N : List (Nat × Ob)} {K : List Nat} (hi : i ∈ Region.ready .any ops listed) (ho : ops[i]? = some o) (hF : Fact P w0 S0 Q E ops i o σ v N K) : Inv E ops (listed.setIfInBounds i true) (σ.addK K o.dst v N) := by
  obtain ⟨hun, oi, hoi, hall⟩ := mem_ready.1 hi
  have : oi = o := Option.some.inj (hoi.symm.trans ho)
  subst this
  refine ⟨closed_add inv.closed hi, fun j oj hj hl c hc => ?_, fun j oj t ip p hj ht hf c hc t' hne => ?_⟩
  · have hij : i ≠ j := by
      intro e; subst e
      have hsz : i < listed.size ∨ listed.size ≤ i := Nat.lt_or_ge _ _
      rcases hsz with h | h
      · simp [h] at hl
      · simp [Array.getElem?_eq_none h] at hun
    rw [getD_set_ne true hij] at hl
    have hfree := inv.free j oj hj hl c hc
    have hnb : Nat.testBit ((masks ops.toList []).getD i 0) j = false := by
      cases hb : Nat.testBit ((masks ops.toList []).getD i 0) j with
      | false => rfl
      | true =>
        have := before_listed inv.closed i oi hoi hall j hb
        rw [getD_not hl] at this; cases this
    have hmem : c ∈ aliens ((masks ops.toList []).getD i 0) i 0 (ops.toList.map (opKeys E)) := (aliens_mem (t := j) (k := opKeys E oj) (by rw [List.getElem?_map, Array.getElem?_toList, hj]; rfl) hc (by omega) (by rw [Nat.zero_add]; exact hnb))
    exact hfree.addK (hF.alien c (List.mem_append_left _ hmem)) (hF.alien2 c hmem)
  · obtain ⟨_, hp, hpd⟩ := findDst_at hf
    rw [Nat.sub_zero, Array.getElem?_toList] at hp
    cases hd : oi.dst with
    | none => exact inv.eat j oj t ip p hj ht hf c hc t' hne
    | some d =>
      show c ∉ mkeys (slGet (slSet σ.sl d v) t')
      by_cases hdt : d = t'
      · subst hdt
        by_cases hip : i = ip
        · subst hip
          have : oi = p := Option.some.inj (hoi.symm.trans hp)
          subst this
          rw [hd] at hpd
          exact (hne (Option.some.inj hpd)).elim
        · have hno : c ∉ opKeys E oi := fun hc2 => hdis i ip oi p hoi hp hip c hc2 hc
          have hal := hF.alien c (List.mem_append_right _ (List.mem_filter.2 ⟨List.mem_flatMap.2 ⟨dKeys E ops.toList oj, List.mem_map.2 ⟨oj, Array.mem_toList_iff.2 (Array.mem_of_getElem? hj), rfl⟩, by
            show c ∈ dKeys E ops.toList oj
            unfold dKeys; rw [ht]; dsimp only; rw [hf]; exact hc⟩, by
            cases hh : hasB c (opKeys E oi) with
            | false => rfl
            | true => exact (hno (hasB_mem.1 hh)).elim⟩))
          by_cases hlt : d < σ.sl.length
          · rw [slGet_eq, slSet_eq, List.getElem?_set, if_pos rfl, if_pos hlt]
            exact hal
          · rw [slGet_eq, slSet_eq, List.getElem?_set, if_pos rfl, if_neg hlt]
            simp [mkeys, CV.owns]
      · rw [slGet_set_ne hdt]
        exact inv.eat j oj t ip p hj ht hf c hc t' hne

theorem wpAny_of {fin : Array Bool → St → Prop} {s : Nat} (hdis : ∀ (i j : Nat) (oi oj : Oper), ops[i]? = some oi → ops[j]? = some oj → i ≠ j → ∀ c ∈ opKeys E oi, c ∉ opKeys E oj) (hQ : ∀ L σ a w, fin L σ → Inv E ops L σ → SR w0 S0 σ a w → wpAny P .any ops Q s L a w) : ∀ (f : Nat) (listed : Array Bool) (σ : St) (a : Act) (w : World), Inv E ops listed σ → SR w0 S0 σ a w → AAny P w0 S0 Q E ops fin f listed σ → wpAny P .any ops Q (f + s) listed a w
  | 0, listed, σ, a, w, inv, hS, h => by rw [Nat.zero_add]; exact hQ listed σ a w h inv hS
  | f + 1, listed, σ, a, w, inv, hS, h => by
    rw [show f + 1 + s = (f + s) + 1 by omega]
    refine ⟨fun h0 => (h.1 h0).elim, fun i hi => ?_⟩
    obtain ⟨o, v, N, K, ho, hF, hr⟩ := h.2 i hi
    obtain ⟨hun, oi, hoi, hall⟩ := mem_ready.1 hi
    have : oi = o := Option.some.inj (hoi.symm.trans ho)
    subst this
    exact wpOp_mono (fun a' w' hs => wpAny_of hdis hQ f _ _ a' w' (inv.add hdis hi ho hF) hs hr) (hF.does σ a w ⟨fun _ _ => rfl, fun _ _ _ _ => rfl⟩ (inv.free i oi ho hun) hS)

theorem AAny_first {fin : Array Bool → St → Prop} {m : Nat} (hfin : ∀ L σ τ, Alike σ τ → fin L σ → fin L τ) (hfinL : ∀ L σ, fin L σ → ∀ j, j < m → L.getD j false = true) (hcut : ∀ j oj, ops[j]? = some oj → m ≤ j → ∀ i, i < m → Nat.testBit ((masks ops.toList []).getD j 0) i = true)
    (heats : Eats E ops) (hdis : ∀ (i j : Nat) (oi oj : Oper), ops[i]? = some oi → ops[j]? = some oj → i ≠ j → ∀ c ∈ opKeys E oi, c ∉ opKeys E oj) {i : Nat} (him : i < m) {oi : Oper} {v : AV} {N : List (Nat × Ob)} {K : List Nat} (hi : ops[i]? = some oi) :
    ∀ (f : Nat) (listed : Array Bool) (σ : St), Inv E ops listed σ →
      (∀ j oj, ops[j]? = some oj → j ≠ i → listed.getD j true = false → (∀ e ∈ oj.after, Region.binds .any e = true → e.on ≠ i) → oi.apart ops oj = true) →
      i ∈ Region.ready .any ops listed → Fact P w0 S0 Q E ops i oi σ v N K → AAny P w0 S0 Q E ops fin f (listed.setIfInBounds i true) (σ.addK K oi.dst v N) → AAny P w0 S0 Q E ops fin (f + 1) listed σ := by
  intro f
  induction f with
  | zero =>
    intro listed σ inv _ hr hF H
    refine ⟨fun h => (by rw [h] at hr; cases hr), fun j hj => ?_⟩
    by_cases hji : j = i
    · subst hji; exact ⟨oi, v, N, K, hi, hF, H⟩
    · exfalso
      obtain ⟨hjun, oj, hoj, hall⟩ := mem_ready.1 hj
      obtain ⟨hiun, _⟩ := mem_ready.1 hr
      have hall' := hfinL _ _ H
      have hjm : m ≤ j := by
        rcases Nat.lt_or_ge j m with h | h
        · have := hall' j h
          rw [getD_set_ne false (Ne.symm hji), getD_not hjun] at this
          cases this
        · exact h
      have := before_listed inv.closed j oj hoj hall i (hcut j oj hoj hjm i him)
      rw [getD_not hiun] at this; cases this
  | succ f ih =>
    intro listed σ inv hfree hr hF H
    refine ⟨fun h => (by rw [h] at hr; cases hr), fun j hj => ?_⟩
    by_cases hji : j = i
    · subst hji; exact ⟨oi, v, N, K, hi, hF, H⟩
    · obtain ⟨oj, u, M, J, hoj, hFj, hrest⟩ := H.2 j (ready_mono hj hji)
      obtain ⟨hjun, oj', hoj', hall⟩ := mem_ready.1 hj
      have : oj' = oj := Option.some.inj (hoj'.symm.trans hoj)
      subst this
      obtain ⟨hiun, oi', hoi', hiall⟩ := mem_ready.1 hr
      have : oi' = oi := Option.some.inj (hoi'.symm.trans hi)
      subst this
      have hnot : ∀ e ∈ oj'.after, Region.binds .any e = true → e.on ≠ i := fun e he hb heq => by
        have h1 := hall e he hb
        rw [heq, getD_not hiun] at h1
        cases h1
      have hap := Oper.apart_spec (hfree j oj' hoj hji hjun hnot)
      obtain ⟨h1, h2, h3⟩ := hap
      have hFi := inv.free i oi' hi hiun
      have hFj' := inv.free j oj' hoj hjun
      have hNk : ∀ c, (∀ k ∈ opKeys E oi', k ≠ c) → c ∉ K → ∀ p ∈ N, p.1 ≠ c := fun c hc hk p hp e => (List.mem_append.1 (hF.new.2.1 p hp)).elim (fun h => hc _ h e) (fun h => hk (e ▸ h))
      have hMk : ∀ c, (∀ k ∈ opKeys E oj', k ≠ c) → c ∉ J → ∀ p ∈ M, p.1 ≠ c := fun c hc hk p hp e => (List.mem_append.1 (hFj.new.2.1 p hp)).elim (fun h => hc _ h e) (fun h => hk (e ▸ h))
      -- what one eats, the other does not look at, nor make
      have hKj : ∀ c ∈ K, (∀ t ∈ oj'.looksAt ops, c ∉ mkeys (slGet σ.sl t)) ∧ c ∉ opKeys E oj' := fun c hc => by
        obtain ⟨t, ip, p, e1, e2, e3⟩ := dKeys_of (hF.keys c hc)
        obtain ⟨g1, g2⟩ := heats i oi' t ip p hi e1 e2 c e3
        obtain ⟨_, hp, _⟩ := findDst_at e2
        rw [Nat.sub_zero, Array.getElem?_toList] at hp
        refine ⟨fun t' ht' => inv.eat i oi' t ip p hi e1 e2 c e3 t' (fun e => g2 j oj' hoj hji (e ▸ ht')), fun hcj => ?_⟩
        have hipl := before_listed inv.closed i oi' hi hiall ip g1
        have hne : ip ≠ j := fun e => by rw [e, getD_not hjun] at hipl; cases hipl
        exact hdis ip j p oj' hp hoj hne c e3 hcj
      have hJi : ∀ c ∈ J, (∀ t ∈ oi'.looksAt ops, c ∉ mkeys (slGet σ.sl t)) ∧ c ∉ opKeys E oi' := fun c hc => by
        obtain ⟨t, ip, p, e1, e2, e3⟩ := dKeys_of (hFj.keys c hc)
        obtain ⟨g1, g2⟩ := heats j oj' t ip p hoj e1 e2 c e3
        obtain ⟨_, hp, _⟩ := findDst_at e2
        rw [Nat.sub_zero, Array.getElem?_toList] at hp
        refine ⟨fun t' ht' => inv.eat j oj' t ip p hoj e1 e2 c e3 t' (fun e => g2 i oi' hi (Ne.symm hji) (e ▸ ht')), fun hci => ?_⟩
        have hipl := before_listed inv.closed j oj' hoj hall ip g1
        have hne : ip ≠ i := fun e => by rw [e, getD_not hiun] at hipl; cases hipl
        exact hdis ip i p oi' hp hi hne c e3 hci
      have hKJ : ∀ c ∈ K, c ∉ J := fun c hc hcJ => by
        obtain ⟨t, ip, p, e1, e2, e3⟩ := dKeys_of (hF.keys c hc)
        obtain ⟨t2, jp, q, f1, f2, f3⟩ := dKeys_of (hFj.keys c hcJ)
        obtain ⟨_, hp, hpd⟩ := findDst_at e2
        obtain ⟨_, hq, hqd⟩ := findDst_at f2
        rw [Nat.sub_zero, Array.getElem?_toList] at hp hq
        have hpq : ip = jp := Classical.byContradiction fun hne => hdis ip jp p q hp hq hne c e3 f3
        subst hpq
        have : p = q := Option.some.inj (hp.symm.trans hq)
        subst this
        rw [hpd] at hqd
        cases hqd
        have hlook : t ∈ oj'.looksAt ops := by
          refine List.mem_append_left _ (List.mem_filterMap.2 ⟨.tmp t, ?_, rfl⟩)
          unfold eatTmp at f1
          split at f1
          · rename_i cc hcc
            split at f1
            · rename_i hcal hargs
              cases f1
              rw [hcc]
              simp only [Op.operands, Call.operands]
              rw [Array.toList_append, List.mem_append]
              right
              rw [hargs]; simp
            · cases f1
          · rename_i hst
            cases f1
            rw [hst]
            simp [Op.operands]
          · cases f1
        exact (heats i oi' t ip p hi e1 e2 c e3).2 j oj' hoj hji hlook
      have gd : ∀ {K' : List Nat} {N' : List (Nat × Ob)} {c : Nat}, c ∉ K' → (∀ p ∈ N', p.1 ≠ c) → obGet (N' ++ dels σ.ob K') c = obGet σ.ob c := fun h1 h2 => by
        rw [obGet_append h2, obGet_dels, if_neg h1]
      -- j, told from here
      have hFj0 : Fact P w0 S0 Q E ops j oj' σ u M J := by
        refine ⟨hFj.new, hFj.alien, hFj.alien2, hFj.keys, fun σ' a w hA hf hS => hFj.does σ' a w ⟨fun t ht => ?_, fun t ht c hc => ?_⟩ hf hS⟩
        · rw [hA.slot t ht]; exact (add_slot (σ := { σ with ob := dels σ.ob K }) (N := N) (v := v) (dst := oi'.dst) (fun d hd e => h1 d hd (e ▸ ht))).symm
        · have hc' : c ∈ mkeys (slGet σ.sl t) := by
            have e := add_slot (σ := { σ with ob := dels σ.ob K }) (N := N) (v := v) (dst := oi'.dst) (t := t) (fun d hd e => h1 d hd (e ▸ ht))
            have hc2 : c ∈ mkeys (slGet (St.add { σ with ob := dels σ.ob K } oi'.dst v N).sl t) := hc
            rw [e] at hc2; exact hc2
          rw [hA.key t ht c hc', addK_ob, gd (fun hk => (hKj c hk).1 t ht hc') (hNk c (fun k hk e => (hFi k hk).slot t (e ▸ hc')) (fun hk => (hKj c hk).1 t ht hc'))]
      have hinv := inv.add hdis hj hoj hFj0
      have hFi2 : Fact P w0 S0 Q E ops i oi' (σ.addK J oj'.dst u M) v N K := by
        refine ⟨hF.new, hF.alien, hF.alien2, hF.keys, fun σ' a w hA hf hS => hF.does σ' a w ⟨fun t ht => ?_, fun t ht c hc => ?_⟩ hf hS⟩
        · rw [hA.slot t ht]; exact add_slot (σ := { σ with ob := dels σ.ob J }) (N := M) (v := u) (dst := oj'.dst) (fun d hd e => h3 d hd (e ▸ ht))
        · have e := add_slot (σ := { σ with ob := dels σ.ob J }) (N := M) (v := u) (dst := oj'.dst) (t := t) (fun d hd e => h3 d hd (e ▸ ht))
          rw [hA.key t ht c (by show c ∈ mkeys (slGet (St.add { σ with ob := dels σ.ob J } oj'.dst u M).sl t); rw [e]; exact hc), addK_ob, gd (fun hk => (hJi c hk).1 t ht hc) (hMk c (fun k hk e => (hFj' k hk).slot t (e ▸ hc)) (fun hk => (hJi c hk).1 t ht hc))]
      refine ⟨oj', u, M, J, hoj, hFj0, ih (listed.setIfInBounds j true) (σ.addK J oj'.dst u M) hinv (fun k ok hk hki hun hno => ?_) (ready_mono hr (Ne.symm hji)) hFi2 ?_⟩
      · refine hfree k ok hk hki ?_ hno
        by_cases hjk : j = k
        · subst hjk; exact hjun
        · rw [getD_set_ne true hjk] at hun; exact hun
      · rw [Array.setIfInBounds_comm _ _ hji]
        refine AAny.alike hfin ⟨?_, fun c => ?_⟩ hrest
        · show ((σ.addK J oj'.dst u M).addK K oi'.dst v N).sl = ((σ.addK K oi'.dst v N).addK J oj'.dst u M).sl
          cases hdi : oi'.dst with
          | none => cases oj'.dst <;> rfl
          | some d =>
            cases hdj : oj'.dst with
            | none => rfl
            | some e =>
              have hne : d ≠ e := fun k => h2 d hdi (by rw [hdj, k])
              show slSet (slSet σ.sl e u) d v = slSet (slSet σ.sl d v) e u
              rw [slSet_eq, slSet_eq, slSet_eq, slSet_eq, List.set_comm _ _ hne]
        · rw [addK_ob, addK_ob, addK_ob, addK_ob, obGet_app, obGet_app (N := M), obGet_dels, obGet_dels (ks := J), obGet_app (N := M), obGet_app (N := N), obGet_dels, obGet_dels (ks := K)]
          have hNM : ∀ o, obGet N c = some o → obGet M c = none := fun o ho => by
            cases hM : obGet M c with
            | none => rfl
            | some o' =>
              exfalso
              rcases List.mem_append.1 (hF.new.2.1 _ (obGet_mem ho)) with a1 | a1 <;> rcases List.mem_append.1 (hFj.new.2.1 _ (obGet_mem hM)) with a2 | a2
              · exact hdis i j oi' oj' hi hoj (Ne.symm hji) c a1 a2
              · exact (hJi c a2).2 a1
              · exact (hKj c a1).2 a2
              · exact hKJ c a1 a2
          have hNJ : ∀ o, obGet N c = some o → c ∉ J := fun o ho hc => (List.mem_append.1 (hF.new.2.1 _ (obGet_mem ho))).elim (hJi c hc).2 (fun h => hKJ c h hc)
          have hMK : ∀ o, obGet M c = some o → c ∉ K := fun o ho hc => (List.mem_append.1 (hFj.new.2.1 _ (obGet_mem ho))).elim (hKj c hc).2 (fun h => hKJ c hc h)
          cases hN : obGet N c with
          | some o => simp [hNM o hN, hNJ o hN]
          | none =>
            cases hM : obGet M c with
            | some o => simp [hMK o hM]
            | none =>
              by_cases hk : c ∈ K <;> by_cases hJ : c ∈ J <;> simp [hk, hJ]

/-- The first k are listed. -/
def lstd (n : Nat) : Nat → Array Bool
  | 0 => Array.replicate n false | k + 1 => (lstd n k).setIfInBounds k true
theorem lstd_size {n : Nat} : ∀ {k : Nat}, (lstd n k).size = n
  | 0 => by simp [lstd]
  | k + 1 => by simp [lstd, lstd_size (k := k)]
theorem lstd_get {n : Nat} {d : Bool} : ∀ {k j : Nat}, j < n → (lstd n k).getD j d = decide (j < k)
  | 0, j, h => by simp [lstd, h]
  | k + 1, j, h => by
    by_cases e : k = j
    · subst e
      have : k < (lstd n k).size := by rw [lstd_size]; exact h
      simp [lstd, this]
    · rw [show lstd n (k + 1) = (lstd n k).setIfInBounds k true from rfl, getD_set_ne d e, lstd_get h]
      congr 1
      exact propext ⟨fun h => by omega, fun h => by omega⟩
theorem lex_at : ∀ (f k : Nat), k + f = ops.size → Region.lexFrom .any ops f k (lstd ops.size k) = true → ∀ j, k ≤ j → j < ops.size → j ∈ Region.ready .any ops (lstd ops.size j) ∧ Region.free .any ops (lstd ops.size j) j = true
  | 0, k, hk, h, j, h1, h2 => by omega
  | f + 1, k, hk, h, j, h1, h2 => by
    simp only [Region.lexFrom, Bool.and_eq_true] at h
    by_cases e : j = k
    · subst e; exact ⟨by simpa using h.1.1, h.1.2⟩
    · exact lex_at f (k + 1) (by omega) h.2 j (by omega) h2
theorem lex_end : ∀ (f k : Nat), k + f = ops.size → Region.lexFrom .any ops f k (lstd ops.size k) = true → Region.ready .any ops (lstd ops.size ops.size) = []
  | 0, k, hk, h => by
    rw [Nat.add_zero] at hk; subst hk
    simpa [Region.lexFrom] using h
  | f + 1, k, hk, h => by
    simp only [Region.lexFrom, Bool.and_eq_true] at h
    exact lex_end f (k + 1) (by omega) h.2

theorem AAny_lex (hE : ∀ T ti, E.ty T = some ti → TyOk P T ti) {ck : (fi : Fi) → Aden fi.ps → Option (Oden (flatRs fi.rs) (ioOf fi.ps))} (hG : ∀ f ids fi, E.fn f ids = some fi → ∀ x y, ck fi x = some y → Gives P gw f fi x y)
    {fin : Array Bool → St → Prop} {m : Nat} (hm : m ≤ ops.size) (hfin : ∀ L σ τ, Alike σ τ → fin L σ → fin L τ) (hfinL : ∀ L σ, fin L σ → ∀ j, j < m → L.getD j false = true) (hcut : ∀ j oj, ops[j]? = some oj → m ≤ j → ∀ i, i < m → Nat.testBit ((masks ops.toList []).getD j 0) i = true)
    (heats : Eats E ops) (hdis : ∀ (i j : Nat) (oi oj : Oper), ops[i]? = some oi → ops[j]? = some oj → i ≠ j → ∀ c ∈ opKeys E oi, c ∉ opKeys E oj) {next : St → Option ρ} {r : ρ} (hnext : ∀ σ, next σ = some r → fin (lstd ops.size m) σ)
    (hlex : ∀ j, j < ops.size → j ∈ Region.ready .any ops (lstd ops.size j) ∧ Region.free .any ops (lstd ops.size j) j = true) :
    ∀ (l : List Oper) (k : Nat) (σ : St), k + l.length = m → (∀ j, j < l.length → l[j]? = ops[k + j]?) → Inv E ops (lstd ops.size k) σ →
      dOps E ck ops.toList (masks ops.toList []) (ops.toList.map (opKeys E)) (eks E ops) k l σ next = some r → AAny P w0 S0 Q E ops fin l.length (lstd ops.size k) σ
  | [], k, σ, hk, hl, inv, hn => by
    have : k = m := by simpa using hk
    subst this
    exact hnext σ hn
  | o :: l, k, σ, hk, hl, inv, hn => by
    have h0 : ops[k]? = some o := by simpa using (hl 0 (by simp)).symm
    rw [List.length_cons] at hk
    obtain ⟨hr, hf⟩ := hlex k (by omega)
    obtain ⟨v, N, K, hF, hrest⟩ := fact_of (Q := Q) (w0 := w0) (S0 := S0) hE hG h0 hn
    exact AAny_first hfin hfinL hcut heats hdis (by omega) h0 l.length (lstd ops.size k) σ inv (Region.free_spec h0 hf) hr hF
      (AAny_lex hE hG hm hfin hfinL hcut heats hdis hnext hlex l (k + 1) _ (by omega) (fun j hj => by have := hl (j + 1) (by rw [List.length_cons]; omega); simpa [Nat.add_assoc, Nat.add_comm 1 j] using this) (inv.add hdis hr h0 hF) hrest)

/-- Operations each of which comes behind all before it. -/
theorem seqAny (hE : ∀ T ti, E.ty T = some ti → TyOk P T ti) {ck : (fi : Fi) → Aden fi.ps → Option (Oden (flatRs fi.rs) (ioOf fi.ps))} (hG : ∀ f ids fi, E.fn f ids = some fi → ∀ x y, ck fi x = some y → Gives P gw f fi x y) {next : St → Option ρ} {r : ρ} (hQ : ∀ a w, Goes w0 S0 next r a w → Q .normal a w)
    (hlex : ∀ j, j < ops.size → j ∈ Region.ready .any ops (lstd ops.size j)) (hend : Region.ready .any ops (lstd ops.size ops.size) = []) :
    ∀ (l : List Oper) (k : Nat) (σ : St) (a : Act) (w : World), k + l.length = ops.size → (∀ j, j < l.length → l[j]? = ops[k + j]?) → (∀ j oj, ops[j]? = some oj → k ≤ j → ∀ i, i < j → Nat.testBit ((masks ops.toList []).getD j 0) i = true) →
      (∀ j oj, ops[j]? = some oj → (lstd ops.size k).getD j false = true → ∀ e ∈ oj.after, Region.binds .any e = true → (lstd ops.size k).getD e.on false = true) → SR w0 S0 σ a w → aOps E ck ops.toList l σ next = some r → wpAny P .any ops Q l.length (lstd ops.size k) a w
  | [], k, σ, a, w, hk, hl, hfull, hc, hS, hn => by
    have : k = ops.size := by simpa using hk
    subst this
    exact ⟨hend, hQ a w ⟨σ, hn, hS⟩⟩
  | o :: l, k, σ, a, w, hk, hl, hfull, hc, hS, hn => by
    have h0 : ops[k]? = some o := by simpa using (hl 0 (by simp)).symm
    rw [List.length_cons] at hk
    have hr := hlex k (by omega)
    refine ⟨fun h => (by rw [h] at hr; cases hr), fun i hi => ?_⟩
    obtain ⟨hun, oi, hoi, hall⟩ := mem_ready.1 hi
    have hilt : i < ops.size := by
      rcases Nat.lt_or_ge i ops.size with h | h
      · exact h
      · rw [Array.getElem?_eq_none h] at hoi; cases hoi
    have hik : i = k := by
      rw [lstd_get hilt] at hun
      have h1 : ¬ i < k := by simpa using hun
      rcases Nat.lt_or_ge k i with h2 | h2
      · have := before_listed hc i oi hoi hall k (hfull i oi hoi (by omega) k h2)
        rw [lstd_get (by omega)] at this
        simp at this
      · omega
    subst hik
    obtain ⟨Im, hd, bl, hS⟩ := hS
    refine wpOp_some h0 ?_
    have hg := guard_ok (Q := Q) hE hG hS hn
    have hc' := closed_add hc hr
    split at hg
    · rename_i hw
      rw [if_pos hw]
      exact Oper.wp_mono (fun a' w' ⟨τ, ht, hs⟩ => seqAny hE hG hQ hlex hend l (i + 1) τ a' w' (by omega) (fun j hj => by have := hl (j + 1) (by rw [List.length_cons]; omega); simpa [Nat.add_assoc, Nat.add_comm 1 j] using this) (fun j oj hj hle => hfull j oj hj (by omega)) hc' hs ht) hg
    · rename_i hw
      rw [if_neg hw]
      obtain ⟨τ, ht, hs⟩ := hg
      exact seqAny hE hG hQ hlex hend l (i + 1) τ _ w (by omega) (fun j hj => by have := hl (j + 1) (by rw [List.length_cons]; omega); simpa [Nat.add_assoc, Nat.add_comm 1 j] using this) (fun j oj hj hle => hfull j oj hj (by omega)) hc' hs ht

theorem cutGo_spec : ∀ {l : List Nat} {j : Nat}, j ≤ cutGo j l ∧ cutGo j l ≤ j + l.length ∧ ∀ i, cutGo j l ≤ i → i < j + l.length → l[i - j]? = some (2 ^ i - 1)
  | [], j => ⟨Nat.le_refl _, Nat.le_refl _, fun i h1 h2 => by simp [cutGo] at h1 h2; omega⟩
  | k :: r, j => by
    obtain ⟨h1, h2, h3⟩ := cutGo_spec (l := r) (j := j + 1)
    unfold cutGo
    dsimp only
    cases hb : (Nat.beq (cutGo (j + 1) r) (j + 1) && Nat.beq k (2 ^ j - 1)) with
    | true =>
      rw [cond_true]
      rw [Bool.and_eq_true] at hb
      have e1 := Nat.eq_of_beq_eq_true hb.1
      have e2 := Nat.eq_of_beq_eq_true hb.2
      refine ⟨Nat.le_refl _, by omega, fun i hi hl => ?_⟩
      rw [List.length_cons] at hl
      by_cases e : i = j
      · subst e; rw [Nat.sub_self, List.getElem?_cons_zero, e2]
      · rw [show i - j = (i - (j + 1)) + 1 by omega, List.getElem?_cons_succ]
        exact h3 i (by omega) (by omega)
    | false =>
      rw [cond_false]
      refine ⟨by omega, by rw [List.length_cons]; omega, fun i hi hl => ?_⟩
      rw [List.length_cons] at hl
      rw [show i - j = (i - (j + 1)) + 1 by omega, List.getElem?_cons_succ]
      exact h3 i hi (by omega)

theorem flat_dis {ks : List (List Nat)} (h : (ks.flatMap id).Nodup) : ∀ (i j : Nat) (a b : List Nat), ks[i]? = some a → ks[j]? = some b → i ≠ j → ∀ c ∈ a, c ∉ b := by
  induction ks with
  | nil => intro i j a b hi; simp at hi
  | cons k ks ih =>
    rw [List.flatMap_cons, List.nodup_append] at h
    intro i j a b hi hj hne c hc hcb
    cases i with
    | zero =>
      cases j with
      | zero => exact hne rfl
      | succ j =>
        cases (show some k = some a from hi)
        exact h.2.2 c hc c (List.mem_flatMap.2 ⟨b, List.mem_of_getElem? (by simpa using hj), hcb⟩) rfl
    | succ i =>
      cases j with
      | zero =>
        cases (show some k = some b from hj)
        exact h.2.2 c hcb c (List.mem_flatMap.2 ⟨a, List.mem_of_getElem? (by simpa using hi), hc⟩) rfl
      | succ j => exact ih h.2.1 i j a b (by simpa using hi) (by simpa using hj) (by omega) c hc hcb

theorem SR.drawn (h : SR w0 S0 σ a w) : SR w0 S0 σ a { w with drawn := w.drawn + 1 } := by
  obtain ⟨Im, hd, bl, h⟩ := h
  exact ⟨Im, hd, bl, h.world (w' := { w with drawn := w.drawn + 1 }) (fun _ _ => rfl) (Nat.le_refl _) h.below.drew⟩

/-! ### what is light is done ahead -/
theorem lOp_ok {E : Env} (hE : ∀ T ti, E.ty T = some ti → TyOk P T ti) {Im : Nat → Prop} {hd : Nat → Value} {bl : Nat → List Nat} (h : SRi w0 S0 σ a w Im hd bl) {o : Oper} {next : AV → Option ρ} {r : ρ} (hn : lOp E σ o next = some r) :
    ∃ av v, next av = some r ∧ (∀ w', (execOp a.eval o).run P w' = .ok (.value v) w') ∧ AVR w Im hd v av := by
  unfold lOp at hn
  split at hn
  · rename_i x ho
    exact ⟨_, a.eval x, hn, fun w' => by simp [execOp, ho], h.ev x⟩
  · rename_i T x lo hi mx ho
    obtain ⟨hmx, hnn⟩ := chk_some hn
    clear hn
    have hn := hnn
    clear hnn
    have hmx' : mx = none := by simpa using hmx
    subst hmx'
    have hx := h.ev x
    have hop : ∀ {v : Value} {w' : World}, (Instr.sliceAt T (a.eval x) (lo.map a.eval) (hi.map a.eval) none).run P w' = .ok v w' → (execOp a.eval o).run P w' = .ok (.value v) w' := by
      intro v w' hv
      simp [execOp, ho, hv]
    unfold dSlice at hn
    split at hn
    · rename_i s hs
      rw [hs] at hx
      have ex := str_of hx
      split at hn
      · rename_i hT
        obtain ⟨dd, hd2, hk, _⟩ := hE T _ hT
        cases (show dd = _ from hk)
        obtain ⟨l, h', h1, h2, h3, _, h5⟩ := aBounds_any (P := P) h hn
        refine ⟨.cv (.val .str (s.extract l h')), .string (s.extract l h'), h3, fun w' => hop ?_, svr⟩
        rw [ex]
        have := h5 w' false s.size (Nat.le_refl _)
        simp [Instr.sliceAt, Instr.slice, run_underlying hd2, this]
      · cases hn
    · rename_i t xs hs
      rw [hs] at hx
      split at hn
      · rename_i u hT
        obtain ⟨h0, hnn⟩ := chk_some hn
        obtain rfl := Ty.same_eq h0
        obtain ⟨e, hu, i, z, hi', hsz, _⟩ := kind_slice hE hT
        obtain ⟨l, h', h1, h2, h3, _, h5⟩ := aBounds_any (P := P) h hnn
        have hx' : VR w Im (.slice u) xs [a.eval x] := hx
        obtain ⟨A, cap, ev, hc, _⟩ := hx'
        simp only [List.cons.injEq, and_true] at ev
        refine ⟨_, _, h3, fun w' => hop (by
          have hr := run_cut (P := P) hu hi' (A := A) (h5 w' true cap hc)
          rw [← ev] at hr
          exact hr), ?_⟩
        rw [hsz]
        have hx2 : VR w Im (.slice u) xs [a.eval x] := hx
        rw [ev] at hx2
        exact VR.cut hx2 h1 h2 hc
      · cases hn
    · cases hn
  · cases hn
theorem pickLight_ok {listed : Array Bool} {k : Nat} {o : Oper} : ∀ {l : List Nat}, pickLight ops listed l = some (k, o) → k ∈ l ∧ ops[k]? = some o ∧ lightB o = true ∧ Region.free .any ops listed k = true
  | [], h => by cases h
  | i :: r, h => by
    unfold pickLight at h
    split at h
    · rename_i o' ho
      cases hb : (lightB o' && Region.free .any ops listed i) with
      | true =>
        rw [hb, cond_true] at h
        cases h
        rw [Bool.and_eq_true] at hb
        exact ⟨by simp, ho, hb.1, hb.2⟩
      | false =>
        rw [hb, cond_false] at h
        obtain ⟨h1, h2⟩ := pickLight_ok h
        exact ⟨List.mem_cons_of_mem _ h1, h2⟩
    · cases h
theorem aTakes_ok (hE : ∀ T ti, E.ty T = some ti → TyOk P T ti) {ck : (fi : Fi) → Aden fi.ps → Option (Oden (flatRs fi.rs) (ioOf fi.ps))} (hG : ∀ f ids fi, E.fn f ids = some fi → ∀ x y, ck fi x = some y → Gives P gw f fi x y)
    {next : St → Option ρ} {r : ρ} (hns : Region.noSelect ops = true) : ∀ (f : Nat) (listed : Array Bool) (σ : St) (a : Act) (w : World), SR w0 S0 σ a w → aTakes E ck ops f listed σ next = some r → wpAny P .any ops (fun e a w => e = .normal ∧ Goes w0 S0 next r a w) f listed a w
  | 0, listed, σ, a, w, hS, hn => by
    unfold aTakes at hn
    cases he : (Region.ready .any ops listed).isEmpty with
    | false => rw [he] at hn; cases hn
    | true => rw [he] at hn; exact ⟨by simpa using he, rfl, σ, hn, hS⟩
  | f + 1, listed, σ, a, w, hS, hn => by
    unfold aTakes at hn
    split at hn
    · rename_i h0
      exact ⟨fun _ => ⟨rfl, σ, hn, hS⟩, fun i hi => by rw [h0] at hi; cases hi⟩
    · rename_i i h0
      split at hn
      · rename_i o ho
        refine ⟨fun h => (by rw [h0] at h; cases h), fun j hj => ?_⟩
        rw [h0] at hj
        have : j = i := by simpa using hj
        subst this
        obtain ⟨Im, hd, bl, hS⟩ := hS
        refine wpOp_some ho ?_
        have hg := guard_ok (Q := fun e a w => e = .normal ∧ Goes w0 S0 next r a w) hE hG hS hn
        split at hg
        · rename_i hw
          rw [if_pos hw]
          exact Oper.wp_mono (fun a' w' ⟨τ, ht, hs⟩ => aTakes_ok hE hG hns f _ τ a' w' hs ht) hg
        · rename_i hw
          rw [if_neg hw]
          obtain ⟨τ, ht, hs⟩ := hg
          exact aTakes_ok hE hG hns f _ τ _ w hs ht
      · cases hn
    · rename_i i j rs h0
      split at hn
      · rename_i k o hp
        obtain ⟨p1, p2, p3, p4⟩ := pickLight_ok hp
        obtain ⟨Im, hd, bl, hS⟩ := hS
        obtain ⟨av, v, h1, h2, h3⟩ := lOp_ok hE hS hn
        have hg : o.guard = none := by
          unfold lightB at p3
          rw [Bool.and_eq_true] at p3
          simpa using p3.1
        exact wpAny_take p2 hns p4 (by rw [h0]; simpa using p1) (fun c a w h => by cases h.1) (.inl ⟨by simp [Region.wanted, hg], h2⟩) (aTakes_ok hE hG hns f _ _ _ w ⟨Im, hd, bl, hS.put o.dst h3⟩ h1)
      · cases hn

theorem aDrawA_ok (hE : ∀ T ti, E.ty T = some ti → TyOk P T ti) {ck : (fi : Fi) → Aden fi.ps → Option (Oden (flatRs fi.rs) (ioOf fi.ps))} (hG : ∀ f ids fi, E.fn f ids = some fi → ∀ x y, ck fi x = some y → Gives P gw f fi x y)
    (h : SR w0 S0 σ a w) {next : St → Option ρ} {r : ρ} (hn : aDrawA E ck ops σ next = some r) : wpAny P .any ops (fun e a w => e = .normal ∧ Goes w0 S0 next r a w) ops.size (Array.replicate ops.size false) a { w with drawn := w.drawn + 1 } := by
  unfold aDrawA at hn
  dsimp only at hn
  cases hst : (ops.toList.take (cutGo 0 (masks ops.toList []))).any (strangeB E σ ops.toList) with
  | true =>
    rw [hst, cond_true] at hn
    obtain ⟨hns, hn⟩ := chk_some hn
    exact aTakes_ok hE hG hns ops.size _ σ a _ h.drawn hn
  | false =>
  rw [hst, cond_false] at hn
  obtain ⟨h1, hn⟩ := chk_some hn
  simp only [Bool.and_eq_true] at h1
  obtain ⟨⟨⟨hlex, hnd⟩, hfree⟩, heat⟩ := h1
  unfold Region.lexB at hlex
  rw [Bool.and_eq_true] at hlex
  have hfree' := List.all_eq_true.1 hfree
  have hkeys : ∀ j oj, ops[j]? = some oj → (ops.toList.map (opKeys E))[j]? = some (opKeys E oj) := fun j oj hj => by rw [List.getElem?_map, Array.getElem?_toList, hj]; rfl
  have hlx := lex_at (ops := ops) ops.size 0 (by omega) hlex.2
  have hend := lex_end (ops := ops) ops.size 0 (by omega) hlex.2
  have heats : Eats E ops := fun i oi t ip p hi ht hf c hc => by
    have := eatsOk_ok (E := E) (ops := ops) heat i oi t ip p (by rw [Array.getElem?_toList]; exact hi) ht hf c hc
    rw [Nat.zero_add] at this
    exact this
  have hdis : ∀ (i j : Nat) (oi oj : Oper), ops[i]? = some oi → ops[j]? = some oj → i ≠ j → ∀ c ∈ opKeys E oi, c ∉ opKeys E oj := fun i j oi oj hi hj hne => flat_dis (nodupB_iff.1 hnd) i j _ _ (hkeys i oi hi) (hkeys j oj hj) hne
  have hfr : ∀ j oj, ops[j]? = some oj → ∀ c ∈ opKeys E oj, Free σ c := fun j oj hj c hc => freeB_ok (hfree' c (List.mem_flatMap.2 ⟨_, List.mem_of_getElem? (hkeys j oj hj), hc⟩))
  have inv0 : Inv E ops (lstd ops.size 0) σ := by
    refine ⟨fun j oj hj hl => ?_, fun j oj hj _ c hc => hfr j oj hj c hc, fun i oi t ip p hi ht hf c hc t' _ => ?_⟩
    · rcases Nat.lt_or_ge j ops.size with h | h
      · rw [lstd_get h] at hl; simp at hl
      · rw [Array.getElem?_eq_none h] at hj; cases hj
    · obtain ⟨_, hp, _⟩ := findDst_at hf
      rw [Nat.sub_zero, Array.getElem?_toList] at hp
      exact (hfr ip p hp c hc).slot t'
  obtain ⟨hc1, hc2, hc3⟩ := cutGo_spec (l := masks ops.toList []) (j := 0)
  rw [masks_len, List.length_nil, Nat.zero_add, Nat.zero_add, Array.length_toList] at hc2
  have hfull : ∀ j oj, ops[j]? = some oj → cutGo 0 (masks ops.toList []) ≤ j → ∀ i, i < j → Nat.testBit ((masks ops.toList []).getD j 0) i = true := fun j oj hj hle i hi => by
    have hjn : j < ops.size := by
      rcases Nat.lt_or_ge j ops.size with h | h
      · exact h
      · rw [Array.getElem?_eq_none h] at hj; cases hj
    have := hc3 j hle (by rw [masks_len, List.length_nil, Nat.zero_add, Nat.zero_add, Array.length_toList]; exact hjn)
    rw [Nat.sub_zero] at this
    rw [List.getD, this]
    simp [Nat.testBit_two_pow_sub_one, hi]
  generalize hmm : cutGo 0 (masks ops.toList []) = m at hn hc2 hfull
  have H := AAny_lex (Q := fun e a w => e = .normal ∧ Goes w0 S0 next r a w) (w0 := w0) (S0 := S0) hE hG (m := m) hc2 (fin := fun L σ => L = lstd ops.size m ∧ ∃ υ, Alike υ σ ∧ aOps E ck ops.toList (ops.toList.drop m) υ next = some r)
    (fun L σ τ hA ⟨h0, υ, h1, h2⟩ => ⟨h0, υ, ⟨hA.sl.trans h1.sl, fun c => (hA.ob c).trans (h1.ob c)⟩, h2⟩) (fun L σ ⟨h0, _⟩ j hj => by rw [h0, lstd_get (by omega)]; simpa using hj)
    (fun j oj hj hle i hi => hfull j oj hj hle i (by omega)) heats hdis (fun σ hs => ⟨rfl, σ, Alike.refl σ, hs⟩) (fun j hj => hlx j (Nat.zero_le _) hj) (ops.toList.take m) 0 σ
    (by rw [Nat.zero_add, List.length_take, Array.length_toList]; omega) (fun j hj => by
      rw [List.length_take] at hj
      rw [Nat.zero_add, List.getElem?_take_of_lt (by omega), Array.getElem?_toList]) inv0 hn
  have := wpAny_of (s := ops.size - m) (Q := fun e a w => e = .normal ∧ Goes w0 S0 next r a w) hdis (fun L σ' a w hf inv hS => by
    obtain ⟨rfl, υ, hA, hs⟩ := hf
    have hlen : (ops.toList.drop m).length = ops.size - m := by rw [List.length_drop, Array.length_toList]
    have := seqAny (Q := fun e a w => e = .normal ∧ Goes w0 S0 next r a w) (w0 := w0) (S0 := S0) hE hG (fun a w hg => ⟨rfl, hg⟩) (fun j hj => (hlx j (Nat.zero_le _) hj).1) hend (ops.toList.drop m) m υ a w (by rw [hlen]; omega) (fun j hj => by
      rw [List.getElem?_drop, Array.getElem?_toList]) (fun j oj hj hle => hfull j oj hj hle) inv.closed (Alike.SR (σ := σ') ⟨hA.sl.symm, fun c => (hA.ob c).symm⟩ hS) hs
    rw [hlen] at this
    exact this) _ _ σ a _ inv0 h.drawn H
  have hlen : (ops.toList.take m).length + (ops.size - m) = ops.size := by rw [List.length_take, Array.length_toList]; omega
  rw [hlen] at this
  exact this


theorem edge0_get {j : Nat} {o : Oper} (h : ops[j]? = some o) : (edge0 ops)[j]? = some (bif Nat.beq j 0 then o else { o with after := o.after.push ⟨0, .data⟩ }) := by
  unfold edge0
  rw [Array.getElem?_mapIdx, h]; rfl
theorem edge0_back {j : Nat} {o : Oper} (h : (edge0 ops)[j]? = some o) : ∃ o', ops[j]? = some o' ∧ o = (bif Nat.beq j 0 then o' else { o' with after := o'.after.push ⟨0, .data⟩ }) := by
  unfold edge0 at h
  rw [Array.getElem?_mapIdx] at h
  obtain ⟨o', h1, h2⟩ := Option.map_eq_some_iff.1 h
  exact ⟨o', h1, h2.symm⟩
theorem edge0_ready {L : Array Bool} (h0 : L.getD 0 false = true) (i : Nat) : i ∈ Region.ready .any (edge0 ops) L ↔ i ∈ Region.ready .any ops L := by
  rw [mem_ready, mem_ready]
  constructor
  · rintro ⟨h1, o, ho, h2⟩
    obtain ⟨o', ho', rfl⟩ := edge0_back ho
    refine ⟨h1, o', ho', fun e he hb => h2 e ?_ hb⟩
    cases hb0 : Nat.beq i 0 with
    | true => rw [cond_true]; exact he
    | false => rw [cond_false]; exact Array.mem_push.2 (.inl he)
  · rintro ⟨h1, o, ho, h2⟩
    refine ⟨h1, _, edge0_get ho, fun e he hb => ?_⟩
    cases hb0 : Nat.beq i 0 with
    | true => rw [hb0, cond_true] at he; exact h2 e he hb
    | false =>
      rw [hb0, cond_false] at he
      rcases Array.mem_push.1 he with he | rfl
      · exact h2 e he hb
      · exact h0
theorem edge0_yielded (tmps : Array Value) : yielded (edge0 ops) tmps = yielded ops tmps := by
  funext j
  unfold yielded
  have : ((edge0 ops)[j]?).bind (·.dst) = (ops[j]?).bind (·.dst) := by
    unfold edge0
    rw [Array.getElem?_mapIdx]
    cases ops[j]? with
    | none => rfl
    | some o => cases hb : Nat.beq j 0 <;> simp [hb]
  rw [this]
theorem edge0_op {QQ : Exit → Act → World → Prop} {i : Nat} {K K' : Act → World → Prop} {a : Act} {w : World} (hK : ∀ a w, K a w → K' a w) (h : wpOp P (edge0 ops) QQ i K a w) : wpOp P ops QQ i K' a w := by
  cases ho : ops[i]? with
  | none =>
    have h1 : (edge0 ops)[i]? = none := by unfold edge0; rw [Array.getElem?_mapIdx, ho]; rfl
    unfold wpOp at h ⊢
    simp only [ho, h1] at h ⊢
    exact hK _ _ h
  | some o =>
    have h1 := edge0_get ho
    refine wpOp_mono hK ?_
    unfold wpOp at h ⊢
    simp only [ho, h1, edge0_yielded] at h ⊢
    cases hb : Nat.beq i 0 with
    | true => rw [hb] at h; exact h
    | false => rw [hb] at h; exact h
theorem edge0_rest {QQ : Exit → Act → World → Prop} : ∀ (f : Nat) (L : Array Bool) (a : Act) (w : World), L.getD 0 false = true → 0 < L.size → wpAny P .any (edge0 ops) QQ f L a w → wpAny P .any ops QQ f L a w
  | 0, L, a, w, h0, hs, h => by
    refine ⟨List.eq_nil_iff_forall_not_mem.2 fun i hi => ?_, h.2⟩
    have := (edge0_ready (ops := ops) h0 i).2 hi
    rw [h.1] at this
    cases this
  | f + 1, L, a, w, h0, hs, h => by
    refine ⟨fun he => h.1 (List.eq_nil_iff_forall_not_mem.2 fun i hi => ?_), fun i hi => ?_⟩
    · have := (edge0_ready (ops := ops) h0 i).1 hi
      rw [he] at this
      cases this
    · refine edge0_op (fun a w hw => edge0_rest f _ a w ?_ (by simpa using hs) hw) (h.2 i ((edge0_ready (ops := ops) h0 i).2 hi))
      by_cases e : i = 0
      · subst e; simp [hs]
      · rw [getD_set_ne false e]; exact h0
theorem edge0_ok {QQ : Exit → Act → World → Prop} {a : Act} {w : World} (hl : light0 ops = true) (hQ : ∀ c a w, ¬ QQ (.panic c) a w) (h : wpAny P .any (edge0 ops) QQ ops.size (Array.replicate ops.size false) a w) : wpAny P .any ops QQ ops.size (Array.replicate ops.size false) a w := by
  unfold light0 at hl
  split at hl
  · rename_i o ho
    simp only [Bool.and_eq_true] at hl
    obtain ⟨⟨⟨⟨hg, hmv⟩, hns⟩, hr⟩, hf⟩ := hl
    split at hmv
    · rename_i x hop
      have hg' : o.guard = none := by simpa using hg
      have hrun : ∀ w', (execOp a.eval o).run P w' = .ok (.value (a.eval x)) w' := fun w' => by simp [execOp, hop]
      have hsz : 0 < ops.size := (Array.getElem?_eq_some_iff.1 ho).1
      generalize hn : ops.size = n at *
      match n, hsz with
      | n + 1, hsz =>
      have hr' : 0 ∈ Region.ready .any ops (Array.replicate (n + 1) false) := by simpa using hr
      have hr2 : 0 ∈ Region.ready .any (edge0 ops) (Array.replicate (n + 1) false) := by
        obtain ⟨h1, o', ho', h2⟩ := mem_ready.1 hr'
        exact mem_ready.2 ⟨h1, _, edge0_get ho', fun e he hb => h2 e (by simpa using he) hb⟩
      have h0 := h.2 0 hr2
      have hK : wpAny P .any (edge0 ops) QQ n ((Array.replicate (n + 1) false).setIfInBounds 0 true) (a.put o.dst (a.eval x)) w := by
        unfold wpOp at h0
        have e0 : (edge0 ops)[0]? = some o := edge0_get ho
        simp only [e0] at h0
        have hw : Region.wanted o (yielded (edge0 ops) a.tmps) = true := by simp [Region.wanted, hg']
        rw [if_pos hw] at h0
        have h0' : o.wp P a w (wpAny P .any (edge0 ops) QQ n ((Array.replicate (n + 1) false).setIfInBounds 0 true)) QQ ∨ (o.asks P a w ∧ LetsOut QQ) := h0
        rcases h0' with h1 | ⟨h1, _⟩
        · unfold Oper.wp at h1
          rw [hrun] at h1
          exact h1
        · exfalso
          have := h1.1
          simp [execOp, hop, Sem.runT] at this
          exact absurd (show noRoomEvent ∈ (#[] : Array Event) from this) (by simp)
      exact wpAny_take ho hns hf (by simpa using hr') (fun c a w h => (hQ c _ _ h).elim) (.inl ⟨by simp [Region.wanted, hg'], hrun⟩) (edge0_rest n _ _ w (by simp) (by simp) hK)
    · cases hmv
  · cases hl

/-- A region whose operations may come up in more than one order. -/
theorem aDraw_ok (hm : P.follows .mixedOrders = true) (hE : ∀ T ti, E.ty T = some ti → TyOk P T ti) {ck : (fi : Fi) → Aden fi.ps → Option (Oden (flatRs fi.rs) (ioOf fi.ps))} (hG : ∀ f ids fi, E.fn f ids = some fi → ∀ x y, ck fi x = some y → Gives P gw f fi x y)
    (h : SR w0 S0 σ a w) {id : Nat} {next : St → Option ρ} {r : ρ} (hn : aDraw E ck ops σ next = some r) : (Code.region id ops true).wp P (fun e a w => e = .normal ∧ Goes w0 S0 next r a w) a w := by
  unfold aDraw at hn
  refine wp_region_any hm ?_
  cases hl : light0 ops with
  | true =>
    rw [hl, cond_true] at hn
    have hsz : (edge0 ops).size = ops.size := by simp [edge0]
    have := aDrawA_ok hE hG h hn
    rw [hsz] at this
    exact edge0_ok hl (fun c a w h => by cases h.1) this
  | false =>
    rw [hl, cond_false] at hn
    exact aDrawA_ok hE hG h hn

end
end Go.Vt
