/-
  One operation of a region whose operations may come up in more than one order: what it does depends only on what it looks at.
  Conditions: the table of types is right (TyOk); the functions give what the plain machine says (Gives).
-/
import Derived.Test.YtlgkjckddpnfnaaGreatDoorXvu
namespace Go.Vt
open Go.RowKit
set_option linter.unusedVariables false
set_option linter.unusedSimpArgs false

section
variable {P : Program} {ρ : Type} {gw : Gw} {w0 : Base gw} {w : World} {S0 : Nat → Prop} {σ σ' : St} {a : Act} {Im : Nat → Prop} {hd : Nat → Value} {bl : Nat → List Nat} {Q : Exit → Act → World → Prop}

/-! ### what is read of the objects -/
def KeyEq (σ σ' : St) (l : List Nat) : Prop := ∀ c ∈ l, obGet σ'.ob c = obGet σ.ob c

theorem aNil_congr {c : CV} (h : KeyEq σ σ' c.owns) : aNil σ' c = aNil σ c := by
  cases c with
  | own k => unfold aNil; dsimp only; rw [h k (by simp [CV.owns])]
  | val t x => cases t <;> rfl
  | _ => rfl
theorem aBin_congr {E : Env} {op : BinOp} {T : Nat} {x y : AV} {next : AV → Option ρ} (h : KeyEq σ σ' (mkeys x)) : aBin E σ' op T x y next = aBin E σ op T x y next := by
  cases x with
  | cv c =>
    have hn : aNil σ' c = aNil σ c := aNil_congr h
    unfold aBin
    split <;> first | rfl | (simp only [hn]) | skip
    all_goals first | rfl | (simp_all)
  | _ => unfold aBin; split <;> first | rfl | contradiction
theorem dLoad_congr {E : Env} {T : Nat} {x : AV} {next : AV → Option ρ} (h : KeyEq σ σ' (mkeys x)) : dLoad E σ' T x next = dLoad E σ T x next := by
  unfold dLoad
  cases aSize E T with
  | none => rfl
  | some p =>
    cases x with
    | adr c o => dsimp only; rw [h c (by simp [mkeys])]
    | el c m i o => dsimp only; rw [h c (by simp [mkeys])]
    | _ => rfl
theorem aIndexAddr_congr {E : Env} {T : Nat} {x : AV} {i : Int} {next : AV → Option ρ} (h : KeyEq σ σ' (mkeys x)) : aIndexAddr E σ' T x i next = aIndexAddr E σ T x i next := by
  unfold aIndexAddr
  split
  · rfl
  · rename_i c _; rw [h c (by simp [mkeys, CV.owns])]
  · rename_i c _; rw [h c (by simp [mkeys])]
  · rfl
theorem aLen_congr {E : Env} {T : Nat} {x : AV} {next : AV → Option ρ} (h : KeyEq σ σ' (mkeys x)) : aLen E σ' T x next = aLen E σ T x next := by
  unfold aLen
  split
  · rfl
  · split
    · rfl
    · rfl
    · rename_i c; rw [h c (by simp [mkeys, CV.owns])]
    · rfl
  · rfl
theorem cvAs_congr {t : Ty} {c : CV} (h : KeyEq σ σ' c.owns) : σ'.cvAs t c = σ.cvAs t c := by
  cases c with
  | own k => unfold St.cvAs; dsimp only; rw [h k (by simp [CV.owns])]
  | _ => rfl
theorem aConv_congr {E : Env} {S D : Nat} {x : AV} {next : AV → Option ρ} (h : KeyEq σ σ' (mkeys x)) : aConv E σ' S D x next = aConv E σ S D x next := by
  unfold aConv
  split
  · rfl
  · rfl
  · rw [cvAs_congr h]
  · rfl
theorem impl_congr : ∀ {t : Ty} {l : List CV}, KeyEq σ σ' (ownsAll l) → σ'.impl t l = σ.impl t l
  | .int k, l, h => by
    unfold St.impl
    match l, h with | [], _ => rfl | [c], h => exact cvAs_congr (fun k hk => h k (by simp [ownsAll, hk])) | _ :: _ :: _, _ => rfl
  | .bool, l, h => by
    unfold St.impl
    match l, h with | [], _ => rfl | [c], h => exact cvAs_congr (fun k hk => h k (by simp [ownsAll, hk])) | _ :: _ :: _, _ => rfl
  | .str, l, h => by
    unfold St.impl
    match l, h with | [], _ => rfl | [c], h => exact cvAs_congr (fun k hk => h k (by simp [ownsAll, hk])) | _ :: _ :: _, _ => rfl
  | .set, l, h => by
    unfold St.impl
    match l, h with | [], _ => rfl | [c], h => exact cvAs_congr (fun k hk => h k (by simp [ownsAll, hk])) | _ :: _ :: _, _ => rfl
  | .err, l, h => by
    unfold St.impl
    match l, h with | [], _ => rfl | [c], h => exact cvAs_congr (fun k hk => h k (by simp [ownsAll, hk])) | _ :: _ :: _, _ => rfl
  | .slice t, l, h => by
    unfold St.impl
    match l, h with | [], _ => rfl | [c], h => exact cvAs_congr (fun k hk => h k (by simp [ownsAll, hk])) | _ :: _ :: _, _ => rfl
  | .pair s t, l, h => by
    unfold St.impl
    have h1 : KeyEq σ σ' (ownsAll (l.take s.sz)) := fun k hk => h k (by
      obtain ⟨c, hc, hk⟩ := List.mem_flatMap.1 hk
      exact List.mem_flatMap.2 ⟨c, List.mem_of_mem_take hc, hk⟩)
    have h2 : KeyEq σ σ' (ownsAll (l.drop s.sz)) := fun k hk => h k (by
      obtain ⟨c, hc, hk⟩ := List.mem_flatMap.1 hk
      exact List.mem_flatMap.2 ⟨c, List.mem_of_mem_drop hc, hk⟩)
    rw [impl_congr h1, impl_congr h2]
theorem toCell_congr {c : PC} {v : CV} (h : KeyEq σ σ' v.owns) : σ'.toCell c v = σ.toCell c v := by
  cases c with
  | v t => cases v <;> rfl
  | o t d =>
    cases v with
    | own k => unfold St.toCell; dsimp only; rw [h k (by simp [CV.owns])]
    | _ => rfl
theorem toCells_congr : ∀ {cs : List PC} {l : List CV}, KeyEq σ σ' (ownsAll l) → σ'.toCells cs l = σ.toCells cs l
  | [], [], _ => rfl
  | [], _ :: _, _ => rfl
  | [_], [], _ => rfl
  | [c], [v], h => toCell_congr (c := c) (fun k hk => h k (by simp [ownsAll, hk]))
  | [_], _ :: _ :: _, _ => rfl
  | _ :: _ :: _, [], _ => rfl
  | c :: d :: r, v :: l, h => by
    show ((σ'.toCell c v).bind fun x => (σ'.toCells (d :: r) l).bind fun y => some (x, y)) = ((σ.toCell c v).bind fun x => (σ.toCells (d :: r) l).bind fun y => some (x, y))
    rw [toCell_congr (fun k hk => h k (by simp [ownsAll, hk])), toCells_congr (cs := d :: r) (fun k hk => h k (by
      obtain ⟨c, hc, hk⟩ := List.mem_flatMap.1 hk
      exact List.mem_flatMap.2 ⟨c, by simp [hc], hk⟩))]
theorem toArg_congr {p : PT} {av : AV} (h : KeyEq σ σ' (mkeys av)) : σ'.toArg p av = σ.toArg p av := by
  cases p with
  | v t agg =>
    cases av with
    | cv c => unfold St.toArg; dsimp only; rw [cvAs_congr h]
    | ag l => unfold St.toArg; dsimp only; rw [impl_congr h]
    | _ => rfl
  | r t => cases av <;> rfl
  | z t => cases av <;> first | rfl | (rename_i c; cases c <;> rfl)
  | fn f ts => cases av <;> rfl
  | o cs agg =>
    cases av with
    | cv c =>
      show (bif agg then none else σ'.toCells cs [c]) = (bif agg then none else σ.toCells cs [c])
      rw [toCells_congr (fun k hk => h k (by simpa [ownsAll, mkeys] using hk))]
    | ag l =>
      show (bif agg then σ'.toCells cs l else none) = (bif agg then σ.toCells cs l else none)
      rw [toCells_congr (fun k hk => h k hk)]
    | _ => rfl
  | p s t =>
    cases av with
    | adr c o =>
      cases o with
      | zero =>
        show (match obGet σ'.ob c with | some (.box l) => implode (.pair s t) l | _ => none) = (match obGet σ.ob c with | some (.box l) => implode (.pair s t) l | _ => none)
        rw [h c (by simp [mkeys])]
      | succ o => rfl
    | _ => rfl
theorem toArgs_congr : ∀ {ps : List PT} {avs : List AV}, (∀ av ∈ avs, KeyEq σ σ' (mkeys av)) → σ'.toArgs ps avs = σ.toArgs ps avs
  | [], [], _ => rfl
  | [], _ :: _, _ => rfl
  | [_], [], _ => rfl
  | [p], [v], h => toArg_congr (h v (by simp))
  | [_], _ :: _ :: _, _ => rfl
  | _ :: _ :: _, [], _ => rfl
  | p :: q :: r, v :: vs, h => by
    unfold St.toArgs
    rw [toArg_congr (h v (by simp)), toArgs_congr (ps := q :: r) (fun av hav => h av (by simp [hav]))]

/-- Two states that an operation can't tell apart. -/
structure Agree (ops : Array Oper) (o : Oper) (σ σ' : St) : Prop where
  slot : ∀ t ∈ o.looksAt ops, slGet σ'.sl t = slGet σ.sl t
  key : ∀ t ∈ o.looksAt ops, ∀ c ∈ mkeys (slGet σ.sl t), obGet σ'.ob c = obGet σ.ob c

theorem mkeys_cval (v : Value) : mkeys (cval v) = [] := by unfold cval; split <;> rfl
theorem Agree.ev {ops : Array Oper} {o : Oper} (h : Agree ops o σ σ') {x : Operand} (hx : x ∈ o.op.operands) : σ'.ev x = σ.ev x ∧ KeyEq σ σ' (mkeys (σ.ev x)) := by
  cases x with
  | tmp t =>
    have ht : t ∈ o.looksAt ops := List.mem_append_left _ (List.mem_filterMap.2 ⟨.tmp t, by simpa using hx, rfl⟩)
    exact ⟨h.slot t ht, fun c hc => h.key t ht c hc⟩
  | const v => exact ⟨rfl, fun c hc => by have e : mkeys (σ.ev (.const v)) = [] := mkeys_cval v; rw [e] at hc; cases hc⟩
  | global g => exact ⟨rfl, fun c hc => by cases hc⟩
  | func f => exact ⟨rfl, fun c hc => by cases hc⟩

theorem treeB_cons {u : Ty} {x : u.den} {l : List CV} (h0 : ownsAll l = []) (hf : u.flat = true) (h : σ.treeB l = true) : σ.treeB (CV.val u x :: l) = true := by
  unfold St.treeB at h ⊢
  rw [Bool.and_eq_true] at h ⊢
  exact ⟨h.1, by rw [List.all_cons, h.2]; simp [hf]⟩
theorem dParts_aParts {t : Ty} {n : Nat} (ht : oneB t = true) : ∀ {parts : List (Nat × AV)} {i : Nat} {xs : List t.den}, dParts t n i parts = some xs →
    ∃ l, aParts σ t n i parts = some (l, xs) ∧ ownsAll l = [] ∧ σ.treeB l = true
  | [], i, xs, h => by
    unfold dParts at h
    cases hb : Nat.beq i n with
    | false => rw [hb] at h; cases h
    | true =>
      rw [hb] at h
      cases h
      exact ⟨[], by unfold aParts; rw [hb]; rfl, rfl, rfl⟩
  | (j, v) :: r, i, xs, h => by
    unfold dParts at h
    split at h
    · rename_i u x
      cases hb : Nat.beq i j with
      | false => rw [hb] at h; cases h
      | true =>
        rw [hb, cond_true] at h
        split at h
        · rename_i y ys hy hr
          cases h
          obtain ⟨l, h1, h2, h3⟩ := dParts_aParts ht hr
          have hi : σ.impl t [CV.val u x] = some y := by
            cases t with
            | int k => exact hy
            | bool => exact hy
            | str => exact hy
            | slice t => cases ht
            | pair a b => cases ht
            | set => cases ht
            | err => exact hy
          have hf : u.flat = true := by
            obtain ⟨e, _⟩ := as_some hy
            subst e
            cases u with
            | int k => rfl
            | bool => rfl
            | str => rfl
            | slice t => cases ht
            | pair a b => cases ht
            | set => cases ht
            | err => rfl
          refine ⟨CV.val u x :: l, ?_, h2, ?_⟩
          · unfold aParts
            rw [hb, cond_true]
            have hc : σ.cells (.cv (.val u x)) = some [CV.val u x] := rfl
            rw [hc]
            dsimp only
            rw [hi, h1]
            rfl
          · exact treeB_cons h2 hf h3
        · cases h
    · cases h
theorem live_congr {c : CV} (h : KeyEq σ σ' c.owns) : σ'.live c = σ.live c := by
  cases c with
  | own c => unfold St.live; dsimp only; rw [h c (by simp [CV.owns])]
  | _ => rfl
theorem lives_congr : ∀ {l : List CV}, KeyEq σ σ' (ownsAll l) → l.all σ'.live = l.all σ.live
  | [], _ => rfl
  | c :: l, h => by
    rw [List.all_cons, List.all_cons, live_congr (fun k hk => h k (by simp [ownsAll, hk])), lives_congr (l := l) (fun k hk => h k (by
      obtain ⟨c', hc, hk⟩ := List.mem_flatMap.1 hk
      exact List.mem_flatMap.2 ⟨c', by simp [hc], hk⟩))]
theorem cells_congr {v : AV} (h : KeyEq σ σ' (mkeys v)) : σ'.cells v = σ.cells v := by
  cases v with
  | cv c => unfold St.cells; dsimp only; rw [live_congr h]
  | ag l => unfold St.cells; dsimp only; rw [lives_congr h]
  | _ => rfl
theorem aBuild_congr {E : Env} {T : Nat} : ∀ {ps : List (Nat × AV)} {z : List CV}, (∀ p ∈ ps, KeyEq σ σ' (mkeys p.2)) → aBuild E σ' T ps z = aBuild E σ T ps z
  | [], z, _ => rfl
  | (f, v) :: r, z, h => by
    unfold aBuild
    rw [cells_congr (h (f, v) (by simp))]
    have ih : ∀ z, aBuild E σ' T r z = aBuild E σ T r z := fun z => aBuild_congr fun p hp => h p (by simp [hp])
    simp only [ih]
theorem dStore_congr {E : Env} {K : List Nat} {T : Nat} {x v : AV} {next : AV → List (Nat × Ob) → Option ρ} (hx : KeyEq σ σ' (mkeys x)) (hv : KeyEq σ σ' (mkeys v)) : dStore E σ' K T x v next = dStore E σ K T x v next := by
  unfold dStore
  rw [cells_congr hv]
  split
  · rename_i c o _ _
    rw [hx c (by simp [mkeys])]
  · rfl
theorem dApp2_congr {t : Ty} {d : Nat} {y : AV} {xs : List t.den} {dp cn : Bool} {next : AV → List (Nat × Ob) → Option ρ} (h : KeyEq σ σ' (mkeys y)) : dApp2 σ' t d y xs dp cn next = dApp2 σ t d y xs dp cn next := by
  unfold dApp2
  split
  · rfl
  · rfl
  · rename_i c
    rw [h c (by simp [mkeys, CV.owns])]
  · rfl
theorem dAppend_congr {E : Env} {K : List Nat} {T d : Nat} {x y : AV} {next : AV → List (Nat × Ob) → Option ρ} (hx : KeyEq σ σ' (mkeys x)) (hy : KeyEq σ σ' (mkeys y)) : dAppend E σ' K T d x y next = dAppend E σ K T d x y next := by
  unfold dAppend
  split
  · congr 1
    split
    · exact dApp2_congr hy
    · rename_i c
      rw [hx c (by simp [mkeys, CV.owns])]
      congr 1
      split
      · split
        · exact dApp2_congr hy
        · rfl
      · rfl
    · rfl
  · rfl
theorem dOp_congr {E : Env} {ck : (fi : Fi) → Aden fi.ps → Option (Oden (flatRs fi.rs) (ioOf fi.ps))} {ops : Array Oper} {o : Oper} (h : Agree ops o σ σ') {K : List Nat} {next : AV → List (Nat × Ob) → Option ρ} : dOp E σ' ck K o next = dOp E σ ck K o next := by
  have hx : ∀ x ∈ o.op.operands, σ'.ev x = σ.ev x ∧ KeyEq σ σ' (mkeys (σ.ev x)) := fun x hx => h.ev hx
  clear h
  unfold dOp
  cases ho : o.op with
  | move x => rw [ho] at hx; dsimp only; rw [(hx x (by simp [Op.operands])).1]
  | assign x => rw [ho] at hx; dsimp only; rw [(hx x (by simp [Op.operands])).1]
  | pick c x y => rw [ho] at hx; dsimp only; rw [(hx c (by simp [Op.operands])).1, (hx x (by simp [Op.operands])).1, (hx y (by simp [Op.operands])).1]
  | load T x => rw [ho] at hx; have k := hx x (by simp [Op.operands]); dsimp only; rw [k.1, dLoad_congr k.2]
  | nilCheck x => rw [ho] at hx; dsimp only; rw [(hx x (by simp [Op.operands])).1]
  | binOp op T x y U => rw [ho] at hx; have k := hx x (by simp [Op.operands]); dsimp only; rw [k.1, (hx y (by simp [Op.operands])).1, aBin_congr k.2]
  | unOp op T x => rw [ho] at hx; dsimp only; rw [(hx x (by simp [Op.operands])).1]
  | convert S D x => rw [ho] at hx; have k := hx x (by simp [Op.operands]); dsimp only; rw [k.1, aConv_congr k.2]
  | makeSlice T n c => rw [ho] at hx; dsimp only; rw [(hx n (by simp [Op.operands])).1, (hx c (by simp [Op.operands])).1]
  | buildSlice T n ps =>
    rw [ho] at hx
    have hmap : ps.toList.map (fun p => (p.1, σ'.ev p.2)) = ps.toList.map fun p => (p.1, σ.ev p.2) := List.map_congr_left fun p hp => by
      rw [(hx p.2 (by simp only [Op.operands]; exact List.mem_toArray.2 (List.mem_map.2 ⟨p, hp, rfl⟩))).1]
    dsimp only
    rw [hmap]
  | store T x v => rw [ho] at hx; have k := hx x (by simp [Op.operands]); have k2 := hx v (by simp [Op.operands]); dsimp only; rw [k.1, k2.1, dStore_congr k.2 k2.2]
  | alloc T => rfl
  | box T x =>
    rw [ho] at hx
    have k := hx x (by simp [Op.operands])
    dsimp only
    split
    · unfold dBox; rw [k.1, cells_congr k.2]
    · rfl
  | build T ps =>
    rw [ho] at hx
    have hev : ∀ p ∈ ps.toList, σ'.ev p.2 = σ.ev p.2 ∧ KeyEq σ σ' (mkeys (σ.ev p.2)) := fun p hp => hx p.2 (by simp only [Op.operands]; exact List.mem_toArray.2 (List.mem_map.2 ⟨p, hp, rfl⟩))
    have hmap : ps.toList.map (fun p => (p.1, σ'.ev p.2)) = ps.toList.map fun p => (p.1, σ.ev p.2) := List.map_congr_left fun p hp => by rw [(hev p hp).1]
    dsimp only
    split
    · rw [hmap, aBuild_congr fun q hq => by
        obtain ⟨p, hp, rfl⟩ := List.mem_map.1 hq
        exact (hev p hp).2]
    · rfl
  | slice T x lo hi mx =>
    rw [ho] at hx
    have k := hx x (by simp [Op.operands])
    have kl : lo.map σ'.ev = lo.map σ.ev := by cases lo with | none => rfl | some u => exact congrArg some (hx u (by simp [Op.operands])).1
    have kh : hi.map σ'.ev = hi.map σ.ev := by cases hi with | none => rfl | some u => exact congrArg some (hx u (by simp [Op.operands])).1
    dsimp only
    rw [k.1, kl, kh]
  | fieldAddr T x f => rw [ho] at hx; dsimp only; rw [(hx x (by simp [Op.operands])).1]
  | field T x f => rw [ho] at hx; dsimp only; rw [(hx x (by simp [Op.operands])).1]
  | indexAddr T x i => rw [ho] at hx; have k := hx x (by simp [Op.operands]); dsimp only; rw [k.1, (hx i (by simp [Op.operands])).1]; split <;> first | rfl | exact aIndexAddr_congr k.2
  | index T x i => rw [ho] at hx; dsimp only; rw [(hx x (by simp [Op.operands])).1, (hx i (by simp [Op.operands])).1]
  | extract x i => rw [ho] at hx; dsimp only; rw [(hx x (by simp [Op.operands])).1]
  | call c =>
    rw [ho] at hx
    have hargs : ∀ x ∈ c.args.toList, σ'.ev x = σ.ev x ∧ KeyEq σ σ' (mkeys (σ.ev x)) := fun x hm => hx x (by
      simp only [Op.operands, Call.operands]
      exact Array.mem_append.2 (.inr (by simpa using hm)))
    have hmap : c.args.toList.map σ'.ev = c.args.toList.map σ.ev := List.map_congr_left fun x hm => (hargs x hm).1
    dsimp only
    split
    · split
      · rename_i x hl _
        have k := hargs x (by rw [hl]; simp)
        split
        · rw [k.1, aLen_congr k.2]
        · rfl
      · rename_i x y hl _
        have k := hargs x (by rw [hl]; simp)
        have k2 := hargs y (by rw [hl]; simp)
        split
        · split
          · rw [k.1, k2.1, dAppend_congr k.2 k2.2]
          · rfl
        · rfl
      · rw [hmap]
      · rw [hmap]
      · rfl
    · rename_i f hf
      rw [hmap]
      unfold dCall
      split
      · rfl
      · rename_i fi hfi
        rw [toArgs_congr (σ := σ) (σ' := σ') (fun av hav => by
          obtain ⟨x, hm, rfl⟩ := List.mem_map.1 hav
          exact (hargs x hm).2)]
    · rfl
  | _ => rfl

/-! ### whatever comes next -/
theorem chk_to {b : Bool} {x y : Option ρ} (hb : b = true) (h : x = y) : chk b x = y := by subst hb; exact h
theorem chk_bind {β : Type} (b : Bool) (x : Option ρ) (f : ρ → Option β) : (chk b x).bind f = chk b (x.bind f) := by cases b <;> rfl
theorem par_bind {A : Option AV} {f : (ρ' : Type) → (AV → Option ρ') → Option ρ'} (hb : ∀ ρ' (n : AV → Option ρ'), f ρ' n = A.bind n) {next : AV → Option ρ} {r : ρ} (h : f ρ next = some r) : ∃ v, next v = some r ∧ ∀ (ρ' : Type) (next' : AV → Option ρ'), f ρ' next' = next' v := by
  rw [hb] at h
  obtain ⟨v, hv, h⟩ := Option.bind_eq_some_iff.1 h
  exact ⟨v, h, fun ρ' n => by rw [hb, hv]; rfl⟩
theorem aBin_bind {E : Env} {op : BinOp} {T : Nat} {x y : AV} {next : AV → Option ρ} : aBin E σ op T x y next = (aBin E σ op T x y some).bind next := by
  unfold aBin
  split
  · rw [chk_bind]; rfl
  · rw [chk_bind]; rfl
  · rw [chk_bind]; congr 1; split <;> first | rfl | (rw [chk_bind]; rfl)
  · split <;> first | rfl | (rw [chk_bind]; rfl)
  · split <;> rfl
  · split <;> rfl
  · split
    · rename_i ok r _ _; cases ok <;> rfl
    · rfl
  · split
    · rename_i ok r _ _; cases ok <;> rfl
    · rfl
  · split
    · split <;> rfl
    · rfl
  · split
    · split <;> rfl
    · rfl
  · rfl
theorem aBin_par {E : Env} {op : BinOp} {T : Nat} {x y : AV} {next : AV → Option ρ} {r : ρ} (h : aBin E σ op T x y next = some r) : ∃ v, next v = some r ∧ ∀ (ρ' : Type) (next' : AV → Option ρ'), aBin E σ op T x y next' = next' v :=
  par_bind (f := fun ρ' n => aBin E σ op T x y n) (fun _ _ => aBin_bind) h
theorem dLoad_bind {E : Env} {T : Nat} {x : AV} {next : AV → Option ρ} : dLoad E σ T x next = (dLoad E σ T x some).bind next := by
  unfold dLoad
  split
  · rfl
  · split
    · split <;> first | rfl | (rw [chk_bind]; rfl)
    · rw [chk_bind]; rfl
    · split <;> first | rfl | (rw [chk_bind, chk_bind]; rfl)
    · rfl
theorem dLoad_par {E : Env} {T : Nat} {x : AV} {next : AV → Option ρ} {r : ρ} (h : dLoad E σ T x next = some r) : ∃ v, next v = some r ∧ ∀ (ρ' : Type) (next' : AV → Option ρ'), dLoad E σ T x next' = next' v :=
  par_bind (f := fun ρ' n => dLoad E σ T x n) (fun _ _ => dLoad_bind) h
theorem aIndexAddr_bind {E : Env} {T : Nat} {x : AV} {i : Int} {next : AV → Option ρ} : aIndexAddr E σ T x i next = (aIndexAddr E σ T x i some).bind next := by
  unfold aIndexAddr
  split
  · rw [chk_bind, chk_bind, chk_bind]; rfl
  · split <;> first | rfl | (rw [chk_bind, chk_bind, chk_bind]; rfl)
  · split <;> first | rfl | (rw [chk_bind, chk_bind, chk_bind]; rfl)
  · rfl
theorem aIndexAddr_par {E : Env} {T : Nat} {x : AV} {i : Int} {next : AV → Option ρ} {r : ρ} (h : aIndexAddr E σ T x i next = some r) : ∃ v, next v = some r ∧ ∀ (ρ' : Type) (next' : AV → Option ρ'), aIndexAddr E σ T x i next' = next' v :=
  par_bind (f := fun ρ' n => aIndexAddr E σ T x i n) (fun _ _ => aIndexAddr_bind) h
theorem aIndexStr_bind {E : Env} {T : Nat} {x : AV} {i : Int} {next : AV → Option ρ} : aIndexStr E T x i next = (aIndexStr E T x i some).bind next := by
  unfold aIndexStr
  split
  · rw [chk_bind, chk_bind]; rfl
  · rfl
theorem aIndexStr_par {E : Env} {T : Nat} {x : AV} {i : Int} {next : AV → Option ρ} {r : ρ} (h : aIndexStr E T x i next = some r) : ∃ v, next v = some r ∧ ∀ (ρ' : Type) (next' : AV → Option ρ'), aIndexStr E T x i next' = next' v :=
  par_bind (f := fun ρ' n => aIndexStr E T x i n) (fun _ _ => aIndexStr_bind) h
theorem aConv_bind {E : Env} {S D : Nat} {x : AV} {next : AV → Option ρ} : aConv E σ S D x next = (aConv E σ S D x some).bind next := by
  unfold aConv
  split <;> first | rfl | (split <;> rfl)
theorem aConv_par {E : Env} {S D : Nat} {x : AV} {next : AV → Option ρ} {r : ρ} (h : aConv E σ S D x next = some r) : ∃ v, next v = some r ∧ ∀ (ρ' : Type) (next' : AV → Option ρ'), aConv E σ S D x next' = next' v :=
  par_bind (f := fun ρ' n => aConv E σ S D x n) (fun _ _ => aConv_bind) h
theorem aLen_bind {E : Env} {T : Nat} {x : AV} {next : AV → Option ρ} : aLen E σ T x next = (aLen E σ T x some).bind next := by
  unfold aLen
  split
  · split <;> rfl
  · split
    · rfl
    · rfl
    · split <;> rfl
    · rfl
  · rfl
theorem aLen_par {E : Env} {T : Nat} {x : AV} {next : AV → Option ρ} {r : ρ} (h : aLen E σ T x next = some r) : ∃ v, next v = some r ∧ ∀ (ρ' : Type) (next' : AV → Option ρ'), aLen E σ T x next' = next' v :=
  par_bind (f := fun ρ' n => aLen E σ T x n) (fun _ _ => aLen_bind) h

/-- The keys of new objects; they lead to no others. -/
def NewOk (ks : List Nat) (N : List (Nat × Ob)) : Prop := (N.map (·.1)).Nodup ∧ (∀ p ∈ N, p.1 ∈ ks) ∧ ∀ p ∈ N, obKeys p.2 = []
theorem NewOk.none (ks : List Nat) : NewOk ks [] := ⟨List.nodup_nil, (fun p hp => by cases hp), (fun p hp => by cases hp)⟩

theorem dOne_new {d j : Nat} {c : RC} {x : c.t.den} : ∀ p ∈ (dOne d j c x).2, p.1 = d + 1000 * j ∧ p.1 ∈ (match c with | ⟨.slice _, some _⟩ => [d + 1000 * j] | ⟨.pair _ _, some _⟩ => [d + 1000 * j] | _ => []) ∧ obKeys p.2 = [] := by
  obtain ⟨t, o⟩ := c
  intro p hp
  cases t with
  | slice t =>
    cases o with
    | none => cases hp
    | some dn =>
      obtain ⟨dd, n⟩ := dn
      have : p = (d + 1000 * j, Ob.row t x dd n) := by simpa [dOne] using hp
      subst this
      exact ⟨rfl, by simp, rfl⟩
  | int k => cases hp
  | bool => cases hp
  | str => cases hp
  | pair s t => cases o <;> cases hp
  | set => cases hp
  | err => cases hp
theorem dOne_nodup {d j : Nat} {c : RC} {x : c.t.den} : ((dOne d j c x).2.map (·.1)).Nodup := by
  obtain ⟨t, o⟩ := c
  cases t with
  | slice t => cases o with | none => exact List.nodup_nil | some dn => simp [dOne]
  | int k => exact List.nodup_nil
  | bool => exact List.nodup_nil
  | str => exact List.nodup_nil
  | pair s t => cases o <;> exact List.nodup_nil
  | set => exact List.nodup_nil
  | err => exact List.nodup_nil
theorem keysFrom_ge {d : Nat} : ∀ {rs : List RC} {j k : Nat}, k ∈ keysFrom d j rs → ∃ i, j ≤ i ∧ k = d + 1000 * i
  | [], j, k, h => by cases h
  | c :: r, j, k, h => by
    unfold keysFrom at h
    rcases List.mem_append.1 h with h | h
    · refine ⟨j, Nat.le_refl _, ?_⟩
      split at h
      · simpa using h
      · simpa using h
      · cases h
    · obtain ⟨i, h1, h2⟩ := keysFrom_ge h
      exact ⟨i, by omega, h2⟩
theorem dCells_new {d : Nat} : ∀ {rs : List RC} {j : Nat} {y : Rden rs}, NewOk (keysFrom d j rs) (dCells d j rs y).2
  | [], j, y => NewOk.none _
  | [c], j, y => ⟨dOne_nodup, fun p hp => List.mem_append.2 (.inl (dOne_new p hp).2.1), fun p hp => (dOne_new p hp).2.2⟩
  | c :: e :: r, j, y => by
    have ih := dCells_new (d := d) (rs := e :: r) (j := j + 1) (y := y.2)
    refine ⟨?_, fun p hp => ?_, fun p hp => ?_⟩
    · show (((dCells d (j + 1) (e :: r) y.2).2 ++ (dOne d j c y.1).2).map (·.1)).Nodup
      rw [List.map_append, List.nodup_append]
      refine ⟨ih.1, dOne_nodup, fun k hk k' hk' e' => ?_⟩
      obtain ⟨p, hp, rfl⟩ := List.mem_map.1 hk
      obtain ⟨p', hp', rfl⟩ := List.mem_map.1 hk'
      obtain ⟨i, hi, e1⟩ := keysFrom_ge (ih.2.1 p hp)
      have e2 := (dOne_new p' hp').1
      omega
    · rcases List.mem_append.1 (show p ∈ (dCells d (j + 1) (e :: r) y.2).2 ++ (dOne d j c y.1).2 from hp) with hp | hp
      · exact List.mem_append.2 (.inr (ih.2.1 p hp))
      · exact List.mem_append.2 (.inl (dOne_new p hp).2.1)
    · rcases List.mem_append.1 (show p ∈ (dCells d (j + 1) (e :: r) y.2).2 ++ (dOne d j c y.1).2 from hp) with hp | hp
      · exact ih.2.2 p hp
      · exact (dOne_new p hp).2.2

theorem par_put {E : Env} {ck : (fi : Fi) → Aden fi.ps → Option (Oden (flatRs fi.rs) (ioOf fi.ps))} {K : List Nat} {o : Oper} {next : AV → List (Nat × Ob) → Option ρ} {r : ρ} {v : AV} (hn : next v [] = some r) (h : ∀ (ρ' : Type) (next' : AV → List (Nat × Ob) → Option ρ'), dOp E σ ck K o next' = next' v []) :
    ∃ v N, next v N = some r ∧ NewOk (opKeys E o ++ K) N ∧ ∀ (ρ' : Type) (next' : AV → List (Nat × Ob) → Option ρ'), dOp E σ ck K o next' = next' v N := ⟨v, [], hn, NewOk.none _, h⟩

def bnd {ρ : Type} (n u : Int) (lo : Option AV) (next : Nat → Nat → Option ρ) : Option ρ :=
  match lo with
  | none => chk (decide (0 ≤ u)) (chk (decide (u ≤ n)) (next 0 u.toNat))
  | some l => match aIx l with
    | some l => chk (decide (0 ≤ l)) (chk (decide (l ≤ u)) (chk (decide (u ≤ n)) (next l.toNat u.toNat)))
    | none => none
theorem bounds_par1 {n u : Int} {lo : Option AV} {next : Nat → Nat → Option ρ} {r : ρ} (h : bnd n u lo next = some r) : ∃ l m, next l m = some r ∧ ∀ (ρ' : Type) (next' : Nat → Nat → Option ρ'), bnd n u lo next' = next' l m := by
  unfold bnd at h
  cases lo with
  | none =>
    dsimp only at h
    obtain ⟨h1, hu⟩ := chk_some h
    obtain ⟨h2, hu⟩ := chk_some hu
    exact ⟨_, _, hu, fun _ _ => chk_to h1 (chk_to h2 rfl)⟩
  | some l =>
    dsimp only at h
    cases hl : aIx l with
    | none => rw [hl] at h; cases h
    | some k =>
      rw [hl] at h
      dsimp only at h
      obtain ⟨h1, hu⟩ := chk_some h
      obtain ⟨h2, hu⟩ := chk_some hu
      obtain ⟨h3, hu⟩ := chk_some hu
      exact ⟨_, _, hu, fun _ _ => by unfold bnd; dsimp only; rw [hl]; exact chk_to h1 (chk_to h2 (chk_to h3 rfl))⟩
theorem aBounds_par {n : Int} {lo hi : Option AV} {next : Nat → Nat → Option ρ} {r : ρ} (h : aBounds n lo hi next = some r) : ∃ l m, next l m = some r ∧ ∀ (ρ' : Type) (next' : Nat → Nat → Option ρ'), aBounds n lo hi next' = next' l m := by
  cases hi with
  | none =>
    obtain ⟨l, m, h1, h2⟩ := bounds_par1 (show bnd n n lo next = some r from h)
    exact ⟨l, m, h1, h2⟩
  | some m =>
    have e : ∀ {ρ' : Type} (nx : Nat → Nat → Option ρ'), aBounds n lo (some m) nx = (match aIx m with | some u => bnd n u lo nx | none => none) := fun _ => rfl
    rw [e] at h
    cases hm : aIx m with
    | none => rw [hm] at h; cases h
    | some k =>
      rw [hm] at h
      obtain ⟨l, m', h1, h2⟩ := bounds_par1 (show bnd n k lo next = some r from h)
      exact ⟨l, m', h1, fun ρ' next' => by rw [e, hm]; exact h2 ρ' next'⟩
theorem dSlice_par {E : Env} {T : Nat} {x : AV} {lo hi : Option AV} {next : AV → Option ρ} {r : ρ} (h : dSlice E T x lo hi next = some r) : ∃ v, next v = some r ∧ ∀ (ρ' : Type) (next' : AV → Option ρ'), dSlice E T x lo hi next' = next' v := by
  unfold dSlice at h
  split at h
  · split at h
    · rename_i hT
      obtain ⟨l, m, h1, h2⟩ := aBounds_par h
      exact ⟨_, h1, fun _ _ => by unfold dSlice; simp only [hT]; rw [h2]⟩
    · cases h
  · split at h
    · rename_i hT
      obtain ⟨h0, h⟩ := chk_some h
      obtain ⟨l, m, h1, h2⟩ := aBounds_par h
      exact ⟨_, h1, fun _ _ => by unfold dSlice; simp only [hT]; refine chk_to h0 ?_; rw [h2]⟩
    · cases h
  · cases h
theorem dApp2_par {t : Ty} {d : Nat} {y : AV} {xs : List t.den} {dp cn : Bool} {next : AV → List (Nat × Ob) → Option ρ} {r : ρ} (h : dApp2 σ t d y xs dp cn next = some r) :
    ∃ zs, next (.cv (.own d)) [(d, .row t zs dp cn)] = some r ∧ ∀ (ρ' : Type) (next' : AV → List (Nat × Ob) → Option ρ'), dApp2 σ t d y xs dp cn next' = next' (.cv (.own d)) [(d, .row t zs dp cn)] := by
  unfold dApp2 at h
  split at h
  · exact ⟨_, h, fun _ _ => by unfold dApp2; rfl⟩
  · split at h
    · rename_i hys
      obtain ⟨h0, h⟩ := chk_some h
      exact ⟨_, h, fun _ _ => by unfold dApp2; simp only [hys]; exact chk_to h0 rfl⟩
    · cases h
  · split at h
    · rename_i hc
      split at h
      · rename_i hys
        obtain ⟨h0, h⟩ := chk_some h
        exact ⟨_, h, fun _ _ => by unfold dApp2; simp only [hc, hys]; exact chk_to h0 rfl⟩
      · cases h
    · cases h
  · cases h
theorem dAppend_par {E : Env} {K : List Nat} {T d : Nat} {x y : AV} {next : AV → List (Nat × Ob) → Option ρ} {r : ρ} (h : dAppend E σ K T d x y next = some r) :
    ∃ t zs dp cn, next (.cv (.own d)) [(d, .row t zs dp cn)] = some r ∧ ∀ (ρ' : Type) (next' : AV → List (Nat × Ob) → Option ρ'), dAppend E σ K T d x y next' = next' (.cv (.own d)) [(d, .row t zs dp cn)] := by
  unfold dAppend at h
  split at h
  · rename_i hT
    obtain ⟨h0, h⟩ := chk_some h
    split at h
    · obtain ⟨zs, h1, h2⟩ := dApp2_par h
      exact ⟨_, _, _, _, h1, fun _ _ => by unfold dAppend; simp only [hT]; refine chk_to h0 ?_; rw [h2]⟩
    · obtain ⟨h3, h⟩ := chk_some h
      split at h
      · rename_i hc
        split at h
        · rename_i hxs
          obtain ⟨zs, h1, h2⟩ := dApp2_par h
          exact ⟨_, _, _, _, h1, fun _ _ => by unfold dAppend; simp only [hT, hc, hxs]; refine chk_to h0 (chk_to h3 ?_); rw [h2]⟩
        · cases h
      · cases h
    · cases h
  · cases h
theorem NewOk.mono {ks ls : List Nat} {N : List (Nat × Ob)} (h : NewOk ks N) (hs : ∀ k ∈ ks, k ∈ ls) : NewOk ls N := ⟨h.1, fun p hp => hs _ (h.2.1 p hp), h.2.2⟩
theorem NewOk.one {ks : List Nat} {d : Nat} {o : Ob} (hd : d ∈ ks) (ho : obKeys o = []) : NewOk ks [(d, o)] :=
  ⟨by simp, fun p hp => by have : p = (d, o) := by simpa using hp
                           subst this; exact hd, fun p hp => by have : p = (d, o) := by simpa using hp
                                                                subst this; exact ho⟩
theorem owns_zero : ∀ (ks : List Ty), ownsAll (ks.map zeroCell) = []
  | [] => rfl
  | k :: ks => by
    have h := owns_zero ks
    show (zeroCell k).owns ++ ownsAll (ks.map zeroCell) = []
    rw [h]; cases k <;> rfl
theorem dOp_par {E : Env} {ck : (fi : Fi) → Aden fi.ps → Option (Oden (flatRs fi.rs) (ioOf fi.ps))} {K : List Nat} {o : Oper} {next : AV → List (Nat × Ob) → Option ρ} {r : ρ} (h : dOp E σ ck K o next = some r) :
    ∃ v N, next v N = some r ∧ NewOk (opKeys E o ++ K) N ∧ ∀ (ρ' : Type) (next' : AV → List (Nat × Ob) → Option ρ'), dOp E σ ck K o next' = next' v N := by
  have h' := h
  unfold dOp at h
  cases ho : o.op with
  | move x => rw [ho] at h; exact par_put h fun _ _ => by unfold dOp; rw [ho]
  | assign x => rw [ho] at h; exact par_put h fun _ _ => by unfold dOp; rw [ho]
  | pick c x y =>
    rw [ho] at h
    dsimp only at h
    split at h
    · rename_i b hb
      cases b with
      | true => exact par_put h fun _ _ => by unfold dOp; rw [ho]; simp only [hb]; rfl
      | false => exact par_put h fun _ _ => by unfold dOp; rw [ho]; simp only [hb]; rfl
    · cases h
  | load T x =>
    rw [ho] at h
    obtain ⟨v, h1, h2⟩ := dLoad_par h
    exact par_put h1 fun _ _ => by unfold dOp; rw [ho]; exact h2 _ _
  | nilCheck x =>
    rw [ho] at h
    dsimp only at h
    split at h
    · rename_i hb; exact par_put h fun _ _ => by unfold dOp; rw [ho]; simp only [hb]
    · rename_i hb; exact par_put h fun _ _ => by unfold dOp; rw [ho]; simp only [hb]
    · rename_i hb; exact par_put h fun _ _ => by unfold dOp; rw [ho]; simp only [hb]
    · rename_i hb; exact par_put h fun _ _ => by unfold dOp; rw [ho]; simp only [hb]
    · cases h
  | binOp op T x y U =>
    rw [ho] at h
    obtain ⟨v, h1, h2⟩ := aBin_par h
    exact par_put h1 fun _ _ => by unfold dOp; rw [ho]; exact h2 _ _
  | unOp op T x =>
    rw [ho] at h
    dsimp only at h
    split at h
    · rename_i hb; exact par_put h fun _ _ => by unfold dOp; rw [ho]; simp only [hb]
    · cases h
  | convert S D x =>
    rw [ho] at h
    obtain ⟨v, h1, h2⟩ := aConv_par h
    exact par_put h1 fun _ _ => by unfold dOp; rw [ho]; exact h2 _ _
  | makeSlice T n c =>
    rw [ho] at h
    dsimp only at h
    split at h
    · rename_i d hd
      unfold dMake at h
      split at h
      · rename_i t n' c' hT hn hc
        obtain ⟨h1, h⟩ := chk_some h
        obtain ⟨h2, h⟩ := chk_some h
        obtain ⟨h3, h⟩ := chk_some h
        refine ⟨_, _, h, ⟨(by simp), fun p hp => ?_, fun p hp => ?_⟩, fun _ _ => ?_⟩
        · have : p = (d, Ob.row t (List.replicate n'.toNat t.dflt) true false) := by simpa using hp
          subst this
          simp [opKeys, ho, hd]
        · have : p = (d, Ob.row t (List.replicate n'.toNat t.dflt) true false) := by simpa using hp
          subst this
          rfl
        · unfold dOp; rw [ho]; simp only [hd]
          unfold dMake; simp only [hT, hn, hc]
          exact chk_to h1 (chk_to h2 (chk_to h3 rfl))
      · cases h
    · cases h
  | buildSlice T n ps =>
    rw [ho] at h
    dsimp only at h
    split at h
    · rename_i d hd
      unfold dBuildSlice at h
      split at h
      · rename_i t hT
        split at h
        · rename_i xs hp
          obtain ⟨h1, h⟩ := chk_some h
          obtain ⟨h2, h⟩ := chk_some h
          refine ⟨_, _, h, ⟨(by simp), fun p hp => ?_, fun p hp => ?_⟩, fun _ _ => ?_⟩
          · have : p = (d, Ob.row t xs true false) := by simpa using hp
            subst this
            simp [opKeys, ho, hd]
          · have : p = (d, Ob.row t xs true false) := by simpa using hp
            subst this
            rfl
          · unfold dOp; rw [ho]; simp only [hd]
            unfold dBuildSlice; simp only [hT, hp]
            exact chk_to h1 (chk_to h2 rfl)
        · cases h
      · cases h
    · cases h
  | store T x v =>
    rw [ho] at h
    dsimp only at h
    unfold dStore at h
    split at h
    · rename_i n g cs c o' hT hc hx
      obtain ⟨h1, h⟩ := chk_some h
      split at h
      · rename_i l hl
        obtain ⟨h2, h⟩ := chk_some h
        rw [Bool.and_eq_true] at h1 h2
        exact ⟨_, _, h, NewOk.one (List.mem_append_right _ (hasB_mem.1 h1.2)) (List.isEmpty_iff.1 h2.2), fun _ _ => by
          unfold dOp; rw [ho]; dsimp only; unfold dStore; simp only [hT, hc, hx, hl]
          exact chk_to (by rw [Bool.and_eq_true]; exact h1) (chk_to (by rw [Bool.and_eq_true]; exact h2) rfl)⟩
      · cases h
    · cases h
  | alloc T =>
    rw [ho] at h
    dsimp only at h
    split at h
    · rename_i d hd
      unfold dAlloc at h
      split at h
      · rename_i t hT
        exact ⟨_, _, h, NewOk.one (by simp [opKeys, ho, hd]) (by cases t <;> rfl), fun _ _ => by unfold dOp; rw [ho]; simp only [hd]; unfold dAlloc; simp only [hT]⟩
      · rename_i ks _ hT
        exact ⟨_, _, h, NewOk.one (by simp [opKeys, ho, hd]) (owns_zero _), fun _ _ => by unfold dOp; rw [ho]; simp only [hd]; unfold dAlloc; simp only [hT]⟩
      · rename_i hT
        obtain ⟨h1, h⟩ := chk_some h
        exact ⟨_, _, h, NewOk.one (by simp [opKeys, ho, hd]) rfl, fun _ _ => by unfold dOp; rw [ho]; simp only [hd]; unfold dAlloc; simp only [hT]; exact chk_to h1 rfl⟩
      · cases h
    · cases h
  | box T x =>
    rw [ho] at h
    dsimp only at h
    split at h
    · rename_i d hd
      unfold dBox at h
      split at h
      · rename_i l hl
        obtain ⟨h1, h⟩ := chk_some h
        exact ⟨_, _, h, NewOk.one (by simp [opKeys, ho, hd]) (List.isEmpty_iff.1 h1), fun _ _ => by unfold dOp; rw [ho]; simp only [hd]; unfold dBox; simp only [hl]; exact chk_to h1 rfl⟩
      · cases h
    · cases h
  | build T ps =>
    rw [ho] at h
    dsimp only at h
    split at h
    · rename_i hT
      split at h
      · rename_i av hb
        exact par_put h fun _ _ => by unfold dOp; rw [ho]; simp only [hT, hb]
      · cases h
    · cases h
  | slice T x lo hi mx =>
    rw [ho] at h
    obtain ⟨h0, h⟩ := chk_some h
    obtain ⟨v, h1, h2⟩ := dSlice_par h
    exact par_put h1 fun _ _ => by unfold dOp; rw [ho]; refine chk_to h0 ?_; rw [h2]
  | fieldAddr T x f =>
    rw [ho] at h
    dsimp only at h
    split at h
    · rename_i hf
      obtain ⟨h1, h⟩ := chk_some h
      split at h
      · rename_i hb; exact par_put h fun _ _ => by unfold dOp; rw [ho]; simp only [hf, hb]; exact chk_to h1 rfl
      · rename_i hb; exact par_put h fun _ _ => by unfold dOp; rw [ho]; simp only [hf, hb]; exact chk_to h1 rfl
      · rename_i hb; exact par_put h fun _ _ => by unfold dOp; rw [ho]; simp only [hf, hb]; exact chk_to h1 rfl
      · cases h
    · cases h
  | field T x f =>
    rw [ho] at h
    dsimp only at h
    split at h
    · rename_i hf hb
      obtain ⟨h1, h⟩ := chk_some h
      exact par_put h fun _ _ => by unfold dOp; rw [ho]; simp only [hf, hb]; exact chk_to h1 rfl
    · cases h
  | indexAddr T x i =>
    rw [ho] at h
    dsimp only at h
    split at h
    · rename_i hi
      obtain ⟨v, h1, h2⟩ := aIndexAddr_par h
      exact par_put h1 fun _ _ => by unfold dOp; rw [ho]; simp only [hi]; exact h2 _ _
    · cases h
  | index T x i =>
    rw [ho] at h
    dsimp only at h
    split at h
    · rename_i hi
      obtain ⟨v, h1, h2⟩ := aIndexStr_par h
      exact par_put h1 fun _ _ => by unfold dOp; rw [ho]; simp only [hi]; exact h2 _ _
    · cases h
  | extract x i =>
    rw [ho] at h
    dsimp only at h
    split at h
    · rename_i hb
      split at h
      · rename_i hp; exact par_put h fun _ _ => by unfold dOp; rw [ho]; simp only [hb, hp]
      · cases h
    · cases h
  | call c =>
    rw [ho] at h
    dsimp only at h
    split at h
    · rename_i b hb
      split at h
      · rename_i x hx
        split at h
        · rename_i T ts hT
          obtain ⟨v, h1, h2⟩ := aLen_par h
          exact par_put h1 fun _ _ => by unfold dOp; rw [ho]; simp only [hb, hx, hT]; exact h2 _ _
        · cases h
      · rename_i x y hx
        split at h
        · rename_i T U hT
          split at h
          · rename_i d hd
            obtain ⟨h0, h⟩ := chk_some h
            obtain ⟨t, zs, dp, cn, h1, h2⟩ := dAppend_par h
            refine ⟨_, _, h1, ⟨(by simp), fun p hp => ?_, fun p hp => ?_⟩, fun _ _ => ?_⟩
            · have : p = (d, Ob.row t zs dp cn) := by simpa using hp
              subst this
              simp [opKeys, ho, hd, hb]
            · have : p = (d, Ob.row t zs dp cn) := by simpa using hp
              subst this
              rfl
            · unfold dOp; rw [ho]; simp only [hb, hx, hT, hd]; refine chk_to h0 ?_; rw [h2]
          · cases h
        · cases h
      · split at h
        · rename_i hm; exact par_put h fun _ _ => by unfold dOp; rw [ho]; simp only [hb, hm]
        · cases h
      · split at h
        · rename_i hm; exact par_put h fun _ _ => by unfold dOp; rw [ho]; simp only [hb, hm]
        · cases h
      · cases h
    · rename_i f hf
      unfold dCall at h
      split at h
      · cases h
      · rename_i fi hfi
        split at h
        · cases h
        · rename_i xs hxs
          obtain ⟨h1, h⟩ := chk_some h
          obtain ⟨y, hy, h⟩ := Option.bind_eq_some_iff.1 h
          cases hd : o.dst with
          | none =>
            rw [hd] at h
            exact par_put h fun _ _ => by unfold dOp; rw [ho]; simp only [hf]; unfold dCall; simp only [hfi, hxs]; refine chk_to h1 ?_; simp only [hy, Option.bind_some, hd]
          | some d =>
            rw [hd] at h
            refine ⟨_, _, h, ?_, fun _ _ => ?_⟩
            · have := dCells_new (d := d) (rs := flatRs fi.rs) (j := 0) (y := Oden.res _ _ y)
              have e : opKeys E o = keysFrom d 0 (flatRs fi.rs) := by simp [opKeys, ho, hd, hf, hfi]
              rw [e]; exact this.mono fun k hk => List.mem_append_left _ hk
            · unfold dOp; rw [ho]; simp only [hf]; unfold dCall; simp only [hfi, hxs]; refine chk_to h1 ?_; simp only [hy, Option.bind_some, hd]
    · cases h
  | _ => rw [ho] at h; cases h

/-! ### states that say the same -/
structure Alike (σ τ : St) : Prop where
  sl : τ.sl = σ.sl
  ob : ∀ c, obGet τ.ob c = obGet σ.ob c
theorem Alike.refl (σ : St) : Alike σ σ := ⟨rfl, fun _ => rfl⟩
theorem Alike.SRi {τ : St} (hA : Alike σ τ) (h : SRi w0 S0 σ a w Im hd bl) : SRi w0 S0 τ a w Im hd bl := by
  refine ⟨h.below, h.sub, h.new, h.lt, h.nodef, by rw [hA.sl]; exact h.size, fun i av hi => h.slots i av (by rw [← hA.sl]; exact hi), fun c o hc => h.objs c o (by rw [← hA.ob]; exact hc), fun c o hc => h.own c o (by rw [← hA.ob]; exact hc), fun c o d p hc hd => h.apart c o d p (by rw [← hA.ob]; exact hc) (by rw [← hA.ob]; exact hd), h.io⟩
theorem Alike.SR {τ : St} (hA : Alike σ τ) (h : SR w0 S0 σ a w) : SR w0 S0 τ a w := by
  obtain ⟨Im, hd, bl, h⟩ := h
  exact ⟨Im, hd, bl, hA.SRi h⟩

/-- Nobody speaks of c. -/
structure Free (σ : St) (c : Nat) : Prop where
  sl : ∀ av ∈ σ.sl, c ∉ mkeys av
  ob : ∀ d o, obGet σ.ob d = some o → d ≠ c ∧ c ∉ obKeys o
  lt : c < 500000
theorem obGet_mem : ∀ {l : List (Nat × Ob)} {c : Nat} {o : Ob}, obGet l c = some o → (c, o) ∈ l
  | [], c, o, h => by cases h
  | (d, p) :: l, c, o, h => by
    rw [obGet_cons] at h
    by_cases e : d = c
    · simp [e] at h; subst e; subst h; simp
    · simp [e] at h; exact List.mem_cons_of_mem _ (obGet_mem h)
theorem freeB_ok {c : Nat} (h : freeB σ c = true) : Free σ c := by
  unfold freeB at h
  rw [Bool.and_eq_true, Bool.and_eq_true, List.all_eq_true, List.all_eq_true] at h
  obtain ⟨⟨h0, h1⟩, h2⟩ := h
  have h := And.intro h1 h2
  have nh : ∀ {l : List Nat}, (!hasB c l) = true → c ∉ l := fun h hm => by rw [hasB_mem.2 hm] at h; cases h
  refine ⟨fun av hav => nh (h.1 av hav), fun d o hd => ?_, blt_lt h0⟩
  have := h.2 (d, o) (obGet_mem hd)
  simp only [Bool.and_eq_true] at this
  refine ⟨fun e => ?_, nh this.2⟩
  rw [e] at this
  simp at this

theorem cvmap_kill {c : Nat} {v : CV} (h : c ∉ v.owns) : v.map (rnKill c) = v := by
  cases v with
  | own d =>
    have : d ≠ c := fun e => h (by simp [CV.owns, e])
    show (bif Nat.beq d c then CV.dead else .own d) = .own d
    rw [beqN]; simp [this]
  | _ => rfl
theorem cvsmap_kill {c : Nat} {l : List CV} (h : c ∉ ownsAll l) : l.map (CV.map (rnKill c)) = l := by
  have e : l.map (CV.map (rnKill c)) = l.map id := List.map_congr_left fun v hv => cvmap_kill fun hc => h (List.mem_flatMap.2 ⟨v, hv, hc⟩)
  rw [e, List.map_id]
theorem avmap_kill {c : Nat} {av : AV} (h : c ∉ mkeys av) : av.map (rnKill c) = av := by
  cases av with
  | cv v => show AV.cv (v.map _) = _; rw [cvmap_kill h]
  | ag l => show AV.ag (l.map _) = _; rw [cvsmap_kill h]
  | adr d o =>
    have : d ≠ c := fun e => h (by simp [mkeys, e])
    show (bif Nat.beq d c then AV.cv .dead else .adr d o) = _
    rw [beqN]; simp [this]
  | el d n i o =>
    have : d ≠ c := fun e => h (by simp [mkeys, e])
    show (bif Nat.beq d c then AV.cv .dead else .el d n i o) = _
    rw [beqN]; simp [this]
  | ref l => rfl
  | fn f l => rfl
  | tup l =>
    show AV.tup (l.map fun p => (p.1, p.2.map (CV.map (rnKill c)))) = _
    congr 1
    have e : (l.map fun p => (p.1, p.2.map (CV.map (rnKill c)))) = l.map id := List.map_congr_left fun p hp => by
      have : c ∉ ownsAll p.2 := fun hc => h (List.mem_flatMap.2 ⟨p, hp, hc⟩)
      rw [cvsmap_kill this]; rfl
    rw [e, List.map_id]
theorem obmap_kill {c : Nat} {o : Ob} (h : c ∉ obKeys o) : o.map (rnKill c) = o := by
  cases o with
  | box l => show Ob.box (l.map _) = _; rw [cvsmap_kill h]
  | hole t xs i v => show Ob.hole t xs i (v.map _) = _; rw [cvmap_kill h]
  | hol t xs i l => show Ob.hol t xs i (l.map _) = _; rw [cvsmap_kill h]
  | _ => rfl
theorem Free.new {c : Nat} (h : Free σ c) (o : Ob) : Alike (σ.new c o) { σ with ob := (c, o) :: σ.ob } := by
  refine ⟨?_, fun d => ?_⟩
  · show σ.sl = σ.sl.map (AV.map (rnKill c))
    have e : σ.sl.map (AV.map (rnKill c)) = σ.sl.map id := List.map_congr_left fun av hav => avmap_kill (h.sl av hav)
    rw [e, List.map_id]
  · show obGet ((c, o) :: σ.ob) d = obGet ((c, o) :: obMap (rnKill c) (obDel σ.ob c)) d
    rw [obGet_cons, obGet_cons, obGet_map, obGet_del]
    by_cases e : c = d
    · simp [e]
    · simp only [e, if_false, Ne.symm e]
      cases hd : obGet σ.ob d with
      | none => rfl
      | some p => simp only [Option.map_some]; rw [obmap_kill (h.ob d p hd).2]
theorem Free.more {c : Nat} (h : Free σ c) {N : List (Nat × Ob)} (hN : ∀ p ∈ N, p.1 ≠ c ∧ c ∉ obKeys p.2) : Free { σ with ob := N ++ σ.ob } c := by
  refine ⟨h.sl, fun d o hd => ?_, h.lt⟩
  induction N with
  | nil => exact h.ob d o hd
  | cons p N ih =>
    obtain ⟨e, q⟩ := p
    have hd' : obGet ((e, q) :: (N ++ σ.ob)) d = some o := hd
    rw [obGet_cons] at hd'
    by_cases k : e = d
    · simp [k] at hd'; subst hd'; subst k; exact hN (e, q) (by simp)
    · simp [k] at hd'; exact ih (fun p hp => hN p (by simp [hp])) hd'

/-! ### what an operation does -/
def DoesTo {gw : Gw} (w0 : Base gw) (S0 : Nat → Prop) (σ : St) (next : AV → List (Nat × Ob) → Option ρ) (r : ρ) (dst : Option Nat) (a : Act) (w : World) : Prop := ∃ v N, next v N = some r ∧ SR w0 S0 (σ.add dst v N) a w

theorem does_put {o : Oper} {next : AV → List (Nat × Ob) → Option ρ} {r : ρ} (h : SRi w0 S0 σ a w Im hd bl) {v : Value} {av : AV} (hv : AVR w Im hd v av)
    (hr : (execOp a.eval o).run P w = .ok (.value v) w) (hn : next av [] = some r) : o.wp P a w (DoesTo w0 S0 σ next r o.dst) Q :=
  wp_value hr ⟨_, _, hn, Im, hd, bl, h.put o.dst hv⟩

theorem dLoad_aLoad {E : Env} {T : Nat} {x : AV} {next : AV → Option ρ} {r : ρ} (hn : dLoad E σ T x next = some r) : aLoad E σ T x (fun τ av => (next av).map fun r => (r, τ)) = some (r, σ) := by
  unfold dLoad at hn
  unfold aLoad
  split at hn
  · cases hn
  · split at hn
    · split at hn
      · obtain ⟨h1, h2⟩ := chk_some hn; refine chk_to h1 ?_; simp only [h2]; rfl
      · cases hn
    · obtain ⟨h1, h2⟩ := chk_some hn; refine chk_to h1 ?_; simp only [h2]; rfl
    · split at hn
      · obtain ⟨h1, h2⟩ := chk_some hn
        obtain ⟨h3, h4⟩ := chk_some h2
        rw [Bool.and_eq_true] at h1
        refine chk_to h1.1 (chk_to h3 ?_)
        simp only [h1.2, cond_true, h4]; rfl
      · obtain ⟨h1, h2⟩ := chk_some hn
        obtain ⟨h3, h4⟩ := chk_some h2
        refine chk_to h1 (chk_to h3 ?_)
        simp only [h4]; rfl
      · cases hn
    · cases hn
theorem dLoad_ok {E : Env} (hE : ∀ T ti, E.ty T = some ti → TyOk P T ti) (h : SRi w0 S0 σ a w Im hd bl) {T : Nat} {x : AV} {v : Value} (hx : AVR w Im hd v x)
    {next : AV → Option ρ} {r : ρ} (hn : dLoad E σ T x next = some r) : ∃ u av Im' bl', (Instr.loadAt T v).run P w = .ok u w ∧ SRi w0 S0 σ a w Im' hd bl' ∧ AVR w Im' hd u av ∧ next av = some r := by
  obtain ⟨u, τ, av, Im', bl', h1, h2, h3, h4⟩ := aLoad_ok hE h hx (dLoad_aLoad hn)
  obtain ⟨r', h5, h6⟩ := Option.map_eq_some_iff.1 h4
  cases h6
  exact ⟨u, av, Im', bl', h1, h2, h3, h5⟩

theorem dOne_ok (h : SRi w0 S0 σ a w Im hd bl) {dst j : Nat} {c : RC} {x : c.t.den} {v : Value} {L M : List Nat} (hv : RCR w Im v L c x) (hn : (L ++ M).Nodup) (hL : ∀ b ∈ L ++ M, w0.mine b ∧ b < w.heap.size ∧ ¬ Im b)
    (hf : ∀ k p, obGet σ.ob k = some p → ∀ b ∈ bl k, b ∉ L ++ M) (hfree : ∀ k ∈ (match c with | ⟨.slice _, some _⟩ => [dst + 1000 * j] | ⟨.pair _ _, some _⟩ => [dst + 1000 * j] | _ => []), Free σ k) :
    ∃ hd' bl', SRi w0 S0 { σ with ob := (dOne dst j c x).2 ++ σ.ob } a w Im hd' bl' ∧ CVs w Im hd' [v] (dOne dst j c x).1 ∧ (∀ d, d ≠ dst + 1000 * j → hd' d = hd d) ∧
      (∀ k p, obGet ((dOne dst j c x).2 ++ σ.ob) k = some p → ∀ b ∈ bl' k, b ∉ M) ∧ (∀ e ∈ (dOne dst j c x).1, ∀ k ∈ e.owns, k = dst + 1000 * j) := by
  obtain ⟨hd', bl', h1, h2, h3, h4, h5⟩ := putOne_ok h (dst := dst) (j := j) (x := x) hv hn hL hf (fun k hk => (hfree k hk).lt)
  obtain ⟨t, o⟩ := c
  have plain : ∀ (t : Ty) (y : t.den), SRi w0 S0 (σ, [CV.val t y]).1 a w Im hd' bl' → SRi w0 S0 { σ with ob := [] ++ σ.ob } a w Im hd' bl' := fun t y h => h
  cases t with
  | int k => exact ⟨hd', bl', h1, h2, h3, h4, h5⟩
  | bool => exact ⟨hd', bl', h1, h2, h3, h4, h5⟩
  | str => exact ⟨hd', bl', h1, h2, h3, h4, h5⟩
  | pair s t =>
    cases o with
    | none => exact ⟨hd', bl', h1, h2, h3, h4, h5⟩
    | some dn =>
      refine ⟨hd, bl, h, ⟨trivial, trivial⟩, fun _ _ => rfl, fun k p hk b hb hM => hf k p hk b hb (by simp [hM]), fun e he k hk => ?_⟩
      have he' : e = .dead := by simpa [dOne] using he
      subst he'
      cases hk
  | set => exact ⟨hd', bl', h1, h2, h3, h4, h5⟩
  | err => exact ⟨hd', bl', h1, h2, h3, h4, h5⟩
  | slice t =>
    cases o with
    | none => exact ⟨hd', bl', h1, h2, h3, h4, h5⟩
    | some dn =>
      obtain ⟨d, n⟩ := dn
      have hF := hfree (dst + 1000 * j) (by simp)
      have hA := hF.new (.row t x d n)
      refine ⟨hd', bl', hA.SRi h1, h2, h3, fun k p hk => ?_, h5⟩
      have hk' : obGet ({ σ with ob := (dst + 1000 * j, Ob.row t x d n) :: σ.ob } : St).ob k = some p := hk
      rw [hA.ob] at hk'
      exact h4 k p hk'

theorem dCells_ok {dst : Nat} : ∀ {rs : List RC} {j : Nat} {σ : St} {hd : Nat → Value} {bl : Nat → List Nat} {y : Rden rs} {vs : List Value} {L : List Nat}, SRi w0 S0 σ a w Im hd bl → RCs w Im vs L rs y → L.Nodup →
    (∀ b ∈ L, w0.mine b ∧ b < w.heap.size ∧ ¬ Im b) → (∀ k p, obGet σ.ob k = some p → ∀ b ∈ bl k, b ∉ L) → (∀ c ∈ keysFrom dst j rs, Free σ c) →
    ∃ hd' bl', SRi w0 S0 { σ with ob := (dCells dst j rs y).2 ++ σ.ob } a w Im hd' bl' ∧ CVs w Im hd' vs (dCells dst j rs y).1 ∧ (∀ d, (∀ i, j ≤ i → d ≠ dst + 1000 * i) → hd' d = hd d)
  | [], j, σ, hd, bl, y, vs, L, h, hr, hn, hL, hf, hk => by
    match vs, hr with
    | [], hr => exact ⟨hd, bl, h, trivial, fun _ _ => rfl⟩
    | [_], hr => cases hr
    | _ :: _ :: _, hr => cases hr
  | [c], j, σ, hd, bl, y, vs, L, h, hr, hn, hL, hf, hk => by
    match vs, hr with
    | [], hr => cases hr
    | [v], hr =>
      obtain ⟨hd', bl', h1, h2, h3, _, _⟩ := dOne_ok h (dst := dst) (j := j) (x := y) (M := []) hr (by simpa using hn) (by simpa using hL) (by simpa using hf) (fun k hm => hk k (List.mem_append.2 (.inl hm)))
      exact ⟨hd', bl', h1, h2, fun d hd => h3 d (hd j (Nat.le_refl _))⟩
    | _ :: _ :: _, hr => cases hr
  | c :: d :: r, j, σ, hd, bl, y, vs, L, h, hr, hn, hL, hf, hk => by
    match vs, hr with
    | [], hr => cases hr
    | [v], hr => cases hr
    | v :: u :: vs, hr =>
      obtain ⟨L1, L2, rfl, hv, hr⟩ := hr
      obtain ⟨hd', bl', h1, h2, h3, h4, h5⟩ := dOne_ok h (dst := dst) (j := j) (x := y.1) (M := L2) hv hn hL hf (fun k hm => hk k (List.mem_append.2 (.inl hm)))
      rw [List.nodup_append] at hn
      obtain ⟨hd2, bl2, k1, k2, k3⟩ := dCells_ok (j := j + 1) h1 hr hn.2.1 (fun b hb => hL b (by simp [hb])) h4 (fun k hm => by
        have hF := hk k (List.mem_append.2 (.inr hm))
        refine hF.more fun p hp => ?_
        obtain ⟨i, hi, e⟩ := keysFrom_ge hm
        have := dOne_new p hp
        refine ⟨by omega, by rw [this.2.2]; simp⟩)
      refine ⟨hd2, bl2, ?_, ?_, fun e he => ?_⟩
      · have e : (dCells dst j (c :: d :: r) y).2 ++ σ.ob = (dCells dst (j + 1) (d :: r) y.2).2 ++ ((dOne dst j c y.1).2 ++ σ.ob) := List.append_assoc _ _ _
        rw [e]; exact k1
      · show CVs w Im hd2 ([v] ++ (u :: vs)) (_ ++ _)
        refine CVs.app (CVs.rehead (fun e he k hk => ?_) h2) k2
        refine k3 k (fun i hi => ?_)
        have := h5 e he k hk
        omega
      · rw [k3 e (fun i hi => he i (by omega)), h3 e (he j (Nat.le_refl _))]

theorem pcRC_nil : ∀ {cs : List PC} {l : List CV}, pcRC cs = [] → cellKeys cs l = []
  | [], l, _ => by cases l <;> rfl
  | .v t :: r, [], _ => rfl
  | .v t :: r, c :: l, h => by
    have : cellKeys (.v t :: r) (c :: l) = cellKeys r l := by cases c <;> rfl
    rw [this]; exact pcRC_nil (cs := r) h
  | .o t d :: r, l, h => by cases h
theorem ioOf_nil : ∀ {ps : List PT} {avs : List AV}, ioOf ps = [] → argKeys ps avs = []
  | [], avs, _ => by cases avs <;> rfl
  | .v _ _ :: r, [], _ => rfl
  | .r _ :: r, [], _ => rfl
  | .z _ :: r, [], _ => rfl
  | .fn _ _ :: r, [], _ => rfl
  | .o _ _ :: r, [], _ => rfl
  | .p _ _ :: r, _, h => by cases h
  | .v _ _ :: r, a :: l, h => ioOf_nil (ps := r) h
  | .r _ :: r, a :: l, h => ioOf_nil (ps := r) h
  | .z _ :: r, a :: l, h => ioOf_nil (ps := r) h
  | .fn _ _ :: r, a :: l, h => ioOf_nil (ps := r) h
  | .o cs agg :: r, a :: l, h => by
    have h' : pcRC cs ++ ioOf r = [] := h
    rw [List.append_eq_nil_iff] at h'
    show cellKeys cs (avCells a) ++ argKeys r l = []
    rw [pcRC_nil h'.1, ioOf_nil (ps := r) h'.2]; rfl
theorem RCs_none {w : World} {S : Nat → Prop} {M : List Nat} : ∀ {ios : List RC} {z : Rden ios}, RCs w S [] M ios z → M = []
  | [], _, h => h
  | [_], _, h => h.elim
  | _ :: _ :: _, _, h => h.elim
theorem dCall_ok {E : Env} {ck : (fi : Fi) → Aden fi.ps → Option (Oden (flatRs fi.rs) (ioOf fi.ps))} (hG : ∀ f ids fi, E.fn f ids = some fi → ∀ x y, ck fi x = some y → Gives P gw f fi x y) (h : SRi w0 S0 σ a w Im hd bl) {o : Oper} {f : Nat} {vs : List Value} {avs : List AV}
    (hv : AVs w Im hd vs avs) (hr : (execOp a.eval o).run P w = (callFunc f vs.toArray).run P w) (hfree : ∀ fi d, E.fn f [] = some fi → o.dst = some d → ∀ c ∈ keysFrom d 0 (flatRs fi.rs), Free σ c)
    {next : AV → List (Nat × Ob) → Option ρ} {r : ρ} (hn : dCall E σ ck f o.dst avs next = some r) : o.wp P a w (DoesTo w0 S0 σ next r o.dst) Q := by
  unfold dCall at hn
  split at hn
  · cases hn
  · rename_i fi hf
    split at hn
    · cases hn
    · rename_i xs hx
      obtain ⟨him0, hn⟩ := chk_some hn
      obtain ⟨y, hy, hn⟩ := Option.bind_eq_some_iff.1 hn
      rw [Bool.and_eq_true, Bool.and_eq_true, Bool.not_eq_true'] at him0
      have hio : ioOf fi.ps = [] := by simpa using him0.1.2
      have hgift : fi.gift = false := him0.1.1
      have him := him0.2
      obtain ⟨H, hargs, _, hheads⟩ := toArgsO_ok h hv hx
      rw [ioOf_nil hio] at hargs hheads
      have hH : H = [] := by cases H with | nil => rfl | cons v H => exact hheads.elim
      subst hH
      -- what is read
      obtain ⟨S, hS, hlt, hargs'⟩ : ∃ S : Nat → Prop, (immB fi.rs = true → ∀ b, S b ↔ Im b) ∧ (∀ b, S b → b < w.heap.size) ∧ ArgsO w S vs (blks bl []) [] fi.ps xs := by
        have hrd : ∀ k ∈ rdOwns fi.ps avs, k ∈ argOwns avs := by
          have : ∀ (ps : List PT) (avs : List AV), ∀ k ∈ rdOwns ps avs, k ∈ argOwns avs := by
            intro ps
            induction ps with
            | nil => intro avs k hk; cases avs <;> cases hk
            | cons p ps ih =>
              intro avs k hk
              cases avs with
              | nil => cases p <;> cases hk
              | cons v avs =>
                rw [rdOwns_cons] at hk
                rcases List.mem_append.1 hk with hk | hk
                · refine List.mem_flatMap.2 ⟨v, by simp, ?_⟩
                  cases p <;> simp [rdOwns] at hk <;> exact hk
                · obtain ⟨u, hu, hk⟩ := List.mem_flatMap.1 (ih avs k hk)
                  exact List.mem_flatMap.2 ⟨u, by simp [hu], hk⟩
          exact this _ _
        cases hi : immB fi.rs with
        | true =>
          rw [hi] at him
          have hemp : argOwns avs = [] := by simpa using him
          refine ⟨Im, fun _ b => Iff.rfl, h.lt, ArgsO.mono (fun b hb => ?_) hargs⟩
          rcases hb with hb | ⟨k, hk, _⟩
          · exact hb
          · have := hrd k hk; rw [hemp] at this; cases this
        | false =>
          refine ⟨_, (fun e => by cases e), (fun b hb => ?_), hargs⟩
          rcases hb with hb | ⟨k, hk, ⟨t, hg, _⟩, hb⟩
          · exact h.lt b hb
          · exact h.block_lt hg b hb
      let C : Base gw := ⟨w, fun b => w.heap.size ≤ b, fun _ h => h, fun w' hw' => w0.hg w' (KeptW.trans h.below hw' (fun b hb => Kept.fresh h.below hb)), []⟩
      refine ((hG f _ fi hf xs y hy).o hgift C S vs [] [] hlt List.nodup_nil (fun b hb => by cases hb) rfl hargs').wp hr fun v w' hh => ?_
      obtain ⟨hbel, hres⟩ := hh
      obtain ⟨S', us, L, M, rfl, s1, s2, s3, s4, s5, s6⟩ := hres
      have hM := RCs_none s6
      subst hM
      rw [List.append_nil] at s3 s4
      have hsz := hbel.size
      have h' : SRi w0 S0 σ a w' Im hd bl := h.world (fun b hb => hbel.block b hb (fun hc => Nat.lt_irrefl _ (Nat.lt_of_lt_of_le hb hc))) hsz (KeptW.trans h.below hbel (fun b hb => Kept.fresh h.below hb))
      cases hd1 : o.dst with
      | none =>
        rw [hd1] at hn
        exact ⟨_, _, hn, Im, hd, bl, h'⟩
      | some d =>
        rw [hd1] at hn
        obtain ⟨Im', g1, g2, g3⟩ : ∃ Im', SRi w0 S0 σ a w' Im' hd bl ∧ RCs w' Im' us L (flatRs fi.rs) (Oden.res _ _ y) ∧ (∀ b ∈ L, ¬ Im' b) := by
          cases hi : immB fi.rs with
          | true =>
            refine ⟨S', h'.widen (fun b hb => s1 b ((hS hi b).2 hb)) (fun b hb => ?_) (fun b hb => ?_) (fun c o hc b hb hb2 => ?_), s5, fun b hb => (s4 b hb).2.2⟩
            · rcases s2 b hb with h3 | h3
              · exact h.new b ((hS hi b).1 h3)
              · exact .inr (Kept.fresh h.below h3.1)
            · rcases s2 b hb with h3 | h3
              · have := h.lt b ((hS hi b).1 h3); have : w.heap.size ≤ w'.heap.size := hsz; omega
              · exact h3.2
            · rcases s2 b hb2 with h3 | h3
              · exact ((h.own c o hc).2 b hb).2.2 ((hS hi b).1 h3)
              · have h5 : w.heap.size ≤ b := h3.1
                have := ((h.own c o hc).2 b hb).2.1; omega
          | false =>
            exact ⟨Im, h', s5.quiet hi (fun _ _ => rfl), fun b hb hI => by have := h.lt b hI; have h5 : w.heap.size ≤ b := (s4 b hb).1; omega⟩
        obtain ⟨hd', bl', k1, k2, _⟩ := dCells_ok (dst := d) (j := 0) g1 g2 s3 (fun b hb => ⟨Kept.fresh h.below (s4 b hb).1, (s4 b hb).2.1, g3 b hb⟩) (fun k p hp b hb hbL => by
          have := h.block_lt hp b hb
          have h5 : w.heap.size ≤ b := (s4 b hbL).1
          omega) (hfree fi d hf hd1)
        exact ⟨_, _, hn, Im', hd', bl', k1.put (some d) (ofParts_ok (cutParts_PRs k2))⟩

theorem fresh_does {d : Nat} (hF : Free σ d) {o : Oper} (hd1 : o.dst = some d) {ob : Ob} {av : AV} {next : AV → List (Nat × Ob) → Option ρ} {r : ρ} (hn : next av [(d, ob)] = some r)
    (hw : o.wp P a w (Goes w0 S0 (fun τ => some τ) ((σ.new d ob).put (some d) av)) Q) : o.wp P a w (DoesTo w0 S0 σ next r o.dst) Q := by
  refine Oper.wp_mono (fun a' w' hg => ?_) hw
  obtain ⟨τ, e1, hs⟩ := hg
  cases e1
  refine ⟨_, _, hn, ?_⟩
  rw [hd1]
  have hA := hF.new ob
  refine Alike.SR (σ := (σ.new d ob).put (some d) av) ⟨?_, fun k => hA.ob k⟩ hs
  show slSet σ.sl d _ = slSet (σ.new d _).sl d _
  rw [← hA.sl]

theorem dOp_ok0 {E : Env} (hE : ∀ T ti, E.ty T = some ti → TyOk P T ti) {ck : (fi : Fi) → Aden fi.ps → Option (Oden (flatRs fi.rs) (ioOf fi.ps))} (hG : ∀ f ids fi, E.fn f ids = some fi → ∀ x y, ck fi x = some y → Gives P gw f fi x y)
    (h : SRi w0 S0 σ a w Im hd bl) {o : Oper} (hna : (∀ c, o.op = .call c → c.callee ≠ .builtin .append) ∧ ∀ T x v, o.op ≠ .store T x v) (hfree : ∀ c ∈ opKeys E o, Free σ c) {K : List Nat} {next : AV → List (Nat × Ob) → Option ρ} {r : ρ} (hn : dOp E σ ck K o next = some r) : o.wp P a w (DoesTo w0 S0 σ next r o.dst) Q := by
  unfold dOp at hn
  cases ho : o.op with
  | move x =>
    rw [ho] at hn
    exact does_put h (h.ev x) (by simp [execOp, ho]) hn
  | assign x =>
    rw [ho] at hn
    exact does_put h (h.ev x) (by simp [execOp, ho]) hn
  | pick c x y =>
    rw [ho] at hn
    dsimp only at hn
    split at hn
    · rename_i b hb
      have hc := h.ev c
      rw [hb] at hc
      have ec := bool_of hc
      cases b with
      | true => exact does_put h (h.ev x) (by simp [execOp, ho, ec, asBool]) hn
      | false => exact does_put h (h.ev y) (by simp [execOp, ho, ec, asBool]) hn
    · cases hn
  | load T x =>
    rw [ho] at hn
    obtain ⟨u, av, Im', bl', h1, h2, h3, h4⟩ := dLoad_ok hE h (h.ev x) hn
    exact does_put h2 h3 (by simp [execOp, ho, h1]) h4
  | nilCheck x =>
    rw [ho] at hn
    dsimp only at hn
    have hx := h.ev x
    split at hn
    · rename_i c o' he
      rw [he] at hx
      obtain ⟨b, e1, e2⟩ := hx
      exact does_put h (av := .adr c o') ⟨b, e1, rfl⟩ (by simp [execOp, ho, e2]) hn
    · rename_i c n i o' he
      rw [he] at hx
      obtain ⟨b, f1, e1, e2⟩ := hx
      exact does_put h (av := .el c n i o') ⟨b, f1, e1, rfl⟩ (by simp [execOp, ho, e2]) hn
    · rename_i l he
      rw [he] at hx
      have hx' := hx
      obtain ⟨pl, b, o', vs, hb, e2, _⟩ := hx
      exact does_put h hx' (by simp [execOp, ho, e2]) hn
    · rename_i f l he
      rw [he] at hx
      have hx' := hx
      obtain ⟨ps, e1, _⟩ := hx
      exact does_put h hx' (by simp [execOp, ho, e1]) hn
    · cases hn
  | binOp op T x y U =>
    rw [ho] at hn
    obtain ⟨v, av, h1, h2, h3⟩ := aBin_ok hE h (X := x) (Y := y) (h.ev x) (h.ev y) hn
    refine does_put h h2 ?_ h3
    have e : execOp a.eval o = (do let u ← (do eqGuard op T x y (a.eval x) (a.eval y); Go.binOp op T (a.eval x) (a.eval y) : Sem Value); pure (Next.value u)) := by unfold execOp; rw [ho]
    rw [e, Sem.run_bind, h1]
    rfl
  | unOp op T x =>
    rw [ho] at hn
    dsimp only at hn
    split at hn
    · rename_i av hav
      obtain ⟨u, h1, h2⟩ := aUn_ok (P := P) (h.ev x) hav
      exact does_put h h2 (by simp [execOp, ho, h1]) hn
    · cases hn
  | convert S D x =>
    rw [ho] at hn
    obtain ⟨u, av, h1, h2, h3⟩ := aConv_ok hE h (h.ev x) hn
    exact does_put h h2 (by simp [execOp, ho, h1]) h3
  | makeSlice T n c =>
    rw [ho] at hn
    dsimp only at hn
    split at hn
    · rename_i d hd1
      have hF := hfree d (by simp [opKeys, ho, hd1])
      unfold dMake at hn
      split at hn
      · rename_i t n' c' hT hn' hc'
        obtain ⟨h1, hn⟩ := chk_some hn
        obtain ⟨h2, hn⟩ := chk_some hn
        obtain ⟨h3, hn⟩ := chk_some hn
        have hmk : aMakeSlice E σ T d (σ.ev n) (σ.ev c) (fun τ => some τ) = some ((σ.new d (.row t (List.replicate n'.toNat t.dflt) true false)).put (some d) (.cv (.own d))) := by
          unfold aMakeSlice
          simp only [hT, hn', hc']
          exact chk_to h1 (chk_to h2 (chk_to h3 rfl))
        refine Oper.wp_mono (fun a' w' hg => ?_) (aMakeSlice_ok (Q := Q) hE h ho hd1 hF.lt hmk)
        obtain ⟨τ, e1, hs⟩ := hg
        cases e1
        refine ⟨_, _, hn, ?_⟩
        rw [hd1]
        have hA := hF.new (.row t (List.replicate n'.toNat t.dflt) true false)
        refine Alike.SR (σ := (σ.new d (.row t (List.replicate n'.toNat t.dflt) true false)).put (some d) (.cv (.own d))) ⟨?_, fun k => hA.ob k⟩ hs
        show slSet σ.sl d _ = slSet (σ.new d _).sl d _
        rw [← hA.sl]
      · cases hn
    · cases hn
  | buildSlice T n ps =>
    rw [ho] at hn
    dsimp only at hn
    split at hn
    · rename_i d hd1
      have hF := hfree d (by simp [opKeys, ho, hd1])
      unfold dBuildSlice at hn
      split at hn
      · rename_i t hT
        split at hn
        · rename_i xs hp
          obtain ⟨h1, hn⟩ := chk_some hn
          obtain ⟨h2, hn⟩ := chk_some hn
          obtain ⟨l, hl1, hl2, hl3⟩ : ∃ l, aParts σ t n 0 (ps.toList.map fun p => (p.1, σ.ev p.2)) = some (l, xs) ∧ ownsAll l = [] ∧ σ.treeB l = true := by
            rw [Bool.or_eq_true] at h1
            rcases h1 with h1 | h1
            · exact dParts_aParts (σ := σ) h1 hp
            · rw [List.isEmpty_iff.1 h1] at hp ⊢
              unfold dParts at hp
              cases hb : Nat.beq 0 n with
              | false => rw [hb] at hp; cases hp
              | true => rw [hb] at hp; cases hp; exact ⟨[], by unfold aParts; rw [hb]; rfl, rfl, rfl⟩
          have htree : σ.treeB l = true := hl3
          have hmk : aBuildSlice E σ T d n (ps.toList.map fun p => (p.1, σ.ev p.2)) (fun τ => some τ) = some ((σ.new d (.row t xs true false)).put (some d) (.cv (.own d))) := by
            unfold aBuildSlice
            simp only [hT, hl1, htree, hl2]
            exact chk_to h2 rfl
          refine Oper.wp_mono (fun a' w' hg => ?_) (aBuildSlice_ok (Q := Q) hE h ho hd1 hF.lt hmk)
          obtain ⟨τ, e1, hs⟩ := hg
          cases e1
          refine ⟨_, _, hn, ?_⟩
          rw [hd1]
          have hA := hF.new (.row t xs true false)
          refine Alike.SR (σ := (σ.new d (.row t xs true false)).put (some d) (.cv (.own d))) ⟨?_, fun k => hA.ob k⟩ hs
          show slSet σ.sl d _ = slSet (σ.new d _).sl d _
          rw [← hA.sl]
        · cases hn
      · cases hn
    · cases hn
  | store T x v => exact absurd ho (hna.2 T x v)
  | alloc T =>
    rw [ho] at hn
    dsimp only at hn
    split at hn
    · rename_i d hd1
      have hF := hfree d (by simp [opKeys, ho, hd1])
      unfold dAlloc at hn
      split at hn
      · rename_i t hT
        exact fresh_does hF hd1 hn (aAlloc_ok (Q := Q) (next := fun τ => some τ) hE h ho hd1 hF.lt (by unfold aAlloc; simp only [hT]))
      · rename_i hT
        exact fresh_does hF hd1 hn (aAlloc_ok (Q := Q) (next := fun τ => some τ) hE h ho hd1 hF.lt (by unfold aAlloc; simp only [hT]))
      · rename_i hT
        obtain ⟨h1, hn⟩ := chk_some hn
        exact fresh_does hF hd1 hn (aAlloc_ok (Q := Q) (next := fun τ => some τ) hE h ho hd1 hF.lt (by unfold aAlloc; simp only [hT]; exact chk_to h1 rfl))
      · cases hn
    · cases hn
  | box T x =>
    rw [ho] at hn
    dsimp only at hn
    split at hn
    · rename_i d hd1
      have hF := hfree d (by simp [opKeys, ho, hd1])
      unfold dBox at hn
      split at hn
      · rename_i l hl
        obtain ⟨h1, hn⟩ := chk_some hn
        have he : ownsAll l = [] := List.isEmpty_iff.1 h1
        exact fresh_does hF hd1 hn (aBox_ok (Q := Q) (E := E) (next := fun τ => some τ) h ho hd1 hF.lt (by unfold aBox; simp only [hl]; exact chk_to (by rw [he]; rfl) rfl))
      · cases hn
    · cases hn
  | build T ps =>
    rw [ho] at hn
    dsimp only at hn
    split at hn
    · rename_i fs ks eq hT
      split at hn
      · rename_i av hb
        obtain ⟨v, h1, h2⟩ := aBuild_ok hE h hT hb
        exact does_put h h2 (by simp [execOp, ho, h1]) hn
      · cases hn
    · cases hn
  | slice T x lo hi mx =>
    rw [ho] at hn
    obtain ⟨hmx, hnn⟩ := chk_some hn
    clear hn
    have hn := hnn
    clear hnn
    have hmx' : mx = none := by simpa using hmx
    subst hmx'
    have hx := h.ev x
    have hop : ∀ {v : Value}, (Instr.sliceAt T (a.eval x) (lo.map a.eval) (hi.map a.eval) none).run P w = .ok v w → (execOp a.eval o).run P w = .ok (.value v) w := by
      intro v hv
      simp [execOp, ho, hv]
    unfold dSlice at hn
    split at hn
    · rename_i s hs
      rw [hs] at hx
      have ex := str_of hx
      split at hn
      · rename_i hT
        obtain ⟨dd, hd2, hk, _⟩ := hE T _ hT
        cases (show dd = _ from hk)
        obtain ⟨l, h', h1, h2, h3, _, h5⟩ := aBounds_of (P := P) h hn
        refine does_put h (av := .cv (.val .str (s.extract l h'))) (v := .string (s.extract l h')) svr (hop ?_) h3
        rw [ex]
        have := h5 false s.size (Nat.le_refl _)
        simp [Instr.sliceAt, Instr.slice, run_underlying hd2, this]
      · cases hn
    · rename_i t xs hs
      rw [hs] at hx
      split at hn
      · rename_i u hT
        obtain ⟨h0, hnn⟩ := chk_some hn
        obtain rfl := Ty.same_eq h0
        obtain ⟨e, hu, i, z, hi', hsz, _⟩ := kind_slice hE hT
        obtain ⟨l, h', h1, h2, h3, _, h5⟩ := aBounds_of (P := P) h hnn
        have hx' : VR w Im (.slice u) xs [a.eval x] := hx
        obtain ⟨A, cap, ev, hc, _⟩ := hx'
        simp only [List.cons.injEq, and_true] at ev
        have hr := run_cut (P := P) hu hi' (A := A) (h5 true cap hc)
        rw [← ev] at hr
        refine does_put h ?_ (hop hr) h3
        rw [hsz]
        have hx2 : VR w Im (.slice u) xs [a.eval x] := hx
        rw [ev] at hx2
        exact VR.cut hx2 h1 h2 hc
      · cases hn
    · cases hn
  | fieldAddr T x f =>
    rw [ho] at hn
    dsimp only at hn
    split at hn
    · rename_i off n agg hf
      obtain ⟨h1, hn⟩ := chk_some hn
      have h1' := Nat.le_of_ble_eq_true h1
      have hr := fun b o' => run_fieldAt (P := P) hE hf h1' b o' w
      have hx := h.ev x
      split at hn
      · rename_i c o' he
        rw [he] at hx
        obtain ⟨b, e1, e2⟩ := hx
        exact does_put h (av := .adr c (o' + off)) ⟨b, e1, rfl⟩ (by simp [execOp, ho, e2, hr]) hn
      · rename_i c m i o' he
        rw [he] at hx
        obtain ⟨b, f1, e1, e2⟩ := hx
        exact does_put h (av := .el c m i (o' + off)) ⟨b, f1, e1, rfl⟩ (by simp [execOp, ho, e2, hr, Nat.add_assoc]) hn
      · rename_i l he
        rw [he] at hx
        obtain ⟨pl, b, o', vs, hb, e2, hat, hcs⟩ := hx
        refine does_put h (av := .ref (l.drop off)) (v := .pointer (some ⟨b, o' + off, none⟩)) ⟨plain_drop pl off, b, o' + off, vs.drop off, hb, rfl, ?_, hcs.drop off⟩ (by simp [execOp, ho, e2, hr]) hn
        intro j v hj
        rw [List.getElem?_drop] at hj
        have := hat (off + j) v hj
        rwa [← Nat.add_assoc] at this
      · cases hn
    · cases hn
  | field T x f =>
    rw [ho] at hn
    dsimp only at hn
    split at hn
    · rename_i off n agg l hf he
      obtain ⟨h1, hn⟩ := chk_some hn
      have hx := h.ev x
      rw [he] at hx
      obtain ⟨vs, e1, hvs⟩ := hx
      obtain ⟨u, h2, h3⟩ := run_field (P := P) hE hf hvs (Nat.le_of_ble_eq_true h1)
      exact does_put h h3 (by simp [execOp, ho, e1, h2]) hn
    · cases hn
  | indexAddr T x i =>
    rw [ho] at hn
    dsimp only at hn
    split at hn
    · rename_i z hz
      obtain ⟨k, ek⟩ := aIx_of (h.ev i) hz
      obtain ⟨u, av, h1, h2, h3⟩ := aIndexAddr_ok (k := k) hE h (h.ev x) hn
      exact does_put h h2 (by simp [execOp, ho, ek, h1]) h3
    · cases hn
  | index T x i =>
    rw [ho] at hn
    dsimp only at hn
    split at hn
    · rename_i z hz
      obtain ⟨k, ek⟩ := aIx_of (h.ev i) hz
      obtain ⟨u, av, h1, h2, h3⟩ := aIndexStr_ok (k := k) hE (h.ev x) hn
      exact does_put h h2 (by simp [execOp, ho, ek, h1]) h3
    · cases hn
  | extract x i =>
    rw [ho] at hn
    dsimp only at hn
    split at hn
    · rename_i l he
      have hx := h.ev x
      rw [he] at hx
      obtain ⟨vs, e1, hvs⟩ := hx
      split at hn
      · rename_i p hp
        obtain ⟨v, h1, h2⟩ := hvs.get i p hp
        exact does_put h h2.avr (by simp [execOp, ho, e1, run_extract h1]) hn
      · cases hn
    · cases hn
  | call c =>
    rw [ho] at hn
    dsimp only at hn
    split at hn
    · rename_i b hb
      have hop : execOp a.eval o = (do let d ← (pure { target := .builtin b c.argTypes o.type (c.args.map fun | .const _ => true | _ => false), args := c.args.map a.eval } : Sem Deferred); invoke d.target d.args) := by
        unfold execOp; rw [ho]; simp only [resolve, hb]; rfl
      split at hn
      · rename_i x hx
        split at hn
        · rename_i T ts hT
          obtain ⟨u, av, h1, h2, h3⟩ := aLen_ok (ts := ts) (ty := o.type) hE h (h.ev x) hn
          refine does_put h h2 ?_ h3
          rw [← hT] at h1
          have hm : c.args.map a.eval = #[a.eval x] := by apply Array.ext'; simp [hx]
          rw [hop]
          simp only [Sem.run_bind, Sem.run_pure, Result.andThen_ok, invoke, builtin, hm]
          rw [Array.toArray_toList] at h1
          rw [h1]; rfl
        · cases hn
      · exact absurd hb (hna.1 c ho)
      · rename_i l
        split at hn
        · rename_i av hav
          obtain ⟨x', y', k, m, n, hl, e1, e2, rfl⟩ := aMaxMin_ok hav
          match hcl : c.args.toList, hl with
          | [x, y], hl =>
            simp only [List.map_cons, List.map_nil, List.cons.injEq, and_true] at hl
            obtain ⟨rfl, rfl⟩ := hl
            have hx := h.ev x
            have hy := h.ev y
            rw [e1] at hx
            rw [e2] at hy
            have ex := int_of hx
            have ey := int_of hy
            have hm : c.args.map a.eval = #[a.eval x, a.eval y] := by apply Array.ext'; simp [hcl]
            refine does_put h (av := .cv (.val (.int k) (if n > m then n else m))) (v := .int k (if n > m then n else m)) ivr ?_ (by simpa [cond_eq_ite] using hn)
            rw [hop]
            simp only [Sem.run_bind, Sem.run_pure, Result.andThen_ok, invoke, builtin, hm, ex, ey, run_max_int2]
        · cases hn
      · rename_i l
        split at hn
        · rename_i av hav
          obtain ⟨x', y', k, m, n, hl, e1, e2, rfl⟩ := aMaxMin_ok hav
          match hcl : c.args.toList, hl with
          | [x, y], hl =>
            simp only [List.map_cons, List.map_nil, List.cons.injEq, and_true] at hl
            obtain ⟨rfl, rfl⟩ := hl
            have hx := h.ev x
            have hy := h.ev y
            rw [e1] at hx
            rw [e2] at hy
            have ex := int_of hx
            have ey := int_of hy
            have hm : c.args.map a.eval = #[a.eval x, a.eval y] := by apply Array.ext'; simp [hcl]
            refine does_put h (av := .cv (.val (.int k) (if n < m then n else m))) (v := .int k (if n < m then n else m)) ivr ?_ (by simpa [cond_eq_ite] using hn)
            rw [hop]
            simp only [Sem.run_bind, Sem.run_pure, Result.andThen_ok, invoke, builtin, hm, ex, ey, run_min_int2]
        · cases hn
      · cases hn
    · rename_i f hf
      refine dCall_ok hG h (vs := c.args.toList.map a.eval) (AVs.evs h _) ?_ (fun fi d hfi hd => ?_) hn
      · have hop : execOp a.eval o = (do let d ← Deferred.ofValue (a.eval (.func f)) (c.args.map a.eval); invoke d.target d.args) := by
          unfold execOp; rw [ho]; simp only [resolve, hf]
        rw [hop]
        have hargs : c.args.map a.eval = (c.args.toList.map a.eval).toArray := by apply Array.ext'; simp
        simp [Act.eval, Deferred.ofValue, invoke, hargs]
      · have e : opKeys E o = keysFrom d 0 (flatRs fi.rs) := by simp [opKeys, ho, hd, hf, hfi]
        rw [e] at hfree
        exact hfree
    · cases hn
  | _ => rw [ho] at hn; cases hn

theorem SRi.lessK (h : SRi w0 S0 σ a w Im hd bl) (K : List Nat) : SRi w0 S0 { σ with ob := dels σ.ob K } a w Im hd bl :=
  h.less rfl fun d o hd => by
    have hd' : obGet (dels σ.ob K) d = some o := hd
    rw [obGet_dels] at hd'
    split at hd'
    · cases hd'
    · exact hd'
theorem addK_ob {K : List Nat} {dst : Option Nat} {v : AV} {N : List (Nat × Ob)} : (σ.addK K dst v N).ob = N ++ dels σ.ob K := by cases dst <;> rfl
theorem obGet_app : ∀ {N l : List (Nat × Ob)} {c : Nat}, obGet (N ++ l) c = match obGet N c with | some o => some o | none => obGet l c
  | [], l, c => rfl
  | (d, o) :: N, l, c => by
    rw [List.cons_append, obGet_cons, obGet_cons]
    by_cases e : d = c
    · simp [e]
    · simp only [e, if_false]; exact obGet_app
theorem add_addK {K : List Nat} {dst : Option Nat} {v : AV} {N : List (Nat × Ob)} (h : SR w0 S0 (σ.add dst v N) a w) : SR w0 S0 (σ.addK K dst v N) a w := by
  obtain ⟨Im, hd, bl, h⟩ := h
  refine ⟨Im, hd, bl, h.less (by cases dst <;> rfl) fun d o hd => ?_⟩
  rw [addK_ob, obGet_app] at hd
  have e : (σ.add dst v N).ob = N ++ σ.ob := by cases dst <;> rfl
  rw [e, obGet_app]
  cases hN : obGet N d with
  | some p => rw [hN] at hd; exact hd
  | none =>
    rw [hN] at hd
    dsimp only at hd ⊢
    rw [obGet_dels] at hd
    split at hd
    · cases hd
    · exact hd

/-- What an operation does, the objects K going. -/
def DoesK {gw : Gw} (w0 : Base gw) (S0 : Nat → Prop) (K : List Nat) (σ : St) (next : AV → List (Nat × Ob) → Option ρ) (r : ρ) (dst : Option Nat) (a : Act) (w : World) : Prop := ∃ v N, next v N = some r ∧ SR w0 S0 (σ.addK K dst v N) a w

theorem dApp2_ok {E : Env} {T e : TypeId} {t : Ty} (hf : t.flat = true) (hu : P.underlying T = some (.slice e)) (he : ElemOk P e t) {K : List Nat} (h : SRi w0 S0 σ a w Im hd bl) {xs : List t.den} {d cn : Bool} {vx : Value} {L : List Nat}
    (lo : Loose w0 { σ with ob := dels σ.ob K } w Im hd bl t xs d cn vx L) {dst : Nat} (hfree : Free σ dst) {y : AV} {vy : Value} (hy : AVR w Im hd vy y) {next : AV → List (Nat × Ob) → Option ρ} {r : ρ} (hn : dApp2 σ t dst y xs d cn next = some r) (ty : TypeId) :
    ∃ v' w', (Builtin.append_ #[T, T] ty #[vx, vy]).run P w = .ok v' w' ∧ ∃ N, next (.cv (.own dst)) N = some r ∧ ∃ Im' hd' bl', SRi w0 S0 { σ with ob := N ++ dels σ.ob K } a w' Im' hd' bl' ∧ hd' dst = v' := by
  have hk := h.lessK K
  have hfr : Free { σ with ob := dels σ.ob K } dst := ⟨hfree.sl, fun c o hc => hfree.ob c o (by
    have hc' : obGet (dels σ.ob K) c = some o := hc
    rw [obGet_dels] at hc'
    split at hc'
    · cases hc'
    · exact hc'), hfree.lt⟩
  have fin : ∀ {zs : List t.den} {w' : World} {v' : Value}, (∃ Im' hd' bl', SRi w0 S0 (St.new { σ with ob := dels σ.ob K } dst (.row t zs d cn)) a w' Im' hd' bl' ∧ hd' dst = v') →
      ∃ Im' hd' bl', SRi w0 S0 { σ with ob := [(dst, Ob.row t zs d cn)] ++ dels σ.ob K } a w' Im' hd' bl' ∧ hd' dst = v' := fun ⟨I, h1, b1, h2, h3⟩ => ⟨I, h1, b1, (hfr.new _).SRi h2, h3⟩
  unfold dApp2 at hn
  split at hn
  · have e1 : vy = .slice none 0 0 := hy
    obtain ⟨v', w', h1, h2⟩ := append_run (ys := []) hu he hk lo (vy := vy) (M := []) ⟨⟨none, 0, e1, [], by simp, rfl, by simp, fun e => (e rfl).elim⟩, List.nodup_nil, (fun b hb => by cases hb), (fun k p _ b _ hb => by cases hb), (fun b hb => by cases hb)⟩
      (fun e => (e rfl).elim) ty dst hfree.lt
    rw [List.append_nil] at h2
    exact ⟨v', w', h1, _, hn, fin h2⟩
  · rename_i u ys
    split at hn
    · rename_i ys' hys
      obtain ⟨hm, hn⟩ := chk_some hn
      have hy' : VR w Im (.slice t) ys' [vy] := as_VR hys hy
      obtain ⟨A, cap, ev, _, hr⟩ := hy'
      simp only [List.cons.injEq, and_true] at ev
      have hnews : ∃ news, news.length = ys'.length * t.sz ∧ OL t.sz (rowP w Im t d) ys' news [] ∧ (∀ u ∈ news, u.oneCell' = true) ∧ (ys' ≠ [] → ∃ b o, A = some ⟨b, o, none⟩ ∧ At w b o news) := by
        rcases hr with rfl | ⟨b, o, rfl, _, hr⟩
        · exact ⟨[], by simp, rfl, by simp, fun e => (e rfl).elim⟩
        · obtain ⟨news, n1, n2, n3, n4⟩ := rows_cells hr
          exact ⟨news, n1, OL.flatly hf (OL.unread n3), n4, fun _ => ⟨b, o, rfl, n2⟩⟩
      obtain ⟨news, n1, n2, n3, n4⟩ := hnews
      obtain ⟨v', w', h1, h2⟩ := append_run hu he hk lo (ys := ys') (vy := vy) (M := []) ⟨⟨A, cap, ev, news, n1, n2, n3, n4⟩, List.nodup_nil, (fun b hb => by cases hb), (fun k p _ b _ hb => by cases hb), (fun b hb => by cases hb)⟩
        (fun _ => of_decide_eq_true hm) ty dst hfree.lt
      exact ⟨v', w', h1, _, hn, fin h2⟩
    · cases hn
  · rename_i c
    split at hn
    · rename_i u ys e' n' hc
      split at hn
      · rename_i ys' hys
        obtain ⟨ee, rfl⟩ := as_some hys
        cases ee
        obtain ⟨hm, hn⟩ := chk_some hn
        have hvy : vy = hd c := hy
        obtain ⟨A, k, ev, news, Li, n1, n2, n3, n4, _, _⟩ := (h.objs c _ hc).1.news
        obtain ⟨v', w', h1, h2⟩ := append_run hu he hk lo (ys := ys) (vy := vy) (M := []) ⟨⟨A, k, hvy.trans ev, news, n1, OL.flatly hf n2, n3, n4⟩, List.nodup_nil, (fun b hb => by cases hb), (fun k p _ b _ hb => by cases hb), (fun b hb => by cases hb)⟩
          (fun _ => of_decide_eq_true hm) ty dst hfree.lt
        exact ⟨v', w', h1, _, hn, fin h2⟩
      · cases hn
    · cases hn
  · cases hn

theorem dAppend_ok {E : Env} (hE : ∀ T ti, E.ty T = some ti → TyOk P T ti) (h : SRi w0 S0 σ a w Im hd bl) {K : List Nat} {T dst : Nat} (hfree : Free σ dst) {x y : AV} {vx vy : Value} (hx : AVR w Im hd vx x) (hy : AVR w Im hd vy y)
    {next : AV → List (Nat × Ob) → Option ρ} {r : ρ} (hn : dAppend E σ K T dst x y next = some r) (ty : TypeId) :
    ∃ v' w', (Builtin.append_ #[T, T] ty #[vx, vy]).run P w = .ok v' w' ∧ ∃ N, next (.cv (.own dst)) N = some r ∧ ∃ Im' hd' bl', SRi w0 S0 { σ with ob := N ++ dels σ.ob K } a w' Im' hd' bl' ∧ hd' dst = v' := by
  unfold dAppend at hn
  split at hn
  · rename_i t hT
    obtain ⟨e, hu, he⟩ := kind_slice hE hT
    obtain ⟨hf, hnn⟩ := chk_some hn
    clear hn
    have hn := hnn
    clear hnn
    split at hn
    · have e1 : vx = .slice none 0 0 := hx
      exact dApp2_ok (E := E) hf hu he h (L := []) ⟨.inl ⟨e1, rfl, rfl⟩, fun _ _ => e1, List.nodup_nil, (fun b hb => by cases hb), (fun k p _ b _ hb => by cases hb)⟩ hfree hy hn ty
    · rename_i c
      have e1 : vx = hd c := hx
      obtain ⟨hK, hnn⟩ := chk_some hn
      clear hn
      have hn := hnn
      clear hnn
      split at hn
      · rename_i u xs d cn hc
        split at hn
        · rename_i xs' hxs
          obtain ⟨ee, rfl⟩ := as_some hxs
          cases ee
          have hcK : c ∈ K := hasB_mem.1 hK
          refine dApp2_ok (E := E) hf hu he h (L := bl c) ⟨by rw [e1]; exact (h.objs c _ hc).1, by rw [e1]; exact (h.objs c _ hc).2, (h.own c _ hc).1, (h.own c _ hc).2, fun k p hp b hb => ?_⟩ hfree hy hn ty
          have hp' : obGet (dels σ.ob K) k = some p := hp
          rw [obGet_dels] at hp'
          split at hp'
          · cases hp'
          · rename_i hk
            exact h.apart k p c _ hp' hc (fun e => hk (e ▸ hcK)) b hb
        · cases hn
      · cases hn
    · cases hn
  · cases hn

theorem dOp_ok {E : Env} (hE : ∀ T ti, E.ty T = some ti → TyOk P T ti) {ck : (fi : Fi) → Aden fi.ps → Option (Oden (flatRs fi.rs) (ioOf fi.ps))} (hG : ∀ f ids fi, E.fn f ids = some fi → ∀ x y, ck fi x = some y → Gives P gw f fi x y)
    (h : SRi w0 S0 σ a w Im hd bl) {o : Oper} (hfree : ∀ c ∈ opKeys E o, Free σ c) {K : List Nat} {next : AV → List (Nat × Ob) → Option ρ} {r : ρ} (hn : dOp E σ ck K o next = some r) : o.wp P a w (DoesK w0 S0 K σ next r o.dst) Q := by
  by_cases hst : ∃ T x v, o.op = .store T x v
  · obtain ⟨T, x, v, ho⟩ := hst
    unfold dOp at hn
    rw [ho] at hn
    dsimp only at hn
    unfold dStore at hn
    split at hn
    · rename_i n g cs c o' hT hc hx
      obtain ⟨h1, hn⟩ := chk_some hn
      split at hn
      · rename_i l hl
        obtain ⟨h2, hn⟩ := chk_some hn
        rw [Bool.and_eq_true] at h1 h2
        obtain ⟨w', k1, τ, k2, Im', hd', bl', k3⟩ := aStore_ok (next := fun τ => some τ) (r := { σ with ob := obPut σ.ob c (.box (splice l o' cs)) }) (T := T) hE h (h.ev x) (h.ev v) (by
          rw [hx]; unfold aStore; simp only [hT, hc, hl]; exact chk_to h1.1 (chk_to h2.1 rfl))
        cases k2
        refine wp_skip_ (w' := w') (by simp [execOp, ho, k1]) ⟨_, _, hn, Im', hd', bl', ?_⟩
        refine (k3.less (τ := { σ with ob := [(c, Ob.box (splice l o' cs))] ++ dels σ.ob K }) rfl fun d p hd => ?_).put o.dst (av := .cv .dead) trivial
        have hd' : obGet ((c, Ob.box (splice l o' cs)) :: dels σ.ob K) d = some p := hd
        show obGet (obPut σ.ob c _) d = some p
        rw [obGet_cons] at hd'
        rw [obGet_put]
        by_cases e : c = d
        · simp only [e, if_true] at hd' ⊢; exact hd'
        · simp only [e, if_false] at hd' ⊢
          rw [obGet_dels] at hd'
          split at hd'
          · cases hd'
          · exact hd'
      · cases hn
    · cases hn
  by_cases hna : ∀ c, o.op = .call c → c.callee ≠ .builtin .append
  · exact Oper.wp_mono (fun a' w' ⟨v, N, h1, h2⟩ => ⟨v, N, h1, add_addK h2⟩) (dOp_ok0 hE hG h ⟨hna, fun T x v e => hst ⟨T, x, v, e⟩⟩ hfree hn)
  · have ⟨c, hc⟩ : ∃ c, ¬ (o.op = .call c → c.callee ≠ .builtin .append) := Classical.not_forall.1 hna
    have ho : o.op = .call c := Classical.byContradiction fun e => hc fun e2 => absurd e2 e
    have hb : c.callee = .builtin .append := Classical.byContradiction fun e => hc fun _ => e
    have hop : execOp a.eval o = (do let d ← (pure { target := .builtin .append c.argTypes o.type (c.args.map fun | .const _ => true | _ => false), args := c.args.map a.eval } : Sem Deferred); invoke d.target d.args) := by
      unfold execOp; rw [ho]; simp only [resolve, hb]; rfl
    unfold dOp at hn
    rw [ho] at hn
    dsimp only at hn
    rw [hb] at hn
    dsimp only at hn
    match hargs : c.args.toList with
    | [x, y] =>
      rw [hargs] at hn
      dsimp only at hn
      split at hn
      · rename_i T U hT
        split at hn
        · rename_i d hd1
          obtain ⟨h0, hnn⟩ := chk_some hn
          clear hn
          have hn := hnn
          clear hnn
          rw [Bool.and_eq_true] at h0
          obtain rfl := Nat.eq_of_beq_eq_true h0.1
          have hfr : Free σ d := hfree d (by simp [opKeys, ho, hd1, hb])
          obtain ⟨v', w', h1, N, h2, Im', hd', bl', h3, h4⟩ := dAppend_ok hE h hfr (h.ev x) (h.ev y) hn o.type
          have hm : c.args.map a.eval = #[a.eval x, a.eval y] := by apply Array.ext'; simp [hargs]
          have ha : c.argTypes = #[T, T] := by apply Array.ext'; simpa using hT
          refine wp_value (v := v') (w' := w') ?_ ⟨_, _, h2, Im', hd', bl', ?_⟩
          · rw [hop]
            simp only [Sem.run_bind, Sem.run_pure, Result.andThen_ok, invoke, builtin, hm, ha, h1]
          · rw [hd1]; exact h3.put (some d) (av := .cv (.own d)) h4.symm
        · cases hn
      · cases hn
    | [] => rw [hargs] at hn; cases hn
    | [_] => rw [hargs] at hn; cases hn
    | _ :: _ :: _ :: _ => rw [hargs] at hn; cases hn

end
end Go.Vt
