/-
  The plain machine's operations that make no memory tell what the model's do.
  Conditions: the table of types is right (TyOk).
-/
import Derived.Test.YtlgkjckddpnfnaaGreatDoorXve
namespace Go.Vt
open Go.RowKit
set_option linter.unusedVariables false
set_option linter.unusedSimpArgs false

theorem chk_some {ρ : Type} {b : Bool} {x : Option ρ} {r : ρ} (h : chk b x = some r) : b = true ∧ x = some r := by
  cases b with
  | true => exact ⟨rfl, h⟩
  | false => cases h

section
variable {P : Program} {ρ : Type} {gw : Gw} {w0 : Base gw} {w : World} {S0 : Nat → Prop} {σ : St} {a : Act} {Im : Nat → Prop} {hd : Nat → Value} {bl : Nat → List Nat} {Q : Exit → Act → World → Prop}

theorem wp_value {o : Oper} {K : Act → World → Prop} {v : Value} {w' : World} (hr : (execOp a.eval o).run P w = .ok (.value v) w') (h : K (a.put o.dst v) w') : o.wp P a w K Q := by
  unfold Oper.wp; rw [hr]; exact h
theorem wp_skip_ {o : Oper} {K : Act → World → Prop} {w' : World} (hr : (execOp a.eval o).run P w = .ok .skip w') (h : K (a.put o.dst undef) w') : o.wp P a w K Q := by
  unfold Oper.wp; rw [hr]; exact h

/-- Where the tie goes on: some state from which what follows tells r. -/
def Goes {gw : Gw} (w0 : Base gw) (S0 : Nat → Prop) (next : St → Option ρ) (r : ρ) (a : Act) (w : World) : Prop := ∃ τ, next τ = some r ∧ SR w0 S0 τ a w

theorem goes_put {o : Oper} {next : St → Option ρ} {r : ρ} (h : SRi w0 S0 σ a w Im hd bl) {v : Value} {av : AV} (hv : AVR w Im hd v av)
    (hr : (execOp a.eval o).run P w = .ok (.value v) w) (hn : next (σ.put o.dst av) = some r) : o.wp P a w (Goes w0 S0 next r) Q :=
  wp_value hr ⟨_, hn, Im, hd, bl, h.put o.dst hv⟩

/-! ### what a slot's form says of its value -/
theorem int_of {v : Value} {k : IntKind} {n : (Ty.int k).den} (h : AVR w Im hd v (.cv (.val (.int k) n))) : v = .int k n := by
  have h' : VR w Im (.int k) n [v] := h
  simpa [VR] using h'
theorem bool_of {v : Value} {b : Ty.bool.den} (h : AVR w Im hd v (.cv (.val .bool b))) : v = .bool b := by
  have h' : VR w Im .bool b [v] := h
  simpa [VR] using h'
theorem str_of {v : Value} {s : Ty.str.den} (h : AVR w Im hd v (.cv (.val .str s))) : v = .string s := by
  have h' : VR w Im .str s [v] := h
  simpa [VR] using h'
theorem ivr {k : IntKind} {n : Int} : AVR w Im hd (.int k n) (.cv (.val (.int k) n)) := (rfl : [Value.int k n] = [Value.int k n])
theorem bvr {b : Bool} : AVR w Im hd (.bool b) (.cv (.val .bool b)) := (rfl : [Value.bool b] = [Value.bool b])
theorem svr {s : ByteArray} : AVR w Im hd (.string s) (.cv (.val .str s)) := (rfl : [Value.string s] = [Value.string s])
theorem aIx_of {v : Value} {av : AV} {i : Int} (h : AVR w Im hd v av) (hi : aIx av = some i) : ∃ k, v = .int k i := by
  unfold aIx at hi
  split at hi
  · cases hi; exact ⟨_, int_of h⟩
  · cases hi

theorem as_some {t u : Ty} {x : t.den} {y : u.den} (h : t.as u x = some y) : ∃ e : t = u, e ▸ x = y := by
  unfold Ty.as at h
  split at h
  · exact ⟨Ty.same_eq ‹_›, Option.some.inj h⟩
  · cases h
theorem as_VR {t u : Ty} {x : t.den} {y : u.den} (h : t.as u x = some y) {S : Nat → Prop} {cs : List Value} (hv : VR w S t x cs) : VR w S u y cs := by
  obtain ⟨rfl, rfl⟩ := as_some h; exact hv

theorem explode_len : ∀ (t : Ty) (x : t.den), (explode t x).length = t.sz
  | .int _, _ => rfl | .bool, _ => rfl | .str, _ => rfl | .slice _, _ => rfl | .set, _ => rfl | .err, _ => rfl
  | .pair a b, x => by show (explode a x.1 ++ explode b x.2).length = a.sz + b.sz; rw [List.length_append, explode_len a, explode_len b]
theorem CVs.len : ∀ {vs : List Value} {l : List CV}, CVs w Im hd vs l → vs.length = l.length
  | [], [], _ => rfl | _ :: _, _ :: _, h => by simp [CVs.len h.2] | [], _ :: _, h => h.elim | _ :: _, [], h => h.elim
theorem CVs.app : ∀ {vs us : List Value} {l m : List CV}, CVs w Im hd vs l → CVs w Im hd us m → CVs w Im hd (vs ++ us) (l ++ m)
  | [], _, [], _, _, h => h | _ :: _, _, _ :: _, _, h, k => ⟨h.1, CVs.app h.2 k⟩ | [], _, _ :: _, _, h, _ => h.elim | _ :: _, _, [], _, h, _ => h.elim
theorem CVs.take (n : Nat) : ∀ {vs : List Value} {l : List CV}, CVs w Im hd vs l → CVs w Im hd (vs.take n) (l.take n) := by
  induction n with
  | zero => intros; exact trivial
  | succ n ih => intro vs l h; match vs, l, h with | [], [], _ => exact trivial | _ :: _, _ :: _, h => exact ⟨h.1, ih h.2⟩
theorem CVs.drop (n : Nat) : ∀ {vs : List Value} {l : List CV}, CVs w Im hd vs l → CVs w Im hd (vs.drop n) (l.drop n) := by
  induction n with
  | zero => intro vs l h; exact h
  | succ n ih => intro vs l h; match vs, l, h with | [], [], _ => exact trivial | _ :: _, _ :: _, h => exact ih h.2
theorem CVs.get : ∀ {vs : List Value} {l : List CV}, CVs w Im hd vs l → ∀ (j : Nat) (c : CV), l[j]? = some c → ∃ v, vs[j]? = some v ∧ CVR w Im hd v c
  | [], [], _, j, c, hj => by simp at hj
  | v :: vs, c :: cs, h, 0, d, hj => ⟨v, rfl, by cases (show some c = some d from hj); exact h.1⟩
  | v :: vs, c :: cs, h, j + 1, d, hj => CVs.get h.2 j d hj
theorem explode_CVs : ∀ {t : Ty} {x : t.den} {cs : List Value}, VR w Im t x cs → CVs w Im hd cs (explode t x)
  | .int k, x, cs, h => by cases (show cs = _ from h); exact ⟨rfl, trivial⟩
  | .bool, x, cs, h => by cases (show cs = _ from h); exact ⟨rfl, trivial⟩
  | .str, x, cs, h => by cases (show cs = _ from h); exact ⟨rfl, trivial⟩
  | .slice t, x, cs, h => by obtain ⟨a, cap, rfl, h2⟩ := h; exact ⟨⟨a, cap, rfl, h2⟩, trivial⟩
  | .set, x, cs, h => by obtain ⟨v, L, rfl, h2⟩ := h; exact ⟨⟨v, L, rfl, h2⟩, trivial⟩
  | .err, x, cs, h => by obtain ⟨v, rfl, h2⟩ := h; exact ⟨⟨v, rfl, h2⟩, trivial⟩
  | .pair a b, x, cs, h => by obtain ⟨c1, c2, rfl, h1, h2⟩ := h; exact CVs.app (explode_CVs h1) (explode_CVs h2)

/-- The value of cells. -/
theorem ofCells_AVR {agg : Bool} {vs : List Value} {l : List CV} (h : CVs w Im hd vs l) : AVR w Im hd (cellsVal agg vs) (ofCells agg l) := by
  cases agg with
  | true => exact ⟨vs, rfl, h⟩
  | false =>
    match l, vs, h with
    | [c], [v], h => exact h.1
    | [], [], _ => exact trivial
    | _ :: _ :: _, _, _ => exact trivial

theorem nil_of {v : Value} (h : AVR w Im hd v (.cv .nil)) : v = .slice none 0 0 := h

/-! ### whole numbers -/
theorem run_int (op : BinOp) (T : Nat) (X Y : Operand) (k : IntKind) (x y : Int) {ok : Bool} {r : Sum Int Bool} (h : aInt op k x y = some (ok, r)) (hok : ok = true) (w : World) :
    (do eqGuard op T X Y (.int k x) (.int k y); Go.binOp op T (.int k x) (.int k y) : Sem Value).run P w = .ok (match r with | .inl n => .int k n | .inr b => .bool b) w := by
  subst hok
  have h0 : ∀ op, (eqGuard op T X Y (.int k x) (.int k y)).run P w = .ok () w := by
    intro op; cases op <;> simp [eqGuard]
  cases op <;> simp only [aInt, Option.some.injEq, Prod.mk.injEq, aCmp, Option.map_some, Option.map_none, reduceCtorEq] at h
  all_goals first
    | exact h.elim
    | (obtain ⟨h1, rfl⟩ := h
       simp only [Sem.run_bind, h0, Result.andThen_ok]
       simp [Go.binOp, Op.intArith, Op.intCmp, Op.intBits]; done)
    | (obtain ⟨h1, rfl⟩ := h
       have hy : ¬ y = 0 := by simpa using h1
       simp only [Sem.run_bind, h0, Result.andThen_ok]
       simp [Go.binOp, Op.intDiv, hy])

theorem run_shl (T : Nat) (X Y : Operand) (k j : IntKind) (x y : Int) (hy : 0 ≤ y) (w : World) :
    (do eqGuard .shl T X Y (.int k x) (.int j y); Go.binOp .shl T (.int k x) (.int j y) : Sem Value).run P w = .ok (.int k (k.wrap (x * 2 ^ (min y.toNat k.bits)))) w := by
  simp [eqGuard, Go.binOp, Op.shift, Int.not_lt.2 hy]
theorem run_shr (T : Nat) (X Y : Operand) (k j : IntKind) (x y : Int) (hy : 0 ≤ y) (w : World) :
    (do eqGuard .shr T X Y (.int k x) (.int j y); Go.binOp .shr T (.int k x) (.int j y) : Sem Value).run P w = .ok (.int k (x.fdiv (2 ^ (min y.toNat k.bits)))) w := by
  simp [eqGuard, Go.binOp, Op.shift, Int.not_lt.2 hy]

theorem run_str (op : BinOp) (T : Nat) (X Y : Operand) (x y : ByteArray) {ok : Bool} {r : Sum ByteArray Bool} (h : aStr op x y = some (ok, r)) (hok : ok = true) (w : World) :
    (do eqGuard op T X Y (.string x) (.string y); Go.binOp op T (.string x) (.string y) : Sem Value).run P w = .ok (match r with | .inl n => .string n | .inr b => .bool b) w := by
  subst hok
  have h0 : ∀ op, (eqGuard op T X Y (.string x) (.string y)).run P w = .ok () w := by
    intro op; cases op <;> simp [eqGuard]
  cases op <;> simp only [aStr, Option.some.injEq, Prod.mk.injEq, reduceCtorEq] at h
  all_goals first
    | exact h.elim
    | (obtain ⟨h1, rfl⟩ := h
       have h2 : ¬ (((x.size + y.size : Nat) : Int) > IntKind.i64.max) := by
         have h3 : x.size + y.size ≤ 9223372036854775807 := of_decide_eq_true h1
         have : IntKind.i64.max = 9223372036854775807 := by decide
         omega
       simp only [Sem.run_bind, h0, Result.andThen_ok]
       simp only [Go.binOp, Op.stringOp]
       rw [if_neg h2]
       rfl)
    | (obtain ⟨h1, rfl⟩ := h
       simp only [Sem.run_bind, h0, Result.andThen_ok]
       simp [Go.binOp, Op.stringOp])


theorem eqnil_run' {T e : Nat} (hu : P.underlying T = some (.slice e)) (a : Option Addr) (n c : Nat) (w : World) (d : Nat) : (Op.equalIn (d + 1) T (.slice a n c) (.slice none 0 0)).run P w = .ok a.isNone w := by
  cases a <;> simp [Op.equalIn, run_underlying hu]
theorem eqnil_run {T e : Nat} (hu : P.underlying T = some (.slice e)) (a : Option Addr) (n c : Nat) (w : World) : (Op.equal T (.slice a n c) (.slice none 0 0)).run P w = .ok a.isNone w := eqnil_run' hu a n c w 9999
theorem eqbool_run' {T : Nat} (hu : P.underlying T = some .bool) (a b : Bool) (w : World) (d : Nat) : (Op.equalIn (d + 1) T (.bool a) (.bool b)).run P w = .ok (a == b) w := by
  simp [Op.equalIn, run_underlying hu]
theorem eqbool_run {T : Nat} (hu : P.underlying T = some .bool) (a b : Bool) (w : World) : (Op.equal T (.bool a) (.bool b)).run P w = .ok (a == b) w := eqbool_run' hu a b w 9999

/-- What is told of a slice's being nil. -/
theorem aNil_slice (h : SRi w0 S0 σ a w Im hd bl) {v : Value} {c : CV} (hv : CVR w Im hd v c) {p : Bool × Bool} (hn : aNil σ c = some p) : ∃ A n k, v = .slice A n k := by
  unfold aNil at hn
  split at hn
  · exact ⟨none, 0, 0, hv⟩
  · obtain ⟨A, cap, e, _, hr⟩ := hv
    simp only [List.cons.injEq, and_true] at e
    exact ⟨A, _, cap, e⟩
  · rename_i c
    split at hn
    · rename_i t xs d cn hc
      have ho := h.objs c _ hc
      have e : v = hd c := hv
      rcases ho.1 with ⟨e1, _⟩ | ⟨b, f0, cap, cs, E, Li, e1, _⟩
      · exact ⟨none, 0, 0, e.trans e1⟩
      · exact ⟨_, _, _, e.trans e1⟩
    · cases hn
  · cases hn
theorem aNil_of (h : SRi w0 S0 σ a w Im hd bl) {v : Value} {c : CV} (hv : CVR w Im hd v c) {r : Bool} (hn : aNil σ c = some (true, r)) : ∃ A n k, v = .slice A n k ∧ A.isNone = r := by
  unfold aNil at hn
  split at hn
  · cases hn; exact ⟨none, 0, 0, hv, rfl⟩
  · rename_i t xs
    simp only [Option.some.injEq, Prod.mk.injEq] at hn
    obtain ⟨h1, rfl⟩ := hn
    obtain ⟨A, cap, e, _, hr⟩ := hv
    simp only [List.cons.injEq, and_true] at e
    refine ⟨A, _, cap, e, ?_⟩
    rcases hr with rfl | ⟨b, o, rfl, _⟩
    · simp at h1
    · rfl
  · rename_i c
    cases hc : obGet σ.ob c with
    | none => simp [hc] at hn
    | some o =>
      cases o with
      | arr t xs => simp [hc] at hn
      | hole t xs i v => simp [hc] at hn
      | tl t xs n => simp [hc] at hn
      | mp l => simp [hc] at hn
      | hol t xs i l => simp [hc] at hn
      | box l => simp [hc] at hn
      | row t xs d cn =>
        have ho := h.objs c _ hc
        have e : v = hd c := hv
        simp only [hc] at hn
        rcases ho.1 with ⟨e1, rfl, _⟩ | ⟨b, f0, cap, cs, E, Li, e1, _⟩
        · cases cn with
          | true => simp at hn; exact ⟨none, 0, 0, e.trans e1, by simpa using hn.symm ▸ rfl⟩
          | false => simp at hn
        · refine ⟨_, _, _, e.trans e1, ?_⟩
          cases cn with
          | true =>
            simp at hn
            by_cases hx : xs = []
            · have := ho.2 rfl hx; rw [e1] at this; cases this
            · have : xs.isEmpty = false := by simpa using hx
              rw [← hn, this]; rfl
          | false => simp at hn; rw [hn.2]; rfl
  · cases hn

theorem eqCells_of : ∀ {ts : List Ty} {xs ys : List Value} {as bs : List CV} {r : Bool}, CVs w Im hd xs as → CVs w Im hd ys bs → eqCells ts as bs = some r → Scalars xs ts ∧ Scalars ys ts ∧ valsEq xs ys = r
  | [], xs, ys, as, bs, r, hx, hy, h => by
    match as, bs, h with
    | [], [], h =>
      match xs, ys, hx, hy with
      | [], [], _, _ => cases h; exact ⟨trivial, trivial, rfl⟩
  | t :: ts, xs, ys, as, bs, r, hx, hy, h => by
    match as, bs, h with
    | a :: as, b :: bs, h =>
      match xs, ys, hx, hy with
      | x :: xs, y :: ys, hx, hy =>
        unfold eqCells at h
        split at h
        · rename_i k k1 m k2 n _ _ _
          cases hk : kSame k k1 && kSame k k2 with
          | false => rw [hk] at h; cases h
          | true =>
            rw [hk] at h
            have hk' : kSame k k1 = true ∧ kSame k k2 = true := by simpa using hk
            obtain rfl := kSame_eq hk'.1
            obtain rfl := kSame_eq hk'.2
            obtain ⟨q, hq, rfl⟩ := Option.map_eq_some_iff.1 h
            obtain ⟨h1, h2, h3⟩ := eqCells_of hx.2 hy.2 hq
            have e1 : x = .int k m := int_of (w := w) (Im := Im) (hd := hd) hx.1
            have e2 : y = .int k n := int_of (w := w) (Im := Im) (hd := hd) hy.1
            subst e1 e2
            exact ⟨⟨⟨m, rfl⟩, h1⟩, ⟨⟨n, rfl⟩, h2⟩, by simp [valsEq, valEq, h3]⟩
        · rename_i m n _ _ _
          obtain ⟨q, hq, rfl⟩ := Option.map_eq_some_iff.1 h
          obtain ⟨h1, h2, h3⟩ := eqCells_of hx.2 hy.2 hq
          have e1 : x = .bool m := bool_of (w := w) (Im := Im) (hd := hd) hx.1
          have e2 : y = .bool n := bool_of (w := w) (Im := Im) (hd := hd) hy.1
          subst e1 e2
          exact ⟨⟨⟨m, rfl⟩, h1⟩, ⟨⟨n, rfl⟩, h2⟩, by simp [valsEq, valEq, h3]⟩
        · cases h

theorem kind_slice {E : Env} (hE : ∀ T ti, E.ty T = some ti → TyOk P T ti) {T : Nat} {t : Ty} (h : E.ty T = some (.one (.slice t))) : ∃ e, P.underlying T = some (.slice e) ∧ ElemOk P e t := by
  obtain ⟨d, hd, ⟨e, rfl, he⟩, _⟩ := hE T _ h
  exact ⟨e, hd, he⟩

/-- The answer of two operands. -/
theorem aBin_ok {E : Env} (hE : ∀ T ti, E.ty T = some ti → TyOk P T ti) (h : SRi w0 S0 σ a w Im hd bl) {op : BinOp} {T : Nat} {X Y : Operand} {x y : AV} {vx vy : Value}
    (hx : AVR w Im hd vx x) (hy : AVR w Im hd vy y) {next : AV → Option ρ} {r : ρ} (hn : aBin E σ op T x y next = some r) :
    ∃ v av, (do eqGuard op T X Y vx vy; Go.binOp op T vx vy : Sem Value).run P w = .ok v w ∧ AVR w Im hd v av ∧ next av = some r := by
  unfold aBin at hn
  split at hn
  · obtain ⟨h1, h2⟩ := chk_some hn
    rw [int_of hx, int_of hy]
    exact ⟨_, _, run_shl T X Y _ _ _ _ (of_decide_eq_true h1) w, ivr, h2⟩
  · obtain ⟨h1, h2⟩ := chk_some hn
    rw [int_of hx, int_of hy]
    exact ⟨_, _, run_shr T X Y _ _ _ _ (of_decide_eq_true h1) w, ivr, h2⟩
  · obtain ⟨h1, h2⟩ := chk_some hn
    have e1 := int_of hx
    have e2 := int_of hy
    obtain rfl := kSame_eq h1
    rw [e1, e2]
    split at h2
    · rename_i hi; obtain ⟨h3, h4⟩ := chk_some h2; exact ⟨_, _, run_int op T X Y _ _ _ hi h3 w, ivr, h4⟩
    · rename_i hi; obtain ⟨h3, h4⟩ := chk_some h2; exact ⟨_, _, run_int op T X Y _ _ _ hi h3 w, bvr, h4⟩
    · cases h2
  · rw [str_of hx, str_of hy]
    split at hn
    · rename_i hi; obtain ⟨h3, h4⟩ := chk_some hn; exact ⟨_, _, run_str op T X Y _ _ hi h3 w, svr, h4⟩
    · rename_i hi; obtain ⟨h3, h4⟩ := chk_some hn; exact ⟨_, _, run_str op T X Y _ _ hi h3 w, bvr, h4⟩
    · cases hn
  · rw [bool_of hx, bool_of hy]
    split at hn
    · rename_i hT
      obtain ⟨d, hd2, hk, _⟩ := hE T _ hT
      cases (show d = _ from hk)
      exact ⟨_, _, by simp [eqGuard, Go.binOp, eqbool_run hd2], bvr, hn⟩
    · cases hn
  · rw [bool_of hx, bool_of hy]
    split at hn
    · rename_i hT
      obtain ⟨d, hd2, hk, _⟩ := hE T _ hT
      cases (show d = _ from hk)
      exact ⟨_, _, by simp [eqGuard, Go.binOp, eqbool_run hd2], bvr, hn⟩
    · cases hn
  · rw [nil_of hy]
    split at hn
    · rename_i ok r hT hnil
      obtain ⟨e, hu, _⟩ := kind_slice hE hT
      cases ok with
      | true =>
        obtain ⟨A, n, k, rfl, rfl⟩ := aNil_of h hx hnil
        exact ⟨_, _, by simp [eqGuard, Go.binOp, eqnil_run hu], bvr, hn⟩
      | false =>
        obtain ⟨A, n, k, rfl⟩ := aNil_slice h hx hnil
        exact ⟨_, .cv .unk, by simp [eqGuard, Go.binOp, eqnil_run hu]; rfl, ⟨_, rfl⟩, hn⟩
    · cases hn
  · rw [nil_of hy]
    split at hn
    · rename_i ok r hT hnil
      obtain ⟨e, hu, _⟩ := kind_slice hE hT
      cases ok with
      | true =>
        obtain ⟨A, n, k, rfl, rfl⟩ := aNil_of h hx hnil
        exact ⟨_, _, by simp [eqGuard, Go.binOp, eqnil_run hu], bvr, hn⟩
      | false =>
        obtain ⟨A, n, k, rfl⟩ := aNil_slice h hx hnil
        exact ⟨_, .cv .unk, by simp [eqGuard, Go.binOp, eqnil_run hu]; rfl, ⟨_, rfl⟩, hn⟩
    · cases hn
  · split at hn
    · rename_i hT
      split at hn
      · rename_i hq
        obtain ⟨xs, rfl, hxs⟩ := hx
        obtain ⟨ys, rfl, hys⟩ := hy
        obtain ⟨h1, h2, h3⟩ := eqCells_of hxs hys hq
        obtain ⟨fields, hu, _, _, _, _, heq⟩ := hE T _ hT
        obtain ⟨g1, g2⟩ := heq rfl xs ys w .eql h1 h2 (.inl rfl)
        have g1' : (eqGuard .eql T X Y (.agg xs.toArray) (.agg ys.toArray)).run P w = .ok () w := g1
        refine ⟨_, _, ?_, bvr, hn⟩
        simp only [Sem.run_bind, g1', Result.andThen_ok]
        simp [Go.binOp, g2, h3]
      · cases hn
    · cases hn
  · split at hn
    · rename_i hT
      split at hn
      · rename_i hq
        obtain ⟨xs, rfl, hxs⟩ := hx
        obtain ⟨ys, rfl, hys⟩ := hy
        obtain ⟨h1, h2, h3⟩ := eqCells_of hxs hys hq
        obtain ⟨fields, hu, _, _, _, _, heq⟩ := hE T _ hT
        obtain ⟨g1, g2⟩ := heq rfl xs ys w .neq h1 h2 (.inr rfl)
        have g1' : (eqGuard .neq T X Y (.agg xs.toArray) (.agg ys.toArray)).run P w = .ok () w := g1
        refine ⟨_, _, ?_, bvr, hn⟩
        simp only [Sem.run_bind, g1', Result.andThen_ok]
        simp [Go.binOp, g2, h3]
      · cases hn
    · cases hn
  · cases hn

theorem aUn_ok {op : UnOp} {x av : AV} {v : Value} (hx : AVR w Im hd v x) (hn : aUn op x = some av) : ∃ u, (Op.unary op v).run P w = .ok u w ∧ AVR w Im hd u av := by
  unfold aUn at hn
  split at hn
  · cases hn; rw [bool_of hx]; exact ⟨_, by simp [Op.unary], bvr⟩
  · cases hn; obtain ⟨b, rfl⟩ := hx; exact ⟨.bool (!b), by simp [Op.unary], ⟨!b, rfl⟩⟩
  · cases hn; rw [int_of hx]; exact ⟨_, by simp [Op.unary, Op.intArith], ivr⟩
  · cases hn

end
end Go.Vt
