/-
  Structs of whole numbers and bools, compared.
  Conditions: closed facts on the program's tables.
-/
import Derived.Test.YtlgkjckddpnfnaaGreatDoorXvz
import Derived.Laws.StructEq
namespace Go.Vt
open Go.RowKit
set_option linter.unusedVariables false
set_option linter.unusedSimpArgs false

/-- The kinds of a type's cells, where its values may be compared cell by cell. -/
def eqKsL (g : TypeId → Option (List Ty)) : Nat → List Field → Option (List Ty)
  | off, [] => some []
  | off, f :: fs => bif f.name == "_" then none else bif Nat.beq f.offset off then (match g f.type with
      | some a => match eqKsL g (off + a.length) fs with | some b => some (a ++ b) | none => none
      | none => none) else none
def eqKs (P : Program) : Nat → TypeId → Option (List Ty)
  | 0, _ => none
  | d + 1, t => match P.underlying t with
    | some (.int k) => some [.int k]
    | some .bool => some [.bool]
    | some (.struct fields) => bif P.stoodInHeld t then none else match eqKsL (eqKs P d) 0 fields.toList with
      | some ks => bif (P.info? t).map (·.size) == some ks.length then some ks else none
      | none => none
    | _ => none

theorem Scalars.len : ∀ {xs : List Value} {ks : List Ty}, Scalars xs ks → xs.length = ks.length
  | [], [], _ => rfl
  | _ :: _, _ :: _, h => by simp [Scalars.len h.2]
  | [], _ :: _, h => h.elim
  | _ :: _, [], h => h.elim
theorem Scalars.split : ∀ {as bs : List Ty} {xs : List Value}, Scalars xs (as ++ bs) → Scalars (xs.take as.length) as ∧ Scalars (xs.drop as.length) bs
  | [], bs, xs, h => ⟨trivial, h⟩
  | a :: as, bs, x :: xs, h => by
    obtain ⟨h1, h2⟩ := Scalars.split (as := as) h.2
    exact ⟨⟨h.1, h1⟩, h2⟩
  | a :: as, bs, [], h => h.elim
theorem valsEq_split : ∀ (n : Nat) {xs ys : List Value}, xs.length = ys.length → valsEq xs ys = (valsEq (xs.take n) (ys.take n) && valsEq (xs.drop n) (ys.drop n))
  | 0, xs, ys, h => by simp [valsEq]
  | n + 1, [], [], h => by simp [valsEq]
  | n + 1, x :: xs, y :: ys, h => by
    have ih := valsEq_split n (xs := xs) (ys := ys) (by simpa using h)
    simp only [valsEq, List.take_succ_cons, List.drop_succ_cons, ih, Bool.and_assoc]
  | n + 1, [], _ :: _, h => by simp at h
  | n + 1, _ :: _, [], h => by simp at h

section
variable {P : Program} {w : World}
/-- A value of type t, made of its cells: as the model has it. -/
def EqTo (P : Program) (t : TypeId) (ks : List Ty) (agg : Bool) : Prop := (∀ w, (isAgg t).run P w = .ok agg w) ∧ (agg = false → ks.length = 1) ∧ (agg = true → ∀ w, (sizeOf t).run P w = .ok ks.length w)

theorem part_of {t : TypeId} {ks : List Ty} {agg : Bool} (h : EqTo P t ks agg) {pre xs post : List Value} (hx : xs.length = ks.length) (w : World) : (part t (pre ++ xs ++ post).toArray pre.length).run P w = .ok (cellsVal agg xs) w := by
  obtain ⟨h1, h2, h3⟩ := h
  cases agg with
  | true =>
    have e : (pre ++ xs ++ post).toArray.extract pre.length (pre.length + ks.length) = xs.toArray := by
      apply Array.ext'
      simp [← hx, List.drop_append, List.take_append]
    have e2 : (xs ++ post).take ks.length = xs := by rw [← hx, List.take_left]
    simp [part, h1, h3 rfl, cellsVal, e2]
  | false =>
    have hl : xs.length = 1 := by rw [hx]; exact h2 rfl
    match xs, hl with
    | [x], _ =>
      simp [part, h1, cellsVal]

theorem eqKs_ok : ∀ (d : Nat) (t : TypeId) (ks : List Ty), eqKs P d t = some ks → ∃ agg, EqTo P t ks agg ∧ ∀ (d' : Nat), d ≤ d' → ∀ (xs ys : List Value) (w : World), Scalars xs ks → Scalars ys ks → (Op.equalIn d' t (cellsVal agg xs) (cellsVal agg ys)).run P w = .ok (valsEq xs ys) w := by
  intro d
  induction d with
  | zero => intro t ks h; cases h
  | succ d ih =>
    intro t ks h
    unfold eqKs at h
    split at h
    · rename_i k hu
      cases h
      refine ⟨false, ⟨fun w => by simp [isAgg, run_underlying hu], fun _ => rfl, (fun e => by cases e)⟩, fun d' hd xs ys w hx hy => ?_⟩
      match xs, ys, hx, hy with
      | [x], [y], hx, hy =>
        obtain ⟨m, rfl⟩ := hx.1
        obtain ⟨n, rfl⟩ := hy.1
        match d', hd with
        | d' + 1, _ => simp [cellsVal, Op.equalIn, run_underlying hu, valsEq, valEq]
    · rename_i hu
      cases h
      refine ⟨false, ⟨fun w => by simp [isAgg, run_underlying hu], fun _ => rfl, (fun e => by cases e)⟩, fun d' hd xs ys w hx hy => ?_⟩
      match xs, ys, hx, hy with
      | [x], [y], hx, hy =>
        obtain ⟨m, rfl⟩ := hx.1
        obtain ⟨n, rfl⟩ := hy.1
        match d', hd with
        | d' + 1, _ => simp [cellsVal, Op.equalIn, run_underlying hu, valsEq, valEq]
    · rename_i fields hu
      cases hst : P.stoodInHeld t with
      | true => rw [hst] at h; cases h
      | false =>
        rw [hst, cond_false] at h
        split at h
        · rename_i ks' hks
          cases hsz : ((P.info? t).map (·.size) == some ks'.length) with
          | false => rw [hsz] at h; cases h
          | true =>
            rw [hsz, cond_true] at h
            cases h
            have hsz' : (P.info? t).map (·.size) = some ks.length := by simpa using hsz
            refine ⟨true, ⟨fun w => by simp [isAgg, run_underlying hu], (fun e => by cases e), fun _ w => ?_⟩, fun d' hd xs ys w hx hy => ?_⟩
            · cases hi : P.info? t with
              | none => rw [hi] at hsz'; cases hsz'
              | some i => rw [hi] at hsz'; rw [run_size hi]; simp at hsz'; rw [hsz']
            · match d', hd with
              | d' + 1, hd =>
                have hf : P.fieldsOf t = fields := by simp [Program.fieldsOf, hu]
                show (Op.equalIn (d' + 1) t (.agg xs.toArray) (.agg ys.toArray)).run P w = _
                rw [run_equalIn_struct (P := P) w d' t xs.toArray ys.toArray (by rw [hf]; exact hu) hst, hf]
                -- the fields, one after the other
                have key : ∀ (fs : List Field) (ks : List Ty) (px py xs ys : List Value), eqKsL (eqKs P d) px.length fs = some ks → px.length = py.length → Scalars xs ks → Scalars ys ks →
                    (Op.eqFields d' (px ++ xs).toArray (py ++ ys).toArray fs).run P w = .ok (valsEq xs ys) w := by
                  intro fs
                  induction fs with
                  | nil =>
                    intro ks px py xs ys h hp hx hy
                    cases h
                    match xs, ys, hx, hy with
                    | [], [], _, _ => simp [Op.eqFields, valsEq]
                  | cons f fs ihf =>
                    intro ks px py xs ys h hp hx hy
                    unfold eqKsL at h
                    cases hn : (f.name == "_") with
                    | true => rw [hn] at h; cases h
                    | false =>
                      rw [hn, cond_false] at h
                      cases ho : Nat.beq f.offset px.length with
                      | false => rw [ho] at h; cases h
                      | true =>
                        rw [ho, cond_true] at h
                        have ho' := Nat.eq_of_beq_eq_true ho
                        split at h
                        · rename_i as ha
                          split at h
                          · rename_i bs hb
                            cases h
                            obtain ⟨agg, hE, hq⟩ := ih f.type as ha
                            obtain ⟨x1, x2⟩ := hx.split
                            obtain ⟨y1, y2⟩ := hy.split
                            have ex : px ++ xs = px ++ xs.take as.length ++ xs.drop as.length := by rw [List.append_assoc, List.take_append_drop]
                            have ey : py ++ ys = py ++ ys.take as.length ++ ys.drop as.length := by rw [List.append_assoc, List.take_append_drop]
                            have hn' : f.name ≠ "_" := by simpa using hn
                            have pa := part_of (w := w) hE (pre := px) (post := xs.drop as.length) x1.len
                            have pb := part_of (w := w) hE (pre := py) (post := ys.drop as.length) y1.len
                            rw [← ex] at pa
                            rw [← ey] at pb
                            have hrest := ihf bs (px ++ xs.take as.length) (py ++ ys.take as.length) (xs.drop as.length) (ys.drop as.length) (by rw [List.length_append, x1.len]; exact hb) (by rw [List.length_append, List.length_append, x1.len, y1.len, hp]) x2 y2
                            rw [← ex, ← ey] at hrest
                            have hlen : xs.length = ys.length := by rw [hx.len, hy.len]
                            rw [valsEq_split as.length hlen, Op.eqFields]
                            simp only [if_pos hn', Sem.run_bind, ho', pa, Result.andThen_ok]
                            rw [hp, pb]
                            simp only [Result.andThen_ok, hq d' (by omega) _ _ w x1 y1]
                            cases valsEq (xs.take as.length) (ys.take as.length)
                            · simp
                            · simpa using hrest
                          · cases h
                        · cases h
                    
                have := key fields.toList ks [] [] xs ys (by simpa using hks) rfl hx hy
                simpa using this
        · cases h
    · cases h

theorem structEq_ok {d : Nat} {T : TypeId} {ks : List Ty} {fields : Array Field} (hu : P.underlying T = some (.struct fields)) (h : eqKs P d T = some ks) (hd : d ≤ 10000) (hg : P.eqGuardType P.depth T = false) :
    ∀ xs ys w op, Scalars xs ks → Scalars ys ks → op = BinOp.eql ∨ op = BinOp.neq →
        (eqGuard op T (.tmp 0) (.tmp 0) (.agg xs.toArray) (.agg ys.toArray)).run P w = .ok () w ∧ (Op.equal T (.agg xs.toArray) (.agg ys.toArray)).run P w = .ok (valsEq xs ys) w := by
  intro xs ys w op hx hy hop
  obtain ⟨agg, hE, hq⟩ := eqKs_ok d T ks h
  have hagg : agg = true := by
    have h1 := hE.1 w
    have h2 : (isAgg T).run P w = .ok true w := by simp [isAgg, run_underlying hu]
    rw [h2] at h1; cases h1; rfl
  subst hagg
  refine ⟨?_, hq 10000 hd xs ys w hx hy⟩
  rcases hop with rfl | rfl <;> simp [eqGuard, program, Sem.run, hg]
end
/-- Bytes as a text. -/
def bytesStr (xs : List Int) : ByteArray := xs.foldl (fun r n => r.push (UInt8.ofNat n.toNat)) ByteArray.empty
end Go.Vt
