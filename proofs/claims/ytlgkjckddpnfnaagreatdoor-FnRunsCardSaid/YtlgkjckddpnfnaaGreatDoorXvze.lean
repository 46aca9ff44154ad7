/-
  Functions of the library whose contracts the shelf bears, told to the plain machine: a number's numeral, a list of texts joined.
  Conditions: the contracts, at the program's own functions.
-/
import Derived.Test.YtlgkjckddpnfnaaGreatDoorXvzd
import Derived.Shelf.Strconv.Itoa3
import Derived.Shelf.Strings.OnBuilder
namespace Go.Vt
open Go.RowKit
set_option linter.unusedVariables false
set_option linter.unusedSimpArgs false
section
variable {P : Program} {gw : Gw}
theorem Does.of_calls {w : World} {f : FuncId} {fn : Func} {vs : Array Value} {R : Value → World → Prop} (hf : P.funcs[f]? = some fn) (hn : (fn.name == "runtime.NumGoroutine") = false) (hb : fn.body.isSome = true)
    (h : Calls P f vs w fun e w' => match e with | .returned v => R v w' | _ => False) : Does P f vs w R := by
  have hcall : (callFunc f vs).run P w = .ok (.enter f vs) w := by
    simp only [callFunc, Sem.run_bind, program]
    have hname' : ¬ (fn.name == "runtime.NumGoroutine") = true := by rw [hn]; simp
    have hb' : ¬ fn.body.isNone = true := by cases hfb : fn.body with
      | none => rw [hfb] at hb; cases hb
      | some c => simp
    simp only [Sem.run, hf, Result.andThen_ok]
    rw [if_neg hname', if_neg hb']
    simp [Sem.run, pure]
  unfold Does
  rw [hcall]
  exact h
theorem str_res {B : Base gw} {w' : World} {S : Nat → Prop} (s : ByteArray) : ResR B w' S [(false, [⟨.str, none⟩])] [] [] s (.string s) :=
  by
  refine ⟨S, [.string s], [], [], rfl, fun _ h => h, fun _ h => .inl h, List.nodup_nil, ?_, ⟨rfl, rfl⟩, rfl⟩
  intro b hb; cases hb
theorem kept_grow {B : Base gw} (k : Nat) (os : Array Obj) : Kept B (Sort.grow (B.w.drewN k) os) :=
  ⟨rfl, rfl, rfl, by show B.w.heap.size ≤ (B.w.heap ++ os).size; simp, fun i hi _ => by show (B.w.heap ++ os)[i]? = _; rw [Array.getElem?_append_left hi], fun _ => by show B.w.drawn ≤ B.w.drawn + k; omega⟩

/-! ### strconv.Itoa -/
def itoaF (n : Int) : Option ByteArray := bif decide (-9223372036854775808 ≤ n) && decide (n ≤ 9223372036854775807) then some ⟨(Lib.itoa n).toArray⟩ else none
def itoaFi : Fi := ⟨[.v (.int .i64) false], [(false, [⟨.str, none⟩])], some (fun _ n => itoaF n), .skip, [], 0, fun _ => none⟩
theorem itoa_ok {f : FuncId} {fn : Func} (hf : P.funcs[f]? = some fn) (hn : (fn.name == "runtime.NumGoroutine") = false) (hb : fn.body.isSome = true)
    (hc : ∀ (n : Int) (w : World), gw.p w → -9223372036854775808 ≤ n → n ≤ 9223372036854775807 → Calls P f #[.int .i64 n] w fun e w' => e = .returned (.string ⟨(Lib.itoa n).toArray⟩) ∧ ∃ k os, w' = Sort.grow (w.drewN k) os) : OneF P gw f itoaFi := by
  suffices hg : ∀ (x : Int) (y : ByteArray), itoaF x = some y → GivesO P gw f itoaFi x y from ⟨fun g hg' k x y hy => by cases hg'; exact (hg x y hy).all rfl, fun h => by cases h⟩
  intro x y hy' B S vs L H hS hL hm hH hA
  match vs, hA with
  | [v], hA =>
    obtain ⟨⟨cs, rfl, _, hv⟩, rfl, rfl⟩ := hA
    cases (show cs = [Value.int .i64 x] from hv)
    unfold itoaF at hy'
    cases hb2 : (decide (-9223372036854775808 ≤ x) && decide (x ≤ 9223372036854775807)) with
    | false => rw [hb2] at hy'; cases hy'
    | true =>
      rw [hb2] at hy'
      cases hy'
      rw [Bool.and_eq_true, decide_eq_true_eq, decide_eq_true_eq] at hb2
      refine Does.of_calls hf hn hb ((hc x B.w (B.hg _ (Kept.refl B)) hb2.1 hb2.2).mono fun e w' he => ?_)
      obtain ⟨rfl, k, os, rfl⟩ := he
      exact ⟨kept_grow k os, str_res _⟩

/-! ### strings.Join -/
def joinF (xs : List ByteArray) (sep : ByteArray) : Option ByteArray :=
  bif decide (xs.length ≤ 140737488355328) && decide ((Lib.join (xs.map (·.data.toList)) sep.data.toList).length ≤ 140737488355328) then some ⟨(Lib.join (xs.map (·.data.toList)) sep.data.toList).toArray⟩ else none
def joinFi : Fi := ⟨[.v (.slice .str) false, .v .str false], [(false, [⟨.str, none⟩])], some (fun _ x => joinF x.1 x.2), .skip, [], 0, fun _ => none⟩
theorem join_ok {f : FuncId} {fn : Func} (hf : P.funcs[f]? = some fn) (hn : (fn.name == "runtime.NumGoroutine") = false) (hb : fn.body.isSome = true)
    (h0 : ∀ (a : Option Addr) (c : Nat) (sep : ByteArray) (w : World), Calls P f #[.slice a 0 c, .string sep] w fun e w' => e = .returned (.string ⟨#[]⟩) ∧ w' = w)
    (h1 : ∀ (bk o c : Nat) (xs : List ByteArray) (sep : ByteArray) (w : World), (∀ (j : Nat) x, xs[j]? = some x → w.cell? ⟨bk, o + j, none⟩ = some (.string x)) → bk < w.heap.size → xs.length ≤ 140737488355328 → xs.length ≤ c →
      (Lib.join (xs.map (·.data.toList)) sep.data.toList).length ≤ 140737488355328 →
      Calls P f #[.slice (some ⟨bk, o, none⟩) xs.length c, .string sep] w fun e w' => e = .returned (.string ⟨(Lib.join (xs.map (·.data.toList)) sep.data.toList).toArray⟩) ∧ Below w.heap.size w w') (hdr : gw.dr = false) : OneF P gw f joinFi := by
  suffices hg : ∀ (xs : List ByteArray) (sep y : ByteArray), joinF xs sep = some y → GivesO P gw f joinFi (xs, sep) y from ⟨fun g hg' k x y hy => by cases hg'; exact (hg x.1 x.2 y hy).all rfl, fun h => by cases h⟩
  intro xs sep y hy' B S vs L H hS hL hm hH hA
  match vs, hA with
  | [v, u], hA =>
    obtain ⟨L1, L2, H1, H2, rfl, rfl, ⟨⟨cs, rfl, _, hv⟩, rfl, rfl⟩, ⟨⟨ds, rfl, _, hu⟩, rfl, rfl⟩⟩ := hA
    cases (show ds = [Value.string sep] from hu)
    obtain ⟨a, cap, rfl, hcap, hr⟩ := hv
    unfold joinF at hy'
    cases hb2 : (decide (xs.length ≤ 140737488355328) && decide ((Lib.join (xs.map (·.data.toList)) (ByteArray.data sep).toList).length ≤ 140737488355328)) with
    | false => rw [hb2] at hy'; cases hy'
    | true =>
      rw [hb2] at hy'
      cases hy'
      rw [Bool.and_eq_true, decide_eq_true_eq, decide_eq_true_eq] at hb2
      have hat : ∀ b o, (∀ (i : Nat) x, xs[i]? = some x → ∃ cs : List Value, cs.length = 1 ∧ At B.w b (o + i * 1) cs ∧ VR B.w S .str x cs) → ∀ (j : Nat) x, xs[j]? = some x → B.w.cell? ⟨b, o + j, none⟩ = some (.string x) := by
        intro b o hr j x hx
        obtain ⟨cs, _, hat, hcs⟩ := hr j x hx
        cases (show cs = [Value.string x] from hcs)
        have := hat 0 _ rfl
        simpa using this
      refine Does.of_calls hf hn hb ?_
      rcases hr with rfl | ⟨b, o, rfl, hb3, hr⟩
      · refine (h0 a cap sep B.w).mono fun e w' he => ?_
        obtain ⟨rfl, rfl⟩ := he
        exact ⟨Kept.refl B, str_res _⟩
      · refine (h1 b o cap xs sep B.w (hat b o hr) (hS b hb3) hb2.1 hcap hb2.2).mono fun e w' he => ?_
        obtain ⟨rfl, hbel⟩ := he
        exact ⟨(Kept.refl B).below hbel (fun e => by rw [hdr] at e; cases e), str_res _⟩
end
end Go.Vt
