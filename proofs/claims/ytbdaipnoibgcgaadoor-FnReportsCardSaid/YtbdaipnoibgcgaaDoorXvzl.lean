/-
  Functions of the library whose contracts the shelf bears, told to the plain machine: a number read from a text, a byte searched in a text.
  Conditions: the contracts, at the program's own functions.
-/
import Derived.Test.YtbdaipnoibgcgaaDoorXvze
import Derived.Shelf.Strconv.ErrVarAll
import Derived.Shelf.Small.Strs
namespace Go.Vt
open Go.RowKit
set_option linter.unusedVariables false
set_option linter.unusedSimpArgs false
section
variable {P : Program} {gw : Gw}

theorem tyOk_errB {T : Nat} (hu : (match P.underlying T with | some (.interface _) => true | _ => false) = true) (h1 : (P.info? T).map (·.size) = some 1) (h3 : ((P.info? T).bind (·.zero)).map (fun z => z.cells.toList) = some [.nilIface]) : TyOk P T (.one .err) := by
  cases h : P.underlying T with
  | none => rw [h] at hu; cases hu
  | some d => rw [h] at hu; exact tyOk_err h (by cases d <;> first | rfl | cases hu) h1 h3

/-! ### strconv.Atoi -/
/-- The number, and: is the error nil. -/
def atoiR (s : List UInt8) : Int × Bool := match Lib.atoiAll s with | .ok v => (v, true) | .range => (Lib.atoiSat s, false) | _ => (0, false)
def atoiF (s : ByteArray) : Option (Int × Bool) := bif decide (s.size ≤ 281474976710656) then some (atoiR s.data.toList) else none
def atoiFi : Fi := ⟨[.v .str false], [(false, [⟨.int .i64, none⟩]), (false, [⟨.err, none⟩])], some (fun _ s => atoiF s), .skip, [], 0, fun _ => none⟩
theorem atoi_res {B : Base gw} {w' : World} {S : Nat → Prop} (n : Int) (b : Bool) (v : Value) (h : ErrV v b) : ResR B w' S [(false, [⟨.int .i64, none⟩]), (false, [⟨.err, none⟩])] [] [] (n, b) (.tuple #[.int .i64 n, v]) := by
  refine ⟨S, [.int .i64 n, v], [], [], rfl, fun _ h => h, fun _ h => .inl h, List.nodup_nil, ?_, ⟨[], [], rfl, ⟨rfl, rfl⟩, ⟨⟨v, rfl, h⟩, rfl⟩⟩, rfl⟩
  intro b hb; cases hb
/-- What strconv.Atoi does, as the shelf says it. -/
def AtoiDoes (P : Program) (gw : Gw) (f : FuncId) : Prop :=
  ∀ (s : ByteArray) (w : World), gw.p w → s.size ≤ 281474976710656 → Calls P f #[.string s] w fun e w' => (∃ v, e = .returned (.tuple #[.int .i64 (atoiR s.data.toList).1, v]) ∧ ErrV v (atoiR s.data.toList).2) ∧ Below w.heap.size w w'
theorem atoi_ok {f : FuncId} {fn : Func} (hf : P.funcs[f]? = some fn) (hn : (fn.name == "runtime.NumGoroutine") = false) (hb : fn.body.isSome = true) (hdr : gw.dr = false) (hc : AtoiDoes P gw f) : OneF P gw f atoiFi := by
  suffices hg : ∀ (x : ByteArray) (y : Int × Bool), atoiF x = some y → GivesO P gw f atoiFi x y from ⟨fun g hg' k x y hy => by cases hg'; exact (hg x y hy).all rfl, fun h => by cases h⟩
  intro x y hy' B S vs L H hS hL hm hH hA
  match vs, hA with
  | [v], hA =>
    obtain ⟨⟨cs, rfl, _, hv⟩, rfl, rfl⟩ := hA
    cases (show cs = [Value.string x] from hv)
    unfold atoiF at hy'
    cases hb2 : decide (x.size ≤ 281474976710656) with
    | false => rw [hb2] at hy'; cases hy'
    | true =>
      rw [hb2] at hy'
      cases hy'
      refine Does.of_calls hf hn hb ((hc x B.w (B.hg _ (Kept.refl B)) (of_decide_eq_true hb2)).mono fun e w' he => ?_)
      obtain ⟨⟨v, rfl, hv⟩, hbel⟩ := he
      exact ⟨(Kept.refl B).below hbel (fun e => by rw [hdr] at e; cases e), atoi_res _ _ v hv⟩
theorem atoiDoes_of {ρ : Go.Shelf.Ren} (L : Go.Proofs.LaysC.n172 P ρ) (h : ∀ w, gw.p w → (∃ tp p, w.var? P "strconv.ErrSyntax" = some #[.iface tp p]) ∧ ∃ tp p, w.var? P "strconv.ErrRange" = some #[.iface tp p]) : AtoiDoes P gw (ρ.f 172) := by
  intro s w hw hs
  obtain ⟨⟨tp, p, h1⟩, tq, q, h2⟩ := h w hw
  unfold atoiR
  cases hc : Lib.atoiAll s.data.toList with
  | ok v =>
    refine (Go.Proofs.Any.strconv_Atoi_ok L s (by omega) v hc w).mono fun e w' he => ?_
    obtain ⟨rfl, rfl | ⟨t, rfl⟩⟩ := he
    · exact ⟨⟨_, rfl, rfl⟩, Below.refl _ _⟩
    · exact ⟨⟨_, rfl, rfl⟩, Lib.bytesWorld_below _ _ _⟩
  | range =>
    refine (Go.Proofs.Any.strconv_Atoi_range_var L s hs hc tq q w h2).mono fun e w' he => ?_
    obtain ⟨N, rfl, _, _, hb⟩ := he
    exact ⟨⟨_, rfl, rfl⟩, hb⟩
  | _ =>
    refine (Go.Proofs.Any.strconv_Atoi_syntax_var L s hs hc tp p w h1).mono fun e w' he => ?_
    obtain ⟨N, rfl, _, _, hb⟩ := he
    exact ⟨⟨_, rfl, rfl⟩, hb⟩

/-! ### strings.IndexByte -/
def indexByteF (s : ByteArray) (c : Int) : Option Int := some (Lib.indexByte s.data.toList c.toNat.toUInt8)
def indexByteFi : Fi := ⟨[.v .str false, .v (.int .u8) false], [(false, [⟨.int .i64, none⟩])], some (fun _ x => indexByteF x.1 x.2), .skip, [], 0, fun _ => none⟩
theorem int_res {B : Base gw} {w' : World} {S : Nat → Prop} (n : Int) : ResR B w' S [(false, [⟨.int .i64, none⟩])] [] [] n (.int .i64 n) := by
  refine ⟨S, [.int .i64 n], [], [], rfl, fun _ h => h, fun _ h => .inl h, List.nodup_nil, ?_, ⟨rfl, rfl⟩, rfl⟩
  intro b hb; cases hb
theorem indexByte_ok {f : FuncId} {fn : Func} (hf : P.funcs[f]? = some fn) (hn : (fn.name == "runtime.NumGoroutine") = false) (hb : fn.body.isSome = true)
    (hc : ∀ (s : ByteArray) (c : Int) (w : World), Calls P f #[.string s, .int .u8 c] w fun e w' => e = .returned (.int .i64 (Lib.indexByte s.data.toList c.toNat.toUInt8)) ∧ w' = w) : OneF P gw f indexByteFi := by
  suffices hg : ∀ (s : ByteArray) (c : Int) (y : Int), indexByteF s c = some y → GivesO P gw f indexByteFi (s, c) y from ⟨fun g hg' k x y hy => by cases hg'; exact (hg x.1 x.2 y hy).all rfl, fun h => by cases h⟩
  intro s c y hy' B S vs L H hS hL hm hH hA
  match vs, hA with
  | [v, u], hA =>
    obtain ⟨L1, L2, H1, H2, rfl, rfl, ⟨⟨cs, rfl, _, hv⟩, rfl, rfl⟩, ⟨⟨ds, rfl, _, hu⟩, rfl, rfl⟩⟩ := hA
    cases (show cs = [Value.string s] from hv)
    cases (show ds = [Value.int .u8 c] from hu)
    cases hy'
    refine Does.of_calls hf hn hb ((hc s c B.w).mono fun e w' he => ?_)
    obtain ⟨rfl, rfl⟩ := he
    exact ⟨Kept.refl B, int_res _⟩
end
end Go.Vt
