/-
  The plain machine: its parts and their laws, 4 of 4.
  Conditions: those of each statement.
-/
import Derived.Test.YtgbbdagfjenmeaaGreatDoorVc
import Derived.RowKit
import Derived.Shelf.Strconv.Itoa3
import Derived.Shelf.Strings.OnBuilder
import Derived.Shelf.Strconv.ErrVarAll
import Derived.Shelf.Small.Strs
import Derived.Shelf.SlLaysE0
import Derived.Shelf.SlicesE.Kit
import Derived.Shelf.RegionOpenPlain
import Derived.WalkKit
import Derived.Deep.LoopGhost
import Derived.Deep.RegionLaw
import Derived.Lib.Walk
import Derived.Sort.WalkB12
import Derived.Shelf.GgSortFunc.RowK
import Derived.Lib.SliceRun
import Derived.Lib.SlicesDelete
import Derived.Shelf.SlSortCmp.Whole1
import Derived.Shelf.SlSortCmp.NoneTotal
import Derived.Shelf.SlicesE.Reverse
import Derived.Shelf.Spec.SlicesGrow
namespace Go.Vt
open Go.RowKit
set_option linter.unusedVariables false
set_option linter.unusedSimpArgs false
def XQ (P : Program) (t : TypeId) : Bool := match P.underlying t with | some (.struct _) => true | _ => false
section
variable {P : Program} {w : World} {H : Type} {enc : TypeId × Value → H} {base base' : Nat} {spare : Nat → Bool} {held : Bool}
theorem Does.calls {f : FuncId} {fn : Func} {vs : Array Value} {R : Value → World → Prop} (h : Does P f vs w R) (hf : P.funcs[f]? = some fn) (hn : (fn.name == "runtime.NumGoroutine") = false) (hb : fn.body.isSome = true) :
 Calls P f vs w fun e w' => match e with | .returned v => R v w' | _ => False := by
 have hcall : (callFunc f vs).run P w = .ok (.enter f vs) w := by
  simp only [callFunc, Sem.run_bind, program]
  have hname' : ¬ (fn.name == "runtime.NumGoroutine") = true := by rw [hn]; simp
  have hb' : ¬ fn.body.isNone = true := by cases hfb : fn.body with
   | none => rw [hfb] at hb; cases hb
   | some c => simp
  simp only [Sem.run, hf, Result.andThen_ok]
  rw [if_neg hname', if_neg hb']
  simp [Sem.run, pure]
 unfold Does at h
 rw [hcall] at h
 exact h
theorem Me {d : Nat} {t : TypeId} {u : Ty} {agg : Bool} (hk : Z1 P d t = some u) (ha : XQ P t = agg) {v : Value} (hw : Value.okWide P w .any base' t v) {dd : DataW H} {ps : List MemPlace} (h : DataW.Trod enc P w base spare held t v dd ps) :
 ∃ y : u.den, ArgR w (fun b => b < w.heap.size) v (.v u agg) y ∧ Fits u y := by
 obtain ⟨m, hm⟩ := h
 obtain ⟨y, hy, hf⟩ := MI d t u m _ _ hk hm
 have one : agg = false → v.cells.toList = [v] := by
  intro e
  subst e
  cases d with
  | zero => cases hk
  | succ d =>
    unfold Z1 at hk
    split at hk
    ·rename_i k hu
     simp only [Value.okWide, hu, Cell.okWide] at hw
     cases v <;> simp_all [Cell.ok, Value.cells]
    ·rename_i hu
     simp only [Value.okWide, hu, Cell.okWide] at hw
     cases v <;> simp_all [Cell.ok, Value.cells]
    ·rename_i hu
     simp only [Value.okWide, hu, Cell.okWide] at hw
     cases v <;> simp_all [Cell.ok, Value.cells]
    ·rename_i e hu
     simp only [Value.okWide, hu, Cell.okWide] at hw
     cases v <;> simp_all [Cell.ok, Value.cells]
    ·rename_i fs hu
     simp [XQ, hu] at ha
    ·cases hk
 refine ⟨y, ⟨v.cells.toList, ?_, fun e => by rw [one e]; rfl, hy⟩, hf⟩
 cases agg with
 | false => rw [one rfl]; rfl
 | true =>
   unfold XQ at ha
   split at ha
   ·rename_i fs hu
    simp only [Value.okWide, hu] at hw
    obtain ⟨cs, rfl, _⟩ := hw
    simp [yE, Value.cells]
   ·cases ha
theorem Does.mono {f : FuncId} {vs : Array Value} {R R' : Value → World → Prop} (h : Does P f vs w R) (hk : ∀ v w', R v w' → R' v w') : Does P f vs w R' := by
 unfold Does at h ⊢
 split at h
 ·exact hk _ _ h
 ·refine h.mono fun e w'' hh => ?_
  cases e with
  | returned v => exact hk _ _ hh
  | panicked c => exact hh
  | outgrown => exact hh
 ·exact h.mono fun v w'' hh => hk _ _ hh
 ·exact h.elim
theorem Gives.row {gw : Gw} {f : FuncId} {fi : Fi} {x : Aden fi.ps} {y : Oden (zg fi.rs) (ioOf fi.ps)} (hg : Gives P gw f fi x y) (W : World) (hG : ∀ w', Below W.heap.size W w' → gw.p w') {vs : List Value} (ha : ArgsR W (fun b => b < W.heap.size) vs fi.ps x) (hng : fi.gift = false := by rfl) :
 Does P f vs.toArray W fun v w' => Below W.heap.size W w' ∧ ∃ (S' : Nat → Prop) (us : List Value) (L : List Nat), v = oneVal (xT fi.rs us) ∧ RCs w' S' us L (zg fi.rs) (Oden.res _ _ y) := by
 have hb : ∀ w', KeptW gw.dr W (fun b => W.heap.size ≤ b) w' → Below W.heap.size W w' := fun w' h => ⟨h.os, h.tape, h.output, h.size, fun k hk => h.block k hk (fun hc => Nat.lt_irrefl _ (Nat.lt_of_lt_of_le hk hc))⟩
 have h := (hg.o hng) (⟨W, fun b => W.heap.size ≤ b, fun _ h => h, fun w' h => hG w' (hb w' h), []⟩ : Base gw) (fun b => b < W.heap.size) vs [] [] (fun _ h => h) List.nodup_nil (fun b hb => by cases hb) rfl ha.o
 exact h.mono fun v w' hh => ⟨hb _ hh.1, by obtain ⟨S', us, L, M, e, _, _, _, _, h5, _⟩ := hh.2; exact ⟨S', us, L, e, h5⟩⟩
theorem NA {w' : World} {b : Bool} {v : Value} (h : ∃ (S' : Nat → Prop) (us : List Value) (L : List Nat), v = oneVal (xT [(false, [⟨.bool, none⟩])] us) ∧ RCs w' S' us L [⟨.bool, none⟩] b) : v = .bool b := by
 obtain ⟨S', vs, L, rfl, h⟩ := h
 match vs, h with
 | [u], h =>
   have h' : VR w' S' .bool b [u] := h.1
   have e : u = .bool b := by simpa [VR] using h'
   subst e
   rfl
 | [], h => cases h
 | _ :: _ :: _, h => cases h
end
end Go.Vt
namespace Go.Vt
open Go.RowKit
set_option linter.unusedVariables false
set_option linter.unusedSimpArgs false
section
variable {P : Program} {gw : Gw}
theorem Does.of_calls {w : World} {f : FuncId} {fn : Func} {vs : Array Value} {R : Value → World → Prop} (hf : P.funcs[f]? = some fn) (hn : (fn.name == "runtime.NumGoroutine") = false) (hb : fn.body.isSome = true)
 (h : Calls P f vs w fun e w' => match e with | .returned v => R v w' | _ => False) : Does P f vs w R := by
 have hcall : (callFunc f vs).run P w = .ok (.enter f vs) w := by
  simp only [callFunc, Sem.run_bind, program]
  have hname' : ¬ (fn.name == "runtime.NumGoroutine") = true := by rw [hn]; simp
  have hb' : ¬ fn.body.isNone = true := by cases hfb : fn.body with
   | none => rw [hfb] at hb; cases hb
   | some c => simp
  simp only [Sem.run, hf, Result.andThen_ok]
  rw [if_neg hname', if_neg hb']
  simp [Sem.run, pure]
 unfold Does
 rw [hcall]
 exact h
theorem Sh {B : Base gw} {w' : World} {S : Nat → Prop} (s : ByteArray) : ResR B w' S [(false, [⟨.str, none⟩])] [] [] s (.string s) :=
 by
 refine ⟨S, [.string s], [], [], rfl, fun _ h => h, fun _ h => .inl h, List.nodup_nil, ?_, ⟨rfl, rfl⟩, rfl⟩
 intro b hb; cases hb
theorem Pw {B : Base gw} (k : Nat) (os : Array Obj) : Kept B (Sort.grow (B.w.drewN k) os) :=
 ⟨rfl, rfl, rfl, by show B.w.heap.size ≤ (B.w.heap ++ os).size; simp, fun i hi _ => by show (B.w.heap ++ os)[i]? = _; rw [Array.getElem?_append_left hi], fun _ => by show B.w.drawn ≤ B.w.drawn + k; omega⟩
def itoaF (n : Int) : Option ByteArray := bif decide (-9223372036854775808 ≤ n) && decide (n ≤ 9223372036854775807) then some ⟨(Lib.itoa n).toArray⟩ else none
def itoaFi : Fi := ⟨[.v (.int .i64) false], [(false, [⟨.str, none⟩])], some (fun _ n => itoaF n), .skip, [], 0, fun _ => none⟩
theorem MN {f : FuncId} {fn : Func} (hf : P.funcs[f]? = some fn) (hn : (fn.name == "runtime.NumGoroutine") = false) (hb : fn.body.isSome = true)
 (hc : ∀ (n : Int) (w : World), gw.p w → -9223372036854775808 ≤ n → n ≤ 9223372036854775807 → Calls P f #[.int .i64 n] w fun e w' => e = .returned (.string ⟨(Lib.itoa n).toArray⟩) ∧ ∃ k os, w' = Sort.grow (w.drewN k) os) : OneF P gw f itoaFi := by
 suffices hg : ∀ (x : Int) (y : ByteArray), itoaF x = some y → GivesO P gw f itoaFi x y from ⟨fun g hg' k x y hy => by cases hg'; exact (hg x y hy).all rfl, fun h => by cases h⟩
 intro x y hy' B S vs L H hS hL hm hH hA
 match vs, hA with
 | [v], hA =>
   obtain ⟨⟨cs, rfl, _, hv⟩, rfl, rfl⟩ := hA
   cases (show cs = [Value.int .i64 x] from hv)
   unfold itoaF at hy'
   cases hb2 : (decide (-9223372036854775808 ≤ x) && decide (x ≤ 9223372036854775807)) with
   | false => rw [hb2] at hy'; cases hy'
   | true =>
     rw [hb2] at hy'
     cases hy'
     rw [Bool.and_eq_true, decide_eq_true_eq, decide_eq_true_eq] at hb2
     refine Does.of_calls hf hn hb ((hc x B.w (B.hg _ (Kept.refl B)) hb2.1 hb2.2).mono fun e w' he => ?_)
     obtain ⟨rfl, k, os, rfl⟩ := he
     exact ⟨Pw k os, Sh _⟩
def joinF (xs : List ByteArray) (sep : ByteArray) : Option ByteArray :=
 bif decide (xs.length ≤ 140737488355328) && decide ((Lib.join (xs.map (·.data.toList)) sep.data.toList).length ≤ 140737488355328) then some ⟨(Lib.join (xs.map (·.data.toList)) sep.data.toList).toArray⟩ else none
def joinFi : Fi := ⟨[.v (.slice .str) false, .v .str false], [(false, [⟨.str, none⟩])], some (fun _ x => joinF x.1 x.2), .skip, [], 0, fun _ => none⟩
theorem MM {f : FuncId} {fn : Func} (hf : P.funcs[f]? = some fn) (hn : (fn.name == "runtime.NumGoroutine") = false) (hb : fn.body.isSome = true)
 (h0 : ∀ (a : Option Addr) (c : Nat) (sep : ByteArray) (w : World), Calls P f #[.slice a 0 c, .string sep] w fun e w' => e = .returned (.string ⟨#[]⟩) ∧ w' = w)
 (h1 : ∀ (bk o c : Nat) (xs : List ByteArray) (sep : ByteArray) (w : World), (∀ (j : Nat) x, xs[j]? = some x → w.cell? ⟨bk, o + j, none⟩ = some (.string x)) → bk < w.heap.size → xs.length ≤ 140737488355328 → xs.length ≤ c →
   (Lib.join (xs.map (·.data.toList)) sep.data.toList).length ≤ 140737488355328 →
   Calls P f #[.slice (some ⟨bk, o, none⟩) xs.length c, .string sep] w fun e w' => e = .returned (.string ⟨(Lib.join (xs.map (·.data.toList)) sep.data.toList).toArray⟩) ∧ Below w.heap.size w w') (hdr : gw.dr = false) : OneF P gw f joinFi := by
 suffices hg : ∀ (xs : List ByteArray) (sep y : ByteArray), joinF xs sep = some y → GivesO P gw f joinFi (xs, sep) y from ⟨fun g hg' k x y hy => by cases hg'; exact (hg x.1 x.2 y hy).all rfl, fun h => by cases h⟩
 intro xs sep y hy' B S vs L H hS hL hm hH hA
 match vs, hA with
 | [v, u], hA =>
   obtain ⟨L1, L2, H1, H2, rfl, rfl, ⟨⟨cs, rfl, _, hv⟩, rfl, rfl⟩, ⟨⟨ds, rfl, _, hu⟩, rfl, rfl⟩⟩ := hA
   cases (show ds = [Value.string sep] from hu)
   obtain ⟨a, cap, rfl, hcap, hr⟩ := hv
   unfold joinF at hy'
   cases hb2 : (decide (xs.length ≤ 140737488355328) && decide ((Lib.join (xs.map (·.data.toList)) (ByteArray.data sep).toList).length ≤ 140737488355328)) with
   | false => rw [hb2] at hy'; cases hy'
   | true =>
     rw [hb2] at hy'
     cases hy'
     rw [Bool.and_eq_true, decide_eq_true_eq, decide_eq_true_eq] at hb2
     have hat : ∀ b o, (∀ (i : Nat) x, xs[i]? = some x → ∃ cs : List Value, cs.length = 1 ∧ At B.w b (o + i * 1) cs ∧ VR B.w S .str x cs) → ∀ (j : Nat) x, xs[j]? = some x → B.w.cell? ⟨b, o + j, none⟩ = some (.string x) := by
      intro b o hr j x hx
      obtain ⟨cs, _, hat, hcs⟩ := hr j x hx
      cases (show cs = [Value.string x] from hcs)
      have := hat 0 _ rfl
      simpa using this
     refine Does.of_calls hf hn hb ?_
     rcases hr with rfl | ⟨b, o, rfl, hb3, hr⟩
     ·refine (h0 a cap sep B.w).mono fun e w' he => ?_
      obtain ⟨rfl, rfl⟩ := he
      exact ⟨Kept.refl B, Sh _⟩
     ·refine (h1 b o cap xs sep B.w (hat b o hr) (hS b hb3) hb2.1 hcap hb2.2).mono fun e w' he => ?_
      obtain ⟨rfl, hbel⟩ := he
      exact ⟨(Kept.refl B).below hbel (fun e => by rw [hdr] at e; cases e), Sh _⟩
end
end Go.Vt
namespace Go.Vt
open Go.RowKit
set_option linter.unusedVariables false
set_option linter.unusedSimpArgs false
section
variable {P : Program} {gw : Gw}
theorem Q2 {T : Nat} (hu : (match P.underlying T with | some (.interface _) => true | _ => false) = true) (h1 : (P.info? T).map (·.size) = some 1) (h3 : ((P.info? T).bind (·.zero)).map (fun z => z.cells.toList) = some [.nilIface]) : TyOk P T (.one .err) := by
 cases h : P.underlying T with
 | none => rw [h] at hu; cases hu
 | some d => rw [h] at hu; exact Nt h (by cases d <;> first | rfl | cases hu) h1 h3
def atoiR (s : List UInt8) : Int × Bool := match Lib.atoiAll s with | .ok v => (v, true) | .range => (Lib.atoiSat s, false) | _ => (0, false)
def atoiF (s : ByteArray) : Option (Int × Bool) := bif decide (s.size ≤ 281474976710656) then some (atoiR s.data.toList) else none
def atoiFi : Fi := ⟨[.v .str false], [(false, [⟨.int .i64, none⟩]), (false, [⟨.err, none⟩])], some (fun _ s => atoiF s), .skip, [], 0, fun _ => none⟩
theorem Md {B : Base gw} {w' : World} {S : Nat → Prop} (n : Int) (b : Bool) (v : Value) (h : ErrV v b) : ResR B w' S [(false, [⟨.int .i64, none⟩]), (false, [⟨.err, none⟩])] [] [] (n, b) (.tuple #[.int .i64 n, v]) := by
 refine ⟨S, [.int .i64 n, v], [], [], rfl, fun _ h => h, fun _ h => .inl h, List.nodup_nil, ?_, ⟨[], [], rfl, ⟨rfl, rfl⟩, ⟨⟨v, rfl, h⟩, rfl⟩⟩, rfl⟩
 intro b hb; cases hb
def AtoiDoes (P : Program) (gw : Gw) (f : FuncId) : Prop :=
 ∀ (s : ByteArray) (w : World), gw.p w → s.size ≤ 281474976710656 → Calls P f #[.string s] w fun e w' => (∃ v, e = .returned (.tuple #[.int .i64 (atoiR s.data.toList).1, v]) ∧ ErrV v (atoiR s.data.toList).2) ∧ Below w.heap.size w w'
theorem La {f : FuncId} {fn : Func} (hf : P.funcs[f]? = some fn) (hn : (fn.name == "runtime.NumGoroutine") = false) (hb : fn.body.isSome = true) (hdr : gw.dr = false) (hc : AtoiDoes P gw f) : OneF P gw f atoiFi := by
 suffices hg : ∀ (x : ByteArray) (y : Int × Bool), atoiF x = some y → GivesO P gw f atoiFi x y from ⟨fun g hg' k x y hy => by cases hg'; exact (hg x y hy).all rfl, fun h => by cases h⟩
 intro x y hy' B S vs L H hS hL hm hH hA
 match vs, hA with
 | [v], hA =>
   obtain ⟨⟨cs, rfl, _, hv⟩, rfl, rfl⟩ := hA
   cases (show cs = [Value.string x] from hv)
   unfold atoiF at hy'
   cases hb2 : decide (x.size ≤ 281474976710656) with
   | false => rw [hb2] at hy'; cases hy'
   | true =>
     rw [hb2] at hy'
     cases hy'
     refine Does.of_calls hf hn hb ((hc x B.w (B.hg _ (Kept.refl B)) (of_decide_eq_true hb2)).mono fun e w' he => ?_)
     obtain ⟨⟨v, rfl, hv⟩, hbel⟩ := he
     exact ⟨(Kept.refl B).below hbel (fun e => by rw [hdr] at e; cases e), Md _ _ v hv⟩
theorem SY {ρ : Go.Shelf.Ren} (L : Go.Proofs.LaysC.n172 P ρ) (h : ∀ w, gw.p w → (∃ tp p, w.var? P "strconv.ErrSyntax" = some #[.iface tp p]) ∧ ∃ tp p, w.var? P "strconv.ErrRange" = some #[.iface tp p]) : AtoiDoes P gw (ρ.f 172) := by
 intro s w hw hs
 obtain ⟨⟨tp, p, h1⟩, tq, q, h2⟩ := h w hw
 unfold atoiR
 cases hc : Lib.atoiAll s.data.toList with
 | ok v =>
   refine (Go.Proofs.Any.strconv_Atoi_ok L s (by omega) v hc w).mono fun e w' he => ?_
   obtain ⟨rfl, rfl | ⟨t, rfl⟩⟩ := he
   ·exact ⟨⟨_, rfl, rfl⟩, Below.refl _ _⟩
   ·exact ⟨⟨_, rfl, rfl⟩, Lib.bytesWorld_below _ _ _⟩
 | range =>
   refine (Go.Proofs.Any.strconv_Atoi_range_var L s hs hc tq q w h2).mono fun e w' he => ?_
   obtain ⟨N, rfl, _, _, hb⟩ := he
   exact ⟨⟨_, rfl, rfl⟩, hb⟩
 | _ =>
   refine (Go.Proofs.Any.strconv_Atoi_syntax_var L s hs hc tp p w h1).mono fun e w' he => ?_
   obtain ⟨N, rfl, _, _, hb⟩ := he
   exact ⟨⟨_, rfl, rfl⟩, hb⟩
def Zi (s : ByteArray) (c : Int) : Option Int := some (Lib.indexByte s.data.toList c.toNat.toUInt8)
def indexByteFi : Fi := ⟨[.v .str false, .v (.int .u8) false], [(false, [⟨.int .i64, none⟩])], some (fun _ x => Zi x.1 x.2), .skip, [], 0, fun _ => none⟩
theorem MO {B : Base gw} {w' : World} {S : Nat → Prop} (n : Int) : ResR B w' S [(false, [⟨.int .i64, none⟩])] [] [] n (.int .i64 n) := by
 refine ⟨S, [.int .i64 n], [], [], rfl, fun _ h => h, fun _ h => .inl h, List.nodup_nil, ?_, ⟨rfl, rfl⟩, rfl⟩
 intro b hb; cases hb
theorem Tq {f : FuncId} {fn : Func} (hf : P.funcs[f]? = some fn) (hn : (fn.name == "runtime.NumGoroutine") = false) (hb : fn.body.isSome = true)
 (hc : ∀ (s : ByteArray) (c : Int) (w : World), Calls P f #[.string s, .int .u8 c] w fun e w' => e = .returned (.int .i64 (Lib.indexByte s.data.toList c.toNat.toUInt8)) ∧ w' = w) : OneF P gw f indexByteFi := by
 suffices hg : ∀ (s : ByteArray) (c : Int) (y : Int), Zi s c = some y → GivesO P gw f indexByteFi (s, c) y from ⟨fun g hg' k x y hy => by cases hg'; exact (hg x.1 x.2 y hy).all rfl, fun h => by cases h⟩
 intro s c y hy' B S vs L H hS hL hm hH hA
 match vs, hA with
 | [v, u], hA =>
   obtain ⟨L1, L2, H1, H2, rfl, rfl, ⟨⟨cs, rfl, _, hv⟩, rfl, rfl⟩, ⟨⟨ds, rfl, _, hu⟩, rfl, rfl⟩⟩ := hA
   cases (show cs = [Value.string s] from hv)
   cases (show ds = [Value.int .u8 c] from hu)
   cases hy'
   refine Does.of_calls hf hn hb ((hc s c B.w).mono fun e w' he => ?_)
   obtain ⟨rfl, rfl⟩ := he
   exact ⟨Kept.refl B, MO _⟩
end
end Go.Vt
namespace Go.Vt
open Go.Proofs Go.Shelf Go.RowKit Go.Sort
variable {P : Program} {ρ : Ren} {gw : Gw}
theorem Does.of_calls' {w : World} {f : FuncId} {fn : Func} {vs : Array Value} {R : Value → World → Prop} (hf : P.funcs[f]? = some fn) (hn : (fn.name == "runtime.NumGoroutine") = false) (hb : fn.body.isSome = true)
 (h : Calls P f vs w fun e w' => match e with | .returned v => R v w' | _ => False) : Does P f vs w R := by
 have hcall : (callFunc f vs).run P w = .ok (.enter f vs) w := by
  simp only [callFunc, Sem.run_bind, program]
  have hname' : ¬ (fn.name == "runtime.NumGoroutine") = true := by rw [hn]; simp
  have hb' : ¬ fn.body.isNone = true := by cases hfb : fn.body with
   | none => rw [hfb] at hb; cases hb
   | some c => simp
  simp only [Sem.run, hf, Result.andThen_ok]
  rw [if_neg hname', if_neg hb']
  simp [Sem.run, pure]
 unfold Does
 rw [hcall]
 exact h
end Go.Vt
namespace Go.Vt
open Go.Proofs Go.Shelf Go.RowKit Go.Sort
set_option linter.unusedVariables false
set_option linter.unusedSimpArgs false
abbrev El (t : Ty) := t.den × Value × List Nat
theorem OL.split {t : Ty} {p : t.den → List Value → List Nat → Prop} : ∀ {xs : List t.den} {cs : List Value} {L : List Nat}, OL 1 p xs cs L →
 ∃ zs : List (El t), zs.map (·.1) = xs ∧ cs.take xs.length = zs.map (·.2.1) ∧ zs.flatMap (·.2.2) = L ∧ ∀ a ∈ zs, p a.1 [a.2.1] a.2.2
 | [], cs, L, h => ⟨[], rfl, by simp, by rw [show L = [] from h]; rfl, fun a ha => by cases ha⟩
 | x :: xs, [], L, h => by obtain ⟨_, _, _, hn, _⟩ := h; simp at hn
 | x :: xs, c :: cs, L, h => by
   obtain ⟨L1, L2, rfl, hn, hp, h⟩ := h
   obtain ⟨zs, h1, h2, h3, h4⟩ := OL.split (cs := cs) h
   refine ⟨(x, c, L1) :: zs, by simp [h1], by simp [h2], by simp [h3], fun a ha => ?_⟩
   rcases List.mem_cons.1 ha with rfl | ha
   ·exact hp
   ·exact h4 a ha
theorem OL.joins {t : Ty} {p : t.den → List Value → List Nat → Prop} : ∀ (zs : List (El t)) (rest : List Value), (∀ a ∈ zs, p a.1 [a.2.1] a.2.2) → OL 1 p (zs.map (·.1)) (zs.map (·.2.1) ++ rest) (zs.flatMap (·.2.2))
 | [], rest, _ => rfl
 | a :: zs, rest, h => ⟨a.2.2, zs.flatMap (fun a => a.2.2), by simp, by simp, h a (by simp), by
   have := OL.joins zs rest fun b hb => h b (by simp [hb])
   simpa using this⟩
structure RowO (w : World) (S : Nat → Prop) (t : Ty) (deep : Bool) (b f cap : Nat) (cs : Array Value) (E : TypeId) (zs : List (El t)) : Prop where
 heap : w.heap[b]? = some (.cells cs E (0, 0))
 fit : f + cap ≤ cs.size
 len : zs.length ≤ cap
 cells : (cs.toList.drop f).take zs.length = zs.map (·.2.1)
 p : ∀ a ∈ zs, rowP w S t deep a.1 [a.2.1] a.2.2
variable {w : World} {S : Nat → Prop} {t : Ty} {deep : Bool}
theorem RowO.of (h1 : t.sz = 1) {v : Value} {xs : List t.den} {L : List Nat} (h : ORow w t.sz (rowP w S t deep) v xs L) :
 (v = .slice none 0 0 ∧ xs = [] ∧ L = []) ∨ ∃ b f cap cs E zs, v = .slice (some ⟨b, f, none⟩) xs.length cap ∧ RowO w S t deep b f cap cs E zs ∧ zs.map (·.1) = xs ∧ L = b :: zs.flatMap (·.2.2) := by
 rcases h with h | ⟨b, f, cap, cs, E, Li, hv, hb, hf, hl, rfl, ho⟩
 ·exact .inl h
 ·rw [h1] at ho hf
  obtain ⟨zs, e1, e2, e3, e4⟩ := OL.split ho
  have hl2 : zs.length = xs.length := by rw [← e1, List.length_map]
  exact .inr ⟨b, f, cap, cs, E, zs, hv, ⟨hb, by omega, by omega, by rw [hl2]; exact e2, e4⟩, e1, by rw [e3]⟩
theorem RowO.row (h1 : t.sz = 1) {b f cap : Nat} {cs : Array Value} {E : TypeId} {zs : List (El t)} (h : RowO w S t deep b f cap cs E zs) :
 ORow w t.sz (rowP w S t deep) (.slice (some ⟨b, f, none⟩) zs.length cap) (zs.map (·.1)) (b :: zs.flatMap (·.2.2)) := by
 refine .inr ⟨b, f, cap, cs, E, zs.flatMap (·.2.2), by rw [List.length_map], h.heap, by rw [h1, Nat.mul_one]; exact h.fit, by rw [List.length_map]; exact h.len, rfl, ?_⟩
 rw [h1]
 have := OL.joins zs ((cs.toList.drop f).drop zs.length) h.p
 rw [← h.cells, List.take_append_drop] at this
 exact this
variable {α : Type} [Inhabited α] {enc : α → Value}
theorem xz {b f m : Nat} {d : Array α} {os : Array Obj} {k : Nat} (hk : k < w.heap.size) (hne : k ≠ b) : (sortWorld enc w b f m d os).heap[k]? = w.heap[k]? := by
 unfold sortWorld grow putRow mapBlock Sort.ahead
 dsimp only
 rw [Array.getElem?_append_left (by simpa using hk), Array.getElem?_modify, if_neg (Ne.symm hne)]
theorem ay {b f m : Nat} {d : Array α} {os : Array Obj} {cs : Array Value} {E : TypeId} (hb : w.heap[b]? = some (.cells cs E (0, 0))) : (sortWorld enc w b f m d os).heap[b]? = some (.cells (Sort.putCells enc f d cs) E (0, 0)) := by
 have hk : b < w.heap.size := by
  rcases Nat.lt_or_ge b w.heap.size with h | h
  ·exact h
  ·rw [Array.getElem?_eq_none h] at hb; cases hb
 unfold sortWorld grow putRow mapBlock Sort.ahead
 dsimp only
 rw [Array.getElem?_append_left (by simpa using hk), Array.getElem?_modify, if_pos rfl, hb]
 rfl
theorem eW {gw : Gw} {B : Base gw} {b f m : Nat} {d : Array α} {os : Array Obj} (hb : B.mine b) : Kept B (sortWorld enc B.w b f m d os) := by
 refine ⟨rfl, rfl, rfl, ?_, fun k hk hn => xz hk (fun e => hn (e ▸ hb)), ?_⟩
 ·unfold sortWorld; rw [size_grow, Sort.size_putRow]; exact Nat.le_add_right _ _
 ·intro _
  show B.w.drawn ≤ B.w.drawn + m
  omega
theorem U3 {f : Nat} {d : Array α} {cs : Array Value} (h : f + d.size ≤ cs.size) : ((Sort.putCells enc f d cs).toList.drop f).take d.size = d.toList.map enc := by
 apply List.ext_getElem?
 intro j
 rw [List.getElem?_take]
 split
 ·rename_i hj
  have hj' : f + j < cs.size := by omega
  rw [List.getElem?_drop, Array.getElem?_toList, Sort.putCells, Array.getElem?_mapIdx, Array.getElem?_eq_getElem hj', List.getElem?_map, Array.getElem?_toList, Array.getElem?_eq_getElem hj]
  simp only [Option.map_some]
  rw [if_pos ⟨by omega, by omega⟩, Nat.add_sub_cancel_left, getElem!_pos d j hj]
 ·rename_i hj
  rw [List.getElem?_eq_none (by simp; omega)]
theorem VW {f : Nat} {d : Array α} {cs : Array Value} : (Sort.putCells enc f d cs).size = cs.size := by simp [Sort.putCells]
theorem RowO.holds {b f cap : Nat} {cs : Array Value} {E : TypeId} {zs : List (El t)} (h : RowO w S t deep b f cap cs E zs) (ds : List α) (e : ds.map enc = zs.map (·.2.1)) : Holds enc w b f ds.toArray := by
 have hl : ds.length = zs.length := by have := congrArg List.length e; simpa using this
 intro j hj
 have hj' : j < ds.length := by simpa using hj
 constructor
 ·have h2 : (cs.toList.drop f)[j]? = some (enc ds[j]) := by
   have h3 := congrArg (fun l => l[j]?) h.cells
   simp only [List.getElem?_take] at h3
   rw [if_pos (by omega), ← e, List.getElem?_map, List.getElem?_eq_getElem hj'] at h3
   exact h3
  rw [List.getElem?_drop, Array.getElem?_toList] at h2
  simp only [World.cell?, h.heap, Option.isSome_none, Bool.false_eq_true, if_false]
  rw [h2, getElem!_pos _ j hj]
  rfl
 ·simp [World.frozen?, h.heap]
theorem RowO.after {b f cap m : Nat} {cs : Array Value} {E : TypeId} {zs : List (El t)} (h : RowO w S t deep b f cap cs E zs) (d : Array α) (hd : d.size = zs.length) (zs' : List (El t)) (hp : ∀ a ∈ zs', rowP w S t deep a.1 [a.2.1] a.2.2)
 (hk : (d.toList.map enc).take zs'.length = zs'.map (·.2.1)) (hlen : zs'.length ≤ zs.length) (hS : ∀ k, S k → k < w.heap.size ∧ k ≠ b) (hL : ∀ a ∈ zs', ∀ k ∈ a.2.2, k < w.heap.size ∧ k ≠ b) (os : Array Obj) :
 RowO (sortWorld enc w b f m d os) S t deep b f cap (Sort.putCells enc f d cs) E zs' := by
 have hfit := h.fit
 have hl := h.len
 refine ⟨ay h.heap, by rw [VW]; exact h.fit, by omega, ?_, fun a ha => ?_⟩
 ·have := congrArg (List.take zs'.length) (U3 (enc := enc) (f := f) (d := d) (cs := cs) (by omega))
  rw [List.take_take, Nat.min_eq_left (by omega)] at this
  rw [this, hk]
 ·exact rowP.tell (fun k hk2 => xz (hS k hk2).1 (hS k hk2).2) (fun _ h => h) (fun k hk2 => xz (hL a ha k hk2).1 (hL a ha k hk2).2) (hp a ha)
theorem Qm {W w' : World} (h : KeptW true W (fun b => W.heap.size ≤ b) w') : ∃ q os, w' = grow (W.drewN q) os := by
 refine ⟨w'.drawn - W.drawn, w'.heap.extract W.heap.size w'.heap.size, ?_⟩
 have hh : w'.heap = W.heap ++ w'.heap.extract W.heap.size w'.heap.size := by
  apply Array.ext_getElem?
  intro i
  by_cases hi : i < W.heap.size
  ·rw [Array.getElem?_append_left hi]
   exact h.block i hi (by omega)
  ·rw [Array.getElem?_append_right (by omega), Array.getElem?_extract]
   have := h.size
   by_cases hi2 : i < w'.heap.size
   ·rw [if_pos (by omega)]
    congr 1
    omega
   ·rw [if_neg (by omega), Array.getElem?_eq_none (by omega)]
 have hd := h.drawn rfl
 obtain ⟨heap, tape, drawn, os, output⟩ := w'
 have e1 : os = W.os := h.os
 have e2 : tape = W.tape := h.tape
 have e3 : output = W.output := h.output
 subst e1 e2 e3
 unfold grow World.drewN
 dsimp only at hh hd ⊢
 congr 1
 omega
abbrev ints : Ty := .slice (.int .i64)
abbrev g1 : Gw := ⟨fun _ => True, true⟩
theorem calls2 {P : Program} {g : Nat} {r : Ty} {ext c res nt hs} {x y : List Int} {z : r.den}
 (hg : GivesO P g1 g ⟨[.v ints false, .v ints false], [(false, [⟨r, none⟩])], ext, c, res, nt, hs⟩ (x, y) z) (hr : r.flat = true) {W : World} (eg : ∀ args w, (callFunc g args).run P w = .ok (.enter g args) w)
 {v1 v2 : Value} (h1 : VR W (fun b => b < W.heap.size) ints x [v1]) (h2 : VR W (fun b => b < W.heap.size) ints y [v2]) :
 Calls P g #[v1, v2] W fun e w' => (∃ u, e = .returned u ∧ VR w' (fun _ => True) r z [u]) ∧ ∃ q os, w' = grow (W.drewN q) os := by
 have h := hg ⟨W, fun b => W.heap.size ≤ b, fun _ h => h, fun _ _ => trivial, []⟩ (fun b => b < W.heap.size) [v1, v2] [] [] (fun _ h => h) List.nodup_nil (fun b hb => by cases hb) rfl
  ⟨[], [], [], [], rfl, rfl, ⟨⟨[v1], rfl, fun _ => rfl, h1⟩, rfl, rfl⟩, ⟨⟨[v2], rfl, fun _ => rfl, h2⟩, rfl, rfl⟩⟩
 unfold Does at h
 rw [eg] at h
 refine h.mono fun e w' hh => ?_
 cases e with
 | panicked c => exact hh.elim
 | outgrown => exact hh.elim
 | returned v =>
   obtain ⟨hk, S', vs, L, M, rfl, _, _, _, _, hR, _⟩ := hh
   refine ⟨?_, Qm hk⟩
   match vs, hR with
   | [u], hR =>
     refine ⟨u, rfl, ?_⟩
     have h3 : VR w' S' r z [u] := by
      cases r with
      | slice t => cases hr
      | set => cases hr
      | err => exact hR.1
      | int k => exact hR.1
      | bool => exact hR.1
      | str => exact hR.1
      | pair a b => exact hR.1
     exact VR.mono (Same.refl _ _) (fun _ _ => trivial) h3
end Go.Vt
namespace Go.Vt
open Go.Proofs Go.Shelf Go.RowKit Go.Sort
set_option linter.unusedVariables false
set_option linter.unusedSimpArgs false
variable {P : Program} {ρ : Ren} {gw : Gw}
theorem Pz {B : Base gw} {S : Nat → Prop} {t : Ty} {deep : Bool} (h1 : t.sz = 1) {α : Type} [Inhabited α] {enc : α → Value} {b f cap : Nat} {cs : Array Value} {E : TypeId} {zs zs' : List (El t)} (hR : RowO B.w S t deep b f cap cs E zs)
 (hL : (b :: zs.flatMap (·.2.2)).Nodup) (hm : ∀ k ∈ b :: zs.flatMap (·.2.2), B.mine k ∧ k < B.w.heap.size ∧ ¬ S k) (hS : ∀ k, S k → k < B.w.heap.size) (hp : zs'.Perm zs) (d : Array α) (hd : d.toList.map enc = zs'.map (·.2.1)) (m : Nat) (os : Array Obj) :
 Kept B (sortWorld enc B.w b f m d os) ∧ ResR B (sortWorld enc B.w b f m d os) S [] [⟨.slice t, some (deep, false)⟩] [.slice (some ⟨b, f, none⟩) zs.length cap] ((), zs'.map (·.1)) (.tuple #[]) := by
 have hb := hm b (by simp)
 have hk := eW (enc := enc) (f := f) (m := m) (d := d) (os := os) hb.1
 refine ⟨hk, ?_⟩
 have hdl : d.size = zs.length := by
  have := congrArg List.length hd
  simp only [List.length_map, Array.length_toList] at this
  rw [this, hp.length_eq]
 have hpf := hp.flatMap_right (·.2.2)
 have hM : ∀ k ∈ b :: zs'.flatMap (·.2.2), k ∈ b :: zs.flatMap (·.2.2) := fun k hk => by
  rcases List.mem_cons.1 hk with rfl | hk
  ·simp
  ·exact List.mem_cons_of_mem _ ((hpf.mem_iff).1 hk)
 have hr := RowO.row h1 (hR.after (enc := enc) (m := m) d hdl zs' (fun a ha => hR.p a (hp.mem_iff.1 ha)) (by rw [hd, List.take_of_length_le (by simp)]) (Nat.le_of_eq hp.length_eq)
  (fun k hk => ⟨hS k hk, fun e => hb.2.2 (e ▸ hk)⟩) (fun a ha k hk2 => ⟨(hm k (hM k (List.mem_cons_of_mem _ (List.mem_flatMap.2 ⟨a, ha, hk2⟩)))).2.1, fun e => by
    have h2 := (List.nodup_cons.1 hL).1
    exact h2 (hpf.mem_iff.1 (e ▸ List.mem_flatMap.2 ⟨a, ha, hk2⟩))⟩) os)
 refine ⟨S, [], [], b :: zs'.flatMap (·.2.2), rfl, fun _ h => h, fun _ h => .inl h, ?_, fun c hc => ?_, rfl, ?_⟩
 ·rw [List.nil_append]
  exact (List.Perm.nodup_iff (List.Perm.cons b hpf)).2 hL
 ·rw [List.nil_append] at hc
  have := hm c (hM c hc)
  exact ⟨this.1, Nat.lt_of_lt_of_le this.2.1 hk.size, this.2.2⟩
 ·rw [hp.length_eq] at hr
  exact ⟨hr, fun h => by cases h⟩
def reverseF (x : List Int) : Option (Unit × List Int) := bif decide (x.length ≤ 9223372036854775807) then some ((), x.reverse) else none
def reverseFi : Fi := ⟨[.o [.o (.int .i64) false] false], [], some (fun _ x => reverseF x), .skip, [], 0, fun _ => none⟩
theorem R9 (L : SlLaysE.n35 P ρ) {fn : Func} (hf : P.funcs[ρ.f 35]? = some fn) (hn : (fn.name == "runtime.NumGoroutine") = false) (hb : fn.body.isSome = true) : OneF P gw (ρ.f 35) reverseFi := by
 suffices hg : ∀ (x : List Int) (y : Unit × List Int), reverseF x = some y → GivesO P gw (ρ.f 35) reverseFi x y from ⟨fun g hg' k x y hy => by cases hg'; exact (hg x y hy).all rfl, fun h => by cases h⟩
 intro xs y hy B S vs LL H hS hL hm hH hA
 match vs, hA with
 | [v], hA =>
 obtain ⟨us, e, hl, hpc, hHe⟩ := hA
 have hl := hl rfl
 match us, hl, e, hpc, hHe with
 | [u], _, e, hpc, hHe =>
 have e : v = u := e
 have hHe : H = [u] := hHe
 subst e
 subst hHe
 have hpc : ORow B.w (Ty.int .i64).sz (rowP B.w S (.int .i64) false) v xs LL := hpc
 unfold reverseF at hy
 cases hd : decide (xs.length ≤ 9223372036854775807) with
 | false => rw [hd] at hy; cases hy
 | true =>
 rw [hd] at hy
 cases hy
 have hd := of_decide_eq_true hd
 rcases RowO.of rfl hpc with ⟨rfl, rfl, rfl⟩ | ⟨b, f, cap, cs, E, zs, rfl, hR, e1, rfl⟩
 ·refine Does.of_calls' hf hn hb ((AnyE.slices_Reverse_empty L none 0 B.w).mono ?_)
  rintro e w' ⟨rfl, rfl⟩
  exact ⟨Kept.refl B, S, [], [], [], rfl, fun _ h => h, fun _ h => .inl h, List.nodup_nil, (fun c hc => by cases hc), rfl, .inl ⟨rfl, rfl, rfl⟩, fun h => by cases h⟩
 ·have hl : zs.length = xs.length := by rw [← e1, List.length_map]
  let G : El (.int .i64) → Prop := fun a => rowP B.w S (.int .i64) false a.1 [a.2.1] a.2.2
  have : Inhabited {a : El (.int .i64) // G a} := ⟨⟨((0 : Int), .int .i64 0, []), ⟨rfl, rfl⟩⟩⟩
  let ds : List {a : El (.int .i64) // G a} := zs.attachWith G hR.p
  have hds : ds.map Subtype.val = zs := List.attachWith_map_subtype_val hR.p
  have hdl : ds.length = xs.length := by rw [← hl, ← hds, List.length_map]
  let enc : {a : El (.int .i64) // G a} → Value := fun a => a.1.2.1
  have henc : ds.map enc = zs.map (·.2.1) := by rw [← hds, List.map_map]; rfl
  have h1 : OneCell enc := fun a => by
   have h3 : rowP B.w S (.int .i64) false a.1.1 [a.1.2.1] a.1.2.2 := a.2
   have h4 : [a.1.2.1] = [Value.int .i64 a.1.1] := h3.1
   show (a.1.2.1).oneCell' = true
   rw [List.cons.inj h4 |>.1]
   rfl
  have hc := AnyE.slices_Reverse L enc h1 b f cap ds B.w (hR.holds ds henc) (by omega)
  rw [hdl] at hc
  refine Does.of_calls' hf hn hb (hc.mono ?_)
  rintro e w' ⟨rfl, n, rfl⟩
  have hw : putRow enc (Sort.ahead B.w n) b f ds.reverse.toArray = sortWorld enc B.w b f n ds.reverse.toArray #[] := by unfold sortWorld; rw [grow_empty]
  have := Pz rfl hR hL hm hS (List.reverse_perm zs) (enc := enc) ds.reverse.toArray (by rw [List.map_reverse, henc, List.map_reverse]) n #[]
  rw [← hw, hl] at this
  rw [List.map_reverse, e1] at this
  exact this
def cmpI : List Int → List Int → Int
 | [], b => if 0 < b.length then -1 else 0
 | _ :: _, [] => 1
 | x :: a, y :: b => if x = y then cmpI a b else if x < y then -1 else 1
theorem gm : ∀ a, ¬ cmpI a a < 0
 | [] => by simp [cmpI]
 | x :: a => by unfold cmpI; rw [if_pos rfl]; exact gm a
theorem jI : ∀ a b c, cmpI a b < 0 → cmpI b c < 0 → cmpI a c < 0
 | [], [], _, h, _ => by simp [cmpI] at h
 | [], _ :: _, [], _, h => by simp [cmpI] at h
 | [], _ :: _, _ :: _, _, _ => by simp [cmpI]
 | _ :: _, [], _, h, _ => by simp [cmpI] at h
 | _ :: _, _ :: _, [], _, h => by simp [cmpI] at h
 | x :: a, y :: b, z :: c, h, k => by
   unfold cmpI at h k ⊢
   split at h <;> split at k <;> try split at h
   all_goals (try split at k)
   all_goals (split <;> try split)
   all_goals first | omega | exact jI a b c h k | skip
theorem br : ∀ a b c, ¬ cmpI a b < 0 → ¬ cmpI b c < 0 → ¬ cmpI a c < 0
 | [], [], [], _, _ => by simp [cmpI]
 | [], [], _ :: _, _, h => by simp [cmpI] at h
 | [], _ :: _, _, h, _ => by simp [cmpI] at h
 | _ :: _, _, [], _, _ => by simp [cmpI]
 | _ :: _, [], _ :: _, _, h => by simp [cmpI] at h
 | x :: a, y :: b, z :: c, h, k => by
   unfold cmpI at h k ⊢
   split at h <;> split at k <;> try split at h
   all_goals (try split at k)
   all_goals (split <;> try split)
   all_goals first | omega | exact br a b c h k | skip
theorem Wv : ∀ a b, ¬ cmpI a b < 0 → ¬ cmpI b a < 0 → a = b
 | [], [], _, _ => rfl
 | [], _ :: _, h, _ => by simp [cmpI] at h
 | _ :: _, [], _, h => by simp [cmpI] at h
 | x :: a, y :: b, h, k => by
   unfold cmpI at h k
   by_cases e : x = y
   ·subst e
    rw [if_pos rfl] at h k
    rw [Wv a b h k]
   ·rw [if_neg e] at h
    rw [if_neg (Ne.symm e)] at k
    split at h <;> split at k <;> omega
def leI (x y : List Int) : Bool := !decide (cmpI y x < 0)
def bD (l : List (List Int)) : List (List Int) := l.mergeSort leI
theorem Pp (a b c : List Int) (h : leI a b = true) (k : leI b c = true) : leI a c = true := by
 unfold leI at *
 simp only [Bool.not_eq_true', decide_eq_false_iff_not] at *
 exact br c b a k h
theorem Pq (a b : List Int) : (leI a b || leI b a) = true := by
 unfold leI
 by_cases h : cmpI b a < 0
 ·have : ¬ cmpI a b < 0 := fun k => gm a (jI a b a k h)
  simp [h, this]
 ·simp [h]
theorem NL {a b : List Int} (h : leI a b = true) (k : leI b a = true) : a = b := by
 unfold leI at *
 simp only [Bool.not_eq_true', decide_eq_false_iff_not] at *
 exact Wv a b k h
theorem jj (l : List (List Int)) : (bD l).Perm l := List.mergeSort_perm l leI
theorem ZI (l : List (List Int)) : (bD l).Pairwise (fun a b => leI a b = true) := List.pairwise_mergeSort Pp Pq l
theorem UR {l m : List (List Int)} (hp : m.Perm l) (hs : m.Pairwise (fun a b => leI a b = true)) : m = bD l :=
 List.Perm.eq_of_pairwise (le := fun a b => leI a b = true) (fun a b _ _ h k => NL h k) hs (ZI l) (hp.trans (jj l).symm)
def ZJ (x : List (List Int)) : Bool := decide (x.length ≤ 4611686018427387903) && x.all fun l => decide (l.length ≤ 9223372036854775807)
def Si (x : List (List Int)) : Option (Unit × List (List Int)) := bif ZJ x then some ((), bD x) else none
def sortFi (g : Nat) : Fi := ⟨[.o [.o ints true] false, .fn g []], [], some (fun _ x => Si x.1), .skip, [], 0, fun _ => none⟩
theorem Qe {w : World} {t : Ty} {x : List t.den} {v : Value} {L : List Nat} (h : OT w (.slice t) x [v] L) : v.oneCell' = true := by
 obtain ⟨v', e, h⟩ := h
 cases (List.cons.inj e).1
 rcases h with ⟨rfl, _, _⟩ | ⟨b, f, cap, c, E, Li, rfl, _⟩ <;> rfl
def Elem (w : World) (S : Nat → Prop) (b : Nat) (a : El ints) : Prop := rowP w S ints true a.1 [a.2.1] a.2.2 ∧ (∀ k ∈ a.2.2, k < w.heap.size ∧ k ≠ b) ∧ (a.1 : List Int).length ≤ 9223372036854775807
instance {w : World} {S : Nat → Prop} {b : Nat} : Inhabited {a : El ints // Elem w S b a} :=
 ⟨⟨(([] : List Int), .slice none 0 0, []), ⟨⟨_, rfl, .inl ⟨rfl, rfl, rfl⟩⟩, (fun k hk => by cases hk), Nat.zero_le _⟩⟩⟩
abbrev Zs {w : World} {S : Nat → Prop} {b : Nat} (a : {a : El ints // Elem w S b a}) : Value := a.1.2.1
theorem RG {w : World} {S : Nat → Prop} {b : Nat} : OneCell (Zs (w := w) (S := S) (b := b)) := fun a => Qe (show OT w ints a.1.1 [a.1.2.1] a.1.2.2 from a.2.1)
theorem aF {w : World} {S : Nat → Prop} {b f m : Nat} {d : Array {a : El ints // Elem w S b a}} {os : Array Obj} (a : {a : El ints // Elem w S b a}) :
 VR (sortWorld Zs w b f m d os) (fun k => k < (sortWorld Zs w b f m d os).heap.size) ints a.1.1 [Zs a] := by
 have h : OT w ints a.1.1 [a.1.2.1] a.1.2.2 := a.2.1
 refine (OT.same h fun k hk => xz (a.2.2.1 k hk).1 (a.2.2.1 k hk).2).read fun k hk => ?_
 refine Nat.lt_of_lt_of_le (a.2.2.1 k hk).1 ?_
 unfold sortWorld; rw [size_grow, Sort.size_putRow]; exact Nat.le_add_right _ _
theorem Nw {w : World} {S : Nat → Prop} {b : Nat} : SWO (ltOf fun (x y : {a : El ints // Elem w S b a}) => cmpI x.1.1 y.1.1) where
 irrefl x := by unfold ltOf; simp [gm]
 trans x y z h1 h2 := by unfold ltOf at *; simp only [decide_eq_true_eq] at *; exact jI _ _ _ h1 h2
 ntrans x y z h1 h2 := by unfold ltOf at *; simp only [decide_eq_false_iff_not] at *; exact br _ _ _ h1 h2
theorem MC (L : SlLaysF.n6 P ρ) {fn : Func} (hf : P.funcs[ρ.f 6]? = some fn) (hn : (fn.name == "runtime.NumGoroutine") = false) (hb : fn.body.isSome = true)
 {g : Nat} (eg : ∀ args w, (callFunc g args).run P w = .ok (.enter g args) w) {ext c res nt hs}
 (hcmp : ∀ x y : List Int, x.length ≤ 9223372036854775807 → y.length ≤ 9223372036854775807 → GivesO P g1 g ⟨[.v ints false, .v ints false], [(false, [⟨.int .i64, none⟩])], ext, c, res, nt, hs⟩ (x, y) (cmpI x y)) :
 OneF P gw (ρ.f 6) (sortFi g) := by
 suffices hg : ∀ (x : List (List Int) × Bool) (y : Unit × List (List Int)), Si x.1 = some y → GivesO P gw (ρ.f 6) (sortFi g) x y from ⟨fun g hg' k x y hy => by cases hg'; exact (hg x y hy).all rfl, fun h => by cases h⟩
 rintro ⟨xs, fx⟩ y hy B S vs LL H hS hL hm hH hA
 match vs, hA with
 | [v, u2], hA =>
 obtain ⟨L1, L2, H1, H2, rfl, rfl, ⟨us, e, hl, hpc, hHe⟩, ⟨ps, e2, hcap⟩, rfl, rfl⟩ := hA
 have hl := hl rfl
 have hps : ps = [] := by
  cases ps with
  | nil => rfl
  | cons p r => cases r <;> exact hcap.elim
 subst hps
 subst e2
 match us, hl, e, hpc, hHe with
 | [u], _, e, hpc, hHe =>
 have e : v = u := e
 have hHe : H1 = [u] := hHe
 subst e
 subst hHe
 rw [List.append_nil] at hL hm
 have hpc : ORow B.w ints.sz (rowP B.w S ints true) v xs L1 := hpc
 have hy : Si xs = some y := hy
 unfold Si at hy
 cases hd : ZJ xs with
 | false => rw [hd] at hy; cases hy
 | true =>
 rw [hd] at hy
 cases hy
 unfold ZJ at hd
 simp only [Bool.and_eq_true, decide_eq_true_eq, List.all_eq_true] at hd
 obtain ⟨hd1, hd2⟩ := hd
 rcases RowO.of rfl hpc with ⟨rfl, rfl, rfl⟩ | ⟨b, f, cap, cs, E, zs, rfl, hR, e1, rfl⟩
 ·refine Does.of_calls' hf hn hb ((AnyF.slices_SortFunc_none (P := P) (ρ := ρ) { L with } none 0 (.func (.func g) #[] #[]) B.w).mono ?_)
  rintro e w' ⟨rfl, rfl⟩
  exact ⟨Kept.refl B, S, [], [], [], rfl, fun _ h => h, fun _ h => .inl h, List.nodup_nil, (fun c hc => by cases hc), rfl, .inl ⟨rfl, (show bD [] = [] by simp [bD]), rfl⟩, fun h => by cases h⟩
 ·have hl : zs.length = xs.length := by rw [← e1, List.length_map]
  have hG : ∀ a ∈ zs, Elem B.w S b a := fun a ha => ⟨hR.p a ha, fun k hk => ⟨(hm k (List.mem_cons_of_mem _ (List.mem_flatMap.2 ⟨a, ha, hk⟩))).2.1, fun e => (List.nodup_cons.1 hL).1 (e ▸ List.mem_flatMap.2 ⟨a, ha, hk⟩)⟩, hd2 a.1 (by rw [← e1]; exact List.mem_map.2 ⟨a, ha, rfl⟩)⟩
  let ds : List {a : El ints // Elem B.w S b a} := zs.attachWith _ hG
  have hds : ds.map Subtype.val = zs := List.attachWith_map_subtype_val hG
  have hdl : ds.length = xs.length := by rw [← hl, ← hds, List.length_map]
  have henc : ds.map Zs = zs.map (·.2.1) := by rw [← hds, List.map_map]; rfl
  have hbm := hm b (by simp)
  have hcl : CmpLays1 P g #[] (Zs (w := B.w) (S := S) (b := b)) (fun x y => cmpI x.1.1 y.1.1) b f ds.toArray.size B.w := fun m os dk hdk x y => by
   have := calls2 (hcmp x.1.1 y.1.1 x.2.2.2 y.2.2.2) rfl eg (aF (f := f) (m := m) (d := dk) (os := os) x) (aF y)
   refine this.mono fun e w' hh => ?_
   obtain ⟨⟨u, rfl, hu⟩, q, os', hw⟩ := hh
   have hu : [u] = [Value.int .i64 (cmpI x.1.1 y.1.1)] := hu
   exact ⟨by rw [(List.cons.inj hu).1], q, os', hw⟩
  have hc := Any.slices_SortFunc L Zs RG (fun x y => cmpI x.1.1 y.1.1) Nw g #[] b f cap ds.toArray B.w eg hcl (hR.holds ds henc) hbm.2.1 (by rw [List.size_toArray]; omega)
  have hsz : ds.toArray.size = xs.length := by simpa using hdl
  rw [hsz] at hc
  refine Does.of_calls' hf hn hb (hc.mono ?_)
  rintro e w' ⟨rfl, d', n, os, ⟨hp1, _, hp3⟩, hs, rfl⟩
  have hperm : d'.toList.Perm ds := by
   have e1 : d'.extract 0 xs.length = d' := by rw [← hsz, ← hp1]; exact Array.extract_size
   have e2 : ds.toArray.extract 0 xs.length = ds.toArray := by rw [← hsz]; exact Array.extract_size
   rw [e1, e2] at hp3
   exact hp3
  have hzp : (d'.toList.map Subtype.val).Perm zs := by rw [← hds]; exact hperm.map _
  have hres := Pz rfl hR hL hm hS hzp (enc := Zs) d' (by rw [List.map_map]; rfl) n os
  have hsort : (d'.toList.map Subtype.val).map (·.1) = bD xs := by
   refine UR (by rw [← e1]; exact hzp.map _) ?_
   rw [List.map_map, List.pairwise_map, List.pairwise_iff_getElem]
   intro i j hi hj hij
   have hi' : i < d'.size := by simpa using hi
   have hj' : j < d'.size := by simpa using hj
   have := hs i j (Nat.zero_le _) hij (by rw [← hsz, ← hp1]; exact hj')
   rw [getElem!_pos d' j hj', getElem!_pos d' i hi'] at this
   unfold ltOf at this
   unfold leI
   simp only [Bool.not_eq_true']
   simpa using this
  rw [hsort, hl] at hres
  exact hres
end Go.Vt
namespace Go.Vt
open Go.Proofs Go.Shelf Go.RowKit Go.Sort
set_option linter.unusedVariables false
variable {P : Program} {ρ : Ren} {gw : Gw}
def SC (n : Int) : Option (List Int) := bif decide (0 ≤ n) && decide (n ≤ 1048576) then some [] else none
def growFi : Fi := ⟨[.z (.int .i64), .v (.int .i64) false], [(false, [⟨.slice (.int .i64), some (true, false)⟩])], some (fun _ x => SC x.2), .skip, [], 0, fun _ => none⟩
theorem MT (L : Lays8.n4 P ρ) (i0 : TypeInfo) (z : Value) (hi0 : P.info? (ρ.t 25) = some i0) (hz0 : i0.zero = some z) (hs1 : i0.size = 1) (hb8 : i0.bytes = 8) (hzl : ∀ n, (Builtin.zeroCells z.cells n).size = n)
 {fn : Func} (hf : P.funcs[ρ.f 4]? = some fn) (hn : (fn.name == "runtime.NumGoroutine") = false) (hb : fn.body.isSome = true) : OneF P gw (ρ.f 4) growFi := by
 suffices hg : ∀ (x : List Int × Int) (y : List Int), SC x.2 = some y → GivesO P gw (ρ.f 4) growFi x y from ⟨fun g hg' k x y hy => by cases hg'; exact (hg x y hy).all rfl, fun h => by cases h⟩
 rintro ⟨xs, n⟩ y hy B S vs LL H hS hL hm hH hA
 match vs, hA with
 | [v, u2], hA =>
 obtain ⟨L1, L2, H1, H2, rfl, rfl, ⟨⟨hv, hx⟩, rfl, rfl⟩, ⟨⟨c2, e2, _, h2⟩, rfl, rfl⟩⟩ := hA
 cases (show c2 = [Value.int .i64 n] from h2)
 subst hv
 have e2 : u2 = Value.int .i64 n := e2
 subst e2
 have hy : SC n = some y := hy
 unfold SC at hy
 cases hd : (decide (0 ≤ n) && decide (n ≤ 1048576)) with
 | false => rw [hd] at hy; cases hy
 | true =>
 rw [hd] at hy
 cases hy
 simp only [Bool.and_eq_true, decide_eq_true_eq] at hd
 obtain ⟨d1, d2⟩ := hd
 obtain ⟨m, rfl⟩ := Int.eq_ofNat_of_zero_le d1
 by_cases h0 : m = 0
 ·subst h0
  refine Does.of_calls' hf hn hb ((Any8.slices_Grow_room L none 0 0 0 B.w (Nat.le_refl _) (by omega) (by omega) (by omega)).mono ?_)
  rintro e w' ⟨rfl, rfl⟩
  exact ⟨Kept.refl B, S, [.slice none 0 0], [], [], rfl, fun _ h => h, fun _ h => .inl h, List.nodup_nil, (fun c hc => by cases hc), ⟨.inl ⟨rfl, rfl, rfl⟩, fun h => by cases h⟩, rfl⟩
 ·refine Does.of_calls' hf hn hb ((Any8.slices_Grow_grow L i0 z hi0 hz0 (by omega) none 0 0 m [] B.w (Nat.le_refl _) (by omega) (by rw [hb8]; omega) (by omega) (by simp) (fun _ => rfl) (fun a h => by cases h)).mono ?_)
  rintro e w' ⟨rfl, rfl⟩
  have hk : Kept B (B.w.drew.alloc (.cells (([] : List Value).toArray ++ Builtin.zeroCells z.cells (0 + m - 0) ++ Builtin.zeroCells z.cells (grownCap B.w (0 + m) 0 (ρ.t 25) - (0 + m))) (ρ.t 25))) := (KeptW.drew (Kept.refl B)).alloc _
  have hG := grownCap_ge B.w (0 + m) 0 (ρ.t 25)
  refine ⟨hk, S, [.slice (some ⟨B.w.heap.size, 0, none⟩) 0 (grownCap B.w (0 + m) 0 (ρ.t 25))], [B.w.heap.size], [], rfl, fun _ h => h, fun _ h => .inl h, by simp, fun c hc => ?_, ⟨.inr ⟨B.w.heap.size, 0, grownCap B.w (0 + m) 0 (ρ.t 25), _, ρ.t 25, [], rfl, by
   exact Array.getElem?_push_size, ?_, Nat.zero_le _, rfl, rfl⟩, fun h => by cases h⟩, rfl⟩
  ·have : c = B.w.heap.size := by simpa using hc
   subst this
   exact ⟨B.up _ (Nat.le_refl _), (by show B.w.heap.size < (Array.push _ _).size; rw [Array.size_push]; exact Nat.lt_succ_self _), fun hs => Nat.lt_irrefl _ (hS _ hs)⟩
  ·show 0 + grownCap B.w (0 + m) 0 (ρ.t 25) * 1 ≤ _
   rw [Array.size_append, Array.size_append, hzl, hzl, show (([] : List Value).toArray).size = 0 from rfl]
   omega
end Go.Vt
namespace Go.Vt
set_option linter.unusedVariables false
def h0 : Nat → Option (List Hint) := fun _ => none
def fiOf (fn : Func) (ps : List PT) (rs : List (Bool × List RC)) (h : Nat → Option (List Hint)) : Fi := ⟨ps, rs, none, (fn.body).getD .skip, fn.results.toList, fn.ntmps, h⟩
def okB (fn : Func) (ps : List PT) : Bool := !(fn.name == "runtime.NumGoroutine") && (fn.body.isSome && Nat.ble ps.length fn.ntmps)
def Sw : Code → Nat → List Item → Option (List Item)
 | .region id ops draw, n, r => bif Nat.beq id n then some (.code (.region id ops draw) :: r) else none
 | .seq a b, n, r => match Sw a n (.code b :: r) with | some x => some x | none => Sw b n r
 | .block id c, n, r => Sw c n (.inBlock id :: r)
 | .loop c, n, r => Sw c n (.inLoop c :: r)
 | .cond _ a b, n, r => match Sw a n r with | some x => some x | none => Sw b n r
 | _, _, _ => none
def mkSl : Nat → Nat → List (Nat × AV) → List AV
 | 0, _, _ => []
 | n + 1, i, [] => .cv .dead :: mkSl n (i + 1) []
 | n + 1, i, (j, a) :: l => bif Nat.beq i j then a :: mkSl n (i + 1) l else .cv .dead :: mkSl n (i + 1) ((j, a) :: l)
noncomputable def yS (E : Env) (k : Nat) (fi : Fi) (n : Nat) (sl : List (Nat × AV)) (ob : List (Nat × Ob)) : Option (Oden (zg fi.rs) (ioOf fi.ps)) :=
 aRun E k fi.rs (ioOf fi.ps) fi.res fi.hints ((Sw fi.code n []).getD []) ⟨mkSl fi.nt 0 sl, ob, true⟩
theorem okOf {P : Program} {gw : Gw} {f : Nat} {fn : Func} {ps : List PT} {rs : List (Bool × List RC)} {h : Nat → Option (List Hint)} (hf : P.funcs[f]? = some fn) (hb : okB fn ps = true) : OneF P gw f (fiOf fn ps rs h) := by
 unfold okB at hb
 rw [Bool.and_eq_true, Bool.and_eq_true, Bool.not_eq_true'] at hb
 obtain ⟨c, hc⟩ := Option.isSome_iff_exists.1 hb.2.1
 exact Wj hf hb.1 hc (by show fn.body.getD .skip = c; rw [hc]; rfl) rfl rfl hb.2.2 rfl
end Go.Vt
