/-
  The plain machine: its parts and their laws, 4 of 4.
  Conditions: those of each statement.
-/
import Derived.Test.YtgbbdagfjenmeaaGreatDoorVc
import Derived.RowKit
import Derived.Shelf.Strconv.Itoa3
import Derived.Shelf.Strings.OnBuilder
import Derived.Shelf.SlLaysE0
import Derived.Shelf.SlicesE.Kit
import Derived.Shelf.RegionOpenPlain
import Derived.WalkKit
import Derived.Deep.LoopGhost
import Derived.Deep.RegionLaw
import Derived.Lib.Walk
import Derived.Sort.WalkB12
import Derived.Shelf.GgSortFunc.RowK
import Derived.Lib.SliceRun
import Derived.Lib.SlicesDelete
import Derived.Shelf.SlSortCmp.Whole1
import Derived.Shelf.SlSortCmp.NoneTotal
import Derived.Shelf.SlicesE.Reverse
import Derived.Shelf.Spec.SlicesGrow
namespace Go.Vt
open Go.RowKit
set_option linter.unusedVariables false
set_option linter.unusedSimpArgs false
def V5 (P : Program) (t : TypeId) : Bool := match P.underlying t with | some (.struct _) => true | _ => false
section
variable {P : Program} {w : World} {H : Type} {enc : TypeId × Value → H} {base base' : Nat} {spare : Nat → Bool} {held : Bool}
theorem Does.calls {f : FuncId} {fn : Func} {vs : Array Value} {R : Value → World → Prop} (h : Does P f vs w R) (hf : P.funcs[f]? = some fn) (hn : (fn.name == "runtime.NumGoroutine") = false) (hb : fn.body.isSome = true) :
 Calls P f vs w fun e w' => match e with | .returned v => R v w' | _ => False := by
 have hcall : (callFunc f vs).run P w = .ok (.enter f vs) w := by
  simp only [callFunc, Sem.run_bind, program]
  have hname' : ¬ (fn.name == "runtime.NumGoroutine") = true := by rw [hn]; simp
  have hb' : ¬ fn.body.isNone = true := by cases hfb : fn.body with
   | none => rw [hfb] at hb; cases hb
   | some c => simp
  simp only [Sem.run, hf, Result.andThen_ok]
  rw [if_neg hname', if_neg hb']
  simp [Sem.run, pure]
 unfold Does at h
 rw [hcall] at h
 exact h
theorem NC {d : Nat} {t : TypeId} {u : Ty} {agg : Bool} (hk : XZ P d t = some u) (ha : V5 P t = agg) {v : Value} (hw : Value.okWide P w .any base' t v) {dd : DataW H} {ps : List MemPlace} (h : DataW.Trod enc P w base spare held t v dd ps) :
 ∃ y : u.den, ArgR w (fun b => b < w.heap.size) v (.v u agg) y ∧ Fits u y := by
 obtain ⟨m, hm⟩ := h
 obtain ⟨y, hy, hf⟩ := JR d t u m _ _ hk hm
 have one : agg = false → v.cells.toList = [v] := by
  intro e
  subst e
  cases d with
  | zero => cases hk
  | succ d =>
    unfold XZ at hk
    split at hk
    ·rename_i k hu
     simp only [Value.okWide, hu, Cell.okWide] at hw
     cases v <;> simp_all [Cell.ok, Value.cells]
    ·rename_i hu
     simp only [Value.okWide, hu, Cell.okWide] at hw
     cases v <;> simp_all [Cell.ok, Value.cells]
    ·rename_i hu
     simp only [Value.okWide, hu, Cell.okWide] at hw
     cases v <;> simp_all [Cell.ok, Value.cells]
    ·rename_i e hu
     simp only [Value.okWide, hu, Cell.okWide] at hw
     cases v <;> simp_all [Cell.ok, Value.cells]
    ·rename_i fs hu
     simp [V5, hu] at ha
    ·cases hk
 refine ⟨y, ⟨v.cells.toList, ?_, fun e => by rw [one e]; rfl, hy⟩, hf⟩
 cases agg with
 | false => rw [one rfl]; rfl
 | true =>
   unfold V5 at ha
   split at ha
   ·rename_i fs hu
    simp only [Value.okWide, hu] at hw
    obtain ⟨cs, rfl, _⟩ := hw
    simp [yH, Value.cells]
   ·cases ha
theorem Does.mono {f : FuncId} {vs : Array Value} {R R' : Value → World → Prop} (h : Does P f vs w R) (hk : ∀ v w', R v w' → R' v w') : Does P f vs w R' := by
 unfold Does at h ⊢
 split at h
 ·exact hk _ _ h
 ·refine h.mono fun e w'' hh => ?_
  cases e with
  | returned v => exact hk _ _ hh
  | panicked c => exact hh
  | outgrown => exact hh
 ·exact h.mono fun v w'' hh => hk _ _ hh
 ·exact h.elim
theorem Gives.row {gw : Gw} {f : FuncId} {fi : Fi} {x : Aden fi.ps} {y : Oden (zj fi.rs) (ioOf fi.ps)} (hg : Gives P gw f fi x y) (W : World) (hG : ∀ w', Below W.heap.size W w' → gw.p w') {vs : List Value} (ha : ArgsR W (fun b => b < W.heap.size) vs fi.ps x) (hng : fi.gift = false := by rfl) :
 Does P f vs.toArray W fun v w' => Below W.heap.size W w' ∧ ∃ (S' : Nat → Prop) (us : List Value) (L : List Nat), v = oneVal (we fi.rs us) ∧ RCs w' S' us L (zj fi.rs) (Oden.res _ _ y) := by
 have hb : ∀ w', KeptW gw.dr W (fun b => W.heap.size ≤ b) w' → Below W.heap.size W w' := fun w' h => ⟨h.os, h.tape, h.output, h.size, fun k hk => h.block k hk (fun hc => Nat.lt_irrefl _ (Nat.lt_of_lt_of_le hk hc))⟩
 have h := (hg.o hng) (⟨W, fun b => W.heap.size ≤ b, fun _ h => h, fun w' h => hG w' (hb w' h), []⟩ : Base gw) (fun b => b < W.heap.size) vs [] [] (fun _ h => h) List.nodup_nil (fun b hb => by cases hb) rfl ha.o
 exact h.mono fun v w' hh => ⟨hb _ hh.1, by obtain ⟨S', us, L, M, e, _, _, _, _, h5, _⟩ := hh.2; exact ⟨S', us, L, e, h5⟩⟩
theorem P9 {w' : World} {b : Bool} {v : Value} (h : ∃ (S' : Nat → Prop) (us : List Value) (L : List Nat), v = oneVal (we [(false, [⟨.bool, none⟩])] us) ∧ RCs w' S' us L [⟨.bool, none⟩] b) : v = .bool b := by
 obtain ⟨S', vs, L, rfl, h⟩ := h
 match vs, h with
 | [u], h =>
   have h' : VR w' S' .bool b [u] := h.1
   have e : u = .bool b := by simpa [VR] using h'
   subst e
   rfl
 | [], h => cases h
 | _ :: _ :: _, h => cases h
end
end Go.Vt
namespace Go.Vt
open Go.RowKit
set_option linter.unusedVariables false
set_option linter.unusedSimpArgs false
section
variable {P : Program} {gw : Gw}
theorem Does.of_calls {w : World} {f : FuncId} {fn : Func} {vs : Array Value} {R : Value → World → Prop} (hf : P.funcs[f]? = some fn) (hn : (fn.name == "runtime.NumGoroutine") = false) (hb : fn.body.isSome = true)
 (h : Calls P f vs w fun e w' => match e with | .returned v => R v w' | _ => False) : Does P f vs w R := by
 have hcall : (callFunc f vs).run P w = .ok (.enter f vs) w := by
  simp only [callFunc, Sem.run_bind, program]
  have hname' : ¬ (fn.name == "runtime.NumGoroutine") = true := by rw [hn]; simp
  have hb' : ¬ fn.body.isNone = true := by cases hfb : fn.body with
   | none => rw [hfb] at hb; cases hb
   | some c => simp
  simp only [Sem.run, hf, Result.andThen_ok]
  rw [if_neg hname', if_neg hb']
  simp [Sem.run, pure]
 unfold Does
 rw [hcall]
 exact h
theorem Q5 {B : Base gw} {w' : World} {S : Nat → Prop} (s : ByteArray) : ResR B w' S [(false, [⟨.str, none⟩])] [] [] s (.string s) :=
 by
 refine ⟨S, [.string s], [], [], rfl, fun _ h => h, fun _ h => .inl h, List.nodup_nil, ?_, ⟨rfl, rfl⟩, rfl⟩
 intro b hb; cases hb
theorem Lu {B : Base gw} (k : Nat) (os : Array Obj) : Kept B (Sort.grow (B.w.drewN k) os) :=
 ⟨rfl, rfl, rfl, by show B.w.heap.size ≤ (B.w.heap ++ os).size; simp, fun i hi _ => by show (B.w.heap ++ os)[i]? = _; rw [Array.getElem?_append_left hi], fun _ => by show B.w.drawn ≤ B.w.drawn + k; omega⟩
def itoaF (n : Int) : Option ByteArray := bif decide (-9223372036854775808 ≤ n) && decide (n ≤ 9223372036854775807) then some ⟨(Lib.itoa n).toArray⟩ else none
def itoaFi : Fi := ⟨[.v (.int .i64) false], [(false, [⟨.str, none⟩])], some (fun _ n => itoaF n), .skip, [], 0, fun _ => none⟩
theorem J0 {f : FuncId} {fn : Func} (hf : P.funcs[f]? = some fn) (hn : (fn.name == "runtime.NumGoroutine") = false) (hb : fn.body.isSome = true)
 (hc : ∀ (n : Int) (w : World), gw.p w → -9223372036854775808 ≤ n → n ≤ 9223372036854775807 → Calls P f #[.int .i64 n] w fun e w' => e = .returned (.string ⟨(Lib.itoa n).toArray⟩) ∧ ∃ k os, w' = Sort.grow (w.drewN k) os) : OneF P gw f itoaFi := by
 suffices hg : ∀ (x : Int) (y : ByteArray), itoaF x = some y → GivesO P gw f itoaFi x y from ⟨fun g hg' k x y hy => by cases hg'; exact (hg x y hy).all rfl, fun h => by cases h⟩
 intro x y hy' B S vs L H hS hL hm hH hA
 match vs, hA with
 | [v], hA =>
   obtain ⟨⟨cs, rfl, _, hv⟩, rfl, rfl⟩ := hA
   cases (show cs = [Value.int .i64 x] from hv)
   unfold itoaF at hy'
   cases hb2 : (decide (-9223372036854775808 ≤ x) && decide (x ≤ 9223372036854775807)) with
   | false => rw [hb2] at hy'; cases hy'
   | true =>
     rw [hb2] at hy'
     cases hy'
     rw [Bool.and_eq_true, decide_eq_true_eq, decide_eq_true_eq] at hb2
     refine Does.of_calls hf hn hb ((hc x B.w (B.hg _ (Kept.refl B)) hb2.1 hb2.2).mono fun e w' he => ?_)
     obtain ⟨rfl, k, os, rfl⟩ := he
     exact ⟨Lu k os, Q5 _⟩
def joinF (xs : List ByteArray) (sep : ByteArray) : Option ByteArray :=
 bif decide (xs.length ≤ 140737488355328) && decide ((Lib.join (xs.map (·.data.toList)) sep.data.toList).length ≤ 140737488355328) then some ⟨(Lib.join (xs.map (·.data.toList)) sep.data.toList).toArray⟩ else none
def joinFi : Fi := ⟨[.v (.slice .str) false, .v .str false], [(false, [⟨.str, none⟩])], some (fun _ x => joinF x.1 x.2), .skip, [], 0, fun _ => none⟩
theorem JZ {f : FuncId} {fn : Func} (hf : P.funcs[f]? = some fn) (hn : (fn.name == "runtime.NumGoroutine") = false) (hb : fn.body.isSome = true)
 (h0 : ∀ (a : Option Addr) (c : Nat) (sep : ByteArray) (w : World), Calls P f #[.slice a 0 c, .string sep] w fun e w' => e = .returned (.string ⟨#[]⟩) ∧ w' = w)
 (h1 : ∀ (bk o c : Nat) (xs : List ByteArray) (sep : ByteArray) (w : World), (∀ (j : Nat) x, xs[j]? = some x → w.cell? ⟨bk, o + j, none⟩ = some (.string x)) → bk < w.heap.size → xs.length ≤ 140737488355328 → xs.length ≤ c →
   (Lib.join (xs.map (·.data.toList)) sep.data.toList).length ≤ 140737488355328 →
   Calls P f #[.slice (some ⟨bk, o, none⟩) xs.length c, .string sep] w fun e w' => e = .returned (.string ⟨(Lib.join (xs.map (·.data.toList)) sep.data.toList).toArray⟩) ∧ Below w.heap.size w w') (hdr : gw.dr = false) : OneF P gw f joinFi := by
 suffices hg : ∀ (xs : List ByteArray) (sep y : ByteArray), joinF xs sep = some y → GivesO P gw f joinFi (xs, sep) y from ⟨fun g hg' k x y hy => by cases hg'; exact (hg x.1 x.2 y hy).all rfl, fun h => by cases h⟩
 intro xs sep y hy' B S vs L H hS hL hm hH hA
 match vs, hA with
 | [v, u], hA =>
   obtain ⟨L1, L2, H1, H2, rfl, rfl, ⟨⟨cs, rfl, _, hv⟩, rfl, rfl⟩, ⟨⟨ds, rfl, _, hu⟩, rfl, rfl⟩⟩ := hA
   cases (show ds = [Value.string sep] from hu)
   obtain ⟨a, cap, rfl, hcap, hr⟩ := hv
   unfold joinF at hy'
   cases hb2 : (decide (xs.length ≤ 140737488355328) && decide ((Lib.join (xs.map (·.data.toList)) (ByteArray.data sep).toList).length ≤ 140737488355328)) with
   | false => rw [hb2] at hy'; cases hy'
   | true =>
     rw [hb2] at hy'
     cases hy'
     rw [Bool.and_eq_true, decide_eq_true_eq, decide_eq_true_eq] at hb2
     have hat : ∀ b o, (∀ (i : Nat) x, xs[i]? = some x → ∃ cs : List Value, cs.length = 1 ∧ At B.w b (o + i * 1) cs ∧ VR B.w S .str x cs) → ∀ (j : Nat) x, xs[j]? = some x → B.w.cell? ⟨b, o + j, none⟩ = some (.string x) := by
      intro b o hr j x hx
      obtain ⟨cs, _, hat, hcs⟩ := hr j x hx
      cases (show cs = [Value.string x] from hcs)
      have := hat 0 _ rfl
      simpa using this
     refine Does.of_calls hf hn hb ?_
     rcases hr with rfl | ⟨b, o, rfl, hb3, hr⟩
     ·refine (h0 a cap sep B.w).mono fun e w' he => ?_
      obtain ⟨rfl, rfl⟩ := he
      exact ⟨Kept.refl B, Q5 _⟩
     ·refine (h1 b o cap xs sep B.w (hat b o hr) (hS b hb3) hb2.1 hcap hb2.2).mono fun e w' he => ?_
      obtain ⟨rfl, hbel⟩ := he
      exact ⟨(Kept.refl B).below hbel (fun e => by rw [hdr] at e; cases e), Q5 _⟩
end
end Go.Vt
namespace Go.Vt
open Go.Proofs
open Go.Shelf Go.RowKit Go.Lib Go.Sort
variable {P : Program} {ρ : Ren}
theorem Wn (w : World) (t e ty : TypeId) (z : Value) (ht : P.underlying t = some (.slice e)) (hv : ∀ w, (zeroValue e).run P w = .ok z w) (b o n c : Nat) (hn : 0 < n) (zs : List Value) (hz : (Builtin.zeroCells z.cells n).toList = zs) (h1 : ∀ v ∈ zs, v.oneCell' = true)
 (hc : ∀ j, j < zs.length → (w.cell? ⟨b, o + j, none⟩).isSome = true) (hf : ∀ j, j < zs.length → w.frozen? ⟨b, o + j, none⟩ = false) :
 (Builtin.clear_ #[t] ty #[.slice (some ⟨b, o, none⟩) n c]).run P w = .ok (.tuple #[]) (w.setCells b o zs) := by
 have hst := run_storeCells_cells (P := P) b o zs 0 w (by simpa using hc) (by simpa using hf) h1
 simp only [Nat.add_zero] at hst
 obtain ⟨m, rfl⟩ : ∃ m, n = m + 1 := ⟨n - 1, by omega⟩
 simp [Builtin.clear_, run_underlying ht, hv, hz, hst]
set_option maxHeartbeats 4000000 in
set_option maxRecDepth 1000000 in
theorem UU (L : SlLaysE0.n45 P ρ) (k : Nat) (hk : 0 < k) (aE : ∀ w, (isAgg (ρ.t 23)).run P w = .ok true w) (zE : ∀ w, (Go.sizeOf (ρ.t 23)).run P w = .ok k w) (z : Value) (v23 : ∀ w, (zeroValue (ρ.t 23)).run P w = .ok z w) (i0 : TypeInfo) (hi0 : P.info? (ρ.t 23) = some i0) (hz1 : i0.size = k)
 (blk off cap n i j : Nat) (F : Array Value) (hF : F.size = n * k) (h1 : ∀ v ∈ F.toList, v.oneCell' = true) (zs : List Value) (hzs : (Builtin.zeroCells z.cells (j - i)).toList = zs) (hzl : zs.length = (j - i) * k) (hz1' : ∀ v ∈ zs, v.oneCell' = true)
 (w : World) (hH : Holds id w blk off F) (hcap : n ≤ cap) (hm : n ≤ 9223372036854775807) (hlt : i < j) (hj : j ≤ n) :
 Calls P (ρ.f 45) #[.slice (some ⟨blk, off, none⟩) n cap, .int .i64 i, .int .i64 j] w fun e w' => e = .returned (.slice (some ⟨blk, off, none⟩) (n - (j - i)) cap) ∧ w' = (w.drew.setCells blk (off + i * k) (F.toList.drop (j * k))).setCells blk (off + (n - (j - i)) * k) zs := by
 have mixed := L.mixed; have t0 := L.t0; have a0 := L.a0; have z0 := L.z0; have v0 := L.v0; have t3 := L.t3; have a3 := L.a3; have z3 := L.z3; have v3 := L.v3; have t4 := L.t4; have a4 := L.a4; have z4 := L.z4; have v4 := L.v4; have t22 := L.t22; have a22 := L.a22; have z22 := L.z22; have v22 := L.v22
 have bnd : ∀ {x y : Nat}, x ≤ y → x * k ≤ y * k := fun h => Nat.mul_le_mul_right k h
 obtain ⟨news, hnews⟩ : ∃ news, news = F.toList.drop (j * k) := ⟨_, rfl⟩
 have hlen : news.length = (n - j) * k := by rw [hnews, List.length_drop, Array.length_toList, hF, Nat.sub_mul]
 have hnj : (n - j) * k + j * k = n * k := by rw [← Nat.add_mul]; congr 1; omega
 have hHd : ∀ t, t < F.size → w.drew.cell? ⟨blk, off + t, none⟩ = some F[t]! ∧ w.drew.frozen? ⟨blk, off + t, none⟩ = false := fun t ht => ⟨(hH t ht).1, (hH t ht).2⟩
 have hget : ∀ t u, news[t]? = some u → t < (n - j) * k ∧ w.drew.cell? ⟨blk, off + (j * k + t), none⟩ = some u := by
  intro t u hu
  have ht : t < (n - j) * k := by have := (List.getElem?_eq_some_iff.1 hu).1; rwa [hlen] at this
  refine ⟨ht, ?_⟩
  rw [(hHd (j * k + t) (by omega)).1]
  rw [hnews, List.getElem?_drop, Array.getElem?_toList, Array.getElem?_eq_getElem (by omega)] at hu
  rw [getElem!_pos F (j * k + t) (by omega)]
  exact hu
 obtain ⟨A, hA, hsrc⟩ : ∃ A : Addr, (if cap = j then (some ⟨blk, off, none⟩ : Option Addr) else some ⟨blk, off + j * k, none⟩) = some A ∧ Hid (∀ t u, news[t]? = some u → w.drew.cell? (A.add t) = some u) := by
  by_cases h : cap = j
  ·refine ⟨⟨blk, off, none⟩, by simp [h], fun t u hu => ?_⟩
   have := (hget t u hu).1
   have h0 : n - j = 0 := by omega
   rw [h0, Nat.zero_mul] at this
   omega
  ·exact ⟨⟨blk, off + j * k, none⟩, by simp [h], fun t u hu => by rw [Addr.add_lit, Nat.add_assoc]; exact (hget t u hu).2⟩
 have s1 : Hid (news.length = (n - j) * k) := hlen
 have s2 : Hid (∀ u ∈ news, u.oneCell' = true) := by
  intro u hu
  rw [hnews] at hu
  exact h1 u (List.mem_of_mem_drop hu)
 have hij : i * k ≤ j * k := bnd (Nat.le_of_lt hlt)
 have s3 : Hid (∀ t, t < news.length → (w.drew.cell? ⟨blk, off + i * k + t, none⟩).isSome = true ∧ w.drew.frozen? ⟨blk, off + i * k + t, none⟩ = false) := by
  intro t ht
  rw [hlen] at ht
  rw [Nat.add_assoc]
  exact ⟨by rw [(hHd (i * k + t) (by omega)).1]; rfl, (hHd (i * k + t) (by omega)).2⟩
 obtain ⟨W1, hW1⟩ : ∃ W1, W1 = w.drew.setCells blk (off + i * k) news := ⟨_, rfl⟩
 have hH1 : ∀ t, t < F.size → (W1.cell? ⟨blk, off + t, none⟩).isSome = true ∧ W1.frozen? ⟨blk, off + t, none⟩ = false := by
  have hHe : Holds id w.drew blk off F := fun t ht => ⟨(hH t ht).1, (hH t ht).2⟩
  have e : W1 = putRow id w.drew blk off (setMany F (i * k) news) := by
   rw [hW1]
   conv => lhs; rw [← putRow_self id w.drew blk off F hHe]
   exact setCells_putRow w.drew blk off news (i * k) F (by omega)
  have hH2 : Holds id W1 blk off (setMany F (i * k) news) := by
   rw [e]
   exact holds_putRow id w.drew blk off F _ hHe (size_setMany _ _ _)
  intro t ht
  have := hH2 t (by rw [size_setMany]; exact ht)
  exact ⟨by rw [this.1]; rfl, this.2⟩
 have hcl : ∀ ty, (Builtin.clear_ #[ρ.t 22] ty #[.slice (some ⟨blk, off + (i + (n - j)) * k, none⟩) (n - (i + (n - j))) (cap - (i + (n - j)))]).run P W1 = .ok (.tuple #[]) (W1.setCells blk (off + (i + (n - j)) * k) zs) :=
  fun ty => Wn W1 _ _ ty _ t22 v23 blk (off + (i + (n - j)) * k) _ _ (by omega) zs (by rw [show n - (i + (n - j)) = j - i by omega]; exact hzs) hz1'
   (fun t ht => by
     have e : (i + (n - j)) * k + (j - i) * k = n * k := by rw [← Nat.add_mul]; congr 1; omega
     rw [Nat.add_assoc]; exact (hH1 _ (by omega)).1)
   (fun t ht => by
     have e : (i + (n - j)) * k + (j - i) * k = n * k := by rw [← Nat.add_mul]; congr 1; omega
     rw [Nat.add_assoc]; exact (hH1 _ (by omega)).2)
 have hW : Hid (W1 = w.drew.setCells blk (off + i * k) news) := hW1
 have hic : i ≤ cap := by omega
 have hjc : j ≤ cap := by omega
 have hN : Hid (news = F.toList.drop (j * k)) := hnews
 clear hW1 hH1 hH hHd hget hnews hlen bnd hnj hij h1 hz1' hzs hzl hF
 obtain ⟨_, _, FG⟩ := L.f45
 go_enter FG, SlBodyN.n45_ntmps ρ
 go_wp2_with fail
 go_region_law_o (refine step_append_room rfl (.tmp 22) (.tmp 25) (ρ.t 22) rfl (ρ.t 23) i0 k t22 hi0 hz1 blk off i cap (by simp [Act.eval, Act.put]) A (n - j) (cap - j) news (by simp [Act.eval, Act.put]) s1.out hsrc.out s2.out (by omega) s3.out ?_; rw [← hW.out])
 go_wp2
 go_ret
 rw [← hN.out, ← hW.out, show n - (j - i) = i + (n - j) by omega]
 exact ⟨rfl, rfl⟩
end Go.Vt
namespace Go.Vt
open Go.RowKit Go.Sort
theorem fF (b : Nat) : ∀ (vs : List Value) (o : Nat) (w : World) (cs : Array Value) (E : TypeId), w.heap[b]? = some (.cells cs E (0, 0)) → (w.setCells b o vs).heap[b]? = some (.cells (setMany cs o vs) E (0, 0))
 | [], _, _, _, _, h => h
 | v :: r, o, w, cs, E, h => by
   rw [World.setCells, setMany]
   exact fF b r (o + 1) _ _ _ (by simp [World.setCell, Array.getElem?_modify, h])
theorem jZ : ∀ (vs : List Value) (s : Nat) (F : Array Value), s + vs.length ≤ F.size → (setMany F s vs).toList = F.toList.take s ++ vs ++ F.toList.drop (s + vs.length)
 | [], s, F, h => by simp [setMany]
 | v :: r, s, F, h => by
   have h' : s + (r.length + 1) ≤ F.size := by simpa using h
   rw [setMany, jZ r (s + 1) _ (by simp; omega)]
   have e1 : (F.setIfInBounds s v).toList.take (s + 1) = F.toList.take s ++ [v] := by
    rw [Array.toList_setIfInBounds, List.take_add_one, List.take_set_of_le (Nat.le_refl _), List.getElem?_set_self (by simp; omega)]
    rfl
   have e2 : (F.setIfInBounds s v).toList.drop (s + 1 + r.length) = F.toList.drop (s + (v :: r).length) := by
    rw [Array.toList_setIfInBounds, List.drop_set_of_lt (by omega)]
    congr 1
    simp; omega
   rw [e1, e2]
   simp
theorem OL.dropN {α : Type} {n : Nat} {p : α → List Value → List Nat → Prop} : ∀ {xs : List α} {cs : List Value} (k : Nat), OL n p xs cs [] → OL n p (xs.drop k) (cs.drop (k * n)) []
 | [], cs, k, h => by rw [List.drop_nil]; exact rfl
 | x :: xs, cs, 0, h => by simpa using h
 | x :: xs, cs, k + 1, h => by
   obtain ⟨L1, L2, e, hl, hp, hr⟩ := h
   have e2 : L2 = [] := (List.append_eq_nil_iff.1 e.symm).2
   subst e2
   have := OL.dropN k hr
   rw [List.drop_drop] at this
   rw [List.drop_succ_cons, show (k + 1) * n = n + k * n by rw [Nat.add_mul]; omega]
   exact this
end Go.Vt
namespace Go.Vt
open Go.Proofs Go.Shelf Go.RowKit Go.Sort
variable {P : Program} {ρ : Ren} {gw : Gw}
def deleteF {α : Type} (x : List α × Int × Int) : Option (List α) :=
 bif decide (0 ≤ x.2.1) && decide (x.2.1 < x.2.2) && decide (x.2.2 ≤ (x.1.length : Int)) && decide (x.1.length ≤ 9223372036854775807) then some (x.1.take x.2.1.toNat ++ x.1.drop x.2.2.toNat) else none
def deleteFi (t : Ty) : Fi := ⟨[.v (.slice t) false, .v (.int .i64) false, .v (.int .i64) false], [(false, [⟨.slice t, some (false, false)⟩])], some (fun _ x => deleteF x), .skip, [], 77777, fun _ => none⟩
theorem gZ (b : Nat) : ∀ (vs : List Value) (o : Nat) (w : World), (w.setCells b o vs).os = w.os ∧ (w.setCells b o vs).tape = w.tape ∧ (w.setCells b o vs).output = w.output ∧ (w.setCells b o vs).heap.size = w.heap.size ∧ ∀ k, k ≠ b → (w.setCells b o vs).heap[k]? = w.heap[k]?
 | [], _, _ => ⟨rfl, rfl, rfl, rfl, fun _ _ => rfl⟩
 | v :: r, o, w => by
   obtain ⟨h1, h2, h3, h4, h5⟩ := gZ b r (o + 1) (w.setCell ⟨b, o, none⟩ v)
   rw [World.setCells]
   refine ⟨h1.trans rfl, h2.trans rfl, h3.trans rfl, h4.trans (by simp [World.setCell]), fun k hk => (h5 k hk).trans ?_⟩
   simp [World.setCell, Array.getElem?_modify, Ne.symm hk]
theorem j8 (b : Nat) : ∀ (vs : List Value) (o : Nat) (w : World), (w.setCells b o vs).drawn = w.drawn
 | [], _, _ => rfl
 | v :: r, o, w => by rw [World.setCells, j8 b r (o + 1)]; rfl
theorem Does.of_calls' {w : World} {f : FuncId} {fn : Func} {vs : Array Value} {R : Value → World → Prop} (hf : P.funcs[f]? = some fn) (hn : (fn.name == "runtime.NumGoroutine") = false) (hb : fn.body.isSome = true)
 (h : Calls P f vs w fun e w' => match e with | .returned v => R v w' | _ => False) : Does P f vs w R := by
 have hcall : (callFunc f vs).run P w = .ok (.enter f vs) w := by
  simp only [callFunc, Sem.run_bind, program]
  have hname' : ¬ (fn.name == "runtime.NumGoroutine") = true := by rw [hn]; simp
  have hb' : ¬ fn.body.isNone = true := by cases hfb : fn.body with
   | none => rw [hfb] at hb; cases hb
   | some c => simp
  simp only [Sem.run, hf, Result.andThen_ok]
  rw [if_neg hname', if_neg hb']
  simp [Sem.run, pure]
 unfold Does
 rw [hcall]
 exact h
theorem KF {α : Type} {A R Z Y : List α} {m : Nat} (h : A.length = m) : A.take m = (((A ++ R).take m ++ Z) ++ Y).take m := by subst h; simp
theorem Ka {t : Ty} (ht : t.flat = true) (hk : 0 < t.sz) (L : SlLaysE0.n45 P ρ) (aE : ∀ w, (isAgg (ρ.t 23)).run P w = .ok true w) (zE : ∀ w, (Go.sizeOf (ρ.t 23)).run P w = .ok t.sz w) (z : Value) (v23 : ∀ w, (zeroValue (ρ.t 23)).run P w = .ok z w) (i0 : TypeInfo) (hi0 : P.info? (ρ.t 23) = some i0) (hz1 : i0.size = t.sz)
 (hzl : ∀ n, (Builtin.zeroCells z.cells n).toList.length = n * t.sz) (hzo : ∀ n, ∀ v ∈ (Builtin.zeroCells z.cells n).toList, v.oneCell' = true) {fn : Func} (hf : P.funcs[ρ.f 45]? = some fn) (hn : (fn.name == "runtime.NumGoroutine") = false) (hb : fn.body.isSome = true) :
 OneF P gw (ρ.f 45) (deleteFi t) := by
 suffices hg : ∀ (x : List t.den × Int × Int) (y : List t.den), deleteF x = some y → GivesG P gw (ρ.f 45) (deleteFi t) x y from
  ⟨fun g hg' k x y hy => by cases hg'; exact hg x y hy, fun h => by cases h⟩
 rintro ⟨xs, i, j⟩ y hy B S v us LL hS hL hm hH hA
 obtain ⟨hrow, hA⟩ := hA
 match us, hA with
 | [u1, u2], hA =>
 obtain ⟨⟨c1, rfl, _, h1⟩, ⟨c2, rfl, _, h2⟩⟩ := hA
 cases (show c1 = [Value.int .i64 i] from h1)
 cases (show c2 = [Value.int .i64 j] from h2)
 unfold deleteF at hy
 cases hd : (decide (0 ≤ i) && decide (i < j) && decide (j ≤ (xs.length : Int)) && decide (xs.length ≤ 9223372036854775807)) with
 | false => rw [hd] at hy; cases hy
 | true =>
 rw [hd] at hy
 cases hy
 simp only [Bool.and_eq_true, decide_eq_true_eq] at hd
 obtain ⟨⟨⟨d1, d2⟩, d3⟩, d4⟩ := hd
 obtain ⟨a, rfl⟩ := Int.eq_ofNat_of_zero_le d1
 obtain ⟨b', rfl⟩ := Int.eq_ofNat_of_zero_le (Int.le_trans d1 (Int.le_of_lt d2))
 have d2' : a < b' := by omega
 have d3' : b' ≤ xs.length := by omega
 have d4' : xs.length ≤ 9223372036854775807 := d4
 rcases hrow with ⟨_, h0, _⟩ | ⟨b, f0, cap, cs, E, Li, rfl, e2, e3, e4, rfl, e6⟩
 ·rw [show xs = [] from h0] at d3'; simp at d3'; omega
 have e7 := OL.flatly (e := false) ht e6
 have hlen : xs.length * t.sz ≤ cs.size - f0 := by simpa using OL.len e7
 have hf0 : f0 ≤ cs.size := by omega
 have hlen2 : xs.length * t.sz ≤ (cs.toList.drop f0).length := by simpa using hlen
 have bnd : ∀ {x y : Nat}, x ≤ y → x * t.sz ≤ y * t.sz := fun h => Nat.mul_le_mul_right t.sz h
 obtain ⟨F, hFd⟩ : ∃ F : Array Value, F = ((cs.toList.drop f0).take (xs.length * t.sz)).toArray := ⟨_, rfl⟩
 have hF : F.size = xs.length * t.sz := by rw [hFd, List.size_toArray, List.length_take, Nat.min_eq_left hlen2]
 have hFl : F.toList = (cs.toList.drop f0).take (xs.length * t.sz) := by rw [hFd]
 have hF1 : ∀ v ∈ F.toList, v.oneCell' = true := by rw [hFl]; exact OL.ones e7
 have hHold : Holds id B.w b f0 F := fun q hq => by
  have hq' : f0 + q < cs.size := by rw [hF] at hq; omega
  constructor
  ·show B.w.cell? ⟨b, f0 + q, none⟩ = some F[q]!
   have : F[q]! = cs[f0 + q] := by
    rw [getElem!_pos F q hq]
    simp [hFd]
   rw [this]
   simp [World.cell?, e2, hq']
  ·simp [World.frozen?, e2]
 refine Does.of_calls' hf hn hb ((UU L t.sz hk aE zE z v23 i0 hi0 hz1 b f0 cap xs.length a b' F hF hF1 _ rfl (hzl _) (hzo _) B.w hHold e4 d4' d2' d3').mono ?_)
 rintro e w' ⟨rfl, rfl⟩
 have k1 := gZ b (F.toList.drop (b' * t.sz)) (f0 + a * t.sz) B.w.drew
 have k2 := gZ b (Builtin.zeroCells z.cells (b' - a)).toList (f0 + (xs.length - (b' - a)) * t.sz) (B.w.drew.setCells b (f0 + a * t.sz) (F.toList.drop (b' * t.sz)))
 have hbm := hm b (by simp)
 constructor
 ·exact ⟨k2.1.trans (k1.1.trans rfl), k2.2.1.trans (k1.2.1.trans rfl), k2.2.2.1.trans (k1.2.2.1.trans rfl), by rw [k2.2.2.2.1, k1.2.2.2.1]; exact Nat.le_refl _, fun k hk hmk => by
   have hne : k ≠ b := fun e => hmk (e ▸ hbm.1)
   exact (k2.2.2.2.2 k hne).trans ((k1.2.2.2.2 k hne).trans rfl), fun _ => by rw [j8, j8]; exact Nat.le_succ _⟩
 ·have hsz := fF b (Builtin.zeroCells z.cells (b' - a)).toList (f0 + (xs.length - (b' - a)) * t.sz) _ _ _ (fF b (F.toList.drop (b' * t.sz)) (f0 + a * t.sz) B.w.drew cs E e2)
  have hl : (xs.take a ++ xs.drop b').length = xs.length - (b' - a) := by simp; omega
  refine ⟨S, [.slice (some ⟨b, f0, none⟩) (xs.length - (b' - a)) cap], [b], [], rfl, fun _ h => h, fun _ h => .inl h, by simp, fun c hc => ?_, ?_, rfl⟩
  ·have : c = b := by simpa using hc
   subst this
   exact ⟨hbm.1, by rw [k2.2.2.2.1, k1.2.2.2.1]; exact hbm.2.1, hbm.2.2⟩
  ·have hl2 : (xs.take a ++ xs.drop b').length ≤ cap := by rw [hl]; exact Nat.le_trans (Nat.sub_le _ _) e4
   refine ⟨.inr ⟨b, f0, cap, _, E, [], congrArg (fun m => Value.slice (some ⟨b, f0, none⟩) m cap) hl.symm, hsz, by simp [e3], hl2, rfl, ?_⟩, fun h => by cases h⟩
   show OL t.sz (rowP _ S t false) (xs.take a ++ xs.drop b') ((setMany (setMany cs (f0 + a * t.sz) (F.toList.drop (b' * t.sz))) (f0 + (xs.length - (b' - a)) * t.sz) (Builtin.zeroCells z.cells (b' - a)).toList).toList.drop f0) []
   have q1 : a * t.sz ≤ b' * t.sz := bnd (Nat.le_of_lt d2')
   have q2 : b' * t.sz ≤ xs.length * t.sz := bnd d3'
   have q3 : (xs.length - (b' - a)) * t.sz + (b' - a) * t.sz = xs.length * t.sz := by rw [← Nat.add_mul]; congr 1; omega
   have q4 : (xs.length - (b' - a)) * t.sz = a * t.sz + (xs.length - b') * t.sz := by rw [← Nat.add_mul]; congr 1; omega
   have q5 : (xs.length - b') * t.sz + b' * t.sz = xs.length * t.sz := by rw [← Nat.add_mul]; congr 1; omega
   have hnl : (F.toList.drop (b' * t.sz)).length = (xs.length - b') * t.sz := by
    rw [List.length_drop, Array.length_toList, hF]; omega
   have hcl : cs.toList.length = cs.size := rfl
   have g1 := jZ (F.toList.drop (b' * t.sz)) (f0 + a * t.sz) cs (by rw [hnl]; omega)
   have g2 := jZ (Builtin.zeroCells z.cells (b' - a)).toList (f0 + (xs.length - (b' - a)) * t.sz) (setMany cs (f0 + a * t.sz) (F.toList.drop (b' * t.sz))) (by rw [hzl, size_setMany]; omega)
   obtain ⟨L', o1, o2, _⟩ := OL.takeN a e7
   have : L' = [] := List.eq_nil_iff_forall_not_mem.2 fun x hx => by have := o2 x hx; cases this
   subst this
   have cutp : ∀ (l : List Value) (m : Nat) (X : List Value), f0 ≤ l.length → (l.take (f0 + m) ++ X).drop f0 = (l.drop f0).take m ++ X := fun l m X h => by
    rw [List.drop_append_of_le_length (by rw [List.length_take]; omega), List.drop_take, Nat.add_sub_cancel_left]
   have c1 : (setMany cs (f0 + a * t.sz) (F.toList.drop (b' * t.sz))).toList.drop f0 = (cs.toList.drop f0).take (a * t.sz) ++ (F.toList.drop (b' * t.sz) ++ cs.toList.drop (f0 + a * t.sz + (F.toList.drop (b' * t.sz)).length)) := by
    rw [g1, List.append_assoc, cutp _ _ _ (by rw [hcl]; exact hf0)]
   have ha : (xs.take a).length = a := by simp; omega
   have p1 : OL t.sz (rowP B.w S t false) (xs.take a) ((cs.toList.drop f0).take (a * t.sz)) [] := OL.pre o1 (by rw [ha, List.take_take, Nat.min_self]) (by rw [ha, List.length_take]; omega)
   have hdl : (xs.drop b').length * t.sz = (xs.length - b') * t.sz := by rw [List.length_drop]
   have p2 : OL t.sz (rowP B.w S t false) (xs.drop b') (F.toList.drop (b' * t.sz)) [] := OL.pre (OL.dropN b' e7) (by rw [hdl, hFl, List.drop_take, List.take_take]; congr 1; omega) (by rw [hdl, hnl]; exact Nat.le_refl _)
   have p3 := OL.append p1 (by rw [ha, List.length_take]; omega) p2
   have p4 : OL t.sz (rowP B.w S t false) (xs.take a ++ xs.drop b') ((setMany (setMany cs (f0 + a * t.sz) (F.toList.drop (b' * t.sz))) (f0 + (xs.length - (b' - a)) * t.sz) (Builtin.zeroCells z.cells (b' - a)).toList).toList.drop f0) [] := by
    refine OL.pre p3 ?_ ?_
    ·rw [hl, g2, List.append_assoc, cutp _ _ _ (by rw [Array.length_toList, size_setMany]; exact hf0), c1, ← List.append_assoc, ← List.append_assoc]
     exact KF (by rw [List.length_append, List.length_take, hnl]; omega)
    ·rw [hl, List.length_drop]; refine Nat.le_trans ?_ (Nat.le_of_eq (congrArg (· - f0) ((size_setMany _ _ _).trans (size_setMany _ _ _)).symm)); omega
   exact OL.mapP p4 fun x c l _ hp => YD ht hp
end Go.Vt
namespace Go.Vt
open Go.Proofs Go.Shelf Go.RowKit Go.Sort
set_option linter.unusedVariables false
set_option linter.unusedSimpArgs false
abbrev El (t : Ty) := t.den × Value × List Nat
theorem OL.split {t : Ty} {p : t.den → List Value → List Nat → Prop} : ∀ {xs : List t.den} {cs : List Value} {L : List Nat}, OL 1 p xs cs L →
 ∃ zs : List (El t), zs.map (·.1) = xs ∧ cs.take xs.length = zs.map (·.2.1) ∧ zs.flatMap (·.2.2) = L ∧ ∀ a ∈ zs, p a.1 [a.2.1] a.2.2
 | [], cs, L, h => ⟨[], rfl, by simp, by rw [show L = [] from h]; rfl, fun a ha => by cases ha⟩
 | x :: xs, [], L, h => by obtain ⟨_, _, _, hn, _⟩ := h; simp at hn
 | x :: xs, c :: cs, L, h => by
   obtain ⟨L1, L2, rfl, hn, hp, h⟩ := h
   obtain ⟨zs, h1, h2, h3, h4⟩ := OL.split (cs := cs) h
   refine ⟨(x, c, L1) :: zs, by simp [h1], by simp [h2], by simp [h3], fun a ha => ?_⟩
   rcases List.mem_cons.1 ha with rfl | ha
   ·exact hp
   ·exact h4 a ha
theorem OL.joins {t : Ty} {p : t.den → List Value → List Nat → Prop} : ∀ (zs : List (El t)) (rest : List Value), (∀ a ∈ zs, p a.1 [a.2.1] a.2.2) → OL 1 p (zs.map (·.1)) (zs.map (·.2.1) ++ rest) (zs.flatMap (·.2.2))
 | [], rest, _ => rfl
 | a :: zs, rest, h => ⟨a.2.2, zs.flatMap (fun a => a.2.2), by simp, by simp, h a (by simp), by
   have := OL.joins zs rest fun b hb => h b (by simp [hb])
   simpa using this⟩
structure RowO (w : World) (S : Nat → Prop) (t : Ty) (deep : Bool) (b f cap : Nat) (cs : Array Value) (E : TypeId) (zs : List (El t)) : Prop where
 heap : w.heap[b]? = some (.cells cs E (0, 0))
 fit : f + cap ≤ cs.size
 len : zs.length ≤ cap
 cells : (cs.toList.drop f).take zs.length = zs.map (·.2.1)
 p : ∀ a ∈ zs, rowP w S t deep a.1 [a.2.1] a.2.2
variable {w : World} {S : Nat → Prop} {t : Ty} {deep : Bool}
theorem RowO.of (h1 : t.sz = 1) {v : Value} {xs : List t.den} {L : List Nat} (h : ORow w t.sz (rowP w S t deep) v xs L) :
 (v = .slice none 0 0 ∧ xs = [] ∧ L = []) ∨ ∃ b f cap cs E zs, v = .slice (some ⟨b, f, none⟩) xs.length cap ∧ RowO w S t deep b f cap cs E zs ∧ zs.map (·.1) = xs ∧ L = b :: zs.flatMap (·.2.2) := by
 rcases h with h | ⟨b, f, cap, cs, E, Li, hv, hb, hf, hl, rfl, ho⟩
 ·exact .inl h
 ·rw [h1] at ho hf
  obtain ⟨zs, e1, e2, e3, e4⟩ := OL.split ho
  have hl2 : zs.length = xs.length := by rw [← e1, List.length_map]
  exact .inr ⟨b, f, cap, cs, E, zs, hv, ⟨hb, by omega, by omega, by rw [hl2]; exact e2, e4⟩, e1, by rw [e3]⟩
theorem RowO.row (h1 : t.sz = 1) {b f cap : Nat} {cs : Array Value} {E : TypeId} {zs : List (El t)} (h : RowO w S t deep b f cap cs E zs) :
 ORow w t.sz (rowP w S t deep) (.slice (some ⟨b, f, none⟩) zs.length cap) (zs.map (·.1)) (b :: zs.flatMap (·.2.2)) := by
 refine .inr ⟨b, f, cap, cs, E, zs.flatMap (·.2.2), by rw [List.length_map], h.heap, by rw [h1, Nat.mul_one]; exact h.fit, by rw [List.length_map]; exact h.len, rfl, ?_⟩
 rw [h1]
 have := OL.joins zs ((cs.toList.drop f).drop zs.length) h.p
 rw [← h.cells, List.take_append_drop] at this
 exact this
variable {α : Type} [Inhabited α] {enc : α → Value}
theorem xC {b f m : Nat} {d : Array α} {os : Array Obj} {k : Nat} (hk : k < w.heap.size) (hne : k ≠ b) : (sortWorld enc w b f m d os).heap[k]? = w.heap[k]? := by
 unfold sortWorld grow putRow mapBlock Sort.ahead
 dsimp only
 rw [Array.getElem?_append_left (by simpa using hk), Array.getElem?_modify, if_neg (Ne.symm hne)]
theorem YA {b f m : Nat} {d : Array α} {os : Array Obj} {cs : Array Value} {E : TypeId} (hb : w.heap[b]? = some (.cells cs E (0, 0))) : (sortWorld enc w b f m d os).heap[b]? = some (.cells (Sort.putCells enc f d cs) E (0, 0)) := by
 have hk : b < w.heap.size := by
  rcases Nat.lt_or_ge b w.heap.size with h | h
  ·exact h
  ·rw [Array.getElem?_eq_none h] at hb; cases hb
 unfold sortWorld grow putRow mapBlock Sort.ahead
 dsimp only
 rw [Array.getElem?_append_left (by simpa using hk), Array.getElem?_modify, if_pos rfl, hb]
 rfl
theorem aA {gw : Gw} {B : Base gw} {b f m : Nat} {d : Array α} {os : Array Obj} (hb : B.mine b) : Kept B (sortWorld enc B.w b f m d os) := by
 refine ⟨rfl, rfl, rfl, ?_, fun k hk hn => xC hk (fun e => hn (e ▸ hb)), ?_⟩
 ·unfold sortWorld; rw [size_grow, Sort.size_putRow]; exact Nat.le_add_right _ _
 ·intro _
  show B.w.drawn ≤ B.w.drawn + m
  omega
theorem R6 {f : Nat} {d : Array α} {cs : Array Value} (h : f + d.size ≤ cs.size) : ((Sort.putCells enc f d cs).toList.drop f).take d.size = d.toList.map enc := by
 apply List.ext_getElem?
 intro j
 rw [List.getElem?_take]
 split
 ·rename_i hj
  have hj' : f + j < cs.size := by omega
  rw [List.getElem?_drop, Array.getElem?_toList, Sort.putCells, Array.getElem?_mapIdx, Array.getElem?_eq_getElem hj', List.getElem?_map, Array.getElem?_toList, Array.getElem?_eq_getElem hj]
  simp only [Option.map_some]
  rw [if_pos ⟨by omega, by omega⟩, Nat.add_sub_cancel_left, getElem!_pos d j hj]
 ·rename_i hj
  rw [List.getElem?_eq_none (by simp; omega)]
theorem T8 {f : Nat} {d : Array α} {cs : Array Value} : (Sort.putCells enc f d cs).size = cs.size := by simp [Sort.putCells]
theorem RowO.holds {b f cap : Nat} {cs : Array Value} {E : TypeId} {zs : List (El t)} (h : RowO w S t deep b f cap cs E zs) (ds : List α) (e : ds.map enc = zs.map (·.2.1)) : Holds enc w b f ds.toArray := by
 have hl : ds.length = zs.length := by have := congrArg List.length e; simpa using this
 intro j hj
 have hj' : j < ds.length := by simpa using hj
 constructor
 ·have h2 : (cs.toList.drop f)[j]? = some (enc ds[j]) := by
   have h3 := congrArg (fun l => l[j]?) h.cells
   simp only [List.getElem?_take] at h3
   rw [if_pos (by omega), ← e, List.getElem?_map, List.getElem?_eq_getElem hj'] at h3
   exact h3
  rw [List.getElem?_drop, Array.getElem?_toList] at h2
  simp only [World.cell?, h.heap, Option.isSome_none, Bool.false_eq_true, if_false]
  rw [h2, getElem!_pos _ j hj]
  rfl
 ·simp [World.frozen?, h.heap]
theorem RowO.after {b f cap m : Nat} {cs : Array Value} {E : TypeId} {zs : List (El t)} (h : RowO w S t deep b f cap cs E zs) (d : Array α) (hd : d.size = zs.length) (zs' : List (El t)) (hp : ∀ a ∈ zs', rowP w S t deep a.1 [a.2.1] a.2.2)
 (hk : (d.toList.map enc).take zs'.length = zs'.map (·.2.1)) (hlen : zs'.length ≤ zs.length) (hS : ∀ k, S k → k < w.heap.size ∧ k ≠ b) (hL : ∀ a ∈ zs', ∀ k ∈ a.2.2, k < w.heap.size ∧ k ≠ b) (os : Array Obj) :
 RowO (sortWorld enc w b f m d os) S t deep b f cap (Sort.putCells enc f d cs) E zs' := by
 have hfit := h.fit
 have hl := h.len
 refine ⟨YA h.heap, by rw [T8]; exact h.fit, by omega, ?_, fun a ha => ?_⟩
 ·have := congrArg (List.take zs'.length) (R6 (enc := enc) (f := f) (d := d) (cs := cs) (by omega))
  rw [List.take_take, Nat.min_eq_left (by omega)] at this
  rw [this, hk]
 ·exact rowP.tell (fun k hk2 => xC (hS k hk2).1 (hS k hk2).2) (fun _ h => h) (fun k hk2 => xC (hL a ha k hk2).1 (hL a ha k hk2).2) (hp a ha)
theorem Mf {W w' : World} (h : KeptW true W (fun b => W.heap.size ≤ b) w') : ∃ q os, w' = grow (W.drewN q) os := by
 refine ⟨w'.drawn - W.drawn, w'.heap.extract W.heap.size w'.heap.size, ?_⟩
 have hh : w'.heap = W.heap ++ w'.heap.extract W.heap.size w'.heap.size := by
  apply Array.ext_getElem?
  intro i
  by_cases hi : i < W.heap.size
  ·rw [Array.getElem?_append_left hi]
   exact h.block i hi (by omega)
  ·rw [Array.getElem?_append_right (by omega), Array.getElem?_extract]
   have := h.size
   by_cases hi2 : i < w'.heap.size
   ·rw [if_pos (by omega)]
    congr 1
    omega
   ·rw [if_neg (by omega), Array.getElem?_eq_none (by omega)]
 have hd := h.drawn rfl
 obtain ⟨heap, tape, drawn, os, output⟩ := w'
 have e1 : os = W.os := h.os
 have e2 : tape = W.tape := h.tape
 have e3 : output = W.output := h.output
 subst e1 e2 e3
 unfold grow World.drewN
 dsimp only at hh hd ⊢
 congr 1
 omega
abbrev ints : Ty := .slice (.int .i64)
abbrev g1 : Gw := ⟨fun _ => True, true⟩
theorem calls2 {P : Program} {g : Nat} {r : Ty} {ext c res nt hs} {x y : List Int} {z : r.den}
 (hg : GivesO P g1 g ⟨[.v ints false, .v ints false], [(false, [⟨r, none⟩])], ext, c, res, nt, hs⟩ (x, y) z) (hr : r.flat = true) {W : World} (eg : ∀ args w, (callFunc g args).run P w = .ok (.enter g args) w)
 {v1 v2 : Value} (h1 : VR W (fun b => b < W.heap.size) ints x [v1]) (h2 : VR W (fun b => b < W.heap.size) ints y [v2]) :
 Calls P g #[v1, v2] W fun e w' => (∃ u, e = .returned u ∧ VR w' (fun _ => True) r z [u]) ∧ ∃ q os, w' = grow (W.drewN q) os := by
 have h := hg ⟨W, fun b => W.heap.size ≤ b, fun _ h => h, fun _ _ => trivial, []⟩ (fun b => b < W.heap.size) [v1, v2] [] [] (fun _ h => h) List.nodup_nil (fun b hb => by cases hb) rfl
  ⟨[], [], [], [], rfl, rfl, ⟨⟨[v1], rfl, fun _ => rfl, h1⟩, rfl, rfl⟩, ⟨⟨[v2], rfl, fun _ => rfl, h2⟩, rfl, rfl⟩⟩
 unfold Does at h
 rw [eg] at h
 refine h.mono fun e w' hh => ?_
 cases e with
 | panicked c => exact hh.elim
 | outgrown => exact hh.elim
 | returned v =>
   obtain ⟨hk, S', vs, L, M, rfl, _, _, _, _, hR, _⟩ := hh
   refine ⟨?_, Mf hk⟩
   match vs, hR with
   | [u], hR =>
     refine ⟨u, rfl, ?_⟩
     have h3 : VR w' S' r z [u] := by
      cases r with
      | slice t => cases hr
      | set => cases hr
      | err => exact hR.1
      | int k => exact hR.1
      | bool => exact hR.1
      | str => exact hR.1
      | pair a b => exact hR.1
     exact VR.mono (Same.refl _ _) (fun _ _ => trivial) h3
end Go.Vt
namespace Go.Vt
open Go.Proofs Go.Shelf Go.RowKit Go.Sort
set_option linter.unusedVariables false
set_option linter.unusedSimpArgs false
variable {P : Program} {ρ : Ren} {gw : Gw}
theorem LA {B : Base gw} {S : Nat → Prop} {t : Ty} {deep : Bool} (h1 : t.sz = 1) {α : Type} [Inhabited α] {enc : α → Value} {b f cap : Nat} {cs : Array Value} {E : TypeId} {zs zs' : List (El t)} (hR : RowO B.w S t deep b f cap cs E zs)
 (hL : (b :: zs.flatMap (·.2.2)).Nodup) (hm : ∀ k ∈ b :: zs.flatMap (·.2.2), B.mine k ∧ k < B.w.heap.size ∧ ¬ S k) (hS : ∀ k, S k → k < B.w.heap.size) (hp : zs'.Perm zs) (d : Array α) (hd : d.toList.map enc = zs'.map (·.2.1)) (m : Nat) (os : Array Obj) :
 Kept B (sortWorld enc B.w b f m d os) ∧ ResR B (sortWorld enc B.w b f m d os) S [] [⟨.slice t, some (deep, false)⟩] [.slice (some ⟨b, f, none⟩) zs.length cap] ((), zs'.map (·.1)) (.tuple #[]) := by
 have hb := hm b (by simp)
 have hk := aA (enc := enc) (f := f) (m := m) (d := d) (os := os) hb.1
 refine ⟨hk, ?_⟩
 have hdl : d.size = zs.length := by
  have := congrArg List.length hd
  simp only [List.length_map, Array.length_toList] at this
  rw [this, hp.length_eq]
 have hpf := hp.flatMap_right (·.2.2)
 have hM : ∀ k ∈ b :: zs'.flatMap (·.2.2), k ∈ b :: zs.flatMap (·.2.2) := fun k hk => by
  rcases List.mem_cons.1 hk with rfl | hk
  ·simp
  ·exact List.mem_cons_of_mem _ ((hpf.mem_iff).1 hk)
 have hr := RowO.row h1 (hR.after (enc := enc) (m := m) d hdl zs' (fun a ha => hR.p a (hp.mem_iff.1 ha)) (by rw [hd, List.take_of_length_le (by simp)]) (Nat.le_of_eq hp.length_eq)
  (fun k hk => ⟨hS k hk, fun e => hb.2.2 (e ▸ hk)⟩) (fun a ha k hk2 => ⟨(hm k (hM k (List.mem_cons_of_mem _ (List.mem_flatMap.2 ⟨a, ha, hk2⟩)))).2.1, fun e => by
    have h2 := (List.nodup_cons.1 hL).1
    exact h2 (hpf.mem_iff.1 (e ▸ List.mem_flatMap.2 ⟨a, ha, hk2⟩))⟩) os)
 refine ⟨S, [], [], b :: zs'.flatMap (·.2.2), rfl, fun _ h => h, fun _ h => .inl h, ?_, fun c hc => ?_, rfl, ?_⟩
 ·rw [List.nil_append]
  exact (List.Perm.nodup_iff (List.Perm.cons b hpf)).2 hL
 ·rw [List.nil_append] at hc
  have := hm c (hM c hc)
  exact ⟨this.1, Nat.lt_of_lt_of_le this.2.1 hk.size, this.2.2⟩
 ·rw [hp.length_eq] at hr
  exact ⟨hr, fun h => by cases h⟩
def reverseF (x : List Int) : Option (Unit × List Int) := bif decide (x.length ≤ 9223372036854775807) then some ((), x.reverse) else none
def reverseFi : Fi := ⟨[.o [.o (.int .i64) false] false], [], some (fun _ x => reverseF x), .skip, [], 0, fun _ => none⟩
theorem N6 (L : SlLaysE.n35 P ρ) {fn : Func} (hf : P.funcs[ρ.f 35]? = some fn) (hn : (fn.name == "runtime.NumGoroutine") = false) (hb : fn.body.isSome = true) : OneF P gw (ρ.f 35) reverseFi := by
 suffices hg : ∀ (x : List Int) (y : Unit × List Int), reverseF x = some y → GivesO P gw (ρ.f 35) reverseFi x y from ⟨fun g hg' k x y hy => by cases hg'; exact (hg x y hy).all rfl, fun h => by cases h⟩
 intro xs y hy B S vs LL H hS hL hm hH hA
 match vs, hA with
 | [v], hA =>
 obtain ⟨us, e, hl, hpc, hHe⟩ := hA
 have hl := hl rfl
 match us, hl, e, hpc, hHe with
 | [u], _, e, hpc, hHe =>
 have e : v = u := e
 have hHe : H = [u] := hHe
 subst e
 subst hHe
 have hpc : ORow B.w (Ty.int .i64).sz (rowP B.w S (.int .i64) false) v xs LL := hpc
 unfold reverseF at hy
 cases hd : decide (xs.length ≤ 9223372036854775807) with
 | false => rw [hd] at hy; cases hy
 | true =>
 rw [hd] at hy
 cases hy
 have hd := of_decide_eq_true hd
 rcases RowO.of rfl hpc with ⟨rfl, rfl, rfl⟩ | ⟨b, f, cap, cs, E, zs, rfl, hR, e1, rfl⟩
 ·refine Does.of_calls' hf hn hb ((AnyE.slices_Reverse_empty L none 0 B.w).mono ?_)
  rintro e w' ⟨rfl, rfl⟩
  exact ⟨Kept.refl B, S, [], [], [], rfl, fun _ h => h, fun _ h => .inl h, List.nodup_nil, (fun c hc => by cases hc), rfl, .inl ⟨rfl, rfl, rfl⟩, fun h => by cases h⟩
 ·have hl : zs.length = xs.length := by rw [← e1, List.length_map]
  let G : El (.int .i64) → Prop := fun a => rowP B.w S (.int .i64) false a.1 [a.2.1] a.2.2
  have : Inhabited {a : El (.int .i64) // G a} := ⟨⟨((0 : Int), .int .i64 0, []), ⟨rfl, rfl⟩⟩⟩
  let ds : List {a : El (.int .i64) // G a} := zs.attachWith G hR.p
  have hds : ds.map Subtype.val = zs := List.attachWith_map_subtype_val hR.p
  have hdl : ds.length = xs.length := by rw [← hl, ← hds, List.length_map]
  let enc : {a : El (.int .i64) // G a} → Value := fun a => a.1.2.1
  have henc : ds.map enc = zs.map (·.2.1) := by rw [← hds, List.map_map]; rfl
  have h1 : OneCell enc := fun a => by
   have h3 : rowP B.w S (.int .i64) false a.1.1 [a.1.2.1] a.1.2.2 := a.2
   have h4 : [a.1.2.1] = [Value.int .i64 a.1.1] := h3.1
   show (a.1.2.1).oneCell' = true
   rw [List.cons.inj h4 |>.1]
   rfl
  have hc := AnyE.slices_Reverse L enc h1 b f cap ds B.w (hR.holds ds henc) (by omega)
  rw [hdl] at hc
  refine Does.of_calls' hf hn hb (hc.mono ?_)
  rintro e w' ⟨rfl, n, rfl⟩
  have hw : putRow enc (Sort.ahead B.w n) b f ds.reverse.toArray = sortWorld enc B.w b f n ds.reverse.toArray #[] := by unfold sortWorld; rw [grow_empty]
  have := LA rfl hR hL hm hS (List.reverse_perm zs) (enc := enc) ds.reverse.toArray (by rw [List.map_reverse, henc, List.map_reverse]) n #[]
  rw [← hw, hl] at this
  rw [List.map_reverse, e1] at this
  exact this
def cmpI : List Int → List Int → Int
 | [], b => if 0 < b.length then -1 else 0
 | _ :: _, [] => 1
 | x :: a, y :: b => if x = y then cmpI a b else if x < y then -1 else 1
theorem wH : ∀ a, ¬ cmpI a a < 0
 | [] => by simp [cmpI]
 | x :: a => by unfold cmpI; rw [if_pos rfl]; exact wH a
theorem vF : ∀ a b c, cmpI a b < 0 → cmpI b c < 0 → cmpI a c < 0
 | [], [], _, h, _ => by simp [cmpI] at h
 | [], _ :: _, [], _, h => by simp [cmpI] at h
 | [], _ :: _, _ :: _, _, _ => by simp [cmpI]
 | _ :: _, [], _, h, _ => by simp [cmpI] at h
 | _ :: _, _ :: _, [], _, h => by simp [cmpI] at h
 | x :: a, y :: b, z :: c, h, k => by
   unfold cmpI at h k ⊢
   split at h <;> split at k <;> try split at h
   all_goals (try split at k)
   all_goals (split <;> try split)
   all_goals first | omega | exact vF a b c h k | skip
theorem Zx : ∀ a b c, ¬ cmpI a b < 0 → ¬ cmpI b c < 0 → ¬ cmpI a c < 0
 | [], [], [], _, _ => by simp [cmpI]
 | [], [], _ :: _, _, h => by simp [cmpI] at h
 | [], _ :: _, _, h, _ => by simp [cmpI] at h
 | _ :: _, _, [], _, _ => by simp [cmpI]
 | _ :: _, [], _ :: _, _, h => by simp [cmpI] at h
 | x :: a, y :: b, z :: c, h, k => by
   unfold cmpI at h k ⊢
   split at h <;> split at k <;> try split at h
   all_goals (try split at k)
   all_goals (split <;> try split)
   all_goals first | omega | exact Zx a b c h k | skip
theorem UE : ∀ a b, ¬ cmpI a b < 0 → ¬ cmpI b a < 0 → a = b
 | [], [], _, _ => rfl
 | [], _ :: _, h, _ => by simp [cmpI] at h
 | _ :: _, [], _, h => by simp [cmpI] at h
 | x :: a, y :: b, h, k => by
   unfold cmpI at h k
   by_cases e : x = y
   ·subst e
    rw [if_pos rfl] at h k
    rw [UE a b h k]
   ·rw [if_neg e] at h
    rw [if_neg (Ne.symm e)] at k
    split at h <;> split at k <;> omega
def leI (x y : List Int) : Bool := !decide (cmpI y x < 0)
def ZG (l : List (List Int)) : List (List Int) := l.mergeSort leI
theorem VW (a b c : List Int) (h : leI a b = true) (k : leI b c = true) : leI a c = true := by
 unfold leI at *
 simp only [Bool.not_eq_true', decide_eq_false_iff_not] at *
 exact Zx c b a k h
theorem Ln (a b : List Int) : (leI a b || leI b a) = true := by
 unfold leI
 by_cases h : cmpI b a < 0
 ·have : ¬ cmpI a b < 0 := fun k => wH a (vF a b a k h)
  simp [h, this]
 ·simp [h]
theorem KU {a b : List Int} (h : leI a b = true) (k : leI b a = true) : a = b := by
 unfold leI at *
 simp only [Bool.not_eq_true', decide_eq_false_iff_not] at *
 exact UE a b k h
theorem gq (l : List (List Int)) : (ZG l).Perm l := List.mergeSort_perm l leI
theorem eL (l : List (List Int)) : (ZG l).Pairwise (fun a b => leI a b = true) := List.pairwise_mergeSort VW Ln l
theorem Rx {l m : List (List Int)} (hp : m.Perm l) (hs : m.Pairwise (fun a b => leI a b = true)) : m = ZG l :=
 List.Perm.eq_of_pairwise (le := fun a b => leI a b = true) (fun a b _ _ h k => KU h k) hs (eL l) (hp.trans (gq l).symm)
def XC (x : List (List Int)) : Bool := decide (x.length ≤ 4611686018427387903) && x.all fun l => decide (l.length ≤ 9223372036854775807)
def Q6 (x : List (List Int)) : Option (Unit × List (List Int)) := bif XC x then some ((), ZG x) else none
def sortFi (g : Nat) : Fi := ⟨[.o [.o ints true] false, .fn g []], [], some (fun _ x => Q6 x.1), .skip, [], 0, fun _ => none⟩
theorem N8 {w : World} {t : Ty} {x : List t.den} {v : Value} {L : List Nat} (h : OT w (.slice t) x [v] L) : v.oneCell' = true := by
 obtain ⟨v', e, h⟩ := h
 cases (List.cons.inj e).1
 rcases h with ⟨rfl, _, _⟩ | ⟨b, f, cap, c, E, Li, rfl, _⟩ <;> rfl
def Elem (w : World) (S : Nat → Prop) (b : Nat) (a : El ints) : Prop := rowP w S ints true a.1 [a.2.1] a.2.2 ∧ (∀ k ∈ a.2.2, k < w.heap.size ∧ k ≠ b) ∧ (a.1 : List Int).length ≤ 9223372036854775807
instance {w : World} {S : Nat → Prop} {b : Nat} : Inhabited {a : El ints // Elem w S b a} :=
 ⟨⟨(([] : List Int), .slice none 0 0, []), ⟨⟨_, rfl, .inl ⟨rfl, rfl, rfl⟩⟩, (fun k hk => by cases hk), Nat.zero_le _⟩⟩⟩
abbrev Xo {w : World} {S : Nat → Prop} {b : Nat} (a : {a : El ints // Elem w S b a}) : Value := a.1.2.1
theorem Nx {w : World} {S : Nat → Prop} {b : Nat} : OneCell (Xo (w := w) (S := S) (b := b)) := fun a => N8 (show OT w ints a.1.1 [a.1.2.1] a.1.2.2 from a.2.1)
theorem YG {w : World} {S : Nat → Prop} {b f m : Nat} {d : Array {a : El ints // Elem w S b a}} {os : Array Obj} (a : {a : El ints // Elem w S b a}) :
 VR (sortWorld Xo w b f m d os) (fun k => k < (sortWorld Xo w b f m d os).heap.size) ints a.1.1 [Xo a] := by
 have h : OT w ints a.1.1 [a.1.2.1] a.1.2.2 := a.2.1
 refine (OT.same h fun k hk => xC (a.2.2.1 k hk).1 (a.2.2.1 k hk).2).read fun k hk => ?_
 refine Nat.lt_of_lt_of_le (a.2.2.1 k hk).1 ?_
 unfold sortWorld; rw [size_grow, Sort.size_putRow]; exact Nat.le_add_right _ _
theorem KG {w : World} {S : Nat → Prop} {b : Nat} : SWO (ltOf fun (x y : {a : El ints // Elem w S b a}) => cmpI x.1.1 y.1.1) where
 irrefl x := by unfold ltOf; simp [wH]
 trans x y z h1 h2 := by unfold ltOf at *; simp only [decide_eq_true_eq] at *; exact vF _ _ _ h1 h2
 ntrans x y z h1 h2 := by unfold ltOf at *; simp only [decide_eq_false_iff_not] at *; exact Zx _ _ _ h1 h2
theorem JI (L : SlLaysF.n6 P ρ) {fn : Func} (hf : P.funcs[ρ.f 6]? = some fn) (hn : (fn.name == "runtime.NumGoroutine") = false) (hb : fn.body.isSome = true)
 {g : Nat} (eg : ∀ args w, (callFunc g args).run P w = .ok (.enter g args) w) {ext c res nt hs}
 (hcmp : ∀ x y : List Int, x.length ≤ 9223372036854775807 → y.length ≤ 9223372036854775807 → GivesO P g1 g ⟨[.v ints false, .v ints false], [(false, [⟨.int .i64, none⟩])], ext, c, res, nt, hs⟩ (x, y) (cmpI x y)) :
 OneF P gw (ρ.f 6) (sortFi g) := by
 suffices hg : ∀ (x : List (List Int) × Bool) (y : Unit × List (List Int)), Q6 x.1 = some y → GivesO P gw (ρ.f 6) (sortFi g) x y from ⟨fun g hg' k x y hy => by cases hg'; exact (hg x y hy).all rfl, fun h => by cases h⟩
 rintro ⟨xs, fx⟩ y hy B S vs LL H hS hL hm hH hA
 match vs, hA with
 | [v, u2], hA =>
 obtain ⟨L1, L2, H1, H2, rfl, rfl, ⟨us, e, hl, hpc, hHe⟩, ⟨ps, e2, hcap⟩, rfl, rfl⟩ := hA
 have hl := hl rfl
 have hps : ps = [] := by
  cases ps with
  | nil => rfl
  | cons p r => cases r <;> exact hcap.elim
 subst hps
 subst e2
 match us, hl, e, hpc, hHe with
 | [u], _, e, hpc, hHe =>
 have e : v = u := e
 have hHe : H1 = [u] := hHe
 subst e
 subst hHe
 rw [List.append_nil] at hL hm
 have hpc : ORow B.w ints.sz (rowP B.w S ints true) v xs L1 := hpc
 have hy : Q6 xs = some y := hy
 unfold Q6 at hy
 cases hd : XC xs with
 | false => rw [hd] at hy; cases hy
 | true =>
 rw [hd] at hy
 cases hy
 unfold XC at hd
 simp only [Bool.and_eq_true, decide_eq_true_eq, List.all_eq_true] at hd
 obtain ⟨hd1, hd2⟩ := hd
 rcases RowO.of rfl hpc with ⟨rfl, rfl, rfl⟩ | ⟨b, f, cap, cs, E, zs, rfl, hR, e1, rfl⟩
 ·refine Does.of_calls' hf hn hb ((AnyF.slices_SortFunc_none (P := P) (ρ := ρ) { L with } none 0 (.func (.func g) #[] #[]) B.w).mono ?_)
  rintro e w' ⟨rfl, rfl⟩
  exact ⟨Kept.refl B, S, [], [], [], rfl, fun _ h => h, fun _ h => .inl h, List.nodup_nil, (fun c hc => by cases hc), rfl, .inl ⟨rfl, (show ZG [] = [] by simp [ZG]), rfl⟩, fun h => by cases h⟩
 ·have hl : zs.length = xs.length := by rw [← e1, List.length_map]
  have hG : ∀ a ∈ zs, Elem B.w S b a := fun a ha => ⟨hR.p a ha, fun k hk => ⟨(hm k (List.mem_cons_of_mem _ (List.mem_flatMap.2 ⟨a, ha, hk⟩))).2.1, fun e => (List.nodup_cons.1 hL).1 (e ▸ List.mem_flatMap.2 ⟨a, ha, hk⟩)⟩, hd2 a.1 (by rw [← e1]; exact List.mem_map.2 ⟨a, ha, rfl⟩)⟩
  let ds : List {a : El ints // Elem B.w S b a} := zs.attachWith _ hG
  have hds : ds.map Subtype.val = zs := List.attachWith_map_subtype_val hG
  have hdl : ds.length = xs.length := by rw [← hl, ← hds, List.length_map]
  have henc : ds.map Xo = zs.map (·.2.1) := by rw [← hds, List.map_map]; rfl
  have hbm := hm b (by simp)
  have hcl : CmpLays1 P g #[] (Xo (w := B.w) (S := S) (b := b)) (fun x y => cmpI x.1.1 y.1.1) b f ds.toArray.size B.w := fun m os dk hdk x y => by
   have := calls2 (hcmp x.1.1 y.1.1 x.2.2.2 y.2.2.2) rfl eg (YG (f := f) (m := m) (d := dk) (os := os) x) (YG y)
   refine this.mono fun e w' hh => ?_
   obtain ⟨⟨u, rfl, hu⟩, q, os', hw⟩ := hh
   have hu : [u] = [Value.int .i64 (cmpI x.1.1 y.1.1)] := hu
   exact ⟨by rw [(List.cons.inj hu).1], q, os', hw⟩
  have hc := Any.slices_SortFunc L Xo Nx (fun x y => cmpI x.1.1 y.1.1) KG g #[] b f cap ds.toArray B.w eg hcl (hR.holds ds henc) hbm.2.1 (by rw [List.size_toArray]; omega)
  have hsz : ds.toArray.size = xs.length := by simpa using hdl
  rw [hsz] at hc
  refine Does.of_calls' hf hn hb (hc.mono ?_)
  rintro e w' ⟨rfl, d', n, os, ⟨hp1, _, hp3⟩, hs, rfl⟩
  have hperm : d'.toList.Perm ds := by
   have e1 : d'.extract 0 xs.length = d' := by rw [← hsz, ← hp1]; exact Array.extract_size
   have e2 : ds.toArray.extract 0 xs.length = ds.toArray := by rw [← hsz]; exact Array.extract_size
   rw [e1, e2] at hp3
   exact hp3
  have hzp : (d'.toList.map Subtype.val).Perm zs := by rw [← hds]; exact hperm.map _
  have hres := LA rfl hR hL hm hS hzp (enc := Xo) d' (by rw [List.map_map]; rfl) n os
  have hsort : (d'.toList.map Subtype.val).map (·.1) = ZG xs := by
   refine Rx (by rw [← e1]; exact hzp.map _) ?_
   rw [List.map_map, List.pairwise_map, List.pairwise_iff_getElem]
   intro i j hi hj hij
   have hi' : i < d'.size := by simpa using hi
   have hj' : j < d'.size := by simpa using hj
   have := hs i j (Nat.zero_le _) hij (by rw [← hsz, ← hp1]; exact hj')
   rw [getElem!_pos d' j hj', getElem!_pos d' i hi'] at this
   unfold ltOf at this
   unfold leI
   simp only [Bool.not_eq_true']
   simpa using this
  rw [hsort, hl] at hres
  exact hres
end Go.Vt
namespace Go.Vt
open Go.Proofs Go.Shelf Go.RowKit Go.Sort
set_option linter.unusedVariables false
variable {P : Program} {ρ : Ren} {gw : Gw}
def PF (n : Int) : Option (List Int) := bif decide (0 ≤ n) && decide (n ≤ 1048576) then some [] else none
def growFi : Fi := ⟨[.z (.int .i64), .v (.int .i64) false], [(false, [⟨.slice (.int .i64), some (true, false)⟩])], some (fun _ x => PF x.2), .skip, [], 0, fun _ => none⟩
theorem J7 (L : Lays8.n4 P ρ) (i0 : TypeInfo) (z : Value) (hi0 : P.info? (ρ.t 25) = some i0) (hz0 : i0.zero = some z) (hs1 : i0.size = 1) (hb8 : i0.bytes = 8) (hzl : ∀ n, (Builtin.zeroCells z.cells n).size = n)
 {fn : Func} (hf : P.funcs[ρ.f 4]? = some fn) (hn : (fn.name == "runtime.NumGoroutine") = false) (hb : fn.body.isSome = true) : OneF P gw (ρ.f 4) growFi := by
 suffices hg : ∀ (x : List Int × Int) (y : List Int), PF x.2 = some y → GivesO P gw (ρ.f 4) growFi x y from ⟨fun g hg' k x y hy => by cases hg'; exact (hg x y hy).all rfl, fun h => by cases h⟩
 rintro ⟨xs, n⟩ y hy B S vs LL H hS hL hm hH hA
 match vs, hA with
 | [v, u2], hA =>
 obtain ⟨L1, L2, H1, H2, rfl, rfl, ⟨⟨hv, hx⟩, rfl, rfl⟩, ⟨⟨c2, e2, _, h2⟩, rfl, rfl⟩⟩ := hA
 cases (show c2 = [Value.int .i64 n] from h2)
 subst hv
 have e2 : u2 = Value.int .i64 n := e2
 subst e2
 have hy : PF n = some y := hy
 unfold PF at hy
 cases hd : (decide (0 ≤ n) && decide (n ≤ 1048576)) with
 | false => rw [hd] at hy; cases hy
 | true =>
 rw [hd] at hy
 cases hy
 simp only [Bool.and_eq_true, decide_eq_true_eq] at hd
 obtain ⟨d1, d2⟩ := hd
 obtain ⟨m, rfl⟩ := Int.eq_ofNat_of_zero_le d1
 by_cases h0 : m = 0
 ·subst h0
  refine Does.of_calls' hf hn hb ((Any8.slices_Grow_room L none 0 0 0 B.w (Nat.le_refl _) (by omega) (by omega) (by omega)).mono ?_)
  rintro e w' ⟨rfl, rfl⟩
  exact ⟨Kept.refl B, S, [.slice none 0 0], [], [], rfl, fun _ h => h, fun _ h => .inl h, List.nodup_nil, (fun c hc => by cases hc), ⟨.inl ⟨rfl, rfl, rfl⟩, fun h => by cases h⟩, rfl⟩
 ·refine Does.of_calls' hf hn hb ((Any8.slices_Grow_grow L i0 z hi0 hz0 (by omega) none 0 0 m [] B.w (Nat.le_refl _) (by omega) (by rw [hb8]; omega) (by omega) (by simp) (fun _ => rfl) (fun a h => by cases h)).mono ?_)
  rintro e w' ⟨rfl, rfl⟩
  have hk : Kept B (B.w.drew.alloc (.cells (([] : List Value).toArray ++ Builtin.zeroCells z.cells (0 + m - 0) ++ Builtin.zeroCells z.cells (grownCap B.w (0 + m) 0 (ρ.t 25) - (0 + m))) (ρ.t 25))) := (KeptW.drew (Kept.refl B)).alloc _
  have hG := grownCap_ge B.w (0 + m) 0 (ρ.t 25)
  refine ⟨hk, S, [.slice (some ⟨B.w.heap.size, 0, none⟩) 0 (grownCap B.w (0 + m) 0 (ρ.t 25))], [B.w.heap.size], [], rfl, fun _ h => h, fun _ h => .inl h, by simp, fun c hc => ?_, ⟨.inr ⟨B.w.heap.size, 0, grownCap B.w (0 + m) 0 (ρ.t 25), _, ρ.t 25, [], rfl, by
   exact Array.getElem?_push_size, ?_, Nat.zero_le _, rfl, rfl⟩, fun h => by cases h⟩, rfl⟩
  ·have : c = B.w.heap.size := by simpa using hc
   subst this
   exact ⟨B.up _ (Nat.le_refl _), (by show B.w.heap.size < (Array.push _ _).size; rw [Array.size_push]; exact Nat.lt_succ_self _), fun hs => Nat.lt_irrefl _ (hS _ hs)⟩
  ·show 0 + grownCap B.w (0 + m) 0 (ρ.t 25) * 1 ≤ _
   rw [Array.size_append, Array.size_append, hzl, hzl, show (([] : List Value).toArray).size = 0 from rfl]
   omega
end Go.Vt
namespace Go.Vt
set_option linter.unusedVariables false
def h0 : Nat → Option (List Hint) := fun _ => none
def fiOf (fn : Func) (ps : List PT) (rs : List (Bool × List RC)) (h : Nat → Option (List Hint)) : Fi := ⟨ps, rs, none, (fn.body).getD .skip, fn.results.toList, fn.ntmps, h⟩
def okB (fn : Func) (ps : List PT) : Bool := !(fn.name == "runtime.NumGoroutine") && (fn.body.isSome && Nat.ble ps.length fn.ntmps)
def Pv : Code → Nat → List Item → Option (List Item)
 | .region id ops draw, n, r => bif Nat.beq id n then some (.code (.region id ops draw) :: r) else none
 | .seq a b, n, r => match Pv a n (.code b :: r) with | some x => some x | none => Pv b n r
 | .block id c, n, r => Pv c n (.inBlock id :: r)
 | .loop c, n, r => Pv c n (.inLoop c :: r)
 | .cond _ a b, n, r => match Pv a n r with | some x => some x | none => Pv b n r
 | _, _, _ => none
def mkSl : Nat → Nat → List (Nat × AV) → List AV
 | 0, _, _ => []
 | n + 1, i, [] => .cv .dead :: mkSl n (i + 1) []
 | n + 1, i, (j, a) :: l => bif Nat.beq i j then a :: mkSl n (i + 1) l else .cv .dead :: mkSl n (i + 1) ((j, a) :: l)
noncomputable def zR (E : Env) (k : Nat) (fi : Fi) (n : Nat) (sl : List (Nat × AV)) (ob : List (Nat × Ob)) : Option (Oden (zj fi.rs) (ioOf fi.ps)) :=
 aRun E k fi.rs (ioOf fi.ps) fi.res fi.hints ((Pv fi.code n []).getD []) ⟨mkSl fi.nt 0 sl, ob, true⟩
theorem okOf {P : Program} {gw : Gw} {f : Nat} {fn : Func} {ps : List PT} {rs : List (Bool × List RC)} {h : Nat → Option (List Hint)} (hf : P.funcs[f]? = some fn) (hb : okB fn ps = true) : OneF P gw f (fiOf fn ps rs h) := by
 unfold okB at hb
 rw [Bool.and_eq_true, Bool.and_eq_true, Bool.not_eq_true'] at hb
 obtain ⟨c, hc⟩ := Option.isSome_iff_exists.1 hb.2.1
 exact Ut hf hb.1 hc (by show fn.body.getD .skip = c; rw [hc]; rfl) rfl rfl hb.2.2 rfl
end Go.Vt
