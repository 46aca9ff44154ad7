/-
  slices.Reverse and slices.SortFunc as functions of the library: the row is handed in to be written.
  Conditions: the lays of their bodies; for SortFunc: what its comparison returns.
-/
import Derived.Test.YtlgkjckddpnfnaaGreatDoorXvzi
import Derived.Shelf.SlSortCmp.NoneTotal
import Derived.Shelf.SlicesE.Reverse
namespace Go.Vt
open Go.Proofs Go.Shelf Go.RowKit Go.Sort
set_option linter.unusedVariables false
set_option linter.unusedSimpArgs false
variable {P : Program} {ρ : Ren} {gw : Gw}

theorem io_done {B : Base gw} {S : Nat → Prop} {t : Ty} {deep : Bool} (h1 : t.sz = 1) {α : Type} [Inhabited α] {enc : α → Value} {b f cap : Nat} {cs : Array Value} {E : TypeId} {zs zs' : List (El t)} (hR : RowO B.w S t deep b f cap cs E zs)
    (hL : (b :: zs.flatMap (·.2.2)).Nodup) (hm : ∀ k ∈ b :: zs.flatMap (·.2.2), B.mine k ∧ k < B.w.heap.size ∧ ¬ S k) (hS : ∀ k, S k → k < B.w.heap.size) (hp : zs'.Perm zs) (d : Array α) (hd : d.toList.map enc = zs'.map (·.2.1)) (m : Nat) (os : Array Obj) :
    Kept B (sortWorld enc B.w b f m d os) ∧ ResR B (sortWorld enc B.w b f m d os) S [] [⟨.slice t, some (deep, false)⟩] [.slice (some ⟨b, f, none⟩) zs.length cap] ((), zs'.map (·.1)) (.tuple #[]) := by
  have hb := hm b (by simp)
  have hk := kept_sortWorld (enc := enc) (f := f) (m := m) (d := d) (os := os) hb.1
  refine ⟨hk, ?_⟩
  have hdl : d.size = zs.length := by
    have := congrArg List.length hd
    simp only [List.length_map, Array.length_toList] at this
    rw [this, hp.length_eq]
  have hpf := hp.flatMap_right (·.2.2)
  have hM : ∀ k ∈ b :: zs'.flatMap (·.2.2), k ∈ b :: zs.flatMap (·.2.2) := fun k hk => by
    rcases List.mem_cons.1 hk with rfl | hk
    · simp
    · exact List.mem_cons_of_mem _ ((hpf.mem_iff).1 hk)
  have hr := RowO.row h1 (hR.after (enc := enc) (m := m) d hdl zs' (fun a ha => hR.p a (hp.mem_iff.1 ha)) (by rw [hd, List.take_of_length_le (by simp)]) (Nat.le_of_eq hp.length_eq)
    (fun k hk => ⟨hS k hk, fun e => hb.2.2 (e ▸ hk)⟩) (fun a ha k hk2 => ⟨(hm k (hM k (List.mem_cons_of_mem _ (List.mem_flatMap.2 ⟨a, ha, hk2⟩)))).2.1, fun e => by
      have h2 := (List.nodup_cons.1 hL).1
      exact h2 (hpf.mem_iff.1 (e ▸ List.mem_flatMap.2 ⟨a, ha, hk2⟩))⟩) os)
  refine ⟨S, [], [], b :: zs'.flatMap (·.2.2), rfl, fun _ h => h, fun _ h => .inl h, ?_, fun c hc => ?_, rfl, ?_⟩
  · rw [List.nil_append]
    exact (List.Perm.nodup_iff (List.Perm.cons b hpf)).2 hL
  · rw [List.nil_append] at hc
    have := hm c (hM c hc)
    exact ⟨this.1, Nat.lt_of_lt_of_le this.2.1 hk.size, this.2.2⟩
  · rw [hp.length_eq] at hr
    exact ⟨hr, fun h => by cases h⟩

/-! ### slices.Reverse -/
def reverseF (x : List Int) : Option (Unit × List Int) := bif decide (x.length ≤ 9223372036854775807) then some ((), x.reverse) else none
def reverseFi : Fi := ⟨[.o [.o (.int .i64) false] false], [], some (fun _ x => reverseF x), .skip, [], 0, fun _ => none⟩
theorem reverse_ok (L : SlLaysE.n35 P ρ) {fn : Func} (hf : P.funcs[ρ.f 35]? = some fn) (hn : (fn.name == "runtime.NumGoroutine") = false) (hb : fn.body.isSome = true) : OneF P gw (ρ.f 35) reverseFi := by
  suffices hg : ∀ (x : List Int) (y : Unit × List Int), reverseF x = some y → GivesO P gw (ρ.f 35) reverseFi x y from ⟨fun g hg' k x y hy => by cases hg'; exact (hg x y hy).all rfl, fun h => by cases h⟩
  intro xs y hy B S vs LL H hS hL hm hH hA
  match vs, hA with
  | [v], hA =>
  obtain ⟨us, e, hl, hpc, hHe⟩ := hA
  have hl := hl rfl
  match us, hl, e, hpc, hHe with
  | [u], _, e, hpc, hHe =>
  have e : v = u := e
  have hHe : H = [u] := hHe
  subst e
  subst hHe
  have hpc : ORow B.w (Ty.int .i64).sz (rowP B.w S (.int .i64) false) v xs LL := hpc
  unfold reverseF at hy
  cases hd : decide (xs.length ≤ 9223372036854775807) with
  | false => rw [hd] at hy; cases hy
  | true =>
  rw [hd] at hy
  cases hy
  have hd := of_decide_eq_true hd
  rcases RowO.of rfl hpc with ⟨rfl, rfl, rfl⟩ | ⟨b, f, cap, cs, E, zs, rfl, hR, e1, rfl⟩
  · refine Does.of_calls' hf hn hb ((AnyE.slices_Reverse_empty L none 0 B.w).mono ?_)
    rintro e w' ⟨rfl, rfl⟩
    exact ⟨Kept.refl B, S, [], [], [], rfl, fun _ h => h, fun _ h => .inl h, List.nodup_nil, (fun c hc => by cases hc), rfl, .inl ⟨rfl, rfl, rfl⟩, fun h => by cases h⟩
  · have hl : zs.length = xs.length := by rw [← e1, List.length_map]
    let G : El (.int .i64) → Prop := fun a => rowP B.w S (.int .i64) false a.1 [a.2.1] a.2.2
    have : Inhabited {a : El (.int .i64) // G a} := ⟨⟨((0 : Int), .int .i64 0, []), ⟨rfl, rfl⟩⟩⟩
    let ds : List {a : El (.int .i64) // G a} := zs.attachWith G hR.p
    have hds : ds.map Subtype.val = zs := List.attachWith_map_subtype_val hR.p
    have hdl : ds.length = xs.length := by rw [← hl, ← hds, List.length_map]
    let enc : {a : El (.int .i64) // G a} → Value := fun a => a.1.2.1
    have henc : ds.map enc = zs.map (·.2.1) := by rw [← hds, List.map_map]; rfl
    have h1 : OneCell enc := fun a => by
      have h3 : rowP B.w S (.int .i64) false a.1.1 [a.1.2.1] a.1.2.2 := a.2
      have h4 : [a.1.2.1] = [Value.int .i64 a.1.1] := h3.1
      show (a.1.2.1).oneCell' = true
      rw [List.cons.inj h4 |>.1]
      rfl
    have hc := AnyE.slices_Reverse L enc h1 b f cap ds B.w (hR.holds ds henc) (by omega)
    rw [hdl] at hc
    refine Does.of_calls' hf hn hb (hc.mono ?_)
    rintro e w' ⟨rfl, n, rfl⟩
    have hw : putRow enc (Sort.ahead B.w n) b f ds.reverse.toArray = sortWorld enc B.w b f n ds.reverse.toArray #[] := by unfold sortWorld; rw [grow_empty]
    have := io_done rfl hR hL hm hS (List.reverse_perm zs) (enc := enc) ds.reverse.toArray (by rw [List.map_reverse, henc, List.map_reverse]) n #[]
    rw [← hw, hl] at this
    rw [List.map_reverse, e1] at this
    exact this

/-! ### rows of numbers compared -/
def cmpI : List Int → List Int → Int
  | [], b => if 0 < b.length then -1 else 0
  | _ :: _, [] => 1
  | x :: a, y :: b => if x = y then cmpI a b else if x < y then -1 else 1
theorem cmpI_irrefl : ∀ a, ¬ cmpI a a < 0
  | [] => by simp [cmpI]
  | x :: a => by unfold cmpI; rw [if_pos rfl]; exact cmpI_irrefl a
theorem cmpI_trans : ∀ a b c, cmpI a b < 0 → cmpI b c < 0 → cmpI a c < 0
  | [], [], _, h, _ => by simp [cmpI] at h
  | [], _ :: _, [], _, h => by simp [cmpI] at h
  | [], _ :: _, _ :: _, _, _ => by simp [cmpI]
  | _ :: _, [], _, h, _ => by simp [cmpI] at h
  | _ :: _, _ :: _, [], _, h => by simp [cmpI] at h
  | x :: a, y :: b, z :: c, h, k => by
    unfold cmpI at h k ⊢
    split at h <;> split at k <;> try split at h
    all_goals (try split at k)
    all_goals (split <;> try split)
    all_goals first | omega | exact cmpI_trans a b c h k | skip
theorem cmpI_ntrans : ∀ a b c, ¬ cmpI a b < 0 → ¬ cmpI b c < 0 → ¬ cmpI a c < 0
  | [], [], [], _, _ => by simp [cmpI]
  | [], [], _ :: _, _, h => by simp [cmpI] at h
  | [], _ :: _, _, h, _ => by simp [cmpI] at h
  | _ :: _, _, [], _, _ => by simp [cmpI]
  | _ :: _, [], _ :: _, _, h => by simp [cmpI] at h
  | x :: a, y :: b, z :: c, h, k => by
    unfold cmpI at h k ⊢
    split at h <;> split at k <;> try split at h
    all_goals (try split at k)
    all_goals (split <;> try split)
    all_goals first | omega | exact cmpI_ntrans a b c h k | skip
theorem cmpI_anti : ∀ a b, ¬ cmpI a b < 0 → ¬ cmpI b a < 0 → a = b
  | [], [], _, _ => rfl
  | [], _ :: _, h, _ => by simp [cmpI] at h
  | _ :: _, [], _, h => by simp [cmpI] at h
  | x :: a, y :: b, h, k => by
    unfold cmpI at h k
    by_cases e : x = y
    · subst e
      rw [if_pos rfl] at h k
      rw [cmpI_anti a b h k]
    · rw [if_neg e] at h
      rw [if_neg (Ne.symm e)] at k
      split at h <;> split at k <;> omega
def leI (x y : List Int) : Bool := !decide (cmpI y x < 0)
def sortL (l : List (List Int)) : List (List Int) := l.mergeSort leI
theorem leI_trans (a b c : List Int) (h : leI a b = true) (k : leI b c = true) : leI a c = true := by
  unfold leI at *
  simp only [Bool.not_eq_true', decide_eq_false_iff_not] at *
  exact cmpI_ntrans c b a k h
theorem leI_total (a b : List Int) : (leI a b || leI b a) = true := by
  unfold leI
  by_cases h : cmpI b a < 0
  · have : ¬ cmpI a b < 0 := fun k => cmpI_irrefl a (cmpI_trans a b a k h)
    simp [h, this]
  · simp [h]
theorem leI_anti {a b : List Int} (h : leI a b = true) (k : leI b a = true) : a = b := by
  unfold leI at *
  simp only [Bool.not_eq_true', decide_eq_false_iff_not] at *
  exact cmpI_anti a b k h
theorem sortL_perm (l : List (List Int)) : (sortL l).Perm l := List.mergeSort_perm l leI
theorem sortL_sorted (l : List (List Int)) : (sortL l).Pairwise (fun a b => leI a b = true) := List.pairwise_mergeSort leI_trans leI_total l
theorem sortL_unique {l m : List (List Int)} (hp : m.Perm l) (hs : m.Pairwise (fun a b => leI a b = true)) : m = sortL l :=
  List.Perm.eq_of_pairwise (le := fun a b => leI a b = true) (fun a b _ _ h k => leI_anti h k) hs (sortL_sorted l) (hp.trans (sortL_perm l).symm)

/-! ### slices.SortFunc -/
def smallL (x : List (List Int)) : Bool := decide (x.length ≤ 4611686018427387903) && x.all fun l => decide (l.length ≤ 9223372036854775807)
def sortF (x : List (List Int)) : Option (Unit × List (List Int)) := bif smallL x then some ((), sortL x) else none
def sortFi (g : Nat) : Fi := ⟨[.o [.o ints true] false, .fn g []], [], some (fun _ x => sortF x.1), .skip, [], 0, fun _ => none⟩

theorem ot_oneCell {w : World} {t : Ty} {x : List t.den} {v : Value} {L : List Nat} (h : OT w (.slice t) x [v] L) : v.oneCell' = true := by
  obtain ⟨v', e, h⟩ := h
  cases (List.cons.inj e).1
  rcases h with ⟨rfl, _, _⟩ | ⟨b, f, cap, c, E, Li, rfl, _⟩ <;> rfl

/-- An element of the row: owned in B's world, apart from the row's own block, not too long. -/
def Elem (w : World) (S : Nat → Prop) (b : Nat) (a : El ints) : Prop := rowP w S ints true a.1 [a.2.1] a.2.2 ∧ (∀ k ∈ a.2.2, k < w.heap.size ∧ k ≠ b) ∧ (a.1 : List Int).length ≤ 9223372036854775807
instance {w : World} {S : Nat → Prop} {b : Nat} : Inhabited {a : El ints // Elem w S b a} :=
  ⟨⟨(([] : List Int), .slice none 0 0, []), ⟨⟨_, rfl, .inl ⟨rfl, rfl, rfl⟩⟩, (fun k hk => by cases hk), Nat.zero_le _⟩⟩⟩
abbrev elemV {w : World} {S : Nat → Prop} {b : Nat} (a : {a : El ints // Elem w S b a}) : Value := a.1.2.1
theorem elem_one {w : World} {S : Nat → Prop} {b : Nat} : OneCell (elemV (w := w) (S := S) (b := b)) := fun a => ot_oneCell (show OT w ints a.1.1 [a.1.2.1] a.1.2.2 from a.2.1)
/-- .. read in a world that the library's function passes through. -/
theorem elem_read {w : World} {S : Nat → Prop} {b f m : Nat} {d : Array {a : El ints // Elem w S b a}} {os : Array Obj} (a : {a : El ints // Elem w S b a}) :
    VR (sortWorld elemV w b f m d os) (fun k => k < (sortWorld elemV w b f m d os).heap.size) ints a.1.1 [elemV a] := by
  have h : OT w ints a.1.1 [a.1.2.1] a.1.2.2 := a.2.1
  refine (OT.same h fun k hk => heap_sortWorld_same (a.2.2.1 k hk).1 (a.2.2.1 k hk).2).read fun k hk => ?_
  refine Nat.lt_of_lt_of_le (a.2.2.1 k hk).1 ?_
  unfold sortWorld; rw [size_grow, Sort.size_putRow]; exact Nat.le_add_right _ _

theorem swo_elem {w : World} {S : Nat → Prop} {b : Nat} : SWO (ltOf fun (x y : {a : El ints // Elem w S b a}) => cmpI x.1.1 y.1.1) where
  irrefl x := by unfold ltOf; simp [cmpI_irrefl]
  trans x y z h1 h2 := by unfold ltOf at *; simp only [decide_eq_true_eq] at *; exact cmpI_trans _ _ _ h1 h2
  ntrans x y z h1 h2 := by unfold ltOf at *; simp only [decide_eq_false_iff_not] at *; exact cmpI_ntrans _ _ _ h1 h2

theorem sort_ok (L : SlLaysF.n6 P ρ) {fn : Func} (hf : P.funcs[ρ.f 6]? = some fn) (hn : (fn.name == "runtime.NumGoroutine") = false) (hb : fn.body.isSome = true)
    {g : Nat} (eg : ∀ args w, (callFunc g args).run P w = .ok (.enter g args) w) {ext c res nt hs}
    (hcmp : ∀ x y : List Int, x.length ≤ 9223372036854775807 → y.length ≤ 9223372036854775807 → GivesO P g1 g ⟨[.v ints false, .v ints false], [(false, [⟨.int .i64, none⟩])], ext, c, res, nt, hs⟩ (x, y) (cmpI x y)) :
    OneF P gw (ρ.f 6) (sortFi g) := by
  suffices hg : ∀ (x : List (List Int) × Bool) (y : Unit × List (List Int)), sortF x.1 = some y → GivesO P gw (ρ.f 6) (sortFi g) x y from ⟨fun g hg' k x y hy => by cases hg'; exact (hg x y hy).all rfl, fun h => by cases h⟩
  rintro ⟨xs, fx⟩ y hy B S vs LL H hS hL hm hH hA
  match vs, hA with
  | [v, u2], hA =>
  obtain ⟨L1, L2, H1, H2, rfl, rfl, ⟨us, e, hl, hpc, hHe⟩, ⟨ps, e2, hcap⟩, rfl, rfl⟩ := hA
  have hl := hl rfl
  have hps : ps = [] := by
    cases ps with
    | nil => rfl
    | cons p r => cases r <;> exact hcap.elim
  subst hps
  subst e2
  match us, hl, e, hpc, hHe with
  | [u], _, e, hpc, hHe =>
  have e : v = u := e
  have hHe : H1 = [u] := hHe
  subst e
  subst hHe
  rw [List.append_nil] at hL hm
  have hpc : ORow B.w ints.sz (rowP B.w S ints true) v xs L1 := hpc
  have hy : sortF xs = some y := hy
  unfold sortF at hy
  cases hd : smallL xs with
  | false => rw [hd] at hy; cases hy
  | true =>
  rw [hd] at hy
  cases hy
  unfold smallL at hd
  simp only [Bool.and_eq_true, decide_eq_true_eq, List.all_eq_true] at hd
  obtain ⟨hd1, hd2⟩ := hd
  rcases RowO.of rfl hpc with ⟨rfl, rfl, rfl⟩ | ⟨b, f, cap, cs, E, zs, rfl, hR, e1, rfl⟩
  · refine Does.of_calls' hf hn hb ((AnyF.slices_SortFunc_none (P := P) (ρ := ρ) { L with } none 0 (.func (.func g) #[] #[]) B.w).mono ?_)
    rintro e w' ⟨rfl, rfl⟩
    exact ⟨Kept.refl B, S, [], [], [], rfl, fun _ h => h, fun _ h => .inl h, List.nodup_nil, (fun c hc => by cases hc), rfl, .inl ⟨rfl, (show sortL [] = [] by simp [sortL]), rfl⟩, fun h => by cases h⟩
  · have hl : zs.length = xs.length := by rw [← e1, List.length_map]
    have hG : ∀ a ∈ zs, Elem B.w S b a := fun a ha => ⟨hR.p a ha, fun k hk => ⟨(hm k (List.mem_cons_of_mem _ (List.mem_flatMap.2 ⟨a, ha, hk⟩))).2.1, fun e => (List.nodup_cons.1 hL).1 (e ▸ List.mem_flatMap.2 ⟨a, ha, hk⟩)⟩, hd2 a.1 (by rw [← e1]; exact List.mem_map.2 ⟨a, ha, rfl⟩)⟩
    let ds : List {a : El ints // Elem B.w S b a} := zs.attachWith _ hG
    have hds : ds.map Subtype.val = zs := List.attachWith_map_subtype_val hG
    have hdl : ds.length = xs.length := by rw [← hl, ← hds, List.length_map]
    have henc : ds.map elemV = zs.map (·.2.1) := by rw [← hds, List.map_map]; rfl
    have hbm := hm b (by simp)
    have hcl : CmpLays1 P g #[] (elemV (w := B.w) (S := S) (b := b)) (fun x y => cmpI x.1.1 y.1.1) b f ds.toArray.size B.w := fun m os dk hdk x y => by
      have := calls2 (hcmp x.1.1 y.1.1 x.2.2.2 y.2.2.2) rfl eg (elem_read (f := f) (m := m) (d := dk) (os := os) x) (elem_read y)
      refine this.mono fun e w' hh => ?_
      obtain ⟨⟨u, rfl, hu⟩, q, os', hw⟩ := hh
      have hu : [u] = [Value.int .i64 (cmpI x.1.1 y.1.1)] := hu
      exact ⟨by rw [(List.cons.inj hu).1], q, os', hw⟩
    have hc := Any.slices_SortFunc L elemV elem_one (fun x y => cmpI x.1.1 y.1.1) swo_elem g #[] b f cap ds.toArray B.w eg hcl (hR.holds ds henc) hbm.2.1 (by rw [List.size_toArray]; omega)
    have hsz : ds.toArray.size = xs.length := by simpa using hdl
    rw [hsz] at hc
    refine Does.of_calls' hf hn hb (hc.mono ?_)
    rintro e w' ⟨rfl, d', n, os, ⟨hp1, _, hp3⟩, hs, rfl⟩
    have hperm : d'.toList.Perm ds := by
      have e1 : d'.extract 0 xs.length = d' := by rw [← hsz, ← hp1]; exact Array.extract_size
      have e2 : ds.toArray.extract 0 xs.length = ds.toArray := by rw [← hsz]; exact Array.extract_size
      rw [e1, e2] at hp3
      exact hp3
    have hzp : (d'.toList.map Subtype.val).Perm zs := by rw [← hds]; exact hperm.map _
    have hres := io_done rfl hR hL hm hS hzp (enc := elemV) d' (by rw [List.map_map]; rfl) n os
    have hsort : (d'.toList.map Subtype.val).map (·.1) = sortL xs := by
      refine sortL_unique (by rw [← e1]; exact hzp.map _) ?_
      rw [List.map_map, List.pairwise_map, List.pairwise_iff_getElem]
      intro i j hi hj hij
      have hi' : i < d'.size := by simpa using hi
      have hj' : j < d'.size := by simpa using hj
      have := hs i j (Nat.zero_le _) hij (by rw [← hsz, ← hp1]; exact hj')
      rw [getElem!_pos d' j hj', getElem!_pos d' i hi'] at this
      unfold ltOf at this
      unfold leI
      simp only [Bool.not_eq_true']
      simpa using this
    rw [hsort, hl] at hres
    exact hres
end Go.Vt
