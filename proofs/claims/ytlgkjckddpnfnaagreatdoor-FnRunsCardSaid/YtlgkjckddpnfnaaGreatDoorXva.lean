/-
  Values of plain kinds (integers, bools, strings, slices, pairs) as Lean data, and what it means that a value of the machine reads as such a datum in a world: read alone, or owned as a tree of rows of its own.
  Conditions: none; these are definitions and lemmas on them.
-/
import Derived.Calls
import Derived.Below
import Derived.KernelRfl
namespace Go.Vt
open Go.RowKit
set_option linter.unusedVariables false
set_option linter.unusedSimpArgs false

/-! ### kinds -/
inductive Ty where
  | int (k : IntKind) | bool | str | slice (t : Ty) | pair (a b : Ty)
  | set   -- maps of texts to bools, all true; none: the nil map
  | err   -- errors: is it nil

@[reducible] def Ty.den : Ty → Type
  | .int _ => Int | .bool => Bool | .str => ByteArray | .slice t => List t.den | .pair a b => a.den × b.den | .set => Option (List ByteArray) | .err => Bool

def Ty.dflt : (t : Ty) → t.den
  | .int _ => (0 : Int) | .bool => false | .str => (⟨#[]⟩ : ByteArray) | .slice _ => [] | .pair a b => (a.dflt, b.dflt) | .set => (none : Option (List ByteArray)) | .err => true

def Ty.sz : Ty → Nat
  | .pair a b => a.sz + b.sz | _ => 1

def kSame : IntKind → IntKind → Bool
  | .i8, .i8 | .i16, .i16 | .i32, .i32 | .i64, .i64 | .u8, .u8 | .u16, .u16 | .u32, .u32 | .u64, .u64 => true
  | _, _ => false
theorem kSame_eq {a b : IntKind} (h : kSame a b = true) : a = b := by cases a <;> cases b <;> first | rfl | cases h

def Ty.same : Ty → Ty → Bool
  | .int k, .int k' => kSame k k' | .bool, .bool => true | .str, .str => true | .slice t, .slice u => t.same u
  | .pair a b, .pair c d => a.same c && b.same d | .set, .set => true | .err, .err => true | _, _ => false
theorem Ty.same_eq : ∀ {a b : Ty}, Ty.same a b = true → a = b
  | .int k, .int k', h => congrArg Ty.int (kSame_eq (a := k) (b := k') h)
  | .bool, .bool, _ => rfl
  | .str, .str, _ => rfl
  | .slice t, .slice u, h => congrArg Ty.slice (Ty.same_eq (a := t) (b := u) h)
  | .pair a b, .pair c d, h => by
    have h' : a.same c = true ∧ b.same d = true := by simpa [Ty.same] using h
    have e1 := Ty.same_eq h'.1
    have e2 := Ty.same_eq h'.2
    rw [e1, e2]
  | .set, .set, _ => rfl
  | .err, .err, _ => rfl
  | .set, .err, h => by cases h
  | .err, .set, h => by cases h
  | .set, .int _, h => by cases h
  | .int _, .set, h => by cases h
  | .err, .int _, h => by cases h
  | .int _, .err, h => by cases h
  | .set, .bool, h => by cases h
  | .bool, .set, h => by cases h
  | .err, .bool, h => by cases h
  | .bool, .err, h => by cases h
  | .set, .str, h => by cases h
  | .str, .set, h => by cases h
  | .err, .str, h => by cases h
  | .str, .err, h => by cases h
  | .set, .slice _, h => by cases h
  | .slice _, .set, h => by cases h
  | .err, .slice _, h => by cases h
  | .slice _, .err, h => by cases h
  | .set, .pair _ _, h => by cases h
  | .pair _ _, .set, h => by cases h
  | .err, .pair _ _, h => by cases h
  | .pair _ _, .err, h => by cases h
  | .int _, .bool, h => by cases h
  | .int _, .str, h => by cases h
  | .int _, .slice _, h => by cases h
  | .int _, .pair _ _, h => by cases h
  | .bool, .int _, h => by cases h
  | .bool, .str, h => by cases h
  | .bool, .slice _, h => by cases h
  | .bool, .pair _ _, h => by cases h
  | .str, .int _, h => by cases h
  | .str, .bool, h => by cases h
  | .str, .slice _, h => by cases h
  | .str, .pair _ _, h => by cases h
  | .slice _, .int _, h => by cases h
  | .slice _, .bool, h => by cases h
  | .slice _, .str, h => by cases h
  | .slice _, .pair _ _, h => by cases h
  | .pair _ _, .int _, h => by cases h
  | .pair _ _, .bool, h => by cases h
  | .pair _ _, .str, h => by cases h
  | .pair _ _, .slice _, h => by cases h

/-- A datum of kind a, told as one of kind b: if they are the same. -/
def Ty.as (a b : Ty) (x : a.den) : Option b.den := if h : Ty.same a b = true then some (Ty.same_eq h ▸ x) else none

/-- Does a datum of this kind lead to memory? -/
def Ty.flat : Ty → Bool
  | .slice _ => false | .pair a b => a.flat && b.flat | .set => false | _ => true

theorem Ty.sz_pos : ∀ t : Ty, 0 < t.sz
  | .int _ => Nat.zero_lt_one | .bool => Nat.zero_lt_one | .str => Nat.zero_lt_one | .slice _ => Nat.zero_lt_one | .set => Nat.zero_lt_one | .err => Nat.zero_lt_one
  | .pair a b => by have := a.sz_pos; show 0 < a.sz + b.sz; omega

/-! ### worlds -/
def Same (S : Nat → Prop) (w w' : World) : Prop := ∀ b, S b → w'.heap[b]? = w.heap[b]?
theorem Same.refl (S : Nat → Prop) (w : World) : Same S w w := fun _ _ => rfl
theorem Same.trans {S : Nat → Prop} {a b c : World} (h : Same S a b) (k : Same S b c) : Same S a c := fun x hx => (k x hx).trans (h x hx)
theorem Same.mono {S S' : Nat → Prop} {w w' : World} (h : Same S w w') (hs : ∀ b, S' b → S b) : Same S' w w' := fun b hb => h b (hs b hb)

/-- The cells from an address on. -/
def At (w : World) (b o : Nat) (cs : List Value) : Prop := ∀ j v, cs[j]? = some v → w.cell? ⟨b, o + j, none⟩ = some v
theorem At.same {w w' : World} {b o : Nat} {cs : List Value} (h : At w b o cs) (hb : w'.heap[b]? = w.heap[b]?) : At w' b o cs := fun j v hj => by
  rw [World.cell?_of_block (w := w) (a := ⟨b, o + j, none⟩) hb]; exact h j v hj

/-! ### what a value reads as -/
def Rows {α : Type} (w : World) (S : Nat → Prop) (n : Nat) (p : α → List Value → Prop) (a : Option Addr) (xs : List α) : Prop :=
  xs = [] ∨ ∃ b o, a = some ⟨b, o, none⟩ ∧ S b ∧ ∀ i x, xs[i]? = some x → ∃ cs, cs.length = n ∧ At w b (o + i * n) cs ∧ p x cs

/-- The block holds a map of these texts, all to true. -/
def MapIs (w : World) (b : Nat) (l : List ByteArray) : Prop := ∃ es ck, w.heap[b]? = some (.map es ck) ∧ es.toList.map (fun e => (e.key, e.val)) = l.map fun s => (Value.string s, Value.bool true)
theorem MapIs.same {w w' : World} {b : Nat} {l : List ByteArray} (h : MapIs w b l) (hb : w'.heap[b]? = w.heap[b]?) : MapIs w' b l := by
  obtain ⟨es, ck, h1, h2⟩ := h
  exact ⟨es, ck, hb.trans h1, h2⟩
def ErrV : Value → Bool → Prop
  | .nilIface, b => b = true | .iface _ _, b => b = false | _, _ => False
/-- What a map's value is: nil, or one's block. -/
def SetR (w : World) (v : Value) (L : List Nat) : Option (List ByteArray) → Prop
  | none => v = .map none ∧ L = []
  | some l => ∃ b, v = .map (some b) ∧ L = [b] ∧ MapIs w b l
theorem SetR.same {w w' : World} {v : Value} {L : List Nat} : ∀ {x : Option (List ByteArray)}, SetR w v L x → (∀ b ∈ L, w'.heap[b]? = w.heap[b]?) → SetR w' v L x
  | none, h, _ => h
  | some l, h, hL => by
    obtain ⟨b, e, rfl, h2⟩ := h
    exact ⟨b, e, rfl, h2.same (hL b (by simp))⟩

def VR (w : World) (S : Nat → Prop) : (t : Ty) → t.den → List Value → Prop
  | .int k, n, cs => cs = [.int k n]
  | .bool, b, cs => cs = [.bool b]
  | .str, s, cs => cs = [.string s]
  | .slice t, xs, cs => ∃ a cap, cs = [.slice a xs.length cap] ∧ xs.length ≤ cap ∧ Rows w S t.sz (VR w S t) a xs
  | .pair a b, x, cs => ∃ c1 c2, cs = c1 ++ c2 ∧ VR w S a x.1 c1 ∧ VR w S b x.2 c2
  | .set, x, cs => ∃ v L, cs = [v] ∧ (∀ b ∈ L, S b) ∧ SetR w v L x
  | .err, b, cs => ∃ v, cs = [v] ∧ ErrV v b

theorem VR.mono {w w' : World} {S S' : Nat → Prop} (hw : Same S w w') (hs : ∀ b, S b → S' b) : ∀ {t : Ty} {x : t.den} {cs : List Value}, VR w S t x cs → VR w' S' t x cs
  | .int _, _, _, h => h
  | .bool, _, _, h => h
  | .str, _, _, h => h
  | .slice t, xs, cs, h => by
    obtain ⟨a, cap, e, hc, h⟩ := h
    refine ⟨a, cap, e, hc, ?_⟩
    rcases h with h | ⟨b, o, e2, hb, h⟩
    · exact .inl h
    · refine .inr ⟨b, o, e2, hs b hb, fun i x hx => ?_⟩
      obtain ⟨c, hl, ha, hv⟩ := h i x hx
      exact ⟨c, hl, ha.same (hw b hb), VR.mono hw hs hv⟩
  | .pair a b, x, cs, h => by
    obtain ⟨c1, c2, e, h1, h2⟩ := h
    exact ⟨c1, c2, e, VR.mono hw hs h1, VR.mono hw hs h2⟩
  | .set, l, cs, h => by
    obtain ⟨v, L, e, h1, h2⟩ := h
    exact ⟨v, L, e, fun b hb => hs b (h1 b hb), h2.same fun b hb => hw b (h1 b hb)⟩
  | .err, b, cs, h => h

theorem VR.sz {w : World} {S : Nat → Prop} : ∀ {t : Ty} {x : t.den} {cs : List Value}, VR w S t x cs → cs.length = t.sz
  | .int _, _, _, h => by cases h; rfl
  | .bool, _, _, h => by cases h; rfl
  | .str, _, _, h => by cases h; rfl
  | .slice t, xs, cs, h => by obtain ⟨a, cap, rfl, _⟩ := h; rfl
  | .pair a b, x, cs, h => by
    obtain ⟨c1, c2, rfl, h1, h2⟩ := h
    rw [List.length_append, VR.sz h1, VR.sz h2]; rfl
  | .set, l, cs, h => by obtain ⟨v, L, rfl, _⟩ := h; rfl
  | .err, b, cs, h => by obtain ⟨v, rfl, _⟩ := h; rfl

/-- What leads to no memory reads alike everywhere. -/
theorem VR.flat {w w' : World} {S S' : Nat → Prop} : ∀ {t : Ty} {x : t.den} {cs : List Value}, t.flat = true → VR w S t x cs → VR w' S' t x cs
  | .int _, _, _, _, h => h
  | .bool, _, _, _, h => h
  | .str, _, _, _, h => h
  | .slice t, _, _, f, _ => by cases f
  | .set, _, _, f, _ => by cases f
  | .err, _, _, _, h => h
  | .pair a b, x, cs, f, h => by
    obtain ⟨c1, c2, e, h1, h2⟩ := h
    have f' : a.flat = true ∧ b.flat = true := by simpa [Ty.flat] using f
    exact ⟨c1, c2, e, VR.flat f'.1 h1, VR.flat f'.2 h2⟩

/-! ### rows of one's own -/
def OL {α : Type} (n : Nat) (p : α → List Value → List Nat → Prop) : List α → List Value → List Nat → Prop
  | [], _, L => L = []
  | x :: xs, cs, L => ∃ L1 L2, L = L1 ++ L2 ∧ n ≤ cs.length ∧ p x (cs.take n) L1 ∧ OL n p xs (cs.drop n) L2

/-- The value is nil, or heads a row that lies in a block of its own. -/
def ORow {α : Type} (w : World) (n : Nat) (p : α → List Value → List Nat → Prop) (v : Value) (xs : List α) (L : List Nat) : Prop :=
  (v = .slice none 0 0 ∧ xs = [] ∧ L = []) ∨
  ∃ b f cap cs E Li, v = .slice (some ⟨b, f, none⟩) xs.length cap ∧ w.heap[b]? = some (.cells cs E (0, 0)) ∧ f + cap * n ≤ cs.size ∧ xs.length ≤ cap ∧ L = b :: Li ∧ OL n p xs (cs.toList.drop f) Li

def OT (w : World) : (t : Ty) → t.den → List Value → List Nat → Prop
  | .int k, n, cs, L => cs = [.int k n] ∧ L = []
  | .bool, b, cs, L => cs = [.bool b] ∧ L = []
  | .str, s, cs, L => cs = [.string s] ∧ L = []
  | .slice t, xs, cs, L => ∃ v, cs = [v] ∧ ORow w t.sz (OT w t) v xs L
  | .pair a b, x, cs, L => ∃ c1 c2 L1 L2, cs = c1 ++ c2 ∧ L = L1 ++ L2 ∧ OT w a x.1 c1 L1 ∧ OT w b x.2 c2 L2
  | .set, x, cs, L => ∃ v, cs = [v] ∧ SetR w v L x
  | .err, b, cs, L => (∃ v, cs = [v] ∧ ErrV v b) ∧ L = []

theorem OL.imp {α : Type} {n : Nat} {p q : α → List Value → List Nat → Prop} : ∀ {xs : List α} {cs : List Value} {L : List Nat}, OL n p xs cs L →
    (∀ x ∈ xs, ∀ c l, (∀ b ∈ l, b ∈ L) → p x c l → q x c l) → OL n q xs cs L
  | [], _, _, h, _ => h
  | x :: xs, cs, L, h, hq => by
    obtain ⟨L1, L2, rfl, hn, hp, h⟩ := h
    refine ⟨L1, L2, rfl, hn, hq x (by simp) _ _ (fun b hb => by simp [hb]) hp, OL.imp h (fun y hy c l hl hp => hq y (by simp [hy]) c l (fun b hb => by simp [hl b hb]) hp)⟩

theorem OT.same {w w' : World} : ∀ {t : Ty} {x : t.den} {cs : List Value} {L : List Nat}, OT w t x cs L → (∀ b ∈ L, w'.heap[b]? = w.heap[b]?) → OT w' t x cs L
  | .int _, _, _, _, h, _ => h
  | .bool, _, _, _, h, _ => h
  | .str, _, _, _, h, _ => h
  | .slice t, xs, cs, L, h, hw => by
    obtain ⟨v, e, h⟩ := h
    refine ⟨v, e, ?_⟩
    rcases h with h | ⟨b, f, cap, c, E, Li, hv, hb, h1, h2, rfl, hl⟩
    · exact .inl h
    · exact .inr ⟨b, f, cap, c, E, Li, hv, by rw [hw b (by simp)]; exact hb, h1, h2, rfl, hl.imp (fun x _ c l hl hp => OT.same hp (fun b hb => hw b (by simp [hl b hb])))⟩
  | .pair a b, x, cs, L, h, hw => by
    obtain ⟨c1, c2, L1, L2, e, rfl, h1, h2⟩ := h
    exact ⟨c1, c2, L1, L2, e, rfl, OT.same h1 (fun b hb => hw b (by simp [hb])), OT.same h2 (fun b hb => hw b (by simp [hb]))⟩
  | .set, l, cs, L, h, hw => by
    obtain ⟨v, e, h2⟩ := h
    exact ⟨v, e, h2.same hw⟩
  | .err, b, cs, L, h, _ => h

/-- The element i of a row that is owned, and its cells. -/
theorem OL.get {α : Type} {n : Nat} {p : α → List Value → List Nat → Prop} : ∀ {xs : List α} {cs : List Value} {L : List Nat}, OL n p xs cs L → ∀ i x, xs[i]? = some x →
    ∃ l, p x ((cs.drop (i * n)).take n) l ∧ (∀ b ∈ l, b ∈ L) ∧ (i + 1) * n ≤ cs.length
  | [], _, _, _, i, x, hx => by simp at hx
  | y :: xs, cs, L, h, i, x, hx => by
    obtain ⟨L1, L2, rfl, hn, hp, h⟩ := h
    cases i with
    | zero =>
      simp at hx
      subst hx
      exact ⟨L1, by simpa using hp, fun b hb => by simp [hb], by omega⟩
    | succ i =>
      obtain ⟨l, h1, h2, h3⟩ := OL.get h i x (by simpa using hx)
      refine ⟨l, ?_, fun b hb => by simp [h2 b hb], ?_⟩
      · rw [List.drop_drop] at h1
        rw [Nat.add_mul, Nat.one_mul, Nat.add_comm (i * n) n]
        exact h1
      · simp at h3
        rw [Nat.add_mul, Nat.one_mul]
        omega

theorem drop_at {w : World} {b : Nat} {cs : Array Value} {E : TypeId} {f : Nat × Nat} (hb : w.heap[b]? = some (.cells cs E f)) (o n : Nat) : At w b o ((cs.toList.drop o).take n) := by
  intro j v hj
  simp only [World.cell?, hb, Option.isSome_none, Bool.false_eq_true, if_false]
  rw [List.getElem?_take] at hj
  split at hj
  · rw [List.getElem?_drop] at hj
    simpa using hj
  · cases hj

theorem OT.read {w : World} {S : Nat → Prop} : ∀ {t : Ty} {x : t.den} {cs : List Value} {L : List Nat}, OT w t x cs L → (∀ b ∈ L, S b) → VR w S t x cs
  | .int _, _, _, _, h, _ => h.1
  | .bool, _, _, _, h, _ => h.1
  | .str, _, _, _, h, _ => h.1
  | .slice t, xs, cs, L, h, hs => by
    obtain ⟨v, e, h⟩ := h
    rcases h with ⟨rfl, rfl, rfl⟩ | ⟨b, f, cap, c, E, Li, rfl, hb, h1, h2, rfl, hl⟩
    · exact ⟨none, 0, e, Nat.le_refl _, .inl rfl⟩
    · refine ⟨_, cap, e, h2, .inr ⟨b, f, rfl, hs b (by simp), fun i x hx => ?_⟩⟩
      obtain ⟨l, hp, hl2, hle⟩ := hl.get i x hx
      rw [List.drop_drop] at hp
      have hv := OT.read (S := S) hp (fun b hb => hs b (by simp [hl2 b hb]))
      exact ⟨_, hv.sz, drop_at hb (f + i * t.sz) t.sz, hv⟩
  | .pair a b, x, cs, L, h, hs => by
    obtain ⟨c1, c2, L1, L2, e, rfl, h1, h2⟩ := h
    exact ⟨c1, c2, e, OT.read h1 (fun b hb => hs b (by simp [hb])), OT.read h2 (fun b hb => hs b (by simp [hb]))⟩
  | .set, l, cs, L, h, hs => by
    obtain ⟨v, e, h2⟩ := h
    exact ⟨v, L, e, hs, h2⟩
  | .err, b, cs, L, h, _ => h.1

theorem OT.sz {w : World} {t : Ty} {x : t.den} {cs : List Value} {L : List Nat} (h : OT w t x cs L) : cs.length = t.sz := (h.read (S := fun _ => True) (fun _ _ => trivial)).sz

/-- What leads to no memory is owned as it is read. -/
theorem VR.own {w w' : World} {S : Nat → Prop} : ∀ {t : Ty} {x : t.den} {cs : List Value}, t.flat = true → VR w S t x cs → OT w' t x cs []
  | .int _, _, _, _, h => ⟨h, rfl⟩
  | .bool, _, _, _, h => ⟨h, rfl⟩
  | .str, _, _, _, h => ⟨h, rfl⟩
  | .slice t, _, _, f, _ => by cases f
  | .set, _, _, f, _ => by cases f
  | .err, _, _, _, h => ⟨h, rfl⟩
  | .pair a b, x, cs, f, h => by
    obtain ⟨c1, c2, e, h1, h2⟩ := h
    have f' : a.flat = true ∧ b.flat = true := by simpa [Ty.flat] using f
    exact ⟨c1, c2, [], [], e, rfl, VR.own f'.1 h1, VR.own f'.2 h2⟩

theorem OL.len {α : Type} {n : Nat} {p : α → List Value → List Nat → Prop} : ∀ {xs : List α} {cs : List Value} {L : List Nat}, OL n p xs cs L → xs.length * n ≤ cs.length
  | [], _, _, _ => by simp
  | x :: xs, cs, L, h => by
    obtain ⟨L1, L2, rfl, hn, hp, h⟩ := h
    have := OL.len h
    simp at this ⊢
    rw [Nat.add_mul, Nat.one_mul]
    omega

/-- The cells behind the elements don't matter. -/
theorem OL.pre {α : Type} {n : Nat} {p : α → List Value → List Nat → Prop} : ∀ {xs : List α} {cs ds : List Value} {L : List Nat}, OL n p xs cs L → cs.take (xs.length * n) = ds.take (xs.length * n) → xs.length * n ≤ ds.length → OL n p xs ds L
  | [], _, _, _, h, _, _ => h
  | x :: xs, cs, ds, L, h, e, hd => by
    have hlen := h.len
    obtain ⟨L1, L2, rfl, hn, hp, h⟩ := h
    rw [List.length_cons, Nat.add_mul, Nat.one_mul] at e hd hlen
    refine ⟨L1, L2, rfl, by omega, ?_, OL.pre h ?_ ?_⟩
    · have e' := congrArg (List.take n) e
      rw [List.take_take, List.take_take, Nat.min_eq_left (by omega)] at e'
      rwa [← e']
    · have e' := congrArg (List.drop n) e
      rw [List.drop_take, List.drop_take] at e'
      have : xs.length * n + n - n = xs.length * n := by omega
      rwa [this] at e'
    · simp; omega

theorem OL.append {α : Type} {n : Nat} {p : α → List Value → List Nat → Prop} : ∀ {xs ys : List α} {cs ds : List Value} {L M : List Nat}, OL n p xs cs L → cs.length = xs.length * n → OL n p ys ds M → OL n p (xs ++ ys) (cs ++ ds) (L ++ M)
  | [], ys, cs, ds, L, M, h, hl, k => by
    have : cs = [] := by simpa using hl
    subst this
    have : L = [] := h
    subst this
    simpa using k
  | x :: xs, ys, cs, ds, L, M, h, hl, k => by
    obtain ⟨L1, L2, rfl, hn, hp, h⟩ := h
    rw [List.length_cons, Nat.add_mul, Nat.one_mul] at hl
    refine ⟨L1, L2 ++ M, by simp, by simp; omega, by rw [List.take_append_of_le_length hn]; exact hp, ?_⟩
    rw [List.drop_append_of_le_length hn]
    exact OL.append h (by simp; omega) k

end Go.Vt
