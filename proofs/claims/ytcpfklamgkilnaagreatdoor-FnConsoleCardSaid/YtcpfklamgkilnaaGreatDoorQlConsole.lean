/-
  The law FnConsole comes to true.
  Conditions: none.
-/
import Derived.Test.YtcpfklamgkilnaaGreatDoorQcz
import Derived.Test.YtcpfklamgkilnaaGreatDoorPK
namespace Qq
open Go Go.Vt Pt
set_option linter.unusedVariables false
set_option linter.unusedSimpArgs false
def lnB (x : ByteArray) : Bool := decide (x.size ≤ 40) && x.data.toList.all (fun b => !(b == 10))
theorem MG {x : ByteArray} (h : lnB x = true) : x.size ≤ 40 ∧ ∀ b ∈ x.data.toList, b ≠ 10 := by
 unfold lnB at h
 simp only [Bool.and_eq_true, decide_eq_true_eq, List.all_eq_true] at h
 exact ⟨h.1, fun b hb e => by have := h.2 b hb; simp [e] at this⟩
theorem FH (c : Cur) (h : YX c) (l : List ByteArray) (hl : 0 < l.length) : Dr (fun k => eU k (c, l)) (fun y => y ∈ l) :=
 Dr.step (fun k => Ms k c l) (Dr.bind (Pb c h l.length) fun y c1 h1 hy => Dr.yes (decide_eq_true hy.1) (Dr.yes (decide_eq_true (hy.2 (by omega))) (Dr.ret h1 (by
  have := hy.2 (by omega)
  have h0 := hy.1
  dsimp only
  rw [List.getD, List.getElem?_eq_getElem (by omega)]; exact List.getElem_mem _))))
theorem Eg (c : Cur) (h : YX c) : Dr (fun k => UZ k c) (fun y => lnB y = true) := by
 refine Dr.step (fun k => PH k c) (Dr.bind (Pb c h 4) fun y c1 h1 hy => Dr.ite (fun _ => ?_) (fun _ => Dr.ite (fun _ => ?_) (fun _ => Dr.ite (fun _ => ?_) (fun _ => ?_))))
 all_goals refine Dr.bind (R := fun y => lnB y = true) (Dr.mono (FH c1 h1 _ (by decide)) (by decide +kernel)) fun z c2 h2 hz => Dr.ret h2 hz
theorem Rv : ∀ (n : Nat) (acc : List ByteArray) (c : Cur), YX c → acc.length + n ≤ 40 → Dr (fun k => uY k (n : Int) acc c.1 c.2.1 c.2.2) (fun l => ∃ t, l = acc ++ t ∧ t.length = n ∧ ∀ x ∈ t, lnB x = true)
 | 0, acc, c, h, hn => Dr.step (fun k => bX k _ _ _ _ _) (Dr.no (decide_eq_false (by omega)) (Dr.ret h ⟨[], by simp, rfl, fun x hx => by cases hx⟩))
 | n + 1, acc, c, h, hn => by
   refine Dr.step (fun k => bX k _ _ _ _ _) (Dr.yes (decide_eq_true (by omega)) (Dr.bind (Eg c h) fun y c1 h1 hy => Dr.yes (decide_eq_true (by rw [zc]; simp; omega)) ?_))
   have e : IntKind.i64.wrap (((n + 1 : Nat) : Int) - 1) = (n : Int) := by rw [zj (by omega) (by omega)]; omega
   rw [e]
   refine Dr.mono (Rv n (acc ++ [y]) c1 h1 (by simp; omega)) (fun l hl => ?_)
   obtain ⟨t, e1, e2, e3⟩ := hl
   refine ⟨y :: t, by rw [e1]; simp, by simp [e2], fun x hx => ?_⟩
   rcases List.mem_cons.1 hx with rfl | hx
   ·exact hy
   ·exact e3 x hx
theorem GM : ∀ x ∈ packs4, lnB x = true := by decide +kernel
theorem Mf (code : List Int) (hm : code.length ≤ 9223372036854775807) : ∃ x t, Ev (fun k => Yu k code) (x :: t) ∧ x ∈ packs4 ∧ t.length ≤ 8 ∧ ∀ y ∈ (x :: t), lnB y = true := by
 obtain ⟨c, e, hc⟩ := Na code hm
 have hd : Dr (fun k => UY k (c, 8)) (fun l => ∃ x t, l = x :: t ∧ x ∈ packs4 ∧ t.length ≤ 8 ∧ ∀ y ∈ (x :: t), lnB y = true) := by
  refine Dr.step (fun k => PG k c 8) (Dr.bind (FH c hc packs4 (by decide)) fun x c1 h1 hx => Dr.bind (Pb c1 h1 8) fun y c2 h2 hy => ?_)
  obtain ⟨y0, y8⟩ := hy
  have y8' := y8 (by decide)
  have ew : IntKind.i64.wrap (1 + y) = ((y.toNat + 1 : Nat) : Int) := by rw [zj (by omega) (by omega)]; omega
  show Dr (fun k => uY k (IntKind.i64.wrap (1 + y)) [x] c2.1 c2.2.1 c2.2.2) _
  rw [ew]
  refine Dr.mono (Rv (y.toNat + 1) [x] c2 h2 (by simp; omega)) (fun l hl => ?_)
  obtain ⟨t, e1, e2, e3⟩ := hl
  refine ⟨x, t, e1, hx, by omega, fun z hz => ?_⟩
  rcases List.mem_cons.1 hz with rfl | hz
  ·exact GM _ hx
  ·exact e3 z hz
 obtain ⟨l, c2, e2, hc2, x, t, rfl, r⟩ := hd
 exact ⟨x, t, Ev.step (fun k => SP k code) (Ev.bind e (Ev.bind e2 (Ev.pure _))), r⟩
theorem W2 (ls : List ByteArray) (h40 : ls.length ≤ 40) (hz : ∀ a ∈ ls, lnB a = true) (W : ByteArray)
 (hE : Ev (fun k => (jE k (ls, (⟨#[10]⟩ : ByteArray))).bind fun y2 => (vu k y2).bind fun y3 => bif (!(W.toList == (⟨#[]⟩ : ByteArray).toList)) then bif (y3.1.toList == W.toList) then bif decide (y3.2 ≥ (IntKind.i64.wrap ((ls.length : Int) - 1))) then some (decide (y3.2 ≤ (ls.length : Int))) else some false else some false else some false) true) :
 ∀ (r : List ByteArray) (i : Nat) (c : Cn) (acc : ByteArray), ls.drop i = r → CnOk c → acc.size ≤ 30001 * i → (eX reF r c acc).2 = W →
 Ev (fun k => wU k ls acc ls (ls.length : Int) (i : Int) c.1.1 c.1.2.1 c.1.2.2.1 c.1.2.2.2.1 c.1.2.2.2.2 c.2.1 c.2.2) true
 | [], i, c, acc, h, hc, ha, hW => by
   have a := zZ h
   have e : acc = W := hW
   subst e
   exact Ev.step (fun k => fN k _ _ _ _ _ _ _ _ _ _ _ _) (Ev.no a.g hE)
 | x :: r, i, c, acc, h, hc, ha, hW => by
   have a := zy h (yK (by omega))
   have lt := a.lt
   refine Ev.step (fun k => fN k _ _ _ _ _ _ _ _ _ _ _ _) ?_
   simp only [a.g, a.z, a.get, a.w, cond_true, zU]
   have hs := RD hc x
   have hk := LH hc x
   have hx := (MG (hz x a.mem)).1
   refine Ev.bind (Ql hc x (by omega)) ?_
   have hW' : (eX reF r (x7 reF c x).1 (if (x7 reF c x).2 = ⟨#[]⟩ then acc else acc ++ ((x7 reF c x).2 ++ nl))).2 = W := hW
   have e2 : (fl (x7 reF c x)).2.2.2.2.2.2.2 = (x7 reF c x).2 := rfl
   have en : (⟨#[10]⟩ : ByteArray).size = 1 := rfl
   rw [e2]
   by_cases e : (x7 reF c x).2 = ⟨#[]⟩
   ·rw [if_pos e] at hW'
    refine Ev.no (by simp [e]) ?_
    exact W2 ls h40 hz W hE r (i + 1) (x7 reF c x).1 acc a.next hk (by omega) hW'
   ·rw [if_neg e, ← ByteArray.append_assoc] at hW'
    refine Ev.yes (by simp [e]) (Ev.yes (decide_eq_true (by omega)) (Ev.yes (decide_eq_true (by rw [ByteArray.size_append]; omega)) ?_))
    exact W2 ls h40 hz W hE r (i + 1) (x7 reF c x).1 (acc ++ (x7 reF c x).2 ++ nl) a.next hk (by
     have : nl.size = 1 := rfl
     rw [ByteArray.size_append, ByteArray.size_append]; omega) hW'
theorem Mg (code : List Int) (f0 : Fits (.slice (.int .u8)) code) : Ev (fun k => UH k code) true := by
 have hm : code.length ≤ 9223372036854775807 := by have := f0.1; rw [zg] at this; exact this
 refine Ev.step (fun k => SN k code) (Ev.ite (fun h => Ev.pure _) (fun h => ?_))
 obtain ⟨x, t, e, hx, ht, hl⟩ := Mf code hm
 refine Ev.bind e (Ev.bind aA ?_)
 have h40 : (x :: t).length ≤ 40 := by rw [List.length_cons]; omega
 have hn : ∀ a ∈ (x :: t), ∀ b ∈ a.data.toList, b ≠ 10 := fun a ha => (MG (hl a ha)).2
 have hsz : ∀ a ∈ (x :: t), a.size ≤ 40 := fun a ha => (MG (hl a ha)).1
 obtain ⟨j1, j2, j3⟩ := PF reF (l := x :: t) (by simp) hn h40
 have hne := GI reF (l := t) (GL hx)
 have hjs : (xw (x :: t) nl).size ≤ 100000 := by
  have := cu (B := 40) (S := 1) nl (by decide) (x :: t) hsz
  rw [xw, zK]
  omega
 refine W2 (x :: t) h40 hl _ ?_ (x :: t) 0 con1 ⟨#[]⟩ rfl H4 (Nat.zero_le _) rfl
 refine Ev.bind (cR (x :: t) nl (by omega) (by omega)) (Ev.bind (Wf _ (by omega)) ?_)
 rw [zU, zU, decide_eq_false hne, decide_eq_true j1]
 refine Ev.yes rfl (Ev.yes rfl (Ev.yes (decide_eq_true ?_) (Ev.some (decide_eq_true j3))))
 rw [zj (by omega) (by omega)]
 exact j2
end Qq
