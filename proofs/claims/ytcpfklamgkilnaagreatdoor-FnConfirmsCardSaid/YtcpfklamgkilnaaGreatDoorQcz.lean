/-
  A session comes to what Qco tells.
  Conditions: texts are such as a machine bears.
-/
import Derived.Test.YtcpfklamgkilnaaGreatDoorQcy
namespace Qq
open Go Go.Vt Pt
set_option linter.unusedVariables false
set_option linter.unusedSimpArgs false
theorem Sp : ∀ (l cur : List UInt8), ∀ a ∈ cutN cur l, a.length ≤ cur.length + l.length
 | [], cur, a, h => by
   have : a = cur := by simpa [cutN] using h
   rw [this]; omega
 | c :: r, cur, a, h => by
   unfold cutN at h
   split at h
   ·rcases List.mem_cons.1 h with e | h
    ·rw [e]; omega
    ·have := Sp r [] a h
     simp at this ⊢; omega
   ·have := Sp r (cur ++ [c]) a h
    simp at this ⊢; omega
theorem Q9 : ∀ (l cur : List UInt8), (cutN cur l).length ≤ l.length + 1
 | [], cur => by simp [cutN]
 | c :: r, cur => by
   unfold cutN
   split
   ·have := Q9 r []
    simp; omega
   ·have := Q9 r (cur ++ [c])
    simp; omega
theorem Qb (s : ByteArray) : ∀ a ∈ cW s, a.size ≤ s.size := by
 intro a h
 unfold cW at h
 obtain ⟨x, hx, rfl⟩ := List.mem_map.1 h
 have := Sp _ _ x hx
 rw [zK]
 have e : s.data.toList.length = s.size := by simp
 simp at this; omega
theorem HZ (s : ByteArray) : (cW s).length ≤ s.size + 1 := by
 unfold cW
 rw [List.length_map]
 have := Q9 s.data.toList []
 have e : s.data.toList.length = s.size := by simp
 omega
theorem Fl (s : ByteArray) : cW s ≠ [] := by
 unfold cW
 intro e
 exact EC _ _ (List.map_eq_nil_iff.1 e)
theorem Mm (s : ByteArray) : ∀ a ∈ j8 s, a.size ≤ s.size := by
 unfold j8
 split
 ·exact fun a h => Qb s a (List.dropLast_subset _ h)
 ·exact Qb s
theorem We (s : ByteArray) (hm : s.size ≤ 1048576) : Ev (fun k => jd k s) (j8 s) := by
 have hl := HZ s
 have hn : 0 < (cW s).length := List.length_pos_iff.2 (Fl s)
 refine Ev.step (fun k => TR k s) (Ev.bind (V6 s hm) ?_)
 unfold j8
 have e1 : IntKind.i64.wrap (((cW s).length : Int) - 1) = (((cW s).length - 1 : Nat) : Int) := by rw [zj (by omega) (by omega)]; omega
 have e2 : (cW s).getD ((cW s).length - 1) ⟨#[]⟩ = (cW s).getLastD ⟨#[]⟩ := by
  rw [List.getLastD_eq_getLast?, List.getLast?_eq_getElem?]; rfl
 simp only [zU, e1, Int.toNat_natCast, e2]
 refine Ev.yes (decide_eq_true (by omega)) (Ev.yes (decide_eq_true (by omega)) (Ev.yes (decide_eq_true (by omega)) ?_))
 by_cases h : (cW s).getLastD ⟨#[]⟩ = ⟨#[]⟩
 ·rw [if_pos h]
  refine Ev.yes (decide_eq_true h) (Ev.yes (decide_eq_true (by omega)) (Ev.yes (decide_eq_true (by omega)) (Ev.some ?_)))
  rw [List.drop_zero, List.dropLast_eq_take]
 ·rw [if_neg h]
  exact Ev.no (decide_eq_false h) (Ev.pure _)
theorem Wq (ls : List ByteArray) (h40 : ls.length ≤ 40) (hz : ∀ a ∈ ls, a.size ≤ 1048576) : ∀ (r : List ByteArray) (i : Nat) (c : Cn) (acc : ByteArray), ls.drop i = r → CnOk c → acc.size ≤ 30001 * i →
 Ev (fun k => wz k ls acc ls (ls.length : Int) (i : Int) c.1.1 c.1.2.1 c.1.2.2.1 c.1.2.2.2.1 c.1.2.2.2.2 c.2.1 c.2.2) ((eX reF r c acc).2, (ls.length : Int))
 | [], i, c, acc, h, hc, ha => by
   have a := zZ h
   exact Ev.step (fun k => fa k _ _ _ _ _ _ _ _ _ _ _ _) (Ev.no a.g (Ev.pure _))
 | x :: r, i, c, acc, h, hc, ha => by
   have a := zy h (yK (by omega))
   have lt := a.lt
   refine Ev.step (fun k => fa k _ _ _ _ _ _ _ _ _ _ _ _) ?_
   simp only [a.g, a.z, a.get, a.w, cond_true, zU]
   have hs := RD hc x
   have hk := LH hc x
   refine Ev.bind (Ql hc x (hz x a.mem)) ?_
   show Ev _ ((eX reF r (x7 reF c x).1 (if (x7 reF c x).2 = ⟨#[]⟩ then acc else acc ++ ((x7 reF c x).2 ++ nl))).2, (ls.length : Int))
   have e2 : (fl (x7 reF c x)).2.2.2.2.2.2.2 = (x7 reF c x).2 := rfl
   have en : (⟨#[10]⟩ : ByteArray).size = 1 := rfl
   rw [e2]
   by_cases e : (x7 reF c x).2 = ⟨#[]⟩
   ·rw [if_pos e]
    refine Ev.no (by simp [e]) ?_
    exact Wq ls h40 hz r (i + 1) (x7 reF c x).1 acc a.next hk (by omega)
   ·rw [if_neg e]
    refine Ev.yes (by simp [e]) (Ev.yes (decide_eq_true (by omega)) (Ev.yes (decide_eq_true (by rw [ByteArray.size_append]; omega)) ?_))
    exact Wq ls h40 hz r (i + 1) (x7 reF c x).1 (acc ++ ((x7 reF c x).2 ++ nl)) a.next hk (by
     have : nl.size = 1 := rfl
     rw [ByteArray.size_append, ByteArray.size_append]; omega)
theorem Wf (s : ByteArray) (hm : s.size ≤ 1048576) : Ev (fun k => vu k s) (wF reF s) := by
 refine Ev.step (fun k => TS k s) (Ev.bind (We s hm) ?_)
 unfold wF
 by_cases h : (j8 s).length > 40
 ·rw [if_pos h]; exact Ev.yes (decide_eq_true (by omega)) (Ev.pure _)
 ·rw [if_neg h]
  refine Ev.no (decide_eq_false (by omega)) (Ev.bind aA ?_)
  exact Wq (j8 s) (by omega) (fun a ha => by have := Mm s a ha; omega) (j8 s) 0 con1 ⟨#[]⟩ rfl H4 (Nat.zero_le _)
end Qq
