/-
  The law FnExactRunSession comes to true.
  Conditions: none.
-/
import Derived.Test.YtdcnefakiajgdaaGreatDoorQdc
set_option linter.unusedVariables false
namespace Qq
open Go Go.Vt Pt
theorem UO (s:ByteArray)(f0:Fits .str s):Ev (fun k=>cH k s) true:=by
 refine ES (fun k=>X3 k s) (EI (fun h=>EP _) (fun h=> ?_))
 have hs:s.size<=1048576:=by simp at h;omega
 exact EB (Hz s hs) (EB (EQ s hs) (EN (by simp) (EN (by simp) (EP _))))
end Qq
