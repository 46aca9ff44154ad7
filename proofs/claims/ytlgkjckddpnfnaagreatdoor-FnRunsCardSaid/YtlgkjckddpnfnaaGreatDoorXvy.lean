/-
  The way into a function's text.
  Conditions: none.
-/
import Derived.Test.YtlgkjckddpnfnaaGreatDoorXvv
namespace Go.Vt
set_option linter.unusedVariables false
def sub : Code → List Nat → Code
  | c, [] => c
  | .seq a b, 0 :: r => sub a r
  | .seq a b, _ :: r => sub b r
  | .block _ c, _ :: r => sub c r
  | .loop c, _ :: r => sub c r
  | .cond _ a b, 0 :: r => sub a r
  | .cond _ a b, _ :: r => sub b r
  | c, _ => c
end Go.Vt
