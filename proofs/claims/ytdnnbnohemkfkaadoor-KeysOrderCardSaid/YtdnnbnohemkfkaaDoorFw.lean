/- A scope whose one label is jumped to from above alone. -/
import Derived.Test.YtdnnbnohemkfkaaDoorWd
import Derived.ScopeJumps
namespace Go.Proofs.YtdnnbnohemkfkaaDoor
open Go.RowKit
set_option linter.unusedVariables false

def fwdExit (P : Program) (l : Nat) (rest : Code) (Q : Exit → Act → World → Prop) : Exit → Act → World → Prop
  | .goto l', a, w => l' = l ∧ rest.wp P (Exit.noGoto Q) a w
  | e, a, w => Q e a w
section
variable {P : Program} {a : Act} {w : World} {Q : Exit → Act → World → Prop} {l : Nat} {rest : Code}
theorem fwd_ret : fwdExit P l rest Q .ret a w = Q .ret a w := rfl
theorem fwd_normal : fwdExit P l rest Q .normal a w = Q .normal a w := rfl
theorem wp_scope_fwd {c : Code} (l : Nat) (hf : findLabel c l = some rest) (h : c.wp P (fwdExit P l rest Q) a w) : (Code.scope c).wp P Q a w :=
  wp_scope_jumps l (fun a w => rest.wp P (Exit.noGoto Q) a w) (fun _ _ => 0) hf (wp_mono h (by intro e a w; cases e <;> exact id)) (fun a w hJ => wp_mono hJ (by intro e a w h; cases e <;> first | exact h | exact h.elim))
end
end Go.Proofs.YtdnnbnohemkfkaaDoor
