/- HallRuns, as the row asks it. -/
import Derived.Test.YtpbfabcihoiiiaaHs4
namespace Go.Proofs.Ytpbfabcihoiiiaa
open Go.RowKit
set_option linter.unusedVariables false

theorem runs_row (l : List (Int × Int)) (v : Value) (c m : Int) (w : World) (hv : RdU w v l) (hl : l.length ≤ maxLen) (hc : 0 ≤ c ∧ c < 256) (hm : 0 ≤ m ∧ m < 18446744073709551616) :
    Calls Try.prog 4 #[v, .int .u8 c, .int .u64 m] w fun e w' => e = .returned (.bool true) ∧ Below w.heap.size w w' := by
  obtain ⟨n, rfl⟩ : ∃ n : Nat, m = (n : Int) := ⟨m.toNat, by omega⟩
  exact runs_holds l v c n w hv hl hc (by omega)
end Go.Proofs.Ytpbfabcihoiiiaa
