/- The program's types, as its own table has them. -/
import Derived.Test.YtckhbfbbpdjmdaaChecked
import Derived.Test.YtckhbfbbpdjmdaaCall
import Derived.KernelRfl
namespace Go.Proofs.Ytckhbfbbpdjmdaa
open Go Go.RowKit
theorem mixed : Try.prog.follows .mixedOrders = true := by kernel_rfl
noncomputable def tab : Nat → Option AT := atOf Try.prog
theorem tabOk : TOk Try.prog tab := fun _ _ h => h
def eqsT (t : Nat) : Bool := false
theorem eqsOk : EOk Try.prog tab eqsT := fun _ _ h => by cases h
end Go.Proofs.Ytckhbfbbpdjmdaa
