/- ScriptNames: the run, by the kernel. -/
import Derived.Test.YtgmkbdmgifdfeaaGreatDoorNamesRun
namespace Go.Proofs.YtgmkbdmgifdfeaaGreatDoor
open Go Go.Ev
set_option maxRecDepth 1000000
theorem names_true (t : Nat) : runsTrue 10000 5 t = true := by kernel_rfl
end Go.Proofs.YtgmkbdmgifdfeaaGreatDoor
