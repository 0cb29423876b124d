/- ScriptNames: the closed call, run by the kernel. -/
import Derived.Test.YtgmkbdmgifdfeaaGreatDoorEv9
import Derived.Test.YtgmkbdmgifdfeaaGreatDoorChecked
namespace Go.Proofs.YtgmkbdmgifdfeaaGreatDoor
open Go Go.Ev
noncomputable def tb : Tabs := mkTabs Tryz.prog 8 .lf
theorem good : Tryz.prog.funcs.toList.all (goodFn 8) = true := by kernel_rfl
noncomputable def pow10Cells : List Value := (List.range 20).map fun i => .int .u64 ((10 ^ i : Nat) : Int)
noncomputable def pow10Row (t : Nat) : Row := ⟨T.ofList pow10Cells, 20, [], t, .none, false⟩
noncomputable def mem0 (t : Nat) : Mem := { objs := T.set .lf 0 (.glob (pow10Row t)), next := 8 }
noncomputable def runsTrue (n f t : Nat) : Bool := match runF tb n f [] (mem0 t) with | some (.bool true, _) => true | _ => false
end Go.Proofs.YtgmkbdmgifdfeaaGreatDoor
