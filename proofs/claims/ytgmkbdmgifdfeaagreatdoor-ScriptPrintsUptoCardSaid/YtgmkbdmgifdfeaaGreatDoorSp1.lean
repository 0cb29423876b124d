/- The closed calls, run by the kernel. -/
import Derived.Test.YtgmkbdmgifdfeaaGreatDoorSp0
import Derived.KernelRfl
import Derived.Test.YtgmkbdmgifdfeaaGreatDoorChecked
set_option linter.unusedSimpArgs false
set_option linter.unusedVariables false
set_option maxRecDepth 1000000
namespace Go.Proofs.YtgmkbdmgifdfeaaGreatDoor
open Go Go.Ev
noncomputable def tb0 : Tabs := mkTabs Tryz.prog 8 .lf
theorem good : Tryz.prog.funcs.toList.all (goodFn 8) = true := by kernel_rfl
noncomputable def formsRun : Option (Value × Mem) := runF tb0 600 30 [] ⟨.lf, 8⟩
noncomputable def rrowsRun : Option (Value × Mem) := runF tb0 60 67 [] ⟨.lf, 8⟩
theorem forms_ran : ranTo 8 formsRun formsV formsRows := ranTo_of (by kernel_rfl) (by kernel_rfl) (by kernel_rfl) (by kernel_rfl)
theorem rrows_ran : ranTo 8 rrowsRun rrowsV rrowsRows := ranTo_of (by kernel_rfl) (by kernel_rfl) (by kernel_rfl) (by kernel_rfl)
end Go.Proofs.YtgmkbdmgifdfeaaGreatDoor
