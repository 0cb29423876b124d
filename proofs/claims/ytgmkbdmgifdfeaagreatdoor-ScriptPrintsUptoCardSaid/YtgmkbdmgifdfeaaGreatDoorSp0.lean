/- The types, as the machine sees them; the rows that closed calls leave. -/
import Derived.Test.YtgmkbdmgifdfeaaGreatDoorEv13
import Derived.KernelRfl
import Derived.Lib.ItoaNum
import Derived.Test.YtgmkbdmgifdfeaaGreatDoorChecked
set_option linter.unusedSimpArgs false
set_option linter.unusedVariables false
namespace Go.Proofs.YtgmkbdmgifdfeaaGreatDoor
open Go Go.Ev
/-- forms: steps 533 -/
def formsV : Value := (.slice (some ⟨116, 0, none⟩) 23 23)
def formsRows : List CRow := [
  ⟨84, false, [(.func (.func 83) ⟨[]⟩ ⟨[(.pointer (some ⟨9, 0, none⟩))]⟩), (.func (.func 85) ⟨[]⟩ ⟨[(.pointer (some ⟨9, 0, none⟩))]⟩)]⟩,
  ⟨118, false, [(.func (.func 82) ⟨[]⟩ ⟨[]⟩)]⟩,
  ⟨84, false, [(.func (.func 83) ⟨[]⟩ ⟨[(.pointer (some ⟨9, 0, none⟩))]⟩), (.func (.func 85) ⟨[]⟩ ⟨[(.pointer (some ⟨9, 0, none⟩))]⟩)]⟩,
  ⟨118, false, [(.func (.func 51) ⟨[]⟩ ⟨[]⟩)]⟩,
  ⟨84, false, [(.func (.func 83) ⟨[]⟩ ⟨[(.pointer (some ⟨11, 0, none⟩))]⟩), (.func (.func 85) ⟨[]⟩ ⟨[(.pointer (some ⟨11, 0, none⟩))]⟩)]⟩,
  ⟨118, false, [(.func (.func 52) ⟨[]⟩ ⟨[]⟩)]⟩,
  ⟨84, false, [(.func (.func 83) ⟨[]⟩ ⟨[(.pointer (some ⟨13, 0, none⟩))]⟩), (.func (.func 85) ⟨[]⟩ ⟨[(.pointer (some ⟨13, 0, none⟩))]⟩)]⟩,
  ⟨84, false, [(.func (.func 83) ⟨[]⟩ ⟨[(.pointer (some ⟨9, 0, none⟩))]⟩), (.func (.func 85) ⟨[]⟩ ⟨[(.pointer (some ⟨9, 0, none⟩))]⟩), (.func (.func 83) ⟨[]⟩ ⟨[(.pointer (some ⟨11, 0, none⟩))]⟩), (.func (.func 85) ⟨[]⟩ ⟨[(.pointer (some ⟨11, 0, none⟩))]⟩), (.func (.func 83) ⟨[]⟩ ⟨[(.pointer (some ⟨13, 0, none⟩))]⟩), (.func (.func 85) ⟨[]⟩ ⟨[(.pointer (some ⟨13, 0, none⟩))]⟩)]⟩,
  ⟨121, false, [(.func (.func 54) ⟨[]⟩ ⟨[]⟩)]⟩,
  ⟨84, false, [(.func (.func 86) ⟨[]⟩ ⟨[(.pointer (some ⟨16, 0, none⟩))]⟩), (.func (.func 88) ⟨[]⟩ ⟨[(.pointer (some ⟨16, 0, none⟩))]⟩)]⟩,
  ⟨84, false, [(.func (.func 86) ⟨[]⟩ ⟨[(.pointer (some ⟨16, 0, none⟩))]⟩), (.func (.func 88) ⟨[]⟩ ⟨[(.pointer (some ⟨16, 0, none⟩))]⟩)]⟩,
  ⟨121, false, [(.func (.func 55) ⟨[]⟩ ⟨[]⟩)]⟩,
  ⟨84, false, [(.func (.func 86) ⟨[]⟩ ⟨[(.pointer (some ⟨19, 0, none⟩))]⟩), (.func (.func 88) ⟨[]⟩ ⟨[(.pointer (some ⟨19, 0, none⟩))]⟩)]⟩,
  ⟨84, false, [(.func (.func 86) ⟨[]⟩ ⟨[(.pointer (some ⟨19, 0, none⟩))]⟩), (.func (.func 88) ⟨[]⟩ ⟨[(.pointer (some ⟨19, 0, none⟩))]⟩)]⟩,
  ⟨121, false, [(.func (.func 56) ⟨[]⟩ ⟨[]⟩)]⟩,
  ⟨84, false, [(.func (.func 86) ⟨[]⟩ ⟨[(.pointer (some ⟨22, 0, none⟩))]⟩), (.func (.func 88) ⟨[]⟩ ⟨[(.pointer (some ⟨22, 0, none⟩))]⟩)]⟩,
  ⟨84, false, [(.func (.func 86) ⟨[]⟩ ⟨[(.pointer (some ⟨22, 0, none⟩))]⟩), (.func (.func 88) ⟨[]⟩ ⟨[(.pointer (some ⟨22, 0, none⟩))]⟩)]⟩,
  ⟨121, false, [(.func (.func 57) ⟨[]⟩ ⟨[]⟩)]⟩,
  ⟨84, false, [(.func (.func 86) ⟨[]⟩ ⟨[(.pointer (some ⟨25, 0, none⟩))]⟩), (.func (.func 88) ⟨[]⟩ ⟨[(.pointer (some ⟨25, 0, none⟩))]⟩)]⟩,
  ⟨84, false, [(.func (.func 86) ⟨[]⟩ ⟨[(.pointer (some ⟨25, 0, none⟩))]⟩), (.func (.func 88) ⟨[]⟩ ⟨[(.pointer (some ⟨25, 0, none⟩))]⟩)]⟩,
  ⟨84, false, [(.func (.func 83) ⟨[]⟩ ⟨[(.pointer (some ⟨29, 0, none⟩))]⟩), (.func (.func 85) ⟨[]⟩ ⟨[(.pointer (some ⟨29, 0, none⟩))]⟩)]⟩,
  ⟨118, false, [(.func (.func 82) ⟨[]⟩ ⟨[]⟩)]⟩,
  ⟨84, false, [(.func (.func 83) ⟨[]⟩ ⟨[(.pointer (some ⟨29, 0, none⟩))]⟩), (.func (.func 85) ⟨[]⟩ ⟨[(.pointer (some ⟨29, 0, none⟩))]⟩)]⟩,
  ⟨84, false, [(.func (.func 83) ⟨[]⟩ ⟨[(.pointer (some ⟨29, 0, none⟩))]⟩), (.func (.func 85) ⟨[]⟩ ⟨[(.pointer (some ⟨29, 0, none⟩))]⟩)]⟩,
  ⟨84, false, [(.func (.func 83) ⟨[]⟩ ⟨[(.pointer (some ⟨33, 0, none⟩))]⟩), (.func (.func 85) ⟨[]⟩ ⟨[(.pointer (some ⟨33, 0, none⟩))]⟩)]⟩,
  ⟨118, false, [(.func (.func 82) ⟨[]⟩ ⟨[]⟩)]⟩,
  ⟨84, false, [(.func (.func 83) ⟨[]⟩ ⟨[(.pointer (some ⟨33, 0, none⟩))]⟩), (.func (.func 85) ⟨[]⟩ ⟨[(.pointer (some ⟨33, 0, none⟩))]⟩)]⟩,
  ⟨84, false, [(.func (.func 83) ⟨[]⟩ ⟨[(.pointer (some ⟨33, 0, none⟩))]⟩), (.func (.func 85) ⟨[]⟩ ⟨[(.pointer (some ⟨33, 0, none⟩))]⟩)]⟩,
  ⟨84, false, [(.func (.func 83) ⟨[]⟩ ⟨[(.pointer (some ⟨37, 0, none⟩))]⟩), (.func (.func 85) ⟨[]⟩ ⟨[(.pointer (some ⟨37, 0, none⟩))]⟩)]⟩,
  ⟨118, false, [(.func (.func 82) ⟨[]⟩ ⟨[]⟩)]⟩,
  ⟨84, false, [(.func (.func 83) ⟨[]⟩ ⟨[(.pointer (some ⟨37, 0, none⟩))]⟩), (.func (.func 85) ⟨[]⟩ ⟨[(.pointer (some ⟨37, 0, none⟩))]⟩)]⟩,
  ⟨84, false, [(.func (.func 83) ⟨[]⟩ ⟨[(.pointer (some ⟨37, 0, none⟩))]⟩), (.func (.func 85) ⟨[]⟩ ⟨[(.pointer (some ⟨37, 0, none⟩))]⟩)]⟩,
  ⟨84, false, [(.func (.func 83) ⟨[]⟩ ⟨[(.pointer (some ⟨41, 0, none⟩))]⟩), (.func (.func 85) ⟨[]⟩ ⟨[(.pointer (some ⟨41, 0, none⟩))]⟩)]⟩,
  ⟨118, false, [(.func (.func 82) ⟨[]⟩ ⟨[]⟩)]⟩,
  ⟨84, false, [(.func (.func 83) ⟨[]⟩ ⟨[(.pointer (some ⟨41, 0, none⟩))]⟩), (.func (.func 85) ⟨[]⟩ ⟨[(.pointer (some ⟨41, 0, none⟩))]⟩)]⟩,
  ⟨84, false, [(.func (.func 86) ⟨[]⟩ ⟨[(.pointer (some ⟨44, 0, none⟩))]⟩), (.func (.func 88) ⟨[]⟩ ⟨[(.pointer (some ⟨44, 0, none⟩))]⟩)]⟩,
  ⟨121, false, [(.func (.func 89) ⟨[]⟩ ⟨[]⟩)]⟩,
  ⟨84, false, [(.func (.func 86) ⟨[]⟩ ⟨[(.pointer (some ⟨44, 0, none⟩))]⟩), (.func (.func 88) ⟨[]⟩ ⟨[(.pointer (some ⟨44, 0, none⟩))]⟩)]⟩,
  ⟨84, false, [(.func (.func 90) ⟨[]⟩ ⟨[]⟩), (.func (.func 92) ⟨[]⟩ ⟨[]⟩)]⟩,
  ⟨84, false, [(.func (.func 83) ⟨[]⟩ ⟨[(.pointer (some ⟨41, 0, none⟩))]⟩), (.func (.func 85) ⟨[]⟩ ⟨[(.pointer (some ⟨41, 0, none⟩))]⟩), (.func (.func 86) ⟨[]⟩ ⟨[(.pointer (some ⟨44, 0, none⟩))]⟩), (.func (.func 88) ⟨[]⟩ ⟨[(.pointer (some ⟨44, 0, none⟩))]⟩), (.func (.func 86) ⟨[]⟩ ⟨[(.pointer (some ⟨19, 0, none⟩))]⟩), (.func (.func 88) ⟨[]⟩ ⟨[(.pointer (some ⟨19, 0, none⟩))]⟩), (.func (.func 90) ⟨[]⟩ ⟨[]⟩), (.func (.func 92) ⟨[]⟩ ⟨[]⟩)]⟩,
  ⟨84, false, [(.func (.func 83) ⟨[]⟩ ⟨[(.pointer (some ⟨49, 0, none⟩))]⟩), (.func (.func 85) ⟨[]⟩ ⟨[(.pointer (some ⟨49, 0, none⟩))]⟩)]⟩,
  ⟨118, false, [(.func (.func 82) ⟨[]⟩ ⟨[]⟩)]⟩,
  ⟨84, false, [(.func (.func 83) ⟨[]⟩ ⟨[(.pointer (some ⟨49, 0, none⟩))]⟩), (.func (.func 85) ⟨[]⟩ ⟨[(.pointer (some ⟨49, 0, none⟩))]⟩)]⟩,
  ⟨84, false, [(.func (.func 83) ⟨[]⟩ ⟨[(.pointer (some ⟨49, 0, none⟩))]⟩), (.func (.func 85) ⟨[]⟩ ⟨[(.pointer (some ⟨49, 0, none⟩))]⟩), (.func (.func 86) ⟨[]⟩ ⟨[(.pointer (some ⟨16, 0, none⟩))]⟩), (.func (.func 88) ⟨[]⟩ ⟨[(.pointer (some ⟨16, 0, none⟩))]⟩)]⟩,
  ⟨84, false, [(.func (.func 94) ⟨[]⟩ ⟨[]⟩), (.func (.func 96) ⟨[]⟩ ⟨[]⟩)]⟩,
  ⟨84, false, [(.func (.func 83) ⟨[]⟩ ⟨[(.pointer (some ⟨54, 0, none⟩))]⟩), (.func (.func 85) ⟨[]⟩ ⟨[(.pointer (some ⟨54, 0, none⟩))]⟩)]⟩,
  ⟨118, false, [(.func (.func 97) ⟨[]⟩ ⟨[]⟩)]⟩,
  ⟨84, false, [(.func (.func 83) ⟨[]⟩ ⟨[(.pointer (some ⟨54, 0, none⟩))]⟩), (.func (.func 85) ⟨[]⟩ ⟨[(.pointer (some ⟨54, 0, none⟩))]⟩)]⟩,
  ⟨84, false, [(.func (.func 94) ⟨[]⟩ ⟨[]⟩), (.func (.func 96) ⟨[]⟩ ⟨[]⟩), (.func (.func 83) ⟨[]⟩ ⟨[(.pointer (some ⟨54, 0, none⟩))]⟩), (.func (.func 85) ⟨[]⟩ ⟨[(.pointer (some ⟨54, 0, none⟩))]⟩)]⟩,
  ⟨84, false, [(.func (.func 94) ⟨[]⟩ ⟨[]⟩), (.func (.func 96) ⟨[]⟩ ⟨[]⟩)]⟩,
  ⟨84, false, [(.func (.func 83) ⟨[]⟩ ⟨[(.pointer (some ⟨59, 0, none⟩))]⟩), (.func (.func 85) ⟨[]⟩ ⟨[(.pointer (some ⟨59, 0, none⟩))]⟩)]⟩,
  ⟨118, false, [(.func (.func 97) ⟨[]⟩ ⟨[]⟩)]⟩,
  ⟨84, false, [(.func (.func 83) ⟨[]⟩ ⟨[(.pointer (some ⟨59, 0, none⟩))]⟩), (.func (.func 85) ⟨[]⟩ ⟨[(.pointer (some ⟨59, 0, none⟩))]⟩)]⟩,
  ⟨84, false, [(.func (.func 94) ⟨[]⟩ ⟨[]⟩), (.func (.func 96) ⟨[]⟩ ⟨[]⟩), (.func (.func 83) ⟨[]⟩ ⟨[(.pointer (some ⟨59, 0, none⟩))]⟩), (.func (.func 85) ⟨[]⟩ ⟨[(.pointer (some ⟨59, 0, none⟩))]⟩)]⟩,
  ⟨84, false, [(.func (.func 94) ⟨[]⟩ ⟨[]⟩), (.func (.func 96) ⟨[]⟩ ⟨[]⟩)]⟩,
  ⟨84, false, [(.func (.func 83) ⟨[]⟩ ⟨[(.pointer (some ⟨64, 0, none⟩))]⟩), (.func (.func 85) ⟨[]⟩ ⟨[(.pointer (some ⟨64, 0, none⟩))]⟩)]⟩,
  ⟨118, false, [(.func (.func 97) ⟨[]⟩ ⟨[]⟩)]⟩,
  ⟨84, false, [(.func (.func 83) ⟨[]⟩ ⟨[(.pointer (some ⟨64, 0, none⟩))]⟩), (.func (.func 85) ⟨[]⟩ ⟨[(.pointer (some ⟨64, 0, none⟩))]⟩)]⟩,
  ⟨84, false, [(.func (.func 94) ⟨[]⟩ ⟨[]⟩), (.func (.func 96) ⟨[]⟩ ⟨[]⟩), (.func (.func 83) ⟨[]⟩ ⟨[(.pointer (some ⟨64, 0, none⟩))]⟩), (.func (.func 85) ⟨[]⟩ ⟨[(.pointer (some ⟨64, 0, none⟩))]⟩)]⟩,
  ⟨84, false, [(.func (.func 94) ⟨[]⟩ ⟨[]⟩), (.func (.func 96) ⟨[]⟩ ⟨[]⟩)]⟩,
  ⟨84, false, [(.func (.func 83) ⟨[]⟩ ⟨[(.pointer (some ⟨69, 0, none⟩))]⟩), (.func (.func 85) ⟨[]⟩ ⟨[(.pointer (some ⟨69, 0, none⟩))]⟩)]⟩,
  ⟨118, false, [(.func (.func 97) ⟨[]⟩ ⟨[]⟩)]⟩,
  ⟨84, false, [(.func (.func 83) ⟨[]⟩ ⟨[(.pointer (some ⟨69, 0, none⟩))]⟩), (.func (.func 85) ⟨[]⟩ ⟨[(.pointer (some ⟨69, 0, none⟩))]⟩)]⟩,
  ⟨84, false, [(.func (.func 83) ⟨[]⟩ ⟨[(.pointer (some ⟨72, 0, none⟩))]⟩), (.func (.func 85) ⟨[]⟩ ⟨[(.pointer (some ⟨72, 0, none⟩))]⟩)]⟩,
  ⟨118, false, [(.func (.func 98) ⟨[]⟩ ⟨[]⟩)]⟩,
  ⟨84, false, [(.func (.func 83) ⟨[]⟩ ⟨[(.pointer (some ⟨72, 0, none⟩))]⟩), (.func (.func 85) ⟨[]⟩ ⟨[(.pointer (some ⟨72, 0, none⟩))]⟩)]⟩,
  ⟨84, false, [(.func (.func 99) ⟨[]⟩ ⟨[]⟩), (.func (.func 101) ⟨[]⟩ ⟨[]⟩)]⟩,
  ⟨84, false, [(.func (.func 94) ⟨[]⟩ ⟨[]⟩), (.func (.func 96) ⟨[]⟩ ⟨[]⟩), (.func (.func 83) ⟨[]⟩ ⟨[(.pointer (some ⟨69, 0, none⟩))]⟩), (.func (.func 85) ⟨[]⟩ ⟨[(.pointer (some ⟨69, 0, none⟩))]⟩), (.func (.func 83) ⟨[]⟩ ⟨[(.pointer (some ⟨72, 0, none⟩))]⟩), (.func (.func 85) ⟨[]⟩ ⟨[(.pointer (some ⟨72, 0, none⟩))]⟩), (.func (.func 99) ⟨[]⟩ ⟨[]⟩), (.func (.func 101) ⟨[]⟩ ⟨[]⟩)]⟩,
  ⟨84, false, [(.func (.func 83) ⟨[]⟩ ⟨[(.pointer (some ⟨77, 0, none⟩))]⟩), (.func (.func 85) ⟨[]⟩ ⟨[(.pointer (some ⟨77, 0, none⟩))]⟩)]⟩,
  ⟨118, false, [(.func (.func 98) ⟨[]⟩ ⟨[]⟩)]⟩,
  ⟨84, false, [(.func (.func 83) ⟨[]⟩ ⟨[(.pointer (some ⟨77, 0, none⟩))]⟩), (.func (.func 85) ⟨[]⟩ ⟨[(.pointer (some ⟨77, 0, none⟩))]⟩)]⟩,
  ⟨84, false, [(.func (.func 83) ⟨[]⟩ ⟨[(.pointer (some ⟨77, 0, none⟩))]⟩), (.func (.func 85) ⟨[]⟩ ⟨[(.pointer (some ⟨77, 0, none⟩))]⟩)]⟩,
  ⟨84, false, [(.func (.func 102) ⟨[]⟩ ⟨[]⟩), (.func (.func 103) ⟨[]⟩ ⟨[]⟩)]⟩,
  ⟨84, false, [(.func (.func 102) ⟨[]⟩ ⟨[]⟩), (.func (.func 103) ⟨[]⟩ ⟨[]⟩)]⟩,
  ⟨84, false, [(.func (.func 83) ⟨[]⟩ ⟨[(.pointer (some ⟨83, 0, none⟩))]⟩), (.func (.func 85) ⟨[]⟩ ⟨[(.pointer (some ⟨83, 0, none⟩))]⟩)]⟩,
  ⟨118, false, [(.func (.func 82) ⟨[]⟩ ⟨[]⟩)]⟩,
  ⟨84, false, [(.func (.func 83) ⟨[]⟩ ⟨[(.pointer (some ⟨83, 0, none⟩))]⟩), (.func (.func 85) ⟨[]⟩ ⟨[(.pointer (some ⟨83, 0, none⟩))]⟩)]⟩,
  ⟨84, false, [(.func (.func 83) ⟨[]⟩ ⟨[(.pointer (some ⟨83, 0, none⟩))]⟩), (.func (.func 85) ⟨[]⟩ ⟨[(.pointer (some ⟨83, 0, none⟩))]⟩)]⟩,
  ⟨84, false, [(.func (.func 83) ⟨[]⟩ ⟨[(.pointer (some ⟨87, 0, none⟩))]⟩), (.func (.func 85) ⟨[]⟩ ⟨[(.pointer (some ⟨87, 0, none⟩))]⟩)]⟩,
  ⟨118, false, [(.func (.func 104) ⟨[]⟩ ⟨[]⟩)]⟩,
  ⟨84, false, [(.func (.func 83) ⟨[]⟩ ⟨[(.pointer (some ⟨87, 0, none⟩))]⟩), (.func (.func 85) ⟨[]⟩ ⟨[(.pointer (some ⟨87, 0, none⟩))]⟩)]⟩,
  ⟨84, false, [(.func (.func 83) ⟨[]⟩ ⟨[(.pointer (some ⟨87, 0, none⟩))]⟩), (.func (.func 85) ⟨[]⟩ ⟨[(.pointer (some ⟨87, 0, none⟩))]⟩)]⟩,
  ⟨84, false, [(.func (.func 83) ⟨[]⟩ ⟨[(.pointer (some ⟨91, 0, none⟩))]⟩), (.func (.func 85) ⟨[]⟩ ⟨[(.pointer (some ⟨91, 0, none⟩))]⟩)]⟩,
  ⟨118, false, [(.func (.func 104) ⟨[]⟩ ⟨[]⟩)]⟩,
  ⟨84, false, [(.func (.func 83) ⟨[]⟩ ⟨[(.pointer (some ⟨91, 0, none⟩))]⟩), (.func (.func 85) ⟨[]⟩ ⟨[(.pointer (some ⟨91, 0, none⟩))]⟩)]⟩,
  ⟨84, false, [(.func (.func 86) ⟨[]⟩ ⟨[(.pointer (some ⟨94, 0, none⟩))]⟩), (.func (.func 88) ⟨[]⟩ ⟨[(.pointer (some ⟨94, 0, none⟩))]⟩)]⟩,
  ⟨121, false, [(.func (.func 89) ⟨[]⟩ ⟨[]⟩)]⟩,
  ⟨84, false, [(.func (.func 86) ⟨[]⟩ ⟨[(.pointer (some ⟨94, 0, none⟩))]⟩), (.func (.func 88) ⟨[]⟩ ⟨[(.pointer (some ⟨94, 0, none⟩))]⟩)]⟩,
  ⟨84, false, [(.func (.func 83) ⟨[]⟩ ⟨[(.pointer (some ⟨91, 0, none⟩))]⟩), (.func (.func 85) ⟨[]⟩ ⟨[(.pointer (some ⟨91, 0, none⟩))]⟩), (.func (.func 86) ⟨[]⟩ ⟨[(.pointer (some ⟨94, 0, none⟩))]⟩), (.func (.func 88) ⟨[]⟩ ⟨[(.pointer (some ⟨94, 0, none⟩))]⟩)]⟩,
  ⟨84, false, [(.func (.func 83) ⟨[]⟩ ⟨[(.pointer (some ⟨98, 0, none⟩))]⟩), (.func (.func 85) ⟨[]⟩ ⟨[(.pointer (some ⟨98, 0, none⟩))]⟩)]⟩,
  ⟨118, false, [(.func (.func 104) ⟨[]⟩ ⟨[]⟩)]⟩,
  ⟨84, false, [(.func (.func 83) ⟨[]⟩ ⟨[(.pointer (some ⟨98, 0, none⟩))]⟩), (.func (.func 85) ⟨[]⟩ ⟨[(.pointer (some ⟨98, 0, none⟩))]⟩)]⟩,
  ⟨84, false, [(.func (.func 83) ⟨[]⟩ ⟨[(.pointer (some ⟨98, 0, none⟩))]⟩), (.func (.func 85) ⟨[]⟩ ⟨[(.pointer (some ⟨98, 0, none⟩))]⟩)]⟩,
  ⟨84, false, [(.func (.func 83) ⟨[]⟩ ⟨[(.pointer (some ⟨102, 0, none⟩))]⟩), (.func (.func 85) ⟨[]⟩ ⟨[(.pointer (some ⟨102, 0, none⟩))]⟩)]⟩,
  ⟨118, false, [(.func (.func 104) ⟨[]⟩ ⟨[]⟩)]⟩,
  ⟨84, false, [(.func (.func 83) ⟨[]⟩ ⟨[(.pointer (some ⟨102, 0, none⟩))]⟩), (.func (.func 85) ⟨[]⟩ ⟨[(.pointer (some ⟨102, 0, none⟩))]⟩)]⟩,
  ⟨84, false, [(.func (.func 83) ⟨[]⟩ ⟨[(.pointer (some ⟨102, 0, none⟩))]⟩), (.func (.func 85) ⟨[]⟩ ⟨[(.pointer (some ⟨102, 0, none⟩))]⟩)]⟩,
  ⟨84, false, [(.func (.func 83) ⟨[]⟩ ⟨[(.pointer (some ⟨106, 0, none⟩))]⟩), (.func (.func 85) ⟨[]⟩ ⟨[(.pointer (some ⟨106, 0, none⟩))]⟩)]⟩,
  ⟨118, false, [(.func (.func 104) ⟨[]⟩ ⟨[]⟩)]⟩,
  ⟨84, false, [(.func (.func 83) ⟨[]⟩ ⟨[(.pointer (some ⟨106, 0, none⟩))]⟩), (.func (.func 85) ⟨[]⟩ ⟨[(.pointer (some ⟨106, 0, none⟩))]⟩)]⟩,
  ⟨84, false, [(.func (.func 83) ⟨[]⟩ ⟨[(.pointer (some ⟨106, 0, none⟩))]⟩), (.func (.func 85) ⟨[]⟩ ⟨[(.pointer (some ⟨106, 0, none⟩))]⟩)]⟩,
  ⟨84, false, [(.func (.func 83) ⟨[]⟩ ⟨[(.pointer (some ⟨110, 0, none⟩))]⟩), (.func (.func 85) ⟨[]⟩ ⟨[(.pointer (some ⟨110, 0, none⟩))]⟩)]⟩,
  ⟨118, false, [(.func (.func 82) ⟨[]⟩ ⟨[]⟩)]⟩,
  ⟨84, false, [(.func (.func 83) ⟨[]⟩ ⟨[(.pointer (some ⟨110, 0, none⟩))]⟩), (.func (.func 85) ⟨[]⟩ ⟨[(.pointer (some ⟨110, 0, none⟩))]⟩)]⟩,
  ⟨84, false, [(.func (.func 86) ⟨[]⟩ ⟨[(.pointer (some ⟨113, 0, none⟩))]⟩), (.func (.func 88) ⟨[]⟩ ⟨[(.pointer (some ⟨113, 0, none⟩))]⟩)]⟩,
  ⟨121, false, [(.func (.func 89) ⟨[]⟩ ⟨[]⟩)]⟩,
  ⟨84, false, [(.func (.func 86) ⟨[]⟩ ⟨[(.pointer (some ⟨113, 0, none⟩))]⟩), (.func (.func 88) ⟨[]⟩ ⟨[(.pointer (some ⟨113, 0, none⟩))]⟩)]⟩,
  ⟨84, false, [(.func (.func 83) ⟨[]⟩ ⟨[(.pointer (some ⟨110, 0, none⟩))]⟩), (.func (.func 85) ⟨[]⟩ ⟨[(.pointer (some ⟨110, 0, none⟩))]⟩), (.func (.func 86) ⟨[]⟩ ⟨[(.pointer (some ⟨113, 0, none⟩))]⟩), (.func (.func 88) ⟨[]⟩ ⟨[(.pointer (some ⟨113, 0, none⟩))]⟩), (.func (.func 86) ⟨[]⟩ ⟨[(.pointer (some ⟨22, 0, none⟩))]⟩), (.func (.func 88) ⟨[]⟩ ⟨[(.pointer (some ⟨22, 0, none⟩))]⟩)]⟩,
  ⟨80, false, [(.string ⟨⟨[]⟩⟩), (.slice none 0 0), (.string ⟨⟨[116, 105, 99, 107]⟩⟩), (.slice (some ⟨27, 0, none⟩) 1 1), (.string ⟨⟨[108, 105, 115, 116, 101, 110]⟩⟩), (.slice (some ⟨15, 0, none⟩) 3 3), (.string ⟨⟨[117, 110, 108, 105, 115, 116, 101, 110]⟩⟩), (.slice (some ⟨31, 0, none⟩) 1 1), (.string ⟨⟨[98, 101, 103, 105, 110]⟩⟩), (.slice (some ⟨35, 0, none⟩) 1 1), (.string ⟨⟨[99, 101, 97, 115, 101]⟩⟩), (.slice (some ⟨39, 0, none⟩) 1 1), (.string ⟨⟨[115, 101, 110, 100]⟩⟩), (.slice (some ⟨47, 0, none⟩) 4 4), (.string ⟨⟨[99, 97, 110, 99, 101, 108]⟩⟩), (.slice (some ⟨51, 0, none⟩) 2 2), (.string ⟨⟨[107, 105, 99, 107]⟩⟩), (.slice none 0 0), (.string ⟨⟨[100, 101, 108, 105, 118, 101, 114]⟩⟩), (.slice (some ⟨56, 0, none⟩) 2 2), (.string ⟨⟨[100, 114, 111, 112]⟩⟩), (.slice (some ⟨61, 0, none⟩) 2 2), (.string ⟨⟨[100, 111, 117, 98, 108, 101]⟩⟩), (.slice (some ⟨66, 0, none⟩) 2 2), (.string ⟨⟨[116, 117, 114, 110]⟩⟩), (.slice (some ⟨75, 0, none⟩) 4 4), (.string ⟨⟨[99, 117, 116]⟩⟩), (.slice (some ⟨79, 0, none⟩) 1 1), (.string ⟨⟨[99, 114, 97, 115, 104]⟩⟩), (.slice (some ⟨81, 0, none⟩) 1 1), (.string ⟨⟨[114, 101, 115, 116, 97, 114, 116]⟩⟩), (.slice none 0 0), (.string ⟨⟨[99, 117, 114, 115, 111, 114]⟩⟩), (.slice (some ⟨85, 0, none⟩) 1 1), (.string ⟨⟨[99, 108, 111, 115, 101]⟩⟩), (.slice (some ⟨89, 0, none⟩) 1 1), (.string ⟨⟨[115, 101, 101, 107]⟩⟩), (.slice (some ⟨96, 0, none⟩) 2 2), (.string ⟨⟨[110, 101, 120, 116]⟩⟩), (.slice (some ⟨100, 0, none⟩) 1 1), (.string ⟨⟨[112, 114, 101, 118]⟩⟩), (.slice (some ⟨104, 0, none⟩) 1 1), (.string ⟨⟨[114, 101, 119, 105, 110, 100]⟩⟩), (.slice (some ⟨108, 0, none⟩) 1 1), (.string ⟨⟨[103, 97, 112, 115]⟩⟩), (.slice (some ⟨115, 0, none⟩) 3 3)]⟩]
/-- rrows: steps 7 -/
def rrowsV : Value := (.slice (some ⟨8, 0, none⟩) 22 22)
def rrowsRows : List CRow := [
  ⟨88, false, [(.string ⟨⟨[116, 105, 99, 107]⟩⟩), (.bool false), (.int .i64 1), (.string ⟨⟨[110]⟩⟩), (.string ⟨⟨[108, 105, 115, 116, 101, 110]⟩⟩), (.bool true), (.int .i64 2), (.string ⟨⟨[105, 105, 105]⟩⟩), (.string ⟨⟨[117, 110, 108, 105, 115, 116, 101, 110]⟩⟩), (.bool true), (.int .i64 3), (.string ⟨⟨[105]⟩⟩), (.string ⟨⟨[98, 101, 103, 105, 110]⟩⟩), (.bool true), (.int .i64 4), (.string ⟨⟨[105]⟩⟩), (.string ⟨⟨[99, 101, 97, 115, 101]⟩⟩), (.bool true), (.int .i64 5), (.string ⟨⟨[105]⟩⟩), (.string ⟨⟨[115, 101, 110, 100]⟩⟩), (.bool true), (.int .i64 6), (.string ⟨⟨[105, 110, 110, 116]⟩⟩), (.string ⟨⟨[99, 97, 110, 99, 101, 108]⟩⟩), (.bool true), (.int .i64 7), (.string ⟨⟨[105, 110]⟩⟩), (.string ⟨⟨[107, 105, 99, 107]⟩⟩), (.bool true), (.int .i64 8), (.string ⟨⟨[]⟩⟩), (.string ⟨⟨[100, 101, 108, 105, 118, 101, 114]⟩⟩), (.bool true), (.int .i64 9), (.string ⟨⟨[119, 105]⟩⟩), (.string ⟨⟨[100, 114, 111, 112]⟩⟩), (.bool true), (.int .i64 10), (.string ⟨⟨[119, 105]⟩⟩), (.string ⟨⟨[100, 111, 117, 98, 108, 101]⟩⟩), (.bool true), (.int .i64 11), (.string ⟨⟨[119, 105]⟩⟩), (.string ⟨⟨[116, 117, 114, 110]⟩⟩), (.bool true), (.int .i64 12), (.string ⟨⟨[119, 105, 105, 109]⟩⟩), (.string ⟨⟨[99, 117, 116]⟩⟩), (.bool true), (.int .i64 13), (.string ⟨⟨[105]⟩⟩), (.string ⟨⟨[99, 114, 97, 115, 104]⟩⟩), (.bool true), (.int .i64 14), (.string ⟨⟨[99]⟩⟩), (.string ⟨⟨[114, 101, 115, 116, 97, 114, 116]⟩⟩), (.bool true), (.int .i64 15), (.string ⟨⟨[]⟩⟩), (.string ⟨⟨[99, 117, 114, 115, 111, 114]⟩⟩), (.bool true), (.int .i64 16), (.string ⟨⟨[105]⟩⟩), (.string ⟨⟨[99, 108, 111, 115, 101]⟩⟩), (.bool true), (.int .i64 17), (.string ⟨⟨[105]⟩⟩), (.string ⟨⟨[115, 101, 101, 107]⟩⟩), (.bool true), (.int .i64 18), (.string ⟨⟨[105, 110]⟩⟩), (.string ⟨⟨[110, 101, 120, 116]⟩⟩), (.bool true), (.int .i64 19), (.string ⟨⟨[105]⟩⟩), (.string ⟨⟨[112, 114, 101, 118]⟩⟩), (.bool true), (.int .i64 20), (.string ⟨⟨[105]⟩⟩), (.string ⟨⟨[114, 101, 119, 105, 110, 100]⟩⟩), (.bool true), (.int .i64 21), (.string ⟨⟨[105]⟩⟩), (.string ⟨⟨[103, 97, 112, 115]⟩⟩), (.bool true), (.int .i64 22), (.string ⟨⟨[105, 110, 110]⟩⟩)]⟩]
/-- rows laid at 'k' -/
def RowsAt (rows : List CRow) (m : Mem) (k : Nat) : Prop := ∀ j r, rows[j]? = some r → vw m (k + j) = some ⟨true, r.elem, r.ext, r.cells.map (renV 8 k)⟩
theorem rowsAt_lay (rows : List CRow) (m : Mem) : RowsAt rows (layRows m (rows.map (CRow.ren 8 m.next))) m.next := fun j r h => by
  have := layRows_vw m (rows.map (CRow.ren 8 m.next)) (j := j) (r := r.ren 8 m.next) (by rw [List.getElem?_map, h]; rfl)
  exact this
theorem RowsAt.keep {rows : List CRow} {m m' : Mem} {k : Nat} (h : RowsAt rows m k) (hk : ∀ x, k ≤ x → x < k + rows.length → m'.objs.get x = m.objs.get x) : RowsAt rows m' k := fun j r hj => by
  have hlt : j < rows.length := (List.getElem?_eq_some_iff.1 hj).1
  have := h j r hj
  unfold vw at this ⊢
  rw [hk _ (by omega) (by omega)]; exact this
end Go.Proofs.YtgmkbdmgifdfeaaGreatDoor
namespace Go.Proofs.YtgmkbdmgifdfeaaGreatDoor
open Go Go.Ev
noncomputable def pow10Cells : List Value := (List.range 20).map fun i => .int .u64 ((10 ^ i : Nat) : Int)
/-- the library's table of powers stands -/
def PowAt (m : Mem) : Prop := 0 < m.next ∧ ∃ e, vw m 0 = some ⟨false, e, false, pow10Cells⟩
theorem PowAt.old {n : Nat} {m m' : Mem} (h : PowAt m) (k : Old n m m') (hn : 0 < n) : PowAt m' := by
  obtain ⟨h1, e, h2⟩ := h
  exact ⟨Nat.lt_of_lt_of_le h1 k.1, e, by rw [k.vw hn]; exact h2⟩
open Classical in
noncomputable def itoaOv : List Value → Mem → Option (Value × Mem)
  | [.int .i64 n], m => if -9223372036854775808 ≤ n ∧ n ≤ 9223372036854775807 ∧ PowAt m then some (.string ⟨⟨Lib.itoa n⟩⟩, m) else none
  | _, _ => none
open Classical in
noncomputable def fmtOv : List Value → Mem → Option (Value × Mem)
  | [.int .u64 n, .int .i64 z], m => if 0 ≤ n ∧ n ≤ 18446744073709551615 ∧ z = 10 ∧ PowAt m then some (.string ⟨⟨Lib.decDigits n.toNat⟩⟩, m) else none
  | _, _ => none
noncomputable def closedOv (v : Value) (rows : List CRow) : List Value → Mem → Option (Value × Mem)
  | [], m => match Nat.ble 8 m.next with | true => some (renV 8 m.next v, layRows m (rows.map (CRow.ren 8 m.next))) | false => none
  | _, _ => none
noncomputable def ovs : T (List Value → Mem → Option (Value × Mem)) := T.set (T.set (T.set (T.set .lf 31 itoaOv) 48 fmtOv) 30 (closedOv formsV formsRows)) 67 (closedOv rrowsV rrowsRows)
noncomputable def tb : Tabs := mkTabs Tryz.prog 8 ovs
theorem ov_none {f : Nat} (h : (decide (f = 31) || decide (f = 48) || decide (f = 30) || decide (f = 67)) = false) : tb.ov.get f = none := by
  simp only [Bool.or_eq_false_iff, decide_eq_false_iff_not] at h
  obtain ⟨⟨⟨h1, h2⟩, h3⟩, h4⟩ := h
  show T.get ovs f = none
  rw [ovs, T.get_set, if_neg h4, T.get_set, if_neg h3, T.get_set, if_neg h2, T.get_set, if_neg h1, T.get_lf]
theorem ov_itoa : tb.ov.get 31 = some itoaOv := by
  show T.get ovs 31 = _
  rw [ovs, T.get_set, if_neg (by decide), T.get_set, if_neg (by decide), T.get_set, if_neg (by decide), T.get_set, if_pos rfl]
theorem ov_fmt : tb.ov.get 48 = some fmtOv := by
  show T.get ovs 48 = _
  rw [ovs, T.get_set, if_neg (by decide), T.get_set, if_neg (by decide), T.get_set, if_pos rfl]
theorem ov_forms : tb.ov.get 30 = some (closedOv formsV formsRows) := by
  show T.get ovs 30 = _
  rw [ovs, T.get_set, if_neg (by decide), T.get_set, if_pos rfl]
theorem ov_rrows : tb.ov.get 67 = some (closedOv rrowsV rrowsRows) := by
  show T.get ovs 67 = _
  rw [ovs, T.get_set, if_pos rfl]
theorem fget {f : Nat} {fd : Func} (h : Tryz.prog.funcs[f]? = some fd) : tb.funcs.get f = some fd := by
  simp only [tb, mkTabs, T.get_ofList]
  simpa using h
noncomputable def tvP (P : Program) (t : Nat) : TI := match mkTI P t with | some i => i | none => ⟨.bool, default, false, [], false, [], false, false⟩
theorem ti_tvP {P : Program} {g : Nat} {ov : T (List Value → Mem → Option (Value × Mem))} {t : Nat} (h : (Nat.blt t P.types.size && (mkTI P t).isSome) = true) : ti (mkTabs P g ov) t = some (tvP P t) := by
  simp only [Bool.and_eq_true, Nat.blt_eq] at h
  obtain ⟨h1, h2⟩ := h
  simp only [ti, mkTabs, T.get_ofList]
  rw [List.getElem?_map, List.getElem?_range h1]
  simp only [Option.map_some, tvP]
  cases h : mkTI P t with
  | none => rw [h] at h2; cases h2
  | some i => rfl
noncomputable def tv (t : Nat) : TI := tvP Tryz.prog t
noncomputable def fsv (t : Nat) : Array Field := match (tv t).d with | .struct fs => fs | _ => #[]
theorem ti_tv {t : Nat} (h : (Nat.blt t Tryz.prog.types.size && (mkTI Tryz.prog t).isSome) = true) : ti tb t = some (tv t) := ti_tvP h
namespace Ty
theorem ti0 : ti tb 0 = some (tv 0) := ti_tv (by kernel_rfl)
theorem g0 : (tv 0).agg = false := by kernel_rfl
theorem s0 : (tv 0).inf.size = 1 := by kernel_rfl
theorem y0 : (tv 0).inf.bytes = 0 := by kernel_rfl
theorem h0 : (tv 0).hasZ = false := by kernel_rfl
theorem ti1 : ti tb 1 = some (tv 1) := ti_tv (by kernel_rfl)
theorem g1 : (tv 1).agg = false := by kernel_rfl
theorem s1 : (tv 1).inf.size = 1 := by kernel_rfl
theorem y1 : (tv 1).inf.bytes = 8 := by kernel_rfl
theorem h1 : (tv 1).hasZ = true := by kernel_rfl
theorem z1 : (tv 1).zc = [.nilFunc] := by kernel_rfl
theorem ti2 : ti tb 2 = some (tv 2) := ti_tv (by kernel_rfl)
theorem d2 : (tv 2).d = .int .i64 := by kernel_rfl
theorem g2 : (tv 2).agg = false := by kernel_rfl
theorem s2 : (tv 2).inf.size = 1 := by kernel_rfl
theorem y2 : (tv 2).inf.bytes = 8 := by kernel_rfl
theorem h2 : (tv 2).hasZ = true := by kernel_rfl
theorem z2 : (tv 2).zc = [.int .i64 0] := by kernel_rfl
theorem ti3 : ti tb 3 = some (tv 3) := ti_tv (by kernel_rfl)
theorem d3 : (tv 3).d = .int .i64 := by kernel_rfl
theorem g3 : (tv 3).agg = false := by kernel_rfl
theorem s3 : (tv 3).inf.size = 1 := by kernel_rfl
theorem y3 : (tv 3).inf.bytes = 8 := by kernel_rfl
theorem h3 : (tv 3).hasZ = true := by kernel_rfl
theorem z3 : (tv 3).zc = [.int .i64 0] := by kernel_rfl
theorem ti4 : ti tb 4 = some (tv 4) := ti_tv (by kernel_rfl)
theorem d4 : (tv 4).d = .bool := by kernel_rfl
theorem g4 : (tv 4).agg = false := by kernel_rfl
theorem s4 : (tv 4).inf.size = 1 := by kernel_rfl
theorem y4 : (tv 4).inf.bytes = 1 := by kernel_rfl
theorem h4 : (tv 4).hasZ = true := by kernel_rfl
theorem z4 : (tv 4).zc = [.bool false] := by kernel_rfl
theorem ti5 : ti tb 5 = some (tv 5) := ti_tv (by kernel_rfl)
theorem d5 : (tv 5).d = .int .u8 := by kernel_rfl
theorem g5 : (tv 5).agg = false := by kernel_rfl
theorem s5 : (tv 5).inf.size = 1 := by kernel_rfl
theorem y5 : (tv 5).inf.bytes = 1 := by kernel_rfl
theorem h5 : (tv 5).hasZ = true := by kernel_rfl
theorem z5 : (tv 5).zc = [.int .u8 0] := by kernel_rfl
theorem ti6 : ti tb 6 = some (tv 6) := ti_tv (by kernel_rfl)
theorem d6 : (tv 6).d = .int .u8 := by kernel_rfl
theorem g6 : (tv 6).agg = false := by kernel_rfl
theorem s6 : (tv 6).inf.size = 1 := by kernel_rfl
theorem y6 : (tv 6).inf.bytes = 1 := by kernel_rfl
theorem h6 : (tv 6).hasZ = true := by kernel_rfl
theorem z6 : (tv 6).zc = [.int .u8 0] := by kernel_rfl
theorem ti7 : ti tb 7 = some (tv 7) := ti_tv (by kernel_rfl)
theorem d7 : (tv 7).d = .struct (fsv 7) := by kernel_rfl
theorem g7 : (tv 7).agg = true := by kernel_rfl
theorem s7 : (tv 7).inf.size = 4 := by kernel_rfl
theorem y7 : (tv 7).inf.bytes = 24 := by kernel_rfl
theorem h7 : (tv 7).hasZ = true := by kernel_rfl
theorem z7 : (tv 7).zc = [.int .i64 0, .int .i64 0, .bool false, .int .u8 0] := by kernel_rfl
theorem f7 : (tv 7).flds = [(0, 1, 2, false), (1, 1, 3, false), (2, 1, 4, false), (3, 1, 6, false)] := by kernel_rfl
theorem ti8 : ti tb 8 = some (tv 8) := ti_tv (by kernel_rfl)
theorem d8 : (tv 8).d = .struct (fsv 8) := by kernel_rfl
theorem g8 : (tv 8).agg = true := by kernel_rfl
theorem s8 : (tv 8).inf.size = 4 := by kernel_rfl
theorem y8 : (tv 8).inf.bytes = 24 := by kernel_rfl
theorem h8 : (tv 8).hasZ = true := by kernel_rfl
theorem z8 : (tv 8).zc = [.int .i64 0, .int .i64 0, .bool false, .int .u8 0] := by kernel_rfl
theorem f8 : (tv 8).flds = [(0, 1, 2, false), (1, 1, 3, false), (2, 1, 4, false), (3, 1, 6, false)] := by kernel_rfl
theorem ti9 : ti tb 9 = some (tv 9) := ti_tv (by kernel_rfl)
theorem d9 : (tv 9).d = .string := by kernel_rfl
theorem g9 : (tv 9).agg = false := by kernel_rfl
theorem s9 : (tv 9).inf.size = 1 := by kernel_rfl
theorem y9 : (tv 9).inf.bytes = 16 := by kernel_rfl
theorem h9 : (tv 9).hasZ = true := by kernel_rfl
theorem z9 : (tv 9).zc = [.string ⟨⟨[]⟩⟩] := by kernel_rfl
theorem ti10 : ti tb 10 = some (tv 10) := ti_tv (by kernel_rfl)
theorem d10 : (tv 10).d = .string := by kernel_rfl
theorem g10 : (tv 10).agg = false := by kernel_rfl
theorem s10 : (tv 10).inf.size = 1 := by kernel_rfl
theorem y10 : (tv 10).inf.bytes = 16 := by kernel_rfl
theorem h10 : (tv 10).hasZ = true := by kernel_rfl
theorem z10 : (tv 10).zc = [.string ⟨⟨[]⟩⟩] := by kernel_rfl
theorem ti11 : ti tb 11 = some (tv 11) := ti_tv (by kernel_rfl)
theorem d11 : (tv 11).d = .string := by kernel_rfl
theorem g11 : (tv 11).agg = false := by kernel_rfl
theorem s11 : (tv 11).inf.size = 1 := by kernel_rfl
theorem y11 : (tv 11).inf.bytes = 16 := by kernel_rfl
theorem h11 : (tv 11).hasZ = true := by kernel_rfl
theorem z11 : (tv 11).zc = [.string ⟨⟨[]⟩⟩] := by kernel_rfl
theorem ti12 : ti tb 12 = some (tv 12) := ti_tv (by kernel_rfl)
theorem d12 : (tv 12).d = .int .u64 := by kernel_rfl
theorem g12 : (tv 12).agg = false := by kernel_rfl
theorem s12 : (tv 12).inf.size = 1 := by kernel_rfl
theorem y12 : (tv 12).inf.bytes = 8 := by kernel_rfl
theorem h12 : (tv 12).hasZ = true := by kernel_rfl
theorem z12 : (tv 12).zc = [.int .u64 0] := by kernel_rfl
theorem ti13 : ti tb 13 = some (tv 13) := ti_tv (by kernel_rfl)
theorem d13 : (tv 13).d = .struct (fsv 13) := by kernel_rfl
theorem g13 : (tv 13).agg = true := by kernel_rfl
theorem s13 : (tv 13).inf.size = 2 := by kernel_rfl
theorem y13 : (tv 13).inf.bytes = 24 := by kernel_rfl
theorem h13 : (tv 13).hasZ = true := by kernel_rfl
theorem z13 : (tv 13).zc = [.string ⟨⟨[]⟩⟩, .int .u64 0] := by kernel_rfl
theorem f13 : (tv 13).flds = [(0, 1, 9, false), (1, 1, 12, false)] := by kernel_rfl
theorem ti14 : ti tb 14 = some (tv 14) := ti_tv (by kernel_rfl)
theorem d14 : (tv 14).d = .struct (fsv 14) := by kernel_rfl
theorem g14 : (tv 14).agg = true := by kernel_rfl
theorem s14 : (tv 14).inf.size = 2 := by kernel_rfl
theorem y14 : (tv 14).inf.bytes = 24 := by kernel_rfl
theorem h14 : (tv 14).hasZ = true := by kernel_rfl
theorem z14 : (tv 14).zc = [.string ⟨⟨[]⟩⟩, .int .u64 0] := by kernel_rfl
theorem f14 : (tv 14).flds = [(0, 1, 9, false), (1, 1, 12, false)] := by kernel_rfl
theorem ti15 : ti tb 15 = some (tv 15) := ti_tv (by kernel_rfl)
theorem d15 : (tv 15).d = .pointer 206 := by kernel_rfl
theorem g15 : (tv 15).agg = false := by kernel_rfl
theorem s15 : (tv 15).inf.size = 1 := by kernel_rfl
theorem y15 : (tv 15).inf.bytes = 8 := by kernel_rfl
theorem h15 : (tv 15).hasZ = true := by kernel_rfl
theorem z15 : (tv 15).zc = [.pointer none] := by kernel_rfl
theorem ti16 : ti tb 16 = some (tv 16) := ti_tv (by kernel_rfl)
theorem d16 : (tv 16).d = .pointer 209 := by kernel_rfl
theorem g16 : (tv 16).agg = false := by kernel_rfl
theorem s16 : (tv 16).inf.size = 1 := by kernel_rfl
theorem y16 : (tv 16).inf.bytes = 8 := by kernel_rfl
theorem h16 : (tv 16).hasZ = true := by kernel_rfl
theorem z16 : (tv 16).zc = [.pointer none] := by kernel_rfl
theorem ti17 : ti tb 17 = some (tv 17) := ti_tv (by kernel_rfl)
theorem d17 : (tv 17).d = .pointer 216 := by kernel_rfl
theorem g17 : (tv 17).agg = false := by kernel_rfl
theorem s17 : (tv 17).inf.size = 1 := by kernel_rfl
theorem y17 : (tv 17).inf.bytes = 8 := by kernel_rfl
theorem h17 : (tv 17).hasZ = true := by kernel_rfl
theorem z17 : (tv 17).zc = [.pointer none] := by kernel_rfl
theorem ti18 : ti tb 18 = some (tv 18) := ti_tv (by kernel_rfl)
theorem d18 : (tv 18).d = .struct (fsv 18) := by kernel_rfl
theorem g18 : (tv 18).agg = true := by kernel_rfl
theorem s18 : (tv 18).inf.size = 1 := by kernel_rfl
theorem y18 : (tv 18).inf.bytes = 8 := by kernel_rfl
theorem h18 : (tv 18).hasZ = true := by kernel_rfl
theorem z18 : (tv 18).zc = [.pointer none] := by kernel_rfl
theorem f18 : (tv 18).flds = [(0, 1, 17, false)] := by kernel_rfl
theorem ti19 : ti tb 19 = some (tv 19) := ti_tv (by kernel_rfl)
theorem d19 : (tv 19).d = .struct (fsv 19) := by kernel_rfl
theorem g19 : (tv 19).agg = true := by kernel_rfl
theorem s19 : (tv 19).inf.size = 1 := by kernel_rfl
theorem y19 : (tv 19).inf.bytes = 8 := by kernel_rfl
theorem h19 : (tv 19).hasZ = true := by kernel_rfl
theorem z19 : (tv 19).zc = [.pointer none] := by kernel_rfl
theorem f19 : (tv 19).flds = [(0, 1, 17, false)] := by kernel_rfl
theorem ti20 : ti tb 20 = some (tv 20) := ti_tv (by kernel_rfl)
theorem g20 : (tv 20).agg = false := by kernel_rfl
theorem s20 : (tv 20).inf.size = 1 := by kernel_rfl
theorem y20 : (tv 20).inf.bytes = 16 := by kernel_rfl
theorem h20 : (tv 20).hasZ = true := by kernel_rfl
theorem z20 : (tv 20).zc = [.nilIface] := by kernel_rfl
theorem ti21 : ti tb 21 = some (tv 21) := ti_tv (by kernel_rfl)
theorem d21 : (tv 21).d = .int .i32 := by kernel_rfl
theorem g21 : (tv 21).agg = false := by kernel_rfl
theorem s21 : (tv 21).inf.size = 1 := by kernel_rfl
theorem y21 : (tv 21).inf.bytes = 4 := by kernel_rfl
theorem h21 : (tv 21).hasZ = true := by kernel_rfl
theorem z21 : (tv 21).zc = [.int .i32 0] := by kernel_rfl
theorem ti22 : ti tb 22 = some (tv 22) := ti_tv (by kernel_rfl)
theorem d22 : (tv 22).d = .int .u64 := by kernel_rfl
theorem g22 : (tv 22).agg = false := by kernel_rfl
theorem s22 : (tv 22).inf.size = 1 := by kernel_rfl
theorem y22 : (tv 22).inf.bytes = 8 := by kernel_rfl
theorem h22 : (tv 22).hasZ = true := by kernel_rfl
theorem z22 : (tv 22).zc = [.int .u64 0] := by kernel_rfl
theorem ti23 : ti tb 23 = some (tv 23) := ti_tv (by kernel_rfl)
theorem d23 : (tv 23).d = .struct (fsv 23) := by kernel_rfl
theorem g23 : (tv 23).agg = true := by kernel_rfl
theorem s23 : (tv 23).inf.size = 6 := by kernel_rfl
theorem y23 : (tv 23).inf.bytes = 48 := by kernel_rfl
theorem h23 : (tv 23).hasZ = true := by kernel_rfl
theorem z23 : (tv 23).zc = [.int .i64 0, .int .u64 0, .int .u64 0, .int .i64 0, .int .i64 0, .int .i64 0] := by kernel_rfl
theorem f23 : (tv 23).flds = [(0, 1, 3, false), (1, 1, 22, false), (2, 1, 22, false), (3, 1, 3, false), (4, 1, 3, false), (5, 1, 3, false)] := by kernel_rfl
theorem ti24 : ti tb 24 = some (tv 24) := ti_tv (by kernel_rfl)
theorem d24 : (tv 24).d = .struct (fsv 24) := by kernel_rfl
theorem g24 : (tv 24).agg = true := by kernel_rfl
theorem s24 : (tv 24).inf.size = 6 := by kernel_rfl
theorem y24 : (tv 24).inf.bytes = 48 := by kernel_rfl
theorem h24 : (tv 24).hasZ = true := by kernel_rfl
theorem z24 : (tv 24).zc = [.int .i64 0, .int .u64 0, .int .u64 0, .int .i64 0, .int .i64 0, .int .i64 0] := by kernel_rfl
theorem f24 : (tv 24).flds = [(0, 1, 3, false), (1, 1, 22, false), (2, 1, 22, false), (3, 1, 3, false), (4, 1, 3, false), (5, 1, 3, false)] := by kernel_rfl
theorem ti25 : ti tb 25 = some (tv 25) := ti_tv (by kernel_rfl)
theorem d25 : (tv 25).d = .struct (fsv 25) := by kernel_rfl
theorem g25 : (tv 25).agg = true := by kernel_rfl
theorem s25 : (tv 25).inf.size = 9 := by kernel_rfl
theorem y25 : (tv 25).inf.bytes = 72 := by kernel_rfl
theorem h25 : (tv 25).hasZ = true := by kernel_rfl
theorem z25 : (tv 25).zc = [.int .i64 0, .int .u64 0, .int .u64 0, .int .i64 0, .int .i64 0, .int .i64 0, .int .i64 0, .int .i64 0, .int .u64 0] := by kernel_rfl
theorem f25 : (tv 25).flds = [(0, 6, 24, false), (6, 1, 3, false), (7, 1, 3, false), (8, 1, 22, false)] := by kernel_rfl
theorem ti26 : ti tb 26 = some (tv 26) := ti_tv (by kernel_rfl)
theorem d26 : (tv 26).d = .struct (fsv 26) := by kernel_rfl
theorem g26 : (tv 26).agg = true := by kernel_rfl
theorem s26 : (tv 26).inf.size = 9 := by kernel_rfl
theorem y26 : (tv 26).inf.bytes = 72 := by kernel_rfl
theorem h26 : (tv 26).hasZ = true := by kernel_rfl
theorem z26 : (tv 26).zc = [.int .i64 0, .int .u64 0, .int .u64 0, .int .i64 0, .int .i64 0, .int .i64 0, .int .i64 0, .int .i64 0, .int .u64 0] := by kernel_rfl
theorem f26 : (tv 26).flds = [(0, 6, 24, false), (6, 1, 3, false), (7, 1, 3, false), (8, 1, 22, false)] := by kernel_rfl
theorem ti27 : ti tb 27 = some (tv 27) := ti_tv (by kernel_rfl)
theorem d27 : (tv 27).d = .slice 36 := by kernel_rfl
theorem g27 : (tv 27).agg = false := by kernel_rfl
theorem s27 : (tv 27).inf.size = 1 := by kernel_rfl
theorem y27 : (tv 27).inf.bytes = 24 := by kernel_rfl
theorem h27 : (tv 27).hasZ = true := by kernel_rfl
theorem z27 : (tv 27).zc = [.slice none 0 0] := by kernel_rfl
theorem ti28 : ti tb 28 = some (tv 28) := ti_tv (by kernel_rfl)
theorem g28 : (tv 28).agg = false := by kernel_rfl
theorem s28 : (tv 28).inf.size = 1 := by kernel_rfl
theorem y28 : (tv 28).inf.bytes = 8 := by kernel_rfl
theorem h28 : (tv 28).hasZ = true := by kernel_rfl
theorem z28 : (tv 28).zc = [.nilFunc] := by kernel_rfl
theorem ti29 : ti tb 29 = some (tv 29) := ti_tv (by kernel_rfl)
theorem d29 : (tv 29).d = .slice 5 := by kernel_rfl
theorem g29 : (tv 29).agg = false := by kernel_rfl
theorem s29 : (tv 29).inf.size = 1 := by kernel_rfl
theorem y29 : (tv 29).inf.bytes = 24 := by kernel_rfl
theorem h29 : (tv 29).hasZ = true := by kernel_rfl
theorem z29 : (tv 29).zc = [.slice none 0 0] := by kernel_rfl
theorem ti30 : ti tb 30 = some (tv 30) := ti_tv (by kernel_rfl)
theorem g30 : (tv 30).agg = false := by kernel_rfl
theorem s30 : (tv 30).inf.size = 1 := by kernel_rfl
theorem y30 : (tv 30).inf.bytes = 8 := by kernel_rfl
theorem h30 : (tv 30).hasZ = true := by kernel_rfl
theorem z30 : (tv 30).zc = [.nilFunc] := by kernel_rfl
theorem ti31 : ti tb 31 = some (tv 31) := ti_tv (by kernel_rfl)
theorem d31 : (tv 31).d = .struct (fsv 31) := by kernel_rfl
theorem g31 : (tv 31).agg = true := by kernel_rfl
theorem s31 : (tv 31).inf.size = 2 := by kernel_rfl
theorem y31 : (tv 31).inf.bytes = 16 := by kernel_rfl
theorem h31 : (tv 31).hasZ = true := by kernel_rfl
theorem z31 : (tv 31).zc = [.int .i64 0, .int .i64 0] := by kernel_rfl
theorem f31 : (tv 31).flds = [(0, 1, 3, false), (1, 1, 3, false)] := by kernel_rfl
theorem ti32 : ti tb 32 = some (tv 32) := ti_tv (by kernel_rfl)
theorem d32 : (tv 32).d = .struct (fsv 32) := by kernel_rfl
theorem g32 : (tv 32).agg = true := by kernel_rfl
theorem s32 : (tv 32).inf.size = 2 := by kernel_rfl
theorem y32 : (tv 32).inf.bytes = 16 := by kernel_rfl
theorem h32 : (tv 32).hasZ = true := by kernel_rfl
theorem z32 : (tv 32).zc = [.int .i64 0, .int .i64 0] := by kernel_rfl
theorem f32 : (tv 32).flds = [(0, 1, 3, false), (1, 1, 3, false)] := by kernel_rfl
theorem ti33 : ti tb 33 = some (tv 33) := ti_tv (by kernel_rfl)
theorem d33 : (tv 33).d = .int .u32 := by kernel_rfl
theorem g33 : (tv 33).agg = false := by kernel_rfl
theorem s33 : (tv 33).inf.size = 1 := by kernel_rfl
theorem y33 : (tv 33).inf.bytes = 4 := by kernel_rfl
theorem h33 : (tv 33).hasZ = true := by kernel_rfl
theorem z33 : (tv 33).zc = [.int .u32 0] := by kernel_rfl
theorem ti34 : ti tb 34 = some (tv 34) := ti_tv (by kernel_rfl)
theorem d34 : (tv 34).d = .slice 3 := by kernel_rfl
theorem g34 : (tv 34).agg = false := by kernel_rfl
theorem s34 : (tv 34).inf.size = 1 := by kernel_rfl
theorem y34 : (tv 34).inf.bytes = 24 := by kernel_rfl
theorem h34 : (tv 34).hasZ = true := by kernel_rfl
theorem z34 : (tv 34).zc = [.slice none 0 0] := by kernel_rfl
theorem ti35 : ti tb 35 = some (tv 35) := ti_tv (by kernel_rfl)
theorem d35 : (tv 35).d = .struct (fsv 35) := by kernel_rfl
theorem g35 : (tv 35).agg = true := by kernel_rfl
theorem s35 : (tv 35).inf.size = 17 := by kernel_rfl
theorem y35 : (tv 35).inf.bytes = 168 := by kernel_rfl
theorem h35 : (tv 35).hasZ = true := by kernel_rfl
theorem z35 : (tv 35).zc = [.int .i64 0, .int .i64 0, .int .i64 0, .int .u64 0, .int .u64 0, .slice none 0 0, .int .u64 0, .int .i64 0, .int .i64 0, .int .i64 0, .int .i64 0, .int .i64 0, .int .u32 0, .int .u64 0, .slice none 0 0, .int .i64 0, .int .u64 0] := by kernel_rfl
theorem f35 : (tv 35).flds = [(0, 1, 3, false), (1, 1, 3, false), (2, 1, 3, false), (3, 1, 22, false), (4, 1, 22, false), (5, 1, 29, false), (6, 1, 22, false), (7, 2, 32, false), (9, 1, 3, false), (10, 1, 3, false), (11, 1, 3, false), (12, 1, 33, false), (13, 1, 22, false), (14, 1, 34, false), (15, 1, 3, false), (16, 1, 22, false)] := by kernel_rfl
theorem ti36 : ti tb 36 = some (tv 36) := ti_tv (by kernel_rfl)
theorem d36 : (tv 36).d = .struct (fsv 36) := by kernel_rfl
theorem g36 : (tv 36).agg = true := by kernel_rfl
theorem s36 : (tv 36).inf.size = 17 := by kernel_rfl
theorem y36 : (tv 36).inf.bytes = 168 := by kernel_rfl
theorem h36 : (tv 36).hasZ = true := by kernel_rfl
theorem z36 : (tv 36).zc = [.int .i64 0, .int .i64 0, .int .i64 0, .int .u64 0, .int .u64 0, .slice none 0 0, .int .u64 0, .int .i64 0, .int .i64 0, .int .i64 0, .int .i64 0, .int .i64 0, .int .u32 0, .int .u64 0, .slice none 0 0, .int .i64 0, .int .u64 0] := by kernel_rfl
theorem f36 : (tv 36).flds = [(0, 1, 3, false), (1, 1, 3, false), (2, 1, 3, false), (3, 1, 22, false), (4, 1, 22, false), (5, 1, 29, false), (6, 1, 22, false), (7, 2, 32, false), (9, 1, 3, false), (10, 1, 3, false), (11, 1, 3, false), (12, 1, 33, false), (13, 1, 22, false), (14, 1, 34, false), (15, 1, 3, false), (16, 1, 22, false)] := by kernel_rfl
theorem ti37 : ti tb 37 = some (tv 37) := ti_tv (by kernel_rfl)
theorem g37 : (tv 37).agg = false := by kernel_rfl
theorem s37 : (tv 37).inf.size = 1 := by kernel_rfl
theorem y37 : (tv 37).inf.bytes = 8 := by kernel_rfl
theorem h37 : (tv 37).hasZ = true := by kernel_rfl
theorem z37 : (tv 37).zc = [.nilFunc] := by kernel_rfl
theorem ti38 : ti tb 38 = some (tv 38) := ti_tv (by kernel_rfl)
theorem d38 : (tv 38).d = .int .i64 := by kernel_rfl
theorem g38 : (tv 38).agg = false := by kernel_rfl
theorem s38 : (tv 38).inf.size = 1 := by kernel_rfl
theorem y38 : (tv 38).inf.bytes = 8 := by kernel_rfl
theorem h38 : (tv 38).hasZ = true := by kernel_rfl
theorem z38 : (tv 38).zc = [.int .i64 0] := by kernel_rfl
theorem ti39 : ti tb 39 = some (tv 39) := ti_tv (by kernel_rfl)
theorem g39 : (tv 39).agg = false := by kernel_rfl
theorem s39 : (tv 39).inf.size = 1 := by kernel_rfl
theorem y39 : (tv 39).inf.bytes = 0 := by kernel_rfl
theorem h39 : (tv 39).hasZ = false := by kernel_rfl
theorem ti40 : ti tb 40 = some (tv 40) := ti_tv (by kernel_rfl)
theorem g40 : (tv 40).agg = false := by kernel_rfl
theorem s40 : (tv 40).inf.size = 1 := by kernel_rfl
theorem y40 : (tv 40).inf.bytes = 8 := by kernel_rfl
theorem h40 : (tv 40).hasZ = true := by kernel_rfl
theorem z40 : (tv 40).zc = [.nilFunc] := by kernel_rfl
theorem ti41 : ti tb 41 = some (tv 41) := ti_tv (by kernel_rfl)
theorem g41 : (tv 41).agg = false := by kernel_rfl
theorem s41 : (tv 41).inf.size = 1 := by kernel_rfl
theorem y41 : (tv 41).inf.bytes = 0 := by kernel_rfl
theorem h41 : (tv 41).hasZ = false := by kernel_rfl
theorem ti42 : ti tb 42 = some (tv 42) := ti_tv (by kernel_rfl)
theorem g42 : (tv 42).agg = false := by kernel_rfl
theorem s42 : (tv 42).inf.size = 1 := by kernel_rfl
theorem y42 : (tv 42).inf.bytes = 8 := by kernel_rfl
theorem h42 : (tv 42).hasZ = true := by kernel_rfl
theorem z42 : (tv 42).zc = [.nilFunc] := by kernel_rfl
theorem ti43 : ti tb 43 = some (tv 43) := ti_tv (by kernel_rfl)
theorem g43 : (tv 43).agg = false := by kernel_rfl
theorem s43 : (tv 43).inf.size = 1 := by kernel_rfl
theorem y43 : (tv 43).inf.bytes = 8 := by kernel_rfl
theorem h43 : (tv 43).hasZ = true := by kernel_rfl
theorem z43 : (tv 43).zc = [.nilFunc] := by kernel_rfl
theorem ti44 : ti tb 44 = some (tv 44) := ti_tv (by kernel_rfl)
theorem g44 : (tv 44).agg = false := by kernel_rfl
theorem s44 : (tv 44).inf.size = 1 := by kernel_rfl
theorem y44 : (tv 44).inf.bytes = 8 := by kernel_rfl
theorem h44 : (tv 44).hasZ = true := by kernel_rfl
theorem z44 : (tv 44).zc = [.nilFunc] := by kernel_rfl
theorem ti45 : ti tb 45 = some (tv 45) := ti_tv (by kernel_rfl)
theorem g45 : (tv 45).agg = false := by kernel_rfl
theorem s45 : (tv 45).inf.size = 1 := by kernel_rfl
theorem y45 : (tv 45).inf.bytes = 8 := by kernel_rfl
theorem h45 : (tv 45).hasZ = true := by kernel_rfl
theorem z45 : (tv 45).zc = [.nilFunc] := by kernel_rfl
theorem ti46 : ti tb 46 = some (tv 46) := ti_tv (by kernel_rfl)
theorem g46 : (tv 46).agg = false := by kernel_rfl
theorem s46 : (tv 46).inf.size = 1 := by kernel_rfl
theorem y46 : (tv 46).inf.bytes = 8 := by kernel_rfl
theorem h46 : (tv 46).hasZ = true := by kernel_rfl
theorem z46 : (tv 46).zc = [.nilFunc] := by kernel_rfl
theorem ti47 : ti tb 47 = some (tv 47) := ti_tv (by kernel_rfl)
theorem g47 : (tv 47).agg = false := by kernel_rfl
theorem s47 : (tv 47).inf.size = 1 := by kernel_rfl
theorem y47 : (tv 47).inf.bytes = 8 := by kernel_rfl
theorem h47 : (tv 47).hasZ = true := by kernel_rfl
theorem z47 : (tv 47).zc = [.nilFunc] := by kernel_rfl
theorem ti48 : ti tb 48 = some (tv 48) := ti_tv (by kernel_rfl)
theorem g48 : (tv 48).agg = false := by kernel_rfl
theorem s48 : (tv 48).inf.size = 1 := by kernel_rfl
theorem y48 : (tv 48).inf.bytes = 0 := by kernel_rfl
theorem h48 : (tv 48).hasZ = false := by kernel_rfl
theorem ti49 : ti tb 49 = some (tv 49) := ti_tv (by kernel_rfl)
theorem g49 : (tv 49).agg = false := by kernel_rfl
theorem s49 : (tv 49).inf.size = 1 := by kernel_rfl
theorem y49 : (tv 49).inf.bytes = 8 := by kernel_rfl
theorem h49 : (tv 49).hasZ = true := by kernel_rfl
theorem z49 : (tv 49).zc = [.nilFunc] := by kernel_rfl
theorem ti50 : ti tb 50 = some (tv 50) := ti_tv (by kernel_rfl)
theorem g50 : (tv 50).agg = false := by kernel_rfl
theorem s50 : (tv 50).inf.size = 1 := by kernel_rfl
theorem y50 : (tv 50).inf.bytes = 0 := by kernel_rfl
theorem h50 : (tv 50).hasZ = false := by kernel_rfl
theorem ti51 : ti tb 51 = some (tv 51) := ti_tv (by kernel_rfl)
theorem g51 : (tv 51).agg = false := by kernel_rfl
theorem s51 : (tv 51).inf.size = 1 := by kernel_rfl
theorem y51 : (tv 51).inf.bytes = 8 := by kernel_rfl
theorem h51 : (tv 51).hasZ = true := by kernel_rfl
theorem z51 : (tv 51).zc = [.nilFunc] := by kernel_rfl
theorem ti52 : ti tb 52 = some (tv 52) := ti_tv (by kernel_rfl)
theorem g52 : (tv 52).agg = false := by kernel_rfl
theorem s52 : (tv 52).inf.size = 1 := by kernel_rfl
theorem y52 : (tv 52).inf.bytes = 8 := by kernel_rfl
theorem h52 : (tv 52).hasZ = true := by kernel_rfl
theorem z52 : (tv 52).zc = [.nilFunc] := by kernel_rfl
theorem ti53 : ti tb 53 = some (tv 53) := ti_tv (by kernel_rfl)
theorem g53 : (tv 53).agg = false := by kernel_rfl
theorem s53 : (tv 53).inf.size = 1 := by kernel_rfl
theorem y53 : (tv 53).inf.bytes = 8 := by kernel_rfl
theorem h53 : (tv 53).hasZ = true := by kernel_rfl
theorem z53 : (tv 53).zc = [.nilFunc] := by kernel_rfl
theorem ti54 : ti tb 54 = some (tv 54) := ti_tv (by kernel_rfl)
theorem d54 : (tv 54).d = .slice 9 := by kernel_rfl
theorem g54 : (tv 54).agg = false := by kernel_rfl
theorem s54 : (tv 54).inf.size = 1 := by kernel_rfl
theorem y54 : (tv 54).inf.bytes = 24 := by kernel_rfl
theorem h54 : (tv 54).hasZ = true := by kernel_rfl
theorem z54 : (tv 54).zc = [.slice none 0 0] := by kernel_rfl
theorem ti55 : ti tb 55 = some (tv 55) := ti_tv (by kernel_rfl)
theorem g55 : (tv 55).agg = false := by kernel_rfl
theorem s55 : (tv 55).inf.size = 1 := by kernel_rfl
theorem y55 : (tv 55).inf.bytes = 8 := by kernel_rfl
theorem h55 : (tv 55).hasZ = true := by kernel_rfl
theorem z55 : (tv 55).zc = [.nilFunc] := by kernel_rfl
theorem ti56 : ti tb 56 = some (tv 56) := ti_tv (by kernel_rfl)
theorem d56 : (tv 56).d = .slice 29 := by kernel_rfl
theorem g56 : (tv 56).agg = false := by kernel_rfl
theorem s56 : (tv 56).inf.size = 1 := by kernel_rfl
theorem y56 : (tv 56).inf.bytes = 24 := by kernel_rfl
theorem h56 : (tv 56).hasZ = true := by kernel_rfl
theorem z56 : (tv 56).zc = [.slice none 0 0] := by kernel_rfl
theorem ti57 : ti tb 57 = some (tv 57) := ti_tv (by kernel_rfl)
theorem d57 : (tv 57).d = .slice 34 := by kernel_rfl
theorem g57 : (tv 57).agg = false := by kernel_rfl
theorem s57 : (tv 57).inf.size = 1 := by kernel_rfl
theorem y57 : (tv 57).inf.bytes = 24 := by kernel_rfl
theorem h57 : (tv 57).hasZ = true := by kernel_rfl
theorem z57 : (tv 57).zc = [.slice none 0 0] := by kernel_rfl
theorem ti58 : ti tb 58 = some (tv 58) := ti_tv (by kernel_rfl)
theorem g58 : (tv 58).agg = false := by kernel_rfl
theorem s58 : (tv 58).inf.size = 1 := by kernel_rfl
theorem y58 : (tv 58).inf.bytes = 8 := by kernel_rfl
theorem h58 : (tv 58).hasZ = true := by kernel_rfl
theorem z58 : (tv 58).zc = [.nilFunc] := by kernel_rfl
theorem ti59 : ti tb 59 = some (tv 59) := ti_tv (by kernel_rfl)
theorem g59 : (tv 59).agg = false := by kernel_rfl
theorem s59 : (tv 59).inf.size = 1 := by kernel_rfl
theorem y59 : (tv 59).inf.bytes = 8 := by kernel_rfl
theorem h59 : (tv 59).hasZ = true := by kernel_rfl
theorem z59 : (tv 59).zc = [.nilFunc] := by kernel_rfl
theorem ti60 : ti tb 60 = some (tv 60) := ti_tv (by kernel_rfl)
theorem g60 : (tv 60).agg = false := by kernel_rfl
theorem s60 : (tv 60).inf.size = 1 := by kernel_rfl
theorem y60 : (tv 60).inf.bytes = 8 := by kernel_rfl
theorem h60 : (tv 60).hasZ = true := by kernel_rfl
theorem z60 : (tv 60).zc = [.nilFunc] := by kernel_rfl
theorem ti61 : ti tb 61 = some (tv 61) := ti_tv (by kernel_rfl)
theorem g61 : (tv 61).agg = false := by kernel_rfl
theorem s61 : (tv 61).inf.size = 1 := by kernel_rfl
theorem y61 : (tv 61).inf.bytes = 8 := by kernel_rfl
theorem h61 : (tv 61).hasZ = true := by kernel_rfl
theorem z61 : (tv 61).zc = [.nilFunc] := by kernel_rfl
theorem ti62 : ti tb 62 = some (tv 62) := ti_tv (by kernel_rfl)
theorem d62 : (tv 62).d = .pointer 67 := by kernel_rfl
theorem g62 : (tv 62).agg = false := by kernel_rfl
theorem s62 : (tv 62).inf.size = 1 := by kernel_rfl
theorem y62 : (tv 62).inf.bytes = 8 := by kernel_rfl
theorem h62 : (tv 62).hasZ = true := by kernel_rfl
theorem z62 : (tv 62).zc = [.pointer none] := by kernel_rfl
theorem ti63 : ti tb 63 = some (tv 63) := ti_tv (by kernel_rfl)
theorem d63 : (tv 63).d = .pointer 65 := by kernel_rfl
theorem g63 : (tv 63).agg = false := by kernel_rfl
theorem s63 : (tv 63).inf.size = 1 := by kernel_rfl
theorem y63 : (tv 63).inf.bytes = 8 := by kernel_rfl
theorem h63 : (tv 63).hasZ = true := by kernel_rfl
theorem z63 : (tv 63).zc = [.pointer none] := by kernel_rfl
theorem ti64 : ti tb 64 = some (tv 64) := ti_tv (by kernel_rfl)
theorem d64 : (tv 64).d = .struct (fsv 64) := by kernel_rfl
theorem g64 : (tv 64).agg = true := by kernel_rfl
theorem s64 : (tv 64).inf.size = 2 := by kernel_rfl
theorem y64 : (tv 64).inf.bytes = 32 := by kernel_rfl
theorem h64 : (tv 64).hasZ = true := by kernel_rfl
theorem z64 : (tv 64).zc = [.pointer none, .slice none 0 0] := by kernel_rfl
theorem f64 : (tv 64).flds = [(0, 1, 63, false), (1, 1, 29, false)] := by kernel_rfl
theorem ti65 : ti tb 65 = some (tv 65) := ti_tv (by kernel_rfl)
theorem d65 : (tv 65).d = .struct (fsv 65) := by kernel_rfl
theorem g65 : (tv 65).agg = true := by kernel_rfl
theorem s65 : (tv 65).inf.size = 2 := by kernel_rfl
theorem y65 : (tv 65).inf.bytes = 32 := by kernel_rfl
theorem h65 : (tv 65).hasZ = true := by kernel_rfl
theorem z65 : (tv 65).zc = [.pointer none, .slice none 0 0] := by kernel_rfl
theorem f65 : (tv 65).flds = [(0, 1, 63, false), (1, 1, 29, false)] := by kernel_rfl
theorem ti66 : ti tb 66 = some (tv 66) := ti_tv (by kernel_rfl)
theorem d66 : (tv 66).d = .struct (fsv 66) := by kernel_rfl
theorem g66 : (tv 66).agg = true := by kernel_rfl
theorem s66 : (tv 66).inf.size = 3 := by kernel_rfl
theorem y66 : (tv 66).inf.bytes = 40 := by kernel_rfl
theorem h66 : (tv 66).hasZ = true := by kernel_rfl
theorem z66 : (tv 66).zc = [.pointer none, .slice none 0 0, .bool false] := by kernel_rfl
theorem f66 : (tv 66).flds = [(0, 2, 65, false), (2, 1, 4, false)] := by kernel_rfl
theorem ti67 : ti tb 67 = some (tv 67) := ti_tv (by kernel_rfl)
theorem d67 : (tv 67).d = .struct (fsv 67) := by kernel_rfl
theorem g67 : (tv 67).agg = true := by kernel_rfl
theorem s67 : (tv 67).inf.size = 3 := by kernel_rfl
theorem y67 : (tv 67).inf.bytes = 40 := by kernel_rfl
theorem h67 : (tv 67).hasZ = true := by kernel_rfl
theorem z67 : (tv 67).zc = [.pointer none, .slice none 0 0, .bool false] := by kernel_rfl
theorem f67 : (tv 67).flds = [(0, 2, 65, false), (2, 1, 4, false)] := by kernel_rfl
theorem ti68 : ti tb 68 = some (tv 68) := ti_tv (by kernel_rfl)
theorem g68 : (tv 68).agg = false := by kernel_rfl
theorem s68 : (tv 68).inf.size = 1 := by kernel_rfl
theorem y68 : (tv 68).inf.bytes = 16 := by kernel_rfl
theorem h68 : (tv 68).hasZ = true := by kernel_rfl
theorem z68 : (tv 68).zc = [.nilIface] := by kernel_rfl
theorem ti69 : ti tb 69 = some (tv 69) := ti_tv (by kernel_rfl)
theorem g69 : (tv 69).agg = false := by kernel_rfl
theorem s69 : (tv 69).inf.size = 1 := by kernel_rfl
theorem y69 : (tv 69).inf.bytes = 16 := by kernel_rfl
theorem h69 : (tv 69).hasZ = true := by kernel_rfl
theorem z69 : (tv 69).zc = [.nilIface] := by kernel_rfl
theorem ti70 : ti tb 70 = some (tv 70) := ti_tv (by kernel_rfl)
theorem g70 : (tv 70).agg = false := by kernel_rfl
theorem s70 : (tv 70).inf.size = 1 := by kernel_rfl
theorem y70 : (tv 70).inf.bytes = 0 := by kernel_rfl
theorem h70 : (tv 70).hasZ = false := by kernel_rfl
theorem ti71 : ti tb 71 = some (tv 71) := ti_tv (by kernel_rfl)
theorem g71 : (tv 71).agg = false := by kernel_rfl
theorem s71 : (tv 71).inf.size = 1 := by kernel_rfl
theorem y71 : (tv 71).inf.bytes = 8 := by kernel_rfl
theorem h71 : (tv 71).hasZ = true := by kernel_rfl
theorem z71 : (tv 71).zc = [.nilFunc] := by kernel_rfl
theorem ti72 : ti tb 72 = some (tv 72) := ti_tv (by kernel_rfl)
theorem g72 : (tv 72).agg = false := by kernel_rfl
theorem s72 : (tv 72).inf.size = 1 := by kernel_rfl
theorem y72 : (tv 72).inf.bytes = 8 := by kernel_rfl
theorem h72 : (tv 72).hasZ = true := by kernel_rfl
theorem z72 : (tv 72).zc = [.nilFunc] := by kernel_rfl
theorem ti73 : ti tb 73 = some (tv 73) := ti_tv (by kernel_rfl)
theorem g73 : (tv 73).agg = false := by kernel_rfl
theorem s73 : (tv 73).inf.size = 1 := by kernel_rfl
theorem y73 : (tv 73).inf.bytes = 8 := by kernel_rfl
theorem h73 : (tv 73).hasZ = true := by kernel_rfl
theorem z73 : (tv 73).zc = [.nilFunc] := by kernel_rfl
theorem ti74 : ti tb 74 = some (tv 74) := ti_tv (by kernel_rfl)
theorem g74 : (tv 74).agg = false := by kernel_rfl
theorem s74 : (tv 74).inf.size = 1 := by kernel_rfl
theorem y74 : (tv 74).inf.bytes = 8 := by kernel_rfl
theorem h74 : (tv 74).hasZ = true := by kernel_rfl
theorem z74 : (tv 74).zc = [.nilFunc] := by kernel_rfl
theorem ti75 : ti tb 75 = some (tv 75) := ti_tv (by kernel_rfl)
theorem d75 : (tv 75).d = .slice 80 := by kernel_rfl
theorem g75 : (tv 75).agg = false := by kernel_rfl
theorem s75 : (tv 75).inf.size = 1 := by kernel_rfl
theorem y75 : (tv 75).inf.bytes = 24 := by kernel_rfl
theorem h75 : (tv 75).hasZ = true := by kernel_rfl
theorem z75 : (tv 75).zc = [.slice none 0 0] := by kernel_rfl
theorem ti76 : ti tb 76 = some (tv 76) := ti_tv (by kernel_rfl)
theorem g76 : (tv 76).agg = false := by kernel_rfl
theorem s76 : (tv 76).inf.size = 1 := by kernel_rfl
theorem y76 : (tv 76).inf.bytes = 8 := by kernel_rfl
theorem h76 : (tv 76).hasZ = true := by kernel_rfl
theorem z76 : (tv 76).zc = [.nilFunc] := by kernel_rfl
theorem ti77 : ti tb 77 = some (tv 77) := ti_tv (by kernel_rfl)
theorem g77 : (tv 77).agg = false := by kernel_rfl
theorem s77 : (tv 77).inf.size = 1 := by kernel_rfl
theorem y77 : (tv 77).inf.bytes = 8 := by kernel_rfl
theorem h77 : (tv 77).hasZ = true := by kernel_rfl
theorem z77 : (tv 77).zc = [.nilFunc] := by kernel_rfl
theorem ti78 : ti tb 78 = some (tv 78) := ti_tv (by kernel_rfl)
theorem d78 : (tv 78).d = .slice 84 := by kernel_rfl
theorem g78 : (tv 78).agg = false := by kernel_rfl
theorem s78 : (tv 78).inf.size = 1 := by kernel_rfl
theorem y78 : (tv 78).inf.bytes = 24 := by kernel_rfl
theorem h78 : (tv 78).hasZ = true := by kernel_rfl
theorem z78 : (tv 78).zc = [.slice none 0 0] := by kernel_rfl
theorem ti79 : ti tb 79 = some (tv 79) := ti_tv (by kernel_rfl)
theorem d79 : (tv 79).d = .struct (fsv 79) := by kernel_rfl
theorem g79 : (tv 79).agg = true := by kernel_rfl
theorem s79 : (tv 79).inf.size = 2 := by kernel_rfl
theorem y79 : (tv 79).inf.bytes = 40 := by kernel_rfl
theorem h79 : (tv 79).hasZ = true := by kernel_rfl
theorem z79 : (tv 79).zc = [.string ⟨⟨[]⟩⟩, .slice none 0 0] := by kernel_rfl
theorem f79 : (tv 79).flds = [(0, 1, 9, false), (1, 1, 78, false)] := by kernel_rfl
theorem ti80 : ti tb 80 = some (tv 80) := ti_tv (by kernel_rfl)
theorem d80 : (tv 80).d = .struct (fsv 80) := by kernel_rfl
theorem g80 : (tv 80).agg = true := by kernel_rfl
theorem s80 : (tv 80).inf.size = 2 := by kernel_rfl
theorem y80 : (tv 80).inf.bytes = 40 := by kernel_rfl
theorem h80 : (tv 80).hasZ = true := by kernel_rfl
theorem z80 : (tv 80).zc = [.string ⟨⟨[]⟩⟩, .slice none 0 0] := by kernel_rfl
theorem f80 : (tv 80).flds = [(0, 1, 9, false), (1, 1, 78, false)] := by kernel_rfl
theorem ti81 : ti tb 81 = some (tv 81) := ti_tv (by kernel_rfl)
theorem g81 : (tv 81).agg = false := by kernel_rfl
theorem s81 : (tv 81).inf.size = 1 := by kernel_rfl
theorem y81 : (tv 81).inf.bytes = 8 := by kernel_rfl
theorem h81 : (tv 81).hasZ = true := by kernel_rfl
theorem z81 : (tv 81).zc = [.nilFunc] := by kernel_rfl
theorem ti82 : ti tb 82 = some (tv 82) := ti_tv (by kernel_rfl)
theorem g82 : (tv 82).agg = false := by kernel_rfl
theorem s82 : (tv 82).inf.size = 1 := by kernel_rfl
theorem y82 : (tv 82).inf.bytes = 8 := by kernel_rfl
theorem h82 : (tv 82).hasZ = true := by kernel_rfl
theorem z82 : (tv 82).zc = [.nilFunc] := by kernel_rfl
theorem ti83 : ti tb 83 = some (tv 83) := ti_tv (by kernel_rfl)
theorem d83 : (tv 83).d = .struct (fsv 83) := by kernel_rfl
theorem g83 : (tv 83).agg = true := by kernel_rfl
theorem s83 : (tv 83).inf.size = 2 := by kernel_rfl
theorem y83 : (tv 83).inf.bytes = 16 := by kernel_rfl
theorem h83 : (tv 83).hasZ = true := by kernel_rfl
theorem z83 : (tv 83).zc = [.nilFunc, .nilFunc] := by kernel_rfl
theorem f83 : (tv 83).flds = [(0, 1, 81, false), (1, 1, 82, false)] := by kernel_rfl
theorem ti84 : ti tb 84 = some (tv 84) := ti_tv (by kernel_rfl)
theorem d84 : (tv 84).d = .struct (fsv 84) := by kernel_rfl
theorem g84 : (tv 84).agg = true := by kernel_rfl
theorem s84 : (tv 84).inf.size = 2 := by kernel_rfl
theorem y84 : (tv 84).inf.bytes = 16 := by kernel_rfl
theorem h84 : (tv 84).hasZ = true := by kernel_rfl
theorem z84 : (tv 84).zc = [.nilFunc, .nilFunc] := by kernel_rfl
theorem f84 : (tv 84).flds = [(0, 1, 81, false), (1, 1, 82, false)] := by kernel_rfl
theorem ti85 : ti tb 85 = some (tv 85) := ti_tv (by kernel_rfl)
theorem g85 : (tv 85).agg = false := by kernel_rfl
theorem s85 : (tv 85).inf.size = 1 := by kernel_rfl
theorem y85 : (tv 85).inf.bytes = 8 := by kernel_rfl
theorem h85 : (tv 85).hasZ = true := by kernel_rfl
theorem z85 : (tv 85).zc = [.nilFunc] := by kernel_rfl
theorem ti86 : ti tb 86 = some (tv 86) := ti_tv (by kernel_rfl)
theorem g86 : (tv 86).agg = false := by kernel_rfl
theorem s86 : (tv 86).inf.size = 1 := by kernel_rfl
theorem y86 : (tv 86).inf.bytes = 8 := by kernel_rfl
theorem h86 : (tv 86).hasZ = true := by kernel_rfl
theorem z86 : (tv 86).zc = [.nilFunc] := by kernel_rfl
theorem ti87 : ti tb 87 = some (tv 87) := ti_tv (by kernel_rfl)
theorem d87 : (tv 87).d = .struct (fsv 87) := by kernel_rfl
theorem g87 : (tv 87).agg = true := by kernel_rfl
theorem s87 : (tv 87).inf.size = 4 := by kernel_rfl
theorem y87 : (tv 87).inf.bytes = 48 := by kernel_rfl
theorem h87 : (tv 87).hasZ = true := by kernel_rfl
theorem z87 : (tv 87).zc = [.string ⟨⟨[]⟩⟩, .bool false, .int .i64 0, .string ⟨⟨[]⟩⟩] := by kernel_rfl
theorem f87 : (tv 87).flds = [(0, 1, 9, false), (1, 1, 4, false), (2, 1, 3, false), (3, 1, 9, false)] := by kernel_rfl
theorem ti88 : ti tb 88 = some (tv 88) := ti_tv (by kernel_rfl)
theorem d88 : (tv 88).d = .struct (fsv 88) := by kernel_rfl
theorem g88 : (tv 88).agg = true := by kernel_rfl
theorem s88 : (tv 88).inf.size = 4 := by kernel_rfl
theorem y88 : (tv 88).inf.bytes = 48 := by kernel_rfl
theorem h88 : (tv 88).hasZ = true := by kernel_rfl
theorem z88 : (tv 88).zc = [.string ⟨⟨[]⟩⟩, .bool false, .int .i64 0, .string ⟨⟨[]⟩⟩] := by kernel_rfl
theorem f88 : (tv 88).flds = [(0, 1, 9, false), (1, 1, 4, false), (2, 1, 3, false), (3, 1, 9, false)] := by kernel_rfl
theorem ti89 : ti tb 89 = some (tv 89) := ti_tv (by kernel_rfl)
theorem g89 : (tv 89).agg = false := by kernel_rfl
theorem s89 : (tv 89).inf.size = 1 := by kernel_rfl
theorem y89 : (tv 89).inf.bytes = 0 := by kernel_rfl
theorem h89 : (tv 89).hasZ = false := by kernel_rfl
theorem ti90 : ti tb 90 = some (tv 90) := ti_tv (by kernel_rfl)
theorem g90 : (tv 90).agg = false := by kernel_rfl
theorem s90 : (tv 90).inf.size = 1 := by kernel_rfl
theorem y90 : (tv 90).inf.bytes = 8 := by kernel_rfl
theorem h90 : (tv 90).hasZ = true := by kernel_rfl
theorem z90 : (tv 90).zc = [.nilFunc] := by kernel_rfl
theorem ti91 : ti tb 91 = some (tv 91) := ti_tv (by kernel_rfl)
theorem d91 : (tv 91).d = .pointer 93 := by kernel_rfl
theorem g91 : (tv 91).agg = false := by kernel_rfl
theorem s91 : (tv 91).inf.size = 1 := by kernel_rfl
theorem y91 : (tv 91).inf.bytes = 8 := by kernel_rfl
theorem h91 : (tv 91).hasZ = true := by kernel_rfl
theorem z91 : (tv 91).zc = [.pointer none] := by kernel_rfl
theorem ti92 : ti tb 92 = some (tv 92) := ti_tv (by kernel_rfl)
theorem d92 : (tv 92).d = .struct (fsv 92) := by kernel_rfl
theorem g92 : (tv 92).agg = true := by kernel_rfl
theorem s92 : (tv 92).inf.size = 2 := by kernel_rfl
theorem y92 : (tv 92).inf.bytes = 24 := by kernel_rfl
theorem h92 : (tv 92).hasZ = true := by kernel_rfl
theorem z92 : (tv 92).zc = [.string ⟨⟨[]⟩⟩, .bool false] := by kernel_rfl
theorem f92 : (tv 92).flds = [(0, 1, 9, false), (1, 1, 4, false)] := by kernel_rfl
theorem ti93 : ti tb 93 = some (tv 93) := ti_tv (by kernel_rfl)
theorem d93 : (tv 93).d = .struct (fsv 93) := by kernel_rfl
theorem g93 : (tv 93).agg = true := by kernel_rfl
theorem s93 : (tv 93).inf.size = 2 := by kernel_rfl
theorem y93 : (tv 93).inf.bytes = 24 := by kernel_rfl
theorem h93 : (tv 93).hasZ = true := by kernel_rfl
theorem z93 : (tv 93).zc = [.string ⟨⟨[]⟩⟩, .bool false] := by kernel_rfl
theorem f93 : (tv 93).flds = [(0, 1, 9, false), (1, 1, 4, false)] := by kernel_rfl
theorem ti94 : ti tb 94 = some (tv 94) := ti_tv (by kernel_rfl)
theorem g94 : (tv 94).agg = false := by kernel_rfl
theorem s94 : (tv 94).inf.size = 1 := by kernel_rfl
theorem y94 : (tv 94).inf.bytes = 8 := by kernel_rfl
theorem h94 : (tv 94).hasZ = true := by kernel_rfl
theorem z94 : (tv 94).zc = [.nilFunc] := by kernel_rfl
theorem ti95 : ti tb 95 = some (tv 95) := ti_tv (by kernel_rfl)
theorem g95 : (tv 95).agg = false := by kernel_rfl
theorem s95 : (tv 95).inf.size = 1 := by kernel_rfl
theorem y95 : (tv 95).inf.bytes = 8 := by kernel_rfl
theorem h95 : (tv 95).hasZ = true := by kernel_rfl
theorem z95 : (tv 95).zc = [.nilFunc] := by kernel_rfl
theorem ti96 : ti tb 96 = some (tv 96) := ti_tv (by kernel_rfl)
theorem g96 : (tv 96).agg = false := by kernel_rfl
theorem s96 : (tv 96).inf.size = 1 := by kernel_rfl
theorem y96 : (tv 96).inf.bytes = 8 := by kernel_rfl
theorem h96 : (tv 96).hasZ = true := by kernel_rfl
theorem z96 : (tv 96).zc = [.nilFunc] := by kernel_rfl
theorem ti97 : ti tb 97 = some (tv 97) := ti_tv (by kernel_rfl)
theorem d97 : (tv 97).d = .pointer 99 := by kernel_rfl
theorem g97 : (tv 97).agg = false := by kernel_rfl
theorem s97 : (tv 97).inf.size = 1 := by kernel_rfl
theorem y97 : (tv 97).inf.bytes = 8 := by kernel_rfl
theorem h97 : (tv 97).hasZ = true := by kernel_rfl
theorem z97 : (tv 97).zc = [.pointer none] := by kernel_rfl
theorem ti98 : ti tb 98 = some (tv 98) := ti_tv (by kernel_rfl)
theorem d98 : (tv 98).d = .struct (fsv 98) := by kernel_rfl
theorem g98 : (tv 98).agg = true := by kernel_rfl
theorem s98 : (tv 98).inf.size = 11 := by kernel_rfl
theorem y98 : (tv 98).inf.bytes = 104 := by kernel_rfl
theorem h98 : (tv 98).hasZ = true := by kernel_rfl
theorem z98 : (tv 98).zc = [.int .i64 0, .int .u64 0, .int .u64 0, .int .i64 0, .int .i64 0, .int .i64 0, .int .i64 0, .int .i64 0, .int .u64 0, .slice none 0 0, .bool false] := by kernel_rfl
theorem f98 : (tv 98).flds = [(0, 9, 26, false), (9, 1, 27, false), (10, 1, 4, false)] := by kernel_rfl
theorem ti99 : ti tb 99 = some (tv 99) := ti_tv (by kernel_rfl)
theorem d99 : (tv 99).d = .struct (fsv 99) := by kernel_rfl
theorem g99 : (tv 99).agg = true := by kernel_rfl
theorem s99 : (tv 99).inf.size = 11 := by kernel_rfl
theorem y99 : (tv 99).inf.bytes = 104 := by kernel_rfl
theorem h99 : (tv 99).hasZ = true := by kernel_rfl
theorem z99 : (tv 99).zc = [.int .i64 0, .int .u64 0, .int .u64 0, .int .i64 0, .int .i64 0, .int .i64 0, .int .i64 0, .int .i64 0, .int .u64 0, .slice none 0 0, .bool false] := by kernel_rfl
theorem f99 : (tv 99).flds = [(0, 9, 26, false), (9, 1, 27, false), (10, 1, 4, false)] := by kernel_rfl
theorem ti100 : ti tb 100 = some (tv 100) := ti_tv (by kernel_rfl)
theorem g100 : (tv 100).agg = false := by kernel_rfl
theorem s100 : (tv 100).inf.size = 1 := by kernel_rfl
theorem y100 : (tv 100).inf.bytes = 8 := by kernel_rfl
theorem h100 : (tv 100).hasZ = true := by kernel_rfl
theorem z100 : (tv 100).zc = [.nilFunc] := by kernel_rfl
theorem ti101 : ti tb 101 = some (tv 101) := ti_tv (by kernel_rfl)
theorem g101 : (tv 101).agg = false := by kernel_rfl
theorem s101 : (tv 101).inf.size = 1 := by kernel_rfl
theorem y101 : (tv 101).inf.bytes = 8 := by kernel_rfl
theorem h101 : (tv 101).hasZ = true := by kernel_rfl
theorem z101 : (tv 101).zc = [.nilFunc] := by kernel_rfl
theorem ti102 : ti tb 102 = some (tv 102) := ti_tv (by kernel_rfl)
theorem g102 : (tv 102).agg = false := by kernel_rfl
theorem s102 : (tv 102).inf.size = 1 := by kernel_rfl
theorem y102 : (tv 102).inf.bytes = 8 := by kernel_rfl
theorem h102 : (tv 102).hasZ = true := by kernel_rfl
theorem z102 : (tv 102).zc = [.nilFunc] := by kernel_rfl
theorem ti103 : ti tb 103 = some (tv 103) := ti_tv (by kernel_rfl)
theorem g103 : (tv 103).agg = false := by kernel_rfl
theorem s103 : (tv 103).inf.size = 1 := by kernel_rfl
theorem y103 : (tv 103).inf.bytes = 8 := by kernel_rfl
theorem h103 : (tv 103).hasZ = true := by kernel_rfl
theorem z103 : (tv 103).zc = [.nilFunc] := by kernel_rfl
theorem ti104 : ti tb 104 = some (tv 104) := ti_tv (by kernel_rfl)
theorem d104 : (tv 104).d = .struct (fsv 104) := by kernel_rfl
theorem g104 : (tv 104).agg = true := by kernel_rfl
theorem s104 : (tv 104).inf.size = 28 := by kernel_rfl
theorem y104 : (tv 104).inf.bytes = 248 := by kernel_rfl
theorem h104 : (tv 104).hasZ = true := by kernel_rfl
theorem z104 : (tv 104).zc = [.bool false, .bool false, .int .i64 0, .int .u64 0, .int .u64 0, .int .i64 0, .int .i64 0, .int .i64 0, .int .i64 0, .int .i64 0, .int .u64 0, .int .i64 0, .int .i64 0, .int .i64 0, .int .u64 0, .int .u64 0, .slice none 0 0, .int .u64 0, .int .i64 0, .int .i64 0, .int .i64 0, .int .i64 0, .int .i64 0, .int .u32 0, .int .u64 0, .slice none 0 0, .int .i64 0, .int .u64 0] := by kernel_rfl
theorem f104 : (tv 104).flds = [(0, 1, 4, false), (1, 1, 4, false), (2, 9, 26, false), (11, 17, 36, false)] := by kernel_rfl
theorem ti105 : ti tb 105 = some (tv 105) := ti_tv (by kernel_rfl)
theorem d105 : (tv 105).d = .struct (fsv 105) := by kernel_rfl
theorem g105 : (tv 105).agg = true := by kernel_rfl
theorem s105 : (tv 105).inf.size = 28 := by kernel_rfl
theorem y105 : (tv 105).inf.bytes = 248 := by kernel_rfl
theorem h105 : (tv 105).hasZ = true := by kernel_rfl
theorem z105 : (tv 105).zc = [.bool false, .bool false, .int .i64 0, .int .u64 0, .int .u64 0, .int .i64 0, .int .i64 0, .int .i64 0, .int .i64 0, .int .i64 0, .int .u64 0, .int .i64 0, .int .i64 0, .int .i64 0, .int .u64 0, .int .u64 0, .slice none 0 0, .int .u64 0, .int .i64 0, .int .i64 0, .int .i64 0, .int .i64 0, .int .i64 0, .int .u32 0, .int .u64 0, .slice none 0 0, .int .i64 0, .int .u64 0] := by kernel_rfl
theorem f105 : (tv 105).flds = [(0, 1, 4, false), (1, 1, 4, false), (2, 9, 26, false), (11, 17, 36, false)] := by kernel_rfl
theorem ti106 : ti tb 106 = some (tv 106) := ti_tv (by kernel_rfl)
theorem g106 : (tv 106).agg = false := by kernel_rfl
theorem s106 : (tv 106).inf.size = 1 := by kernel_rfl
theorem y106 : (tv 106).inf.bytes = 0 := by kernel_rfl
theorem h106 : (tv 106).hasZ = false := by kernel_rfl
theorem ti107 : ti tb 107 = some (tv 107) := ti_tv (by kernel_rfl)
theorem g107 : (tv 107).agg = false := by kernel_rfl
theorem s107 : (tv 107).inf.size = 1 := by kernel_rfl
theorem y107 : (tv 107).inf.bytes = 8 := by kernel_rfl
theorem h107 : (tv 107).hasZ = true := by kernel_rfl
theorem z107 : (tv 107).zc = [.nilFunc] := by kernel_rfl
theorem ti108 : ti tb 108 = some (tv 108) := ti_tv (by kernel_rfl)
theorem g108 : (tv 108).agg = false := by kernel_rfl
theorem s108 : (tv 108).inf.size = 1 := by kernel_rfl
theorem y108 : (tv 108).inf.bytes = 8 := by kernel_rfl
theorem h108 : (tv 108).hasZ = true := by kernel_rfl
theorem z108 : (tv 108).zc = [.nilFunc] := by kernel_rfl
theorem ti109 : ti tb 109 = some (tv 109) := ti_tv (by kernel_rfl)
theorem g109 : (tv 109).agg = false := by kernel_rfl
theorem s109 : (tv 109).inf.size = 1 := by kernel_rfl
theorem y109 : (tv 109).inf.bytes = 8 := by kernel_rfl
theorem h109 : (tv 109).hasZ = true := by kernel_rfl
theorem z109 : (tv 109).zc = [.nilFunc] := by kernel_rfl
theorem ti110 : ti tb 110 = some (tv 110) := ti_tv (by kernel_rfl)
theorem d110 : (tv 110).d = .slice 27 := by kernel_rfl
theorem g110 : (tv 110).agg = false := by kernel_rfl
theorem s110 : (tv 110).inf.size = 1 := by kernel_rfl
theorem y110 : (tv 110).inf.bytes = 24 := by kernel_rfl
theorem h110 : (tv 110).hasZ = true := by kernel_rfl
theorem z110 : (tv 110).zc = [.slice none 0 0] := by kernel_rfl
theorem ti111 : ti tb 111 = some (tv 111) := ti_tv (by kernel_rfl)
theorem g111 : (tv 111).agg = false := by kernel_rfl
theorem s111 : (tv 111).inf.size = 1 := by kernel_rfl
theorem y111 : (tv 111).inf.bytes = 8 := by kernel_rfl
theorem h111 : (tv 111).hasZ = true := by kernel_rfl
theorem z111 : (tv 111).zc = [.nilFunc] := by kernel_rfl
theorem ti112 : ti tb 112 = some (tv 112) := ti_tv (by kernel_rfl)
theorem g112 : (tv 112).agg = false := by kernel_rfl
theorem s112 : (tv 112).inf.size = 1 := by kernel_rfl
theorem y112 : (tv 112).inf.bytes = 8 := by kernel_rfl
theorem h112 : (tv 112).hasZ = true := by kernel_rfl
theorem z112 : (tv 112).zc = [.nilFunc] := by kernel_rfl
theorem ti113 : ti tb 113 = some (tv 113) := ti_tv (by kernel_rfl)
theorem g113 : (tv 113).agg = false := by kernel_rfl
theorem s113 : (tv 113).inf.size = 1 := by kernel_rfl
theorem y113 : (tv 113).inf.bytes = 8 := by kernel_rfl
theorem h113 : (tv 113).hasZ = true := by kernel_rfl
theorem z113 : (tv 113).zc = [.nilFunc] := by kernel_rfl
theorem ti114 : ti tb 114 = some (tv 114) := ti_tv (by kernel_rfl)
theorem g114 : (tv 114).agg = false := by kernel_rfl
theorem s114 : (tv 114).inf.size = 1 := by kernel_rfl
theorem y114 : (tv 114).inf.bytes = 8 := by kernel_rfl
theorem h114 : (tv 114).hasZ = true := by kernel_rfl
theorem z114 : (tv 114).zc = [.nilFunc] := by kernel_rfl
theorem ti115 : ti tb 115 = some (tv 115) := ti_tv (by kernel_rfl)
theorem g115 : (tv 115).agg = false := by kernel_rfl
theorem s115 : (tv 115).inf.size = 1 := by kernel_rfl
theorem y115 : (tv 115).inf.bytes = 8 := by kernel_rfl
theorem h115 : (tv 115).hasZ = true := by kernel_rfl
theorem z115 : (tv 115).zc = [.nilFunc] := by kernel_rfl
theorem ti116 : ti tb 116 = some (tv 116) := ti_tv (by kernel_rfl)
theorem d116 : (tv 116).d = .pointer 36 := by kernel_rfl
theorem g116 : (tv 116).agg = false := by kernel_rfl
theorem s116 : (tv 116).inf.size = 1 := by kernel_rfl
theorem y116 : (tv 116).inf.bytes = 8 := by kernel_rfl
theorem h116 : (tv 116).hasZ = true := by kernel_rfl
theorem z116 : (tv 116).zc = [.pointer none] := by kernel_rfl
theorem ti117 : ti tb 117 = some (tv 117) := ti_tv (by kernel_rfl)
theorem d117 : (tv 117).d = .pointer 3 := by kernel_rfl
theorem g117 : (tv 117).agg = false := by kernel_rfl
theorem s117 : (tv 117).inf.size = 1 := by kernel_rfl
theorem y117 : (tv 117).inf.bytes = 8 := by kernel_rfl
theorem h117 : (tv 117).hasZ = true := by kernel_rfl
theorem z117 : (tv 117).zc = [.pointer none] := by kernel_rfl
theorem ti118 : ti tb 118 = some (tv 118) := ti_tv (by kernel_rfl)
theorem g118 : (tv 118).agg = false := by kernel_rfl
theorem s118 : (tv 118).inf.size = 1 := by kernel_rfl
theorem y118 : (tv 118).inf.bytes = 8 := by kernel_rfl
theorem h118 : (tv 118).hasZ = true := by kernel_rfl
theorem z118 : (tv 118).zc = [.nilFunc] := by kernel_rfl
theorem ti119 : ti tb 119 = some (tv 119) := ti_tv (by kernel_rfl)
theorem g119 : (tv 119).agg = false := by kernel_rfl
theorem s119 : (tv 119).inf.size = 1 := by kernel_rfl
theorem y119 : (tv 119).inf.bytes = 8 := by kernel_rfl
theorem h119 : (tv 119).hasZ = true := by kernel_rfl
theorem z119 : (tv 119).zc = [.nilFunc] := by kernel_rfl
theorem ti120 : ti tb 120 = some (tv 120) := ti_tv (by kernel_rfl)
theorem d120 : (tv 120).d = .pointer 22 := by kernel_rfl
theorem g120 : (tv 120).agg = false := by kernel_rfl
theorem s120 : (tv 120).inf.size = 1 := by kernel_rfl
theorem y120 : (tv 120).inf.bytes = 8 := by kernel_rfl
theorem h120 : (tv 120).hasZ = true := by kernel_rfl
theorem z120 : (tv 120).zc = [.pointer none] := by kernel_rfl
theorem ti121 : ti tb 121 = some (tv 121) := ti_tv (by kernel_rfl)
theorem g121 : (tv 121).agg = false := by kernel_rfl
theorem s121 : (tv 121).inf.size = 1 := by kernel_rfl
theorem y121 : (tv 121).inf.bytes = 8 := by kernel_rfl
theorem h121 : (tv 121).hasZ = true := by kernel_rfl
theorem z121 : (tv 121).zc = [.nilFunc] := by kernel_rfl
theorem ti122 : ti tb 122 = some (tv 122) := ti_tv (by kernel_rfl)
theorem d122 : (tv 122).d = .pointer 5 := by kernel_rfl
theorem g122 : (tv 122).agg = false := by kernel_rfl
theorem s122 : (tv 122).inf.size = 1 := by kernel_rfl
theorem y122 : (tv 122).inf.bytes = 8 := by kernel_rfl
theorem h122 : (tv 122).hasZ = true := by kernel_rfl
theorem z122 : (tv 122).zc = [.pointer none] := by kernel_rfl
theorem ti123 : ti tb 123 = some (tv 123) := ti_tv (by kernel_rfl)
theorem d123 : (tv 123).d = .slice 88 := by kernel_rfl
theorem g123 : (tv 123).agg = false := by kernel_rfl
theorem s123 : (tv 123).inf.size = 1 := by kernel_rfl
theorem y123 : (tv 123).inf.bytes = 24 := by kernel_rfl
theorem h123 : (tv 123).hasZ = true := by kernel_rfl
theorem z123 : (tv 123).zc = [.slice none 0 0] := by kernel_rfl
theorem ti124 : ti tb 124 = some (tv 124) := ti_tv (by kernel_rfl)
theorem g124 : (tv 124).agg = false := by kernel_rfl
theorem s124 : (tv 124).inf.size = 1 := by kernel_rfl
theorem y124 : (tv 124).inf.bytes = 8 := by kernel_rfl
theorem h124 : (tv 124).hasZ = true := by kernel_rfl
theorem z124 : (tv 124).zc = [.nilFunc] := by kernel_rfl
theorem ti125 : ti tb 125 = some (tv 125) := ti_tv (by kernel_rfl)
theorem g125 : (tv 125).agg = false := by kernel_rfl
theorem s125 : (tv 125).inf.size = 1 := by kernel_rfl
theorem y125 : (tv 125).inf.bytes = 8 := by kernel_rfl
theorem h125 : (tv 125).hasZ = true := by kernel_rfl
theorem z125 : (tv 125).zc = [.nilFunc] := by kernel_rfl
theorem ti126 : ti tb 126 = some (tv 126) := ti_tv (by kernel_rfl)
theorem g126 : (tv 126).agg = false := by kernel_rfl
theorem s126 : (tv 126).inf.size = 1 := by kernel_rfl
theorem y126 : (tv 126).inf.bytes = 8 := by kernel_rfl
theorem h126 : (tv 126).hasZ = true := by kernel_rfl
theorem z126 : (tv 126).zc = [.nilFunc] := by kernel_rfl
theorem ti127 : ti tb 127 = some (tv 127) := ti_tv (by kernel_rfl)
theorem d127 : (tv 127).d = .struct (fsv 127) := by kernel_rfl
theorem g127 : (tv 127).agg = true := by kernel_rfl
theorem s127 : (tv 127).inf.size = 0 := by kernel_rfl
theorem y127 : (tv 127).inf.bytes = 0 := by kernel_rfl
theorem h127 : (tv 127).hasZ = true := by kernel_rfl
theorem z127 : (tv 127).zc = [] := by kernel_rfl
theorem f127 : (tv 127).flds = [] := by kernel_rfl
theorem ti128 : ti tb 128 = some (tv 128) := ti_tv (by kernel_rfl)
theorem d128 : (tv 128).d = .struct (fsv 128) := by kernel_rfl
theorem g128 : (tv 128).agg = true := by kernel_rfl
theorem s128 : (tv 128).inf.size = 0 := by kernel_rfl
theorem y128 : (tv 128).inf.bytes = 0 := by kernel_rfl
theorem h128 : (tv 128).hasZ = true := by kernel_rfl
theorem z128 : (tv 128).zc = [] := by kernel_rfl
theorem f128 : (tv 128).flds = [] := by kernel_rfl
theorem ti129 : ti tb 129 = some (tv 129) := ti_tv (by kernel_rfl)
theorem g129 : (tv 129).agg = false := by kernel_rfl
theorem s129 : (tv 129).inf.size = 1 := by kernel_rfl
theorem y129 : (tv 129).inf.bytes = 0 := by kernel_rfl
theorem h129 : (tv 129).hasZ = false := by kernel_rfl
theorem ti130 : ti tb 130 = some (tv 130) := ti_tv (by kernel_rfl)
theorem d130 : (tv 130).d = .pointer 132 := by kernel_rfl
theorem g130 : (tv 130).agg = false := by kernel_rfl
theorem s130 : (tv 130).inf.size = 1 := by kernel_rfl
theorem y130 : (tv 130).inf.bytes = 8 := by kernel_rfl
theorem h130 : (tv 130).hasZ = true := by kernel_rfl
theorem z130 : (tv 130).zc = [.pointer none] := by kernel_rfl
theorem ti131 : ti tb 131 = some (tv 131) := ti_tv (by kernel_rfl)
theorem d131 : (tv 131).d = .struct (fsv 131) := by kernel_rfl
theorem g131 : (tv 131).agg = true := by kernel_rfl
theorem s131 : (tv 131).inf.size = 1 := by kernel_rfl
theorem y131 : (tv 131).inf.bytes = 24 := by kernel_rfl
theorem h131 : (tv 131).hasZ = true := by kernel_rfl
theorem z131 : (tv 131).zc = [.slice none 0 0] := by kernel_rfl
theorem f131 : (tv 131).flds = [(0, 1, 54, false)] := by kernel_rfl
theorem ti132 : ti tb 132 = some (tv 132) := ti_tv (by kernel_rfl)
theorem d132 : (tv 132).d = .struct (fsv 132) := by kernel_rfl
theorem g132 : (tv 132).agg = true := by kernel_rfl
theorem s132 : (tv 132).inf.size = 1 := by kernel_rfl
theorem y132 : (tv 132).inf.bytes = 24 := by kernel_rfl
theorem h132 : (tv 132).hasZ = true := by kernel_rfl
theorem z132 : (tv 132).zc = [.slice none 0 0] := by kernel_rfl
theorem f132 : (tv 132).flds = [(0, 1, 54, false)] := by kernel_rfl
theorem ti133 : ti tb 133 = some (tv 133) := ti_tv (by kernel_rfl)
theorem g133 : (tv 133).agg = false := by kernel_rfl
theorem s133 : (tv 133).inf.size = 1 := by kernel_rfl
theorem y133 : (tv 133).inf.bytes = 8 := by kernel_rfl
theorem h133 : (tv 133).hasZ = true := by kernel_rfl
theorem z133 : (tv 133).zc = [.nilFunc] := by kernel_rfl
theorem ti134 : ti tb 134 = some (tv 134) := ti_tv (by kernel_rfl)
theorem g134 : (tv 134).agg = false := by kernel_rfl
theorem s134 : (tv 134).inf.size = 1 := by kernel_rfl
theorem y134 : (tv 134).inf.bytes = 8 := by kernel_rfl
theorem h134 : (tv 134).hasZ = true := by kernel_rfl
theorem z134 : (tv 134).zc = [.nilFunc] := by kernel_rfl
theorem ti135 : ti tb 135 = some (tv 135) := ti_tv (by kernel_rfl)
theorem g135 : (tv 135).agg = false := by kernel_rfl
theorem s135 : (tv 135).inf.size = 1 := by kernel_rfl
theorem y135 : (tv 135).inf.bytes = 0 := by kernel_rfl
theorem h135 : (tv 135).hasZ = false := by kernel_rfl
theorem ti136 : ti tb 136 = some (tv 136) := ti_tv (by kernel_rfl)
theorem g136 : (tv 136).agg = false := by kernel_rfl
theorem s136 : (tv 136).inf.size = 1 := by kernel_rfl
theorem y136 : (tv 136).inf.bytes = 8 := by kernel_rfl
theorem h136 : (tv 136).hasZ = true := by kernel_rfl
theorem z136 : (tv 136).zc = [.nilFunc] := by kernel_rfl
theorem ti137 : ti tb 137 = some (tv 137) := ti_tv (by kernel_rfl)
theorem g137 : (tv 137).agg = false := by kernel_rfl
theorem s137 : (tv 137).inf.size = 1 := by kernel_rfl
theorem y137 : (tv 137).inf.bytes = 0 := by kernel_rfl
theorem h137 : (tv 137).hasZ = false := by kernel_rfl
theorem ti138 : ti tb 138 = some (tv 138) := ti_tv (by kernel_rfl)
theorem g138 : (tv 138).agg = false := by kernel_rfl
theorem s138 : (tv 138).inf.size = 1 := by kernel_rfl
theorem y138 : (tv 138).inf.bytes = 8 := by kernel_rfl
theorem h138 : (tv 138).hasZ = true := by kernel_rfl
theorem z138 : (tv 138).zc = [.nilFunc] := by kernel_rfl
theorem ti139 : ti tb 139 = some (tv 139) := ti_tv (by kernel_rfl)
theorem d139 : (tv 139).d = .slice 22 := by kernel_rfl
theorem g139 : (tv 139).agg = false := by kernel_rfl
theorem s139 : (tv 139).inf.size = 1 := by kernel_rfl
theorem y139 : (tv 139).inf.bytes = 24 := by kernel_rfl
theorem h139 : (tv 139).hasZ = true := by kernel_rfl
theorem z139 : (tv 139).zc = [.slice none 0 0] := by kernel_rfl
theorem ti140 : ti tb 140 = some (tv 140) := ti_tv (by kernel_rfl)
theorem d140 : (tv 140).d = .struct (fsv 140) := by kernel_rfl
theorem g140 : (tv 140).agg = true := by kernel_rfl
theorem s140 : (tv 140).inf.size = 4 := by kernel_rfl
theorem y140 : (tv 140).inf.bytes = 80 := by kernel_rfl
theorem h140 : (tv 140).hasZ = true := by kernel_rfl
theorem z140 : (tv 140).zc = [.slice none 0 0, .slice none 0 0, .int .i64 0, .slice none 0 0] := by kernel_rfl
theorem f140 : (tv 140).flds = [(0, 1, 34, false), (1, 1, 139, false), (2, 1, 3, false), (3, 1, 29, false)] := by kernel_rfl
theorem ti141 : ti tb 141 = some (tv 141) := ti_tv (by kernel_rfl)
theorem d141 : (tv 141).d = .struct (fsv 141) := by kernel_rfl
theorem g141 : (tv 141).agg = true := by kernel_rfl
theorem s141 : (tv 141).inf.size = 4 := by kernel_rfl
theorem y141 : (tv 141).inf.bytes = 80 := by kernel_rfl
theorem h141 : (tv 141).hasZ = true := by kernel_rfl
theorem z141 : (tv 141).zc = [.slice none 0 0, .slice none 0 0, .int .i64 0, .slice none 0 0] := by kernel_rfl
theorem f141 : (tv 141).flds = [(0, 1, 34, false), (1, 1, 139, false), (2, 1, 3, false), (3, 1, 29, false)] := by kernel_rfl
theorem ti142 : ti tb 142 = some (tv 142) := ti_tv (by kernel_rfl)
theorem g142 : (tv 142).agg = false := by kernel_rfl
theorem s142 : (tv 142).inf.size = 1 := by kernel_rfl
theorem y142 : (tv 142).inf.bytes = 0 := by kernel_rfl
theorem h142 : (tv 142).hasZ = false := by kernel_rfl
theorem ti143 : ti tb 143 = some (tv 143) := ti_tv (by kernel_rfl)
theorem g143 : (tv 143).agg = false := by kernel_rfl
theorem s143 : (tv 143).inf.size = 1 := by kernel_rfl
theorem y143 : (tv 143).inf.bytes = 8 := by kernel_rfl
theorem h143 : (tv 143).hasZ = true := by kernel_rfl
theorem z143 : (tv 143).zc = [.nilFunc] := by kernel_rfl
theorem ti144 : ti tb 144 = some (tv 144) := ti_tv (by kernel_rfl)
theorem g144 : (tv 144).agg = false := by kernel_rfl
theorem s144 : (tv 144).inf.size = 1 := by kernel_rfl
theorem y144 : (tv 144).inf.bytes = 8 := by kernel_rfl
theorem h144 : (tv 144).hasZ = true := by kernel_rfl
theorem z144 : (tv 144).zc = [.nilFunc] := by kernel_rfl
theorem ti145 : ti tb 145 = some (tv 145) := ti_tv (by kernel_rfl)
theorem d145 : (tv 145).d = .unsafePointer := by kernel_rfl
theorem g145 : (tv 145).agg = false := by kernel_rfl
theorem s145 : (tv 145).inf.size = 1 := by kernel_rfl
theorem y145 : (tv 145).inf.bytes = 8 := by kernel_rfl
theorem h145 : (tv 145).hasZ = true := by kernel_rfl
theorem z145 : (tv 145).zc = [.pointer none] := by kernel_rfl
theorem ti146 : ti tb 146 = some (tv 146) := ti_tv (by kernel_rfl)
theorem g146 : (tv 146).agg = false := by kernel_rfl
theorem s146 : (tv 146).inf.size = 1 := by kernel_rfl
theorem y146 : (tv 146).inf.bytes = 8 := by kernel_rfl
theorem h146 : (tv 146).hasZ = true := by kernel_rfl
theorem z146 : (tv 146).zc = [.nilFunc] := by kernel_rfl
theorem ti147 : ti tb 147 = some (tv 147) := ti_tv (by kernel_rfl)
theorem g147 : (tv 147).agg = false := by kernel_rfl
theorem s147 : (tv 147).inf.size = 1 := by kernel_rfl
theorem y147 : (tv 147).inf.bytes = 8 := by kernel_rfl
theorem h147 : (tv 147).hasZ = true := by kernel_rfl
theorem z147 : (tv 147).zc = [.nilFunc] := by kernel_rfl
theorem ti148 : ti tb 148 = some (tv 148) := ti_tv (by kernel_rfl)
theorem g148 : (tv 148).agg = false := by kernel_rfl
theorem s148 : (tv 148).inf.size = 1 := by kernel_rfl
theorem y148 : (tv 148).inf.bytes = 8 := by kernel_rfl
theorem h148 : (tv 148).hasZ = true := by kernel_rfl
theorem z148 : (tv 148).zc = [.nilFunc] := by kernel_rfl
theorem ti149 : ti tb 149 = some (tv 149) := ti_tv (by kernel_rfl)
theorem d149 : (tv 149).d = .array 3 9 := by kernel_rfl
theorem g149 : (tv 149).agg = true := by kernel_rfl
theorem s149 : (tv 149).inf.size = 3 := by kernel_rfl
theorem y149 : (tv 149).inf.bytes = 48 := by kernel_rfl
theorem h149 : (tv 149).hasZ = true := by kernel_rfl
theorem z149 : (tv 149).zc = [.string ⟨⟨[]⟩⟩, .string ⟨⟨[]⟩⟩, .string ⟨⟨[]⟩⟩] := by kernel_rfl
theorem ti150 : ti tb 150 = some (tv 150) := ti_tv (by kernel_rfl)
theorem g150 : (tv 150).agg = false := by kernel_rfl
theorem s150 : (tv 150).inf.size = 1 := by kernel_rfl
theorem y150 : (tv 150).inf.bytes = 8 := by kernel_rfl
theorem h150 : (tv 150).hasZ = true := by kernel_rfl
theorem z150 : (tv 150).zc = [.nilFunc] := by kernel_rfl
end Ty
theorem vwO_zeroI (e : TypeId) (n : Nat) (z : List Value) : vwO (zeroObj e n z) = if n = z.length then some ⟨true, e, false, z⟩ else vwX (zeroObj e n z) := by
  split
  · rename_i h; subst h; exact vwO_zero1 e z
  · rfl
def isRow : Option Vw → Bool
  | some _ => true
  | none => false
theorem isRow_some (v : Vw) : isRow (some v) = true := _root_.id rfl
theorem o_loadC {tb : Tabs} {m : Mem} (t : TypeId) (b o : Nat) (s : Option Nat) (h : isRow (vw m b) = true) : opLoad tb t m (.pointer (some ⟨b, o, s⟩)) = ldW tb t m b o s (ti tb t) (vw m b) := o_loadW t b o s
attribute [simp] o_loadC isRow_some o_storeW
attribute [simp] wpR_cons wpG_true wpG_false wpS_r wpS_f wpS_e wpS_c wpR_nil dB_some dB_none wX_no wX_on isB_bool setSl_some setSl_none oR_some oE_some nil_ptr pick_bool oB_some'
  gx_c0 gx_cs gx_set gx_set_ne evL_tmp' evL_const evL_func evL_global evsL_nil evsL_cons evPL_nil evPL_cons evOL_none evOL_some o_move o_assign o_pick o_alloc o_box o_build o_buildSlice o_load o_store o_nilCheck o_binOp o_unOp o_convert o_makeInterface o_makeFunc o_makeSlice o_slice o_fieldAddr o_field o_indexAddr o_index o_typeAssert o_extract o_callV o_callB o_defer o_panic
  b_add b_sub b_mul b_eql b_neq b_lss b_gtr b_leq b_geq b_beql b_bneq u_not u_neg endX_ret endX_normal endX_pan thenA_normal thenA_jump thenA_pan blockA_normal blockA_pan blockA_ret blockA_exit retR_ret retR_pan resX_nil resX_one resX_two wpCallX_call wpCallX_panic
  ldW_some stW_some ia_slice ia_str ia_agg cv_int lo_nil lo_cons T.get_setL T.get_lf b_shr b_and bound_eq len_slice len_str sl_W slW_some sl_nil sl_str
  fi_W fiW_some fi_nil fi_str at_W atW_some ap_none ap_first' growM_next vw_growM
  ble_d blt_d beq_d
  dStrip stripG bindOn gNames tmpsOf Region.binds Op.operands Call.operands
  dPass_nil dPass_cons dBl_true dBl_false dGd_false dGd_true dSt_r dSt_f dSt_e dSt_c dNext_nil dNext_cons dNx_e dNx_c wpD_succ anyIn memL dDeps dMask dAlone dRecheck dCheck dCheckK vEq_b vEq_i vEq_s vEq_p0 vEq_p vEq_l vEq_t vEqL isPure
  opBuiltin appendA appended lenOfA opAlloc opBuildSlice fillA cellsOfV fieldAddrA oBound bounds3 slStr slExt addIf addA ldV next_newObjA next_putObj stM_next vw_new vw_put vwO_rowObj vwO_zeroI vwO_lf vwO_setL updL_some repl takeN_zero takeN_c0 takeN_cs takeN_self spl stOk u8s_length one_u8s i64s_length one_i64s oneC buildA fieldA partA placeS opMkIface isIface ptr0
open Ty in
attribute [simp] ti0 g0 s0 y0 h0 ti1 g1 s1 y1 h1 z1 ti2 d2 g2 s2 y2 h2 z2 ti3 d3 g3 s3 y3 h3 z3 ti4 d4 g4 s4 y4 h4 z4 ti5 d5 g5 s5 y5 h5 z5 ti6 d6 g6 s6 y6 h6 z6 ti7 d7 g7 s7 y7 h7 z7 f7 ti8 d8 g8 s8 y8 h8 z8 f8 ti9 d9 g9 s9 y9 h9 z9 ti10 d10 g10 s10 y10 h10 z10 ti11 d11 g11 s11 y11 h11 z11 ti12 d12 g12 s12 y12 h12 z12 ti13 d13 g13 s13 y13 h13 z13 f13 ti14 d14 g14 s14 y14 h14 z14 f14 ti15 d15 g15 s15 y15 h15 z15 ti16 d16 g16 s16 y16 h16 z16 ti17 d17 g17 s17 y17 h17 z17 ti18 d18 g18 s18 y18 h18 z18 f18 ti19 d19 g19 s19 y19 h19 z19 f19 ti20 g20 s20 y20 h20 z20 ti21 d21 g21 s21 y21 h21 z21 ti22 d22 g22 s22 y22 h22 z22 ti23 d23 g23 s23 y23 h23 z23 f23 ti24 d24 g24 s24 y24 h24 z24 f24 ti25 d25 g25 s25 y25 h25 z25 f25 ti26 d26 g26 s26 y26 h26 z26 f26 ti27 d27 g27 s27 y27 h27 z27 ti28 g28 s28 y28 h28 z28 ti29 d29 g29 s29 y29 h29 z29 ti30 g30 s30 y30 h30 z30 ti31 d31 g31 s31 y31 h31 z31 f31 ti32 d32 g32 s32 y32 h32 z32 f32 ti33 d33 g33 s33 y33 h33 z33 ti34 d34 g34 s34 y34 h34 z34 ti35 d35 g35 s35 y35 h35 z35 f35 ti36 d36 g36 s36 y36 h36 z36 f36 ti37 g37 s37 y37 h37 z37 ti38 d38 g38 s38 y38 h38 z38 ti39 g39 s39 y39 h39 ti40 g40 s40 y40 h40 z40 ti41 g41 s41 y41 h41 ti42 g42 s42 y42 h42 z42 ti43 g43 s43 y43 h43 z43 ti44 g44 s44 y44 h44 z44 ti45 g45 s45 y45 h45 z45 ti46 g46 s46 y46 h46 z46 ti47 g47 s47 y47 h47 z47 ti48 g48 s48 y48 h48 ti49 g49 s49 y49 h49 z49 ti50 g50 s50 y50 h50 ti51 g51 s51 y51 h51 z51 ti52 g52 s52 y52 h52 z52 ti53 g53 s53 y53 h53 z53 ti54 d54 g54 s54 y54 h54 z54 ti55 g55 s55 y55 h55 z55 ti56 d56 g56 s56 y56 h56 z56 ti57 d57 g57 s57 y57 h57 z57 ti58 g58 s58 y58 h58 z58 ti59 g59 s59 y59 h59 z59 ti60 g60 s60 y60 h60 z60 ti61 g61 s61 y61 h61 z61 ti62 d62 g62 s62 y62 h62 z62 ti63 d63 g63 s63 y63 h63 z63 ti64 d64 g64 s64 y64 h64 z64 f64 ti65 d65 g65 s65 y65 h65 z65 f65 ti66 d66 g66 s66 y66 h66 z66 f66 ti67 d67 g67 s67 y67 h67 z67 f67 ti68 g68 s68 y68 h68 z68 ti69 g69 s69 y69 h69 z69 ti70 g70 s70 y70 h70 ti71 g71 s71 y71 h71 z71 ti72 g72 s72 y72 h72 z72 ti73 g73 s73 y73 h73 z73 ti74 g74 s74 y74 h74 z74 ti75 d75 g75 s75 y75 h75 z75 ti76 g76 s76 y76 h76 z76 ti77 g77 s77 y77 h77 z77 ti78 d78 g78 s78 y78 h78 z78 ti79 d79 g79 s79 y79 h79 z79 f79 ti80 d80 g80 s80 y80 h80 z80 f80 ti81 g81 s81 y81 h81 z81 ti82 g82 s82 y82 h82 z82 ti83 d83 g83 s83 y83 h83 z83 f83 ti84 d84 g84 s84 y84 h84 z84 f84 ti85 g85 s85 y85 h85 z85 ti86 g86 s86 y86 h86 z86 ti87 d87 g87 s87 y87 h87 z87 f87 ti88 d88 g88 s88 y88 h88 z88 f88 ti89 g89 s89 y89 h89 ti90 g90 s90 y90 h90 z90 ti91 d91 g91 s91 y91 h91 z91 ti92 d92 g92 s92 y92 h92 z92 f92 ti93 d93 g93 s93 y93 h93 z93 f93 ti94 g94 s94 y94 h94 z94 ti95 g95 s95 y95 h95 z95 ti96 g96 s96 y96 h96 z96 ti97 d97 g97 s97 y97 h97 z97 ti98 d98 g98 s98 y98 h98 z98 f98 ti99 d99 g99 s99 y99 h99 z99 f99 ti100 g100 s100 y100 h100 z100 ti101 g101 s101 y101 h101 z101 ti102 g102 s102 y102 h102 z102 ti103 g103 s103 y103 h103 z103 ti104 d104 g104 s104 y104 h104 z104 f104 ti105 d105 g105 s105 y105 h105 z105 f105 ti106 g106 s106 y106 h106 ti107 g107 s107 y107 h107 z107 ti108 g108 s108 y108 h108 z108 ti109 g109 s109 y109 h109 z109 ti110 d110 g110 s110 y110 h110 z110 ti111 g111 s111 y111 h111 z111 ti112 g112 s112 y112 h112 z112 ti113 g113 s113 y113 h113 z113 ti114 g114 s114 y114 h114 z114 ti115 g115 s115 y115 h115 z115 ti116 d116 g116 s116 y116 h116 z116 ti117 d117 g117 s117 y117 h117 z117 ti118 g118 s118 y118 h118 z118 ti119 g119 s119 y119 h119 z119 ti120 d120 g120 s120 y120 h120 z120 ti121 g121 s121 y121 h121 z121 ti122 d122 g122 s122 y122 h122 z122 ti123 d123 g123 s123 y123 h123 z123 ti124 g124 s124 y124 h124 z124 ti125 g125 s125 y125 h125 z125 ti126 g126 s126 y126 h126 z126 ti127 d127 g127 s127 y127 h127 z127 f127 ti128 d128 g128 s128 y128 h128 z128 f128 ti129 g129 s129 y129 h129 ti130 d130 g130 s130 y130 h130 z130 ti131 d131 g131 s131 y131 h131 z131 f131 ti132 d132 g132 s132 y132 h132 z132 f132 ti133 g133 s133 y133 h133 z133 ti134 g134 s134 y134 h134 z134 ti135 g135 s135 y135 h135 ti136 g136 s136 y136 h136 z136 ti137 g137 s137 y137 h137 ti138 g138 s138 y138 h138 z138 ti139 d139 g139 s139 y139 h139 z139 ti140 d140 g140 s140 y140 h140 z140 f140 ti141 d141 g141 s141 y141 h141 z141 f141 ti142 g142 s142 y142 h142 ti143 g143 s143 y143 h143 z143 ti144 g144 s144 y144 h144 z144 ti145 d145 g145 s145 y145 h145 z145 ti146 g146 s146 y146 h146 z146 ti147 g147 s147 y147 h147 z147 ti148 g148 s148 y148 h148 z148 ti149 d149 g149 s149 y149 h149 z149 ti150 g150 s150 y150 h150 z150
/-- the first slots, and so many more -/
def Sl (k : List Value) (n : Nat) (l : List Value) : Prop := ∃ ts, ts.length = n ∧ l = k ++ ts
theorem Sl.mk {k l : List Value} {n : Nat} (h : l.take k.length = k) (hl : l.length = k.length + n) : Sl k n l := ⟨l.drop k.length, by simp [hl], by conv => lhs; rw [← List.take_append_drop k.length l, h]⟩
theorem xitoa {n : Int} {m : Mem} {ds : List Deferred} {K : Value → List Deferred → Mem → Prop} {PK : List PanicEntry → Mem → Prop} (h0 : -9223372036854775808 ≤ n) (h1 : n ≤ 9223372036854775807) (hp : PowAt m)
    (k : K (.string ⟨⟨Lib.itoa n⟩⟩) ds m) : wpNext tb (callValue tb (.func (.func 31) #[] #[]) [.int .i64 n] m) ds m K PK := by
  have e : callValue tb (.func (.func 31) #[] #[]) [.int .i64 n] m = .over (.string ⟨⟨Lib.itoa n⟩⟩) m := by
    simp only [callValue, invokeA, callF, List.nil_append, List.append_nil, ov_itoa, itoaOv, if_pos (show -9223372036854775808 ≤ n ∧ n ≤ 9223372036854775807 ∧ PowAt m from ⟨h0, h1, hp⟩)]
  rw [e]; exact k
theorem xfmt {n : Int} {m : Mem} {ds : List Deferred} {K : Value → List Deferred → Mem → Prop} {PK : List PanicEntry → Mem → Prop} (h0 : 0 ≤ n) (h1 : n ≤ 18446744073709551615) (hp : PowAt m)
    (k : K (.string ⟨⟨Lib.decDigits n.toNat⟩⟩) ds m) : wpNext tb (callValue tb (.func (.func 48) #[] #[]) [.int .u64 n, .int .i64 10] m) ds m K PK := by
  have e : callValue tb (.func (.func 48) #[] #[]) [.int .u64 n, .int .i64 10] m = .over (.string ⟨⟨Lib.decDigits n.toNat⟩⟩) m := by
    simp only [callValue, invokeA, callF, List.nil_append, List.append_nil, ov_fmt, fmtOv, if_pos (show 0 ≤ n ∧ n ≤ 18446744073709551615 ∧ (10 : Int) = 10 ∧ PowAt m from ⟨h0, h1, rfl, hp⟩)]
  rw [e]; exact k
theorem xclosed {f : FuncId} {v : Value} {rows : List CRow} {m : Mem} {ds : List Deferred} {K : Value → List Deferred → Mem → Prop} {PK : List PanicEntry → Mem → Prop} (hov : tb.ov.get f = some (closedOv v rows)) (hm : 8 ≤ m.next)
    (k : RowsAt rows (layRows m (rows.map (CRow.ren 8 m.next))) m.next → K (renV 8 m.next v) ds (layRows m (rows.map (CRow.ren 8 m.next)))) : wpNext tb (callValue tb (.func (.func f) #[] #[]) [] m) ds m K PK := by
  have hb : Nat.ble 8 m.next = true := by rw [Nat.ble_eq]; exact hm
  have e : callValue tb (.func (.func f) #[] #[]) [] m = .over (renV 8 m.next v) (layRows m (rows.map (CRow.ren 8 m.next))) := by
    simp only [callValue, invokeA, callF, List.nil_append, List.append_nil, hov, closedOv, hb]
  rw [e]; exact k (rowsAt_lay rows m)
end Go.Proofs.YtgmkbdmgifdfeaaGreatDoor
