/- A part of a proof: ScriptOwn. -/
import Derived.Lib.ItoaNum
import Derived.Lib.ParseIntB
import Derived.Shelf.Small.Wraps
import Derived.Shelf.Strings.Search3
import Derived.Test.YtgmkbdmgifdfeaaGreatDoorChecked
import Derived.Test.YtgmkbdmgifdfeaaGreatDoorF13
set_option linter.unusedVariables false
set_option linter.unusedSimpArgs false
namespace Go.Proofs.YtgmkbdmgifdfeaaGreatDoor
open Go Go.Ev
def formsV:Value:=(.slice (some ⟨116,0,none⟩) 23 23)
def formsRows:List CRow:=[
 ⟨84,false,[(.func (.func 83) ⟨[]⟩ ⟨[(.pointer (some ⟨9,0,none⟩))]⟩),(.func (.func 85) ⟨[]⟩ ⟨[(.pointer (some ⟨9,0,none⟩))]⟩)]⟩,
 ⟨118,false,[(.func (.func 82) ⟨[]⟩ ⟨[]⟩)]⟩,
 ⟨84,false,[(.func (.func 83) ⟨[]⟩ ⟨[(.pointer (some ⟨9,0,none⟩))]⟩),(.func (.func 85) ⟨[]⟩ ⟨[(.pointer (some ⟨9,0,none⟩))]⟩)]⟩,
 ⟨118,false,[(.func (.func 51) ⟨[]⟩ ⟨[]⟩)]⟩,
 ⟨84,false,[(.func (.func 83) ⟨[]⟩ ⟨[(.pointer (some ⟨11,0,none⟩))]⟩),(.func (.func 85) ⟨[]⟩ ⟨[(.pointer (some ⟨11,0,none⟩))]⟩)]⟩,
 ⟨118,false,[(.func (.func 52) ⟨[]⟩ ⟨[]⟩)]⟩,
 ⟨84,false,[(.func (.func 83) ⟨[]⟩ ⟨[(.pointer (some ⟨13,0,none⟩))]⟩),(.func (.func 85) ⟨[]⟩ ⟨[(.pointer (some ⟨13,0,none⟩))]⟩)]⟩,
 ⟨84,false,[(.func (.func 83) ⟨[]⟩ ⟨[(.pointer (some ⟨9,0,none⟩))]⟩),(.func (.func 85) ⟨[]⟩ ⟨[(.pointer (some ⟨9,0,none⟩))]⟩),(.func (.func 83) ⟨[]⟩ ⟨[(.pointer (some ⟨11,0,none⟩))]⟩),(.func (.func 85) ⟨[]⟩ ⟨[(.pointer (some ⟨11,0,none⟩))]⟩),(.func (.func 83) ⟨[]⟩ ⟨[(.pointer (some ⟨13,0,none⟩))]⟩),(.func (.func 85) ⟨[]⟩ ⟨[(.pointer (some ⟨13,0,none⟩))]⟩)]⟩,
 ⟨121,false,[(.func (.func 54) ⟨[]⟩ ⟨[]⟩)]⟩,
 ⟨84,false,[(.func (.func 86) ⟨[]⟩ ⟨[(.pointer (some ⟨16,0,none⟩))]⟩),(.func (.func 88) ⟨[]⟩ ⟨[(.pointer (some ⟨16,0,none⟩))]⟩)]⟩,
 ⟨84,false,[(.func (.func 86) ⟨[]⟩ ⟨[(.pointer (some ⟨16,0,none⟩))]⟩),(.func (.func 88) ⟨[]⟩ ⟨[(.pointer (some ⟨16,0,none⟩))]⟩)]⟩,
 ⟨121,false,[(.func (.func 55) ⟨[]⟩ ⟨[]⟩)]⟩,
 ⟨84,false,[(.func (.func 86) ⟨[]⟩ ⟨[(.pointer (some ⟨19,0,none⟩))]⟩),(.func (.func 88) ⟨[]⟩ ⟨[(.pointer (some ⟨19,0,none⟩))]⟩)]⟩,
 ⟨84,false,[(.func (.func 86) ⟨[]⟩ ⟨[(.pointer (some ⟨19,0,none⟩))]⟩),(.func (.func 88) ⟨[]⟩ ⟨[(.pointer (some ⟨19,0,none⟩))]⟩)]⟩,
 ⟨121,false,[(.func (.func 56) ⟨[]⟩ ⟨[]⟩)]⟩,
 ⟨84,false,[(.func (.func 86) ⟨[]⟩ ⟨[(.pointer (some ⟨22,0,none⟩))]⟩),(.func (.func 88) ⟨[]⟩ ⟨[(.pointer (some ⟨22,0,none⟩))]⟩)]⟩,
 ⟨84,false,[(.func (.func 86) ⟨[]⟩ ⟨[(.pointer (some ⟨22,0,none⟩))]⟩),(.func (.func 88) ⟨[]⟩ ⟨[(.pointer (some ⟨22,0,none⟩))]⟩)]⟩,
 ⟨121,false,[(.func (.func 57) ⟨[]⟩ ⟨[]⟩)]⟩,
 ⟨84,false,[(.func (.func 86) ⟨[]⟩ ⟨[(.pointer (some ⟨25,0,none⟩))]⟩),(.func (.func 88) ⟨[]⟩ ⟨[(.pointer (some ⟨25,0,none⟩))]⟩)]⟩,
 ⟨84,false,[(.func (.func 86) ⟨[]⟩ ⟨[(.pointer (some ⟨25,0,none⟩))]⟩),(.func (.func 88) ⟨[]⟩ ⟨[(.pointer (some ⟨25,0,none⟩))]⟩)]⟩,
 ⟨84,false,[(.func (.func 83) ⟨[]⟩ ⟨[(.pointer (some ⟨29,0,none⟩))]⟩),(.func (.func 85) ⟨[]⟩ ⟨[(.pointer (some ⟨29,0,none⟩))]⟩)]⟩,
 ⟨118,false,[(.func (.func 82) ⟨[]⟩ ⟨[]⟩)]⟩,
 ⟨84,false,[(.func (.func 83) ⟨[]⟩ ⟨[(.pointer (some ⟨29,0,none⟩))]⟩),(.func (.func 85) ⟨[]⟩ ⟨[(.pointer (some ⟨29,0,none⟩))]⟩)]⟩,
 ⟨84,false,[(.func (.func 83) ⟨[]⟩ ⟨[(.pointer (some ⟨29,0,none⟩))]⟩),(.func (.func 85) ⟨[]⟩ ⟨[(.pointer (some ⟨29,0,none⟩))]⟩)]⟩,
 ⟨84,false,[(.func (.func 83) ⟨[]⟩ ⟨[(.pointer (some ⟨33,0,none⟩))]⟩),(.func (.func 85) ⟨[]⟩ ⟨[(.pointer (some ⟨33,0,none⟩))]⟩)]⟩,
 ⟨118,false,[(.func (.func 82) ⟨[]⟩ ⟨[]⟩)]⟩,
 ⟨84,false,[(.func (.func 83) ⟨[]⟩ ⟨[(.pointer (some ⟨33,0,none⟩))]⟩),(.func (.func 85) ⟨[]⟩ ⟨[(.pointer (some ⟨33,0,none⟩))]⟩)]⟩,
 ⟨84,false,[(.func (.func 83) ⟨[]⟩ ⟨[(.pointer (some ⟨33,0,none⟩))]⟩),(.func (.func 85) ⟨[]⟩ ⟨[(.pointer (some ⟨33,0,none⟩))]⟩)]⟩,
 ⟨84,false,[(.func (.func 83) ⟨[]⟩ ⟨[(.pointer (some ⟨37,0,none⟩))]⟩),(.func (.func 85) ⟨[]⟩ ⟨[(.pointer (some ⟨37,0,none⟩))]⟩)]⟩,
 ⟨118,false,[(.func (.func 82) ⟨[]⟩ ⟨[]⟩)]⟩,
 ⟨84,false,[(.func (.func 83) ⟨[]⟩ ⟨[(.pointer (some ⟨37,0,none⟩))]⟩),(.func (.func 85) ⟨[]⟩ ⟨[(.pointer (some ⟨37,0,none⟩))]⟩)]⟩,
 ⟨84,false,[(.func (.func 83) ⟨[]⟩ ⟨[(.pointer (some ⟨37,0,none⟩))]⟩),(.func (.func 85) ⟨[]⟩ ⟨[(.pointer (some ⟨37,0,none⟩))]⟩)]⟩,
 ⟨84,false,[(.func (.func 83) ⟨[]⟩ ⟨[(.pointer (some ⟨41,0,none⟩))]⟩),(.func (.func 85) ⟨[]⟩ ⟨[(.pointer (some ⟨41,0,none⟩))]⟩)]⟩,
 ⟨118,false,[(.func (.func 82) ⟨[]⟩ ⟨[]⟩)]⟩,
 ⟨84,false,[(.func (.func 83) ⟨[]⟩ ⟨[(.pointer (some ⟨41,0,none⟩))]⟩),(.func (.func 85) ⟨[]⟩ ⟨[(.pointer (some ⟨41,0,none⟩))]⟩)]⟩,
 ⟨84,false,[(.func (.func 86) ⟨[]⟩ ⟨[(.pointer (some ⟨44,0,none⟩))]⟩),(.func (.func 88) ⟨[]⟩ ⟨[(.pointer (some ⟨44,0,none⟩))]⟩)]⟩,
 ⟨121,false,[(.func (.func 89) ⟨[]⟩ ⟨[]⟩)]⟩,
 ⟨84,false,[(.func (.func 86) ⟨[]⟩ ⟨[(.pointer (some ⟨44,0,none⟩))]⟩),(.func (.func 88) ⟨[]⟩ ⟨[(.pointer (some ⟨44,0,none⟩))]⟩)]⟩,
 ⟨84,false,[(.func (.func 90) ⟨[]⟩ ⟨[]⟩),(.func (.func 92) ⟨[]⟩ ⟨[]⟩)]⟩,
 ⟨84,false,[(.func (.func 83) ⟨[]⟩ ⟨[(.pointer (some ⟨41,0,none⟩))]⟩),(.func (.func 85) ⟨[]⟩ ⟨[(.pointer (some ⟨41,0,none⟩))]⟩),(.func (.func 86) ⟨[]⟩ ⟨[(.pointer (some ⟨44,0,none⟩))]⟩),(.func (.func 88) ⟨[]⟩ ⟨[(.pointer (some ⟨44,0,none⟩))]⟩),(.func (.func 86) ⟨[]⟩ ⟨[(.pointer (some ⟨19,0,none⟩))]⟩),(.func (.func 88) ⟨[]⟩ ⟨[(.pointer (some ⟨19,0,none⟩))]⟩),(.func (.func 90) ⟨[]⟩ ⟨[]⟩),(.func (.func 92) ⟨[]⟩ ⟨[]⟩)]⟩,
 ⟨84,false,[(.func (.func 83) ⟨[]⟩ ⟨[(.pointer (some ⟨49,0,none⟩))]⟩),(.func (.func 85) ⟨[]⟩ ⟨[(.pointer (some ⟨49,0,none⟩))]⟩)]⟩,
 ⟨118,false,[(.func (.func 82) ⟨[]⟩ ⟨[]⟩)]⟩,
 ⟨84,false,[(.func (.func 83) ⟨[]⟩ ⟨[(.pointer (some ⟨49,0,none⟩))]⟩),(.func (.func 85) ⟨[]⟩ ⟨[(.pointer (some ⟨49,0,none⟩))]⟩)]⟩,
 ⟨84,false,[(.func (.func 83) ⟨[]⟩ ⟨[(.pointer (some ⟨49,0,none⟩))]⟩),(.func (.func 85) ⟨[]⟩ ⟨[(.pointer (some ⟨49,0,none⟩))]⟩),(.func (.func 86) ⟨[]⟩ ⟨[(.pointer (some ⟨16,0,none⟩))]⟩),(.func (.func 88) ⟨[]⟩ ⟨[(.pointer (some ⟨16,0,none⟩))]⟩)]⟩,
 ⟨84,false,[(.func (.func 94) ⟨[]⟩ ⟨[]⟩),(.func (.func 96) ⟨[]⟩ ⟨[]⟩)]⟩,
 ⟨84,false,[(.func (.func 83) ⟨[]⟩ ⟨[(.pointer (some ⟨54,0,none⟩))]⟩),(.func (.func 85) ⟨[]⟩ ⟨[(.pointer (some ⟨54,0,none⟩))]⟩)]⟩,
 ⟨118,false,[(.func (.func 97) ⟨[]⟩ ⟨[]⟩)]⟩,
 ⟨84,false,[(.func (.func 83) ⟨[]⟩ ⟨[(.pointer (some ⟨54,0,none⟩))]⟩),(.func (.func 85) ⟨[]⟩ ⟨[(.pointer (some ⟨54,0,none⟩))]⟩)]⟩,
 ⟨84,false,[(.func (.func 94) ⟨[]⟩ ⟨[]⟩),(.func (.func 96) ⟨[]⟩ ⟨[]⟩),(.func (.func 83) ⟨[]⟩ ⟨[(.pointer (some ⟨54,0,none⟩))]⟩),(.func (.func 85) ⟨[]⟩ ⟨[(.pointer (some ⟨54,0,none⟩))]⟩)]⟩,
 ⟨84,false,[(.func (.func 94) ⟨[]⟩ ⟨[]⟩),(.func (.func 96) ⟨[]⟩ ⟨[]⟩)]⟩,
 ⟨84,false,[(.func (.func 83) ⟨[]⟩ ⟨[(.pointer (some ⟨59,0,none⟩))]⟩),(.func (.func 85) ⟨[]⟩ ⟨[(.pointer (some ⟨59,0,none⟩))]⟩)]⟩,
 ⟨118,false,[(.func (.func 97) ⟨[]⟩ ⟨[]⟩)]⟩,
 ⟨84,false,[(.func (.func 83) ⟨[]⟩ ⟨[(.pointer (some ⟨59,0,none⟩))]⟩),(.func (.func 85) ⟨[]⟩ ⟨[(.pointer (some ⟨59,0,none⟩))]⟩)]⟩,
 ⟨84,false,[(.func (.func 94) ⟨[]⟩ ⟨[]⟩),(.func (.func 96) ⟨[]⟩ ⟨[]⟩),(.func (.func 83) ⟨[]⟩ ⟨[(.pointer (some ⟨59,0,none⟩))]⟩),(.func (.func 85) ⟨[]⟩ ⟨[(.pointer (some ⟨59,0,none⟩))]⟩)]⟩,
 ⟨84,false,[(.func (.func 94) ⟨[]⟩ ⟨[]⟩),(.func (.func 96) ⟨[]⟩ ⟨[]⟩)]⟩,
 ⟨84,false,[(.func (.func 83) ⟨[]⟩ ⟨[(.pointer (some ⟨64,0,none⟩))]⟩),(.func (.func 85) ⟨[]⟩ ⟨[(.pointer (some ⟨64,0,none⟩))]⟩)]⟩,
 ⟨118,false,[(.func (.func 97) ⟨[]⟩ ⟨[]⟩)]⟩,
 ⟨84,false,[(.func (.func 83) ⟨[]⟩ ⟨[(.pointer (some ⟨64,0,none⟩))]⟩),(.func (.func 85) ⟨[]⟩ ⟨[(.pointer (some ⟨64,0,none⟩))]⟩)]⟩,
 ⟨84,false,[(.func (.func 94) ⟨[]⟩ ⟨[]⟩),(.func (.func 96) ⟨[]⟩ ⟨[]⟩),(.func (.func 83) ⟨[]⟩ ⟨[(.pointer (some ⟨64,0,none⟩))]⟩),(.func (.func 85) ⟨[]⟩ ⟨[(.pointer (some ⟨64,0,none⟩))]⟩)]⟩,
 ⟨84,false,[(.func (.func 94) ⟨[]⟩ ⟨[]⟩),(.func (.func 96) ⟨[]⟩ ⟨[]⟩)]⟩,
 ⟨84,false,[(.func (.func 83) ⟨[]⟩ ⟨[(.pointer (some ⟨69,0,none⟩))]⟩),(.func (.func 85) ⟨[]⟩ ⟨[(.pointer (some ⟨69,0,none⟩))]⟩)]⟩,
 ⟨118,false,[(.func (.func 97) ⟨[]⟩ ⟨[]⟩)]⟩,
 ⟨84,false,[(.func (.func 83) ⟨[]⟩ ⟨[(.pointer (some ⟨69,0,none⟩))]⟩),(.func (.func 85) ⟨[]⟩ ⟨[(.pointer (some ⟨69,0,none⟩))]⟩)]⟩,
 ⟨84,false,[(.func (.func 83) ⟨[]⟩ ⟨[(.pointer (some ⟨72,0,none⟩))]⟩),(.func (.func 85) ⟨[]⟩ ⟨[(.pointer (some ⟨72,0,none⟩))]⟩)]⟩,
 ⟨118,false,[(.func (.func 98) ⟨[]⟩ ⟨[]⟩)]⟩,
 ⟨84,false,[(.func (.func 83) ⟨[]⟩ ⟨[(.pointer (some ⟨72,0,none⟩))]⟩),(.func (.func 85) ⟨[]⟩ ⟨[(.pointer (some ⟨72,0,none⟩))]⟩)]⟩,
 ⟨84,false,[(.func (.func 99) ⟨[]⟩ ⟨[]⟩),(.func (.func 101) ⟨[]⟩ ⟨[]⟩)]⟩,
 ⟨84,false,[(.func (.func 94) ⟨[]⟩ ⟨[]⟩),(.func (.func 96) ⟨[]⟩ ⟨[]⟩),(.func (.func 83) ⟨[]⟩ ⟨[(.pointer (some ⟨69,0,none⟩))]⟩),(.func (.func 85) ⟨[]⟩ ⟨[(.pointer (some ⟨69,0,none⟩))]⟩),(.func (.func 83) ⟨[]⟩ ⟨[(.pointer (some ⟨72,0,none⟩))]⟩),(.func (.func 85) ⟨[]⟩ ⟨[(.pointer (some ⟨72,0,none⟩))]⟩),(.func (.func 99) ⟨[]⟩ ⟨[]⟩),(.func (.func 101) ⟨[]⟩ ⟨[]⟩)]⟩,
 ⟨84,false,[(.func (.func 83) ⟨[]⟩ ⟨[(.pointer (some ⟨77,0,none⟩))]⟩),(.func (.func 85) ⟨[]⟩ ⟨[(.pointer (some ⟨77,0,none⟩))]⟩)]⟩,
 ⟨118,false,[(.func (.func 98) ⟨[]⟩ ⟨[]⟩)]⟩,
 ⟨84,false,[(.func (.func 83) ⟨[]⟩ ⟨[(.pointer (some ⟨77,0,none⟩))]⟩),(.func (.func 85) ⟨[]⟩ ⟨[(.pointer (some ⟨77,0,none⟩))]⟩)]⟩,
 ⟨84,false,[(.func (.func 83) ⟨[]⟩ ⟨[(.pointer (some ⟨77,0,none⟩))]⟩),(.func (.func 85) ⟨[]⟩ ⟨[(.pointer (some ⟨77,0,none⟩))]⟩)]⟩,
 ⟨84,false,[(.func (.func 102) ⟨[]⟩ ⟨[]⟩),(.func (.func 103) ⟨[]⟩ ⟨[]⟩)]⟩,
 ⟨84,false,[(.func (.func 102) ⟨[]⟩ ⟨[]⟩),(.func (.func 103) ⟨[]⟩ ⟨[]⟩)]⟩,
 ⟨84,false,[(.func (.func 83) ⟨[]⟩ ⟨[(.pointer (some ⟨83,0,none⟩))]⟩),(.func (.func 85) ⟨[]⟩ ⟨[(.pointer (some ⟨83,0,none⟩))]⟩)]⟩,
 ⟨118,false,[(.func (.func 82) ⟨[]⟩ ⟨[]⟩)]⟩,
 ⟨84,false,[(.func (.func 83) ⟨[]⟩ ⟨[(.pointer (some ⟨83,0,none⟩))]⟩),(.func (.func 85) ⟨[]⟩ ⟨[(.pointer (some ⟨83,0,none⟩))]⟩)]⟩,
 ⟨84,false,[(.func (.func 83) ⟨[]⟩ ⟨[(.pointer (some ⟨83,0,none⟩))]⟩),(.func (.func 85) ⟨[]⟩ ⟨[(.pointer (some ⟨83,0,none⟩))]⟩)]⟩,
 ⟨84,false,[(.func (.func 83) ⟨[]⟩ ⟨[(.pointer (some ⟨87,0,none⟩))]⟩),(.func (.func 85) ⟨[]⟩ ⟨[(.pointer (some ⟨87,0,none⟩))]⟩)]⟩,
 ⟨118,false,[(.func (.func 104) ⟨[]⟩ ⟨[]⟩)]⟩,
 ⟨84,false,[(.func (.func 83) ⟨[]⟩ ⟨[(.pointer (some ⟨87,0,none⟩))]⟩),(.func (.func 85) ⟨[]⟩ ⟨[(.pointer (some ⟨87,0,none⟩))]⟩)]⟩,
 ⟨84,false,[(.func (.func 83) ⟨[]⟩ ⟨[(.pointer (some ⟨87,0,none⟩))]⟩),(.func (.func 85) ⟨[]⟩ ⟨[(.pointer (some ⟨87,0,none⟩))]⟩)]⟩,
 ⟨84,false,[(.func (.func 83) ⟨[]⟩ ⟨[(.pointer (some ⟨91,0,none⟩))]⟩),(.func (.func 85) ⟨[]⟩ ⟨[(.pointer (some ⟨91,0,none⟩))]⟩)]⟩,
 ⟨118,false,[(.func (.func 104) ⟨[]⟩ ⟨[]⟩)]⟩,
 ⟨84,false,[(.func (.func 83) ⟨[]⟩ ⟨[(.pointer (some ⟨91,0,none⟩))]⟩),(.func (.func 85) ⟨[]⟩ ⟨[(.pointer (some ⟨91,0,none⟩))]⟩)]⟩,
 ⟨84,false,[(.func (.func 86) ⟨[]⟩ ⟨[(.pointer (some ⟨94,0,none⟩))]⟩),(.func (.func 88) ⟨[]⟩ ⟨[(.pointer (some ⟨94,0,none⟩))]⟩)]⟩,
 ⟨121,false,[(.func (.func 89) ⟨[]⟩ ⟨[]⟩)]⟩,
 ⟨84,false,[(.func (.func 86) ⟨[]⟩ ⟨[(.pointer (some ⟨94,0,none⟩))]⟩),(.func (.func 88) ⟨[]⟩ ⟨[(.pointer (some ⟨94,0,none⟩))]⟩)]⟩,
 ⟨84,false,[(.func (.func 83) ⟨[]⟩ ⟨[(.pointer (some ⟨91,0,none⟩))]⟩),(.func (.func 85) ⟨[]⟩ ⟨[(.pointer (some ⟨91,0,none⟩))]⟩),(.func (.func 86) ⟨[]⟩ ⟨[(.pointer (some ⟨94,0,none⟩))]⟩),(.func (.func 88) ⟨[]⟩ ⟨[(.pointer (some ⟨94,0,none⟩))]⟩)]⟩,
 ⟨84,false,[(.func (.func 83) ⟨[]⟩ ⟨[(.pointer (some ⟨98,0,none⟩))]⟩),(.func (.func 85) ⟨[]⟩ ⟨[(.pointer (some ⟨98,0,none⟩))]⟩)]⟩,
 ⟨118,false,[(.func (.func 104) ⟨[]⟩ ⟨[]⟩)]⟩,
 ⟨84,false,[(.func (.func 83) ⟨[]⟩ ⟨[(.pointer (some ⟨98,0,none⟩))]⟩),(.func (.func 85) ⟨[]⟩ ⟨[(.pointer (some ⟨98,0,none⟩))]⟩)]⟩,
 ⟨84,false,[(.func (.func 83) ⟨[]⟩ ⟨[(.pointer (some ⟨98,0,none⟩))]⟩),(.func (.func 85) ⟨[]⟩ ⟨[(.pointer (some ⟨98,0,none⟩))]⟩)]⟩,
 ⟨84,false,[(.func (.func 83) ⟨[]⟩ ⟨[(.pointer (some ⟨102,0,none⟩))]⟩),(.func (.func 85) ⟨[]⟩ ⟨[(.pointer (some ⟨102,0,none⟩))]⟩)]⟩,
 ⟨118,false,[(.func (.func 104) ⟨[]⟩ ⟨[]⟩)]⟩,
 ⟨84,false,[(.func (.func 83) ⟨[]⟩ ⟨[(.pointer (some ⟨102,0,none⟩))]⟩),(.func (.func 85) ⟨[]⟩ ⟨[(.pointer (some ⟨102,0,none⟩))]⟩)]⟩,
 ⟨84,false,[(.func (.func 83) ⟨[]⟩ ⟨[(.pointer (some ⟨102,0,none⟩))]⟩),(.func (.func 85) ⟨[]⟩ ⟨[(.pointer (some ⟨102,0,none⟩))]⟩)]⟩,
 ⟨84,false,[(.func (.func 83) ⟨[]⟩ ⟨[(.pointer (some ⟨106,0,none⟩))]⟩),(.func (.func 85) ⟨[]⟩ ⟨[(.pointer (some ⟨106,0,none⟩))]⟩)]⟩,
 ⟨118,false,[(.func (.func 104) ⟨[]⟩ ⟨[]⟩)]⟩,
 ⟨84,false,[(.func (.func 83) ⟨[]⟩ ⟨[(.pointer (some ⟨106,0,none⟩))]⟩),(.func (.func 85) ⟨[]⟩ ⟨[(.pointer (some ⟨106,0,none⟩))]⟩)]⟩,
 ⟨84,false,[(.func (.func 83) ⟨[]⟩ ⟨[(.pointer (some ⟨106,0,none⟩))]⟩),(.func (.func 85) ⟨[]⟩ ⟨[(.pointer (some ⟨106,0,none⟩))]⟩)]⟩,
 ⟨84,false,[(.func (.func 83) ⟨[]⟩ ⟨[(.pointer (some ⟨110,0,none⟩))]⟩),(.func (.func 85) ⟨[]⟩ ⟨[(.pointer (some ⟨110,0,none⟩))]⟩)]⟩,
 ⟨118,false,[(.func (.func 82) ⟨[]⟩ ⟨[]⟩)]⟩,
 ⟨84,false,[(.func (.func 83) ⟨[]⟩ ⟨[(.pointer (some ⟨110,0,none⟩))]⟩),(.func (.func 85) ⟨[]⟩ ⟨[(.pointer (some ⟨110,0,none⟩))]⟩)]⟩,
 ⟨84,false,[(.func (.func 86) ⟨[]⟩ ⟨[(.pointer (some ⟨113,0,none⟩))]⟩),(.func (.func 88) ⟨[]⟩ ⟨[(.pointer (some ⟨113,0,none⟩))]⟩)]⟩,
 ⟨121,false,[(.func (.func 89) ⟨[]⟩ ⟨[]⟩)]⟩,
 ⟨84,false,[(.func (.func 86) ⟨[]⟩ ⟨[(.pointer (some ⟨113,0,none⟩))]⟩),(.func (.func 88) ⟨[]⟩ ⟨[(.pointer (some ⟨113,0,none⟩))]⟩)]⟩,
 ⟨84,false,[(.func (.func 83) ⟨[]⟩ ⟨[(.pointer (some ⟨110,0,none⟩))]⟩),(.func (.func 85) ⟨[]⟩ ⟨[(.pointer (some ⟨110,0,none⟩))]⟩),(.func (.func 86) ⟨[]⟩ ⟨[(.pointer (some ⟨113,0,none⟩))]⟩),(.func (.func 88) ⟨[]⟩ ⟨[(.pointer (some ⟨113,0,none⟩))]⟩),(.func (.func 86) ⟨[]⟩ ⟨[(.pointer (some ⟨22,0,none⟩))]⟩),(.func (.func 88) ⟨[]⟩ ⟨[(.pointer (some ⟨22,0,none⟩))]⟩)]⟩,
 ⟨80,false,[(.string ⟨⟨[]⟩⟩),(.slice none 0 0),(.string ⟨⟨[116,105,99,107]⟩⟩),(.slice (some ⟨27,0,none⟩) 1 1),(.string ⟨⟨[108,105,115,116,101,110]⟩⟩),(.slice (some ⟨15,0,none⟩) 3 3),(.string ⟨⟨[117,110,108,105,115,116,101,110]⟩⟩),(.slice (some ⟨31,0,none⟩) 1 1),(.string ⟨⟨[98,101,103,105,110]⟩⟩),(.slice (some ⟨35,0,none⟩) 1 1),(.string ⟨⟨[99,101,97,115,101]⟩⟩),(.slice (some ⟨39,0,none⟩) 1 1),(.string ⟨⟨[115,101,110,100]⟩⟩),(.slice (some ⟨47,0,none⟩) 4 4),(.string ⟨⟨[99,97,110,99,101,108]⟩⟩),(.slice (some ⟨51,0,none⟩) 2 2),(.string ⟨⟨[107,105,99,107]⟩⟩),(.slice none 0 0),(.string ⟨⟨[100,101,108,105,118,101,114]⟩⟩),(.slice (some ⟨56,0,none⟩) 2 2),(.string ⟨⟨[100,114,111,112]⟩⟩),(.slice (some ⟨61,0,none⟩) 2 2),(.string ⟨⟨[100,111,117,98,108,101]⟩⟩),(.slice (some ⟨66,0,none⟩) 2 2),(.string ⟨⟨[116,117,114,110]⟩⟩),(.slice (some ⟨75,0,none⟩) 4 4),(.string ⟨⟨[99,117,116]⟩⟩),(.slice (some ⟨79,0,none⟩) 1 1),(.string ⟨⟨[99,114,97,115,104]⟩⟩),(.slice (some ⟨81,0,none⟩) 1 1),(.string ⟨⟨[114,101,115,116,97,114,116]⟩⟩),(.slice none 0 0),(.string ⟨⟨[99,117,114,115,111,114]⟩⟩),(.slice (some ⟨85,0,none⟩) 1 1),(.string ⟨⟨[99,108,111,115,101]⟩⟩),(.slice (some ⟨89,0,none⟩) 1 1),(.string ⟨⟨[115,101,101,107]⟩⟩),(.slice (some ⟨96,0,none⟩) 2 2),(.string ⟨⟨[110,101,120,116]⟩⟩),(.slice (some ⟨100,0,none⟩) 1 1),(.string ⟨⟨[112,114,101,118]⟩⟩),(.slice (some ⟨104,0,none⟩) 1 1),(.string ⟨⟨[114,101,119,105,110,100]⟩⟩),(.slice (some ⟨108,0,none⟩) 1 1),(.string ⟨⟨[103,97,112,115]⟩⟩),(.slice (some ⟨115,0,none⟩) 3 3)]⟩]
def rrowsV:Value:=(.slice (some ⟨8,0,none⟩) 22 22)
def rrowsRows:List CRow:=[
 ⟨88,false,[(.string ⟨⟨[116,105,99,107]⟩⟩),(.bool false),(.int .i64 1),(.string ⟨⟨[110]⟩⟩),(.string ⟨⟨[108,105,115,116,101,110]⟩⟩),(.bool true),(.int .i64 2),(.string ⟨⟨[105,105,105]⟩⟩),(.string ⟨⟨[117,110,108,105,115,116,101,110]⟩⟩),(.bool true),(.int .i64 3),(.string ⟨⟨[105]⟩⟩),(.string ⟨⟨[98,101,103,105,110]⟩⟩),(.bool true),(.int .i64 4),(.string ⟨⟨[105]⟩⟩),(.string ⟨⟨[99,101,97,115,101]⟩⟩),(.bool true),(.int .i64 5),(.string ⟨⟨[105]⟩⟩),(.string ⟨⟨[115,101,110,100]⟩⟩),(.bool true),(.int .i64 6),(.string ⟨⟨[105,110,110,116]⟩⟩),(.string ⟨⟨[99,97,110,99,101,108]⟩⟩),(.bool true),(.int .i64 7),(.string ⟨⟨[105,110]⟩⟩),(.string ⟨⟨[107,105,99,107]⟩⟩),(.bool true),(.int .i64 8),(.string ⟨⟨[]⟩⟩),(.string ⟨⟨[100,101,108,105,118,101,114]⟩⟩),(.bool true),(.int .i64 9),(.string ⟨⟨[119,105]⟩⟩),(.string ⟨⟨[100,114,111,112]⟩⟩),(.bool true),(.int .i64 10),(.string ⟨⟨[119,105]⟩⟩),(.string ⟨⟨[100,111,117,98,108,101]⟩⟩),(.bool true),(.int .i64 11),(.string ⟨⟨[119,105]⟩⟩),(.string ⟨⟨[116,117,114,110]⟩⟩),(.bool true),(.int .i64 12),(.string ⟨⟨[119,105,105,109]⟩⟩),(.string ⟨⟨[99,117,116]⟩⟩),(.bool true),(.int .i64 13),(.string ⟨⟨[105]⟩⟩),(.string ⟨⟨[99,114,97,115,104]⟩⟩),(.bool true),(.int .i64 14),(.string ⟨⟨[99]⟩⟩),(.string ⟨⟨[114,101,115,116,97,114,116]⟩⟩),(.bool true),(.int .i64 15),(.string ⟨⟨[]⟩⟩),(.string ⟨⟨[99,117,114,115,111,114]⟩⟩),(.bool true),(.int .i64 16),(.string ⟨⟨[105]⟩⟩),(.string ⟨⟨[99,108,111,115,101]⟩⟩),(.bool true),(.int .i64 17),(.string ⟨⟨[105]⟩⟩),(.string ⟨⟨[115,101,101,107]⟩⟩),(.bool true),(.int .i64 18),(.string ⟨⟨[105,110]⟩⟩),(.string ⟨⟨[110,101,120,116]⟩⟩),(.bool true),(.int .i64 19),(.string ⟨⟨[105]⟩⟩),(.string ⟨⟨[112,114,101,118]⟩⟩),(.bool true),(.int .i64 20),(.string ⟨⟨[105]⟩⟩),(.string ⟨⟨[114,101,119,105,110,100]⟩⟩),(.bool true),(.int .i64 21),(.string ⟨⟨[105]⟩⟩),(.string ⟨⟨[103,97,112,115]⟩⟩),(.bool true),(.int .i64 22),(.string ⟨⟨[105,110,110]⟩⟩)]⟩]
def RowsAt (rows:List CRow) (m:Mem) (k:Nat):Prop:=∀ j r,rows[j]? = some r→vw m (k+j)=some ⟨true,r.elem,r.ext,r.cells.map (renV 8 k)⟩
theorem rowsAt_lay (rows:List CRow) (m:Mem):RowsAt rows (layRows m (rows.map (CRow.ren 8 m.next))) m.next:=fun j r h=>by
 have:=layRows_vw m (rows.map (CRow.ren 8 m.next)) (j:=j) (r:=r.ren 8 m.next) (by rw [List.getElem?_map,h];rfl)
 exact this
theorem RowsAt.keep {rows:List CRow} {m m':Mem} {k:Nat} (h:RowsAt rows m k) (hk:∀ x,k≤x→x<k+rows.length→m'.objs.get x=m.objs.get x):RowsAt rows m' k:=fun j r hj=>by
 have hlt:j<rows.length:=(List.getElem?_eq_some_iff.1 hj).1
 have:=h j r hj
 unfold vw at this ⊢
 rw [hk _ (by omega) (by omega)];exact this
end Go.Proofs.YtgmkbdmgifdfeaaGreatDoor

namespace Go.Proofs.YtgmkbdmgifdfeaaGreatDoor
open Go Go.Ev
noncomputable def pow10Cells:List Value:=(List.range 20).map fun i=>.int .u64 ((10 ^ i:Nat):Int)
def PowAt (m:Mem):Prop:=0<m.next∧∃ e,vw m 0=some ⟨false,e,false,pow10Cells⟩
theorem PowAt.old {n:Nat} {m m':Mem} (h:PowAt m) (k:Old n m m') (hn:0<n):PowAt m':=by
 obtain⟨h1,e,h2⟩:=h
 exact⟨Nat.lt_of_lt_of_le h1 k.1,e,by rw [k.vw hn];exact h2⟩
noncomputable def closedOv (v:Value) (rows:List CRow):List Value→Mem→Option (Value × Mem)
 | [],m=>match Nat.ble 8 m.next with|true=>some (renV 8 m.next v,layRows m (rows.map (CRow.ren 8 m.next)))|false=>none
 |_,_=>none
def ErrAt (m:Mem):Prop:=7<m.next∧(∃ e t a,vw m 6=some ⟨false,e,false,[.iface t (.pointer (some a))]⟩)∧∃ e t a,vw m 7=some ⟨false,e,false,[.iface t (.pointer (some a))]⟩
theorem ErrAt.old {n:Nat} {m m':Mem} (h:ErrAt m) (k:Old n m m') (hn:7<n):ErrAt m':=by
 obtain⟨h1,⟨e,t,a,h2⟩,e',t',a',h3⟩:=h
 exact⟨Nat.lt_of_lt_of_le h1 k.1,⟨e,t,a,by rw [k.vw (by omega)];exact h2⟩,e',t',a',by rw [k.vw hn];exact h3⟩
open Classical in
noncomputable def puOv:List Value→Mem→Option (Value × Mem)
 | [.string s,.int .i64 b,.int .i64 z],m=>if b=10∧z=64∧s.data.toList.length≤281474976710656∧ErrAt m then (match Lib.parseUintB 64 s.data.toList with
   | .ok u=>some (.tuple ⟨[.int .u64 (u:Int),.nilIface]⟩,m)
   | .range=>some (.tuple ⟨[.int .u64 18446744073709551615,.iface 195 (.pointer (some ⟨m.next,0,none⟩))]⟩,newObjA m .dead)
   |_=>some (.tuple ⟨[.int .u64 0,.iface 195 (.pointer (some ⟨m.next,0,none⟩))]⟩,newObjA m .dead)) else none
 |_,_=>none
noncomputable def idxOv:List Value→Mem→Option (Value × Mem)
 | [.string s,.string ⟨⟨[c]⟩⟩],m=>some (.int .i64 (Lib.indexByte s.data.toList c),m)
 |_,_=>none
noncomputable def cutOv:List Value→Mem→Option (Value × Mem)
 | [.string s,.string p],m=>some (.tuple ⟨[.string ⟨⟨Lib.trimPrefix s.data.toList p.data.toList⟩⟩,.bool (Lib.hasPrefix s.data.toList p.data.toList)]⟩,m)
 |_,_=>none
noncomputable def ibOv:List Value→Mem→Option (Value × Mem)
 | [.string s,.int .u8 c],m=>some (.int .i64 (Lib.indexByte s.data.toList c.toNat.toUInt8),m)
 |_,_=>none
open Classical in
noncomputable def lsOv (te e:TypeId) (sz:Nat):List Value→Mem→Option (Value × Mem)
 | [.slice none 0 0],m=>some (.bool true,m)
 | [.slice (some ⟨lb,0,none⟩) n c],m=>if h:∃ l:List Ent,n=l.length∧c=l.length∧LsIn m te e sz lb l then some (.bool true,killM m (lb::(Classical.choose h).flatMap Ent.blk)) else none
 |_,_=>none
open Classical in
noncomputable def knOv:List Value→Mem→Option (Value × Mem)
 | [],m=>if 8≤m.next∧PowAt m then some (.bool true,m) else none
 |_,_=>none
noncomputable def ovL:List (Nat × (List Value→Mem→Option (Value × Mem))) :=
 [(30,closedOv formsV formsRows),(67,closedOv rrowsV rrowsRows),(130,puOv),(108,idxOv),(118,cutOv),(131,ibOv),(22,lsOv 29 5 1),(23,lsOv 34 3 1),(24,lsOv 27 36 17),(21,knOv)]
noncomputable def setAll {α : Type}:List (Nat × α)→T α
 | []=>.lf
 | (k,v)::l=>T.set (setAll l) k v
theorem setAll_get {α : Type}:∀ (l:List (Nat × α)) (f:Nat),(setAll l).get f=(l.find? fun x=>decide (f=x.1)).map (·.2)
 | [],f=>T.get_lf f
 | (k,v)::l,f=>by
   rw [setAll,T.get_set,List.find?_cons]
   by_cases h:f=k
   ·rw [if_pos h];simp [h]
   ·rw [if_neg h,setAll_get l f];simp [h]
noncomputable def ovs:T (List Value→Mem→Option (Value × Mem)):=setAll ovL
noncomputable def tb:Tabs:=mkTabs Tryz.prog 8 ovs
theorem ov_at (f:Nat):tb.ov.get f=(ovL.find? fun x=>decide (f=x.1)).map (·.2):=setAll_get ovL f
theorem ov_none {f:Nat} (h:(decide (f=30)||decide (f=67)||decide (f=130)||decide (f=108)||decide (f=118)||decide (f=131)||decide (f=22)||decide (f=23)||decide (f=24)||decide (f=21))=false):tb.ov.get f=none:=by
 rw [ov_at]
 simp only [Bool.or_eq_false_iff] at h
 obtain⟨⟨⟨⟨⟨⟨⟨⟨⟨h3,h4⟩,h5⟩,h6⟩,h7⟩,h8⟩,h9⟩,h10⟩,h11⟩,h12⟩:=h
 simp only [ovL,List.find?_cons,h3,h4,h5,h6,h7,h8,h9,h10,h11,h12,List.find?_nil,Option.map_none]
theorem ov_forms:tb.ov.get 30=some (closedOv formsV formsRows):=by rw [ov_at];rfl
theorem ov_rrows:tb.ov.get 67=some (closedOv rrowsV rrowsRows):=by rw [ov_at];rfl
theorem ov_pu:tb.ov.get 130=some puOv:=by rw [ov_at];rfl
theorem ov_idx:tb.ov.get 108=some idxOv:=by rw [ov_at];rfl
theorem ov_cut:tb.ov.get 118=some cutOv:=by rw [ov_at];rfl
theorem ov_ib:tb.ov.get 131=some ibOv:=by rw [ov_at];rfl
theorem ov_22:tb.ov.get 22=some (lsOv 29 5 1):=by rw [ov_at];rfl
theorem ov_23:tb.ov.get 23=some (lsOv 34 3 1):=by rw [ov_at];rfl
theorem ov_21:tb.ov.get 21=some knOv:=by rw [ov_at];rfl
theorem ov_24:tb.ov.get 24=some (lsOv 27 36 17):=by rw [ov_at];rfl
theorem fget {f:Nat} {fd:Func} (h:Tryz.prog.funcs[f]? = some fd):tb.funcs.get f=some fd:=by
 simp only [tb,mkTabs,T.get_ofList]
 simpa using h
noncomputable def tvP (P:Program) (t:Nat):TI:=match mkTI P t with|some i=>i|none=>⟨.bool,default,false,[],false,[],false,false⟩
theorem ti_tvP {P:Program} {g:Nat} {ov:T (List Value→Mem→Option (Value × Mem))} {t:Nat} (h:(Nat.blt t P.types.size&&(mkTI P t).isSome)=true):ti (mkTabs P g ov) t=some (tvP P t):=by
 simp only [Bool.and_eq_true,Nat.blt_eq] at h
 obtain⟨h1,h2⟩:=h
 simp only [ti,mkTabs,T.get_ofList]
 rw [List.getElem?_map,List.getElem?_range h1]
 simp only [Option.map_some,tvP]
 cases h:mkTI P t with
 |none=>rw [h] at h2;cases h2
 |some i=>rfl
noncomputable def tv (t:Nat):TI:=tvP Tryz.prog t
noncomputable def fsv (t:Nat):Array Field:=match (tv t).d with | .struct fs=>fs|_ => #[]
theorem ti_tv {t:Nat} (h:(Nat.blt t Tryz.prog.types.size&&(mkTI Tryz.prog t).isSome)=true):ti tb t=some (tv t):=ti_tvP h
namespace Ty
theorem ti3:ti tb 3=some (tv 3):=ti_tv (by kernel_rfl)
theorem d3:(tv 3).d=.int .i64:=by kernel_rfl
theorem g3:(tv 3).agg=false:=by kernel_rfl
theorem s3:(tv 3).inf.size=1:=by kernel_rfl
theorem y3:(tv 3).inf.bytes=8:=by kernel_rfl
theorem h3:(tv 3).hasZ=true:=by kernel_rfl
theorem z3:(tv 3).zc=[.int .i64 0]:=by kernel_rfl
theorem ti4:ti tb 4=some (tv 4):=ti_tv (by kernel_rfl)
theorem d4:(tv 4).d=.bool:=by kernel_rfl
theorem g4:(tv 4).agg=false:=by kernel_rfl
theorem s4:(tv 4).inf.size=1:=by kernel_rfl
theorem h4:(tv 4).hasZ=true:=by kernel_rfl
theorem z4:(tv 4).zc=[.bool false]:=by kernel_rfl
theorem ti5:ti tb 5=some (tv 5):=ti_tv (by kernel_rfl)
theorem d5:(tv 5).d=.int .u8:=by kernel_rfl
theorem g5:(tv 5).agg=false:=by kernel_rfl
theorem s5:(tv 5).inf.size=1:=by kernel_rfl
theorem y5:(tv 5).inf.bytes=1:=by kernel_rfl
theorem h5:(tv 5).hasZ=true:=by kernel_rfl
theorem z5:(tv 5).zc=[.int .u8 0]:=by kernel_rfl
theorem ti9:ti tb 9=some (tv 9):=ti_tv (by kernel_rfl)
theorem d9:(tv 9).d=.string:=by kernel_rfl
theorem g9:(tv 9).agg=false:=by kernel_rfl
theorem s9:(tv 9).inf.size=1:=by kernel_rfl
theorem y9:(tv 9).inf.bytes=16:=by kernel_rfl
theorem h9:(tv 9).hasZ=true:=by kernel_rfl
theorem z9:(tv 9).zc=[.string ⟨⟨[]⟩⟩]:=by kernel_rfl
theorem ti20:ti tb 20=some (tv 20):=ti_tv (by kernel_rfl)
theorem ti22:ti tb 22=some (tv 22):=ti_tv (by kernel_rfl)
theorem d22:(tv 22).d=.int .u64:=by kernel_rfl
theorem g22:(tv 22).agg=false:=by kernel_rfl
theorem s22:(tv 22).inf.size=1:=by kernel_rfl
theorem y22:(tv 22).inf.bytes=8:=by kernel_rfl
theorem h22:(tv 22).hasZ=true:=by kernel_rfl
theorem z22:(tv 22).zc=[.int .u64 0]:=by kernel_rfl
theorem ti24:ti tb 24=some (tv 24):=ti_tv (by kernel_rfl)
theorem d24:(tv 24).d=.struct (fsv 24):=by kernel_rfl
theorem g24:(tv 24).agg=true:=by kernel_rfl
theorem s24:(tv 24).inf.size=6:=by kernel_rfl
theorem h24:(tv 24).hasZ=true:=by kernel_rfl
theorem z24:(tv 24).zc=[.int .i64 0,.int .u64 0,.int .u64 0,.int .i64 0,.int .i64 0,.int .i64 0]:=by kernel_rfl
theorem f24:(tv 24).flds=[(0,1,3,false),(1,1,22,false),(2,1,22,false),(3,1,3,false),(4,1,3,false),(5,1,3,false)]:=by kernel_rfl
theorem ti26:ti tb 26=some (tv 26):=ti_tv (by kernel_rfl)
theorem d26:(tv 26).d=.struct (fsv 26):=by kernel_rfl
theorem g26:(tv 26).agg=true:=by kernel_rfl
theorem s26:(tv 26).inf.size=9:=by kernel_rfl
theorem h26:(tv 26).hasZ=true:=by kernel_rfl
theorem z26:(tv 26).zc=[.int .i64 0,.int .u64 0,.int .u64 0,.int .i64 0,.int .i64 0,.int .i64 0,.int .i64 0,.int .i64 0,.int .u64 0]:=by kernel_rfl
theorem f26:(tv 26).flds=[(0,6,24,false),(6,1,3,false),(7,1,3,false),(8,1,22,false)]:=by kernel_rfl
theorem ti27:ti tb 27=some (tv 27):=ti_tv (by kernel_rfl)
theorem d27:(tv 27).d=.slice 36:=by kernel_rfl
theorem g27:(tv 27).agg=false:=by kernel_rfl
theorem s27:(tv 27).inf.size=1:=by kernel_rfl
theorem y27:(tv 27).inf.bytes=24:=by kernel_rfl
theorem h27:(tv 27).hasZ=true:=by kernel_rfl
theorem z27:(tv 27).zc=[.slice none 0 0]:=by kernel_rfl
theorem ti29:ti tb 29=some (tv 29):=ti_tv (by kernel_rfl)
theorem d29:(tv 29).d=.slice 5:=by kernel_rfl
theorem g29:(tv 29).agg=false:=by kernel_rfl
theorem s29:(tv 29).inf.size=1:=by kernel_rfl
theorem y29:(tv 29).inf.bytes=24:=by kernel_rfl
theorem h29:(tv 29).hasZ=true:=by kernel_rfl
theorem z29:(tv 29).zc=[.slice none 0 0]:=by kernel_rfl
theorem ti32:ti tb 32=some (tv 32):=ti_tv (by kernel_rfl)
theorem d32:(tv 32).d=.struct (fsv 32):=by kernel_rfl
theorem g32:(tv 32).agg=true:=by kernel_rfl
theorem s32:(tv 32).inf.size=2:=by kernel_rfl
theorem h32:(tv 32).hasZ=true:=by kernel_rfl
theorem z32:(tv 32).zc=[.int .i64 0,.int .i64 0]:=by kernel_rfl
theorem f32:(tv 32).flds=[(0,1,3,false),(1,1,3,false)]:=by kernel_rfl
theorem ti33:ti tb 33=some (tv 33):=ti_tv (by kernel_rfl)
theorem d33:(tv 33).d=.int .u32:=by kernel_rfl
theorem g33:(tv 33).agg=false:=by kernel_rfl
theorem s33:(tv 33).inf.size=1:=by kernel_rfl
theorem ti34:ti tb 34=some (tv 34):=ti_tv (by kernel_rfl)
theorem d34:(tv 34).d=.slice 3:=by kernel_rfl
theorem g34:(tv 34).agg=false:=by kernel_rfl
theorem s34:(tv 34).inf.size=1:=by kernel_rfl
theorem y34:(tv 34).inf.bytes=24:=by kernel_rfl
theorem h34:(tv 34).hasZ=true:=by kernel_rfl
theorem z34:(tv 34).zc=[.slice none 0 0]:=by kernel_rfl
theorem ti36:ti tb 36=some (tv 36):=ti_tv (by kernel_rfl)
theorem d36:(tv 36).d=.struct (fsv 36):=by kernel_rfl
theorem g36:(tv 36).agg=true:=by kernel_rfl
theorem s36:(tv 36).inf.size=17:=by kernel_rfl
theorem y36:(tv 36).inf.bytes=168:=by kernel_rfl
theorem h36:(tv 36).hasZ=true:=by kernel_rfl
theorem z36:(tv 36).zc=[.int .i64 0,.int .i64 0,.int .i64 0,.int .u64 0,.int .u64 0,.slice none 0 0,.int .u64 0,.int .i64 0,.int .i64 0,.int .i64 0,.int .i64 0,.int .i64 0,.int .u32 0,.int .u64 0,.slice none 0 0,.int .i64 0,.int .u64 0]:=by kernel_rfl
theorem f36:(tv 36).flds=[(0,1,3,false),(1,1,3,false),(2,1,3,false),(3,1,22,false),(4,1,22,false),(5,1,29,false),(6,1,22,false),(7,2,32,false),(9,1,3,false),(10,1,3,false),(11,1,3,false),(12,1,33,false),(13,1,22,false),(14,1,34,false),(15,1,3,false),(16,1,22,false)]:=by kernel_rfl
theorem ti38:ti tb 38=some (tv 38):=ti_tv (by kernel_rfl)
theorem g38:(tv 38).agg=false:=by kernel_rfl
theorem s38:(tv 38).inf.size=1:=by kernel_rfl
theorem h38:(tv 38).hasZ=true:=by kernel_rfl
theorem z38:(tv 38).zc=[.int .i64 0]:=by kernel_rfl
theorem ti54:ti tb 54=some (tv 54):=ti_tv (by kernel_rfl)
theorem d54:(tv 54).d=.slice 9:=by kernel_rfl
theorem g54:(tv 54).agg=false:=by kernel_rfl
theorem s54:(tv 54).inf.size=1:=by kernel_rfl
theorem ti56:ti tb 56=some (tv 56):=ti_tv (by kernel_rfl)
theorem d56:(tv 56).d=.slice 29:=by kernel_rfl
theorem ti57:ti tb 57=some (tv 57):=ti_tv (by kernel_rfl)
theorem d57:(tv 57).d=.slice 34:=by kernel_rfl
theorem ti69:ti tb 69=some (tv 69):=ti_tv (by kernel_rfl)
theorem ti75:ti tb 75=some (tv 75):=ti_tv (by kernel_rfl)
theorem d75:(tv 75).d=.slice 80:=by kernel_rfl
theorem ti78:ti tb 78=some (tv 78):=ti_tv (by kernel_rfl)
theorem d78:(tv 78).d=.slice 84:=by kernel_rfl
theorem g78:(tv 78).agg=false:=by kernel_rfl
theorem ti80:ti tb 80=some (tv 80):=ti_tv (by kernel_rfl)
theorem g80:(tv 80).agg=true:=by kernel_rfl
theorem s80:(tv 80).inf.size=2:=by kernel_rfl
theorem h80:(tv 80).hasZ=true:=by kernel_rfl
theorem z80:(tv 80).zc=[.string ⟨⟨[]⟩⟩,.slice none 0 0]:=by kernel_rfl
theorem f80:(tv 80).flds=[(0,1,9,false),(1,1,78,false)]:=by kernel_rfl
theorem ti81:ti tb 81=some (tv 81):=ti_tv (by kernel_rfl)
theorem g81:(tv 81).agg=false:=by kernel_rfl
theorem ti84:ti tb 84=some (tv 84):=ti_tv (by kernel_rfl)
theorem g84:(tv 84).agg=true:=by kernel_rfl
theorem s84:(tv 84).inf.size=2:=by kernel_rfl
theorem h84:(tv 84).hasZ=true:=by kernel_rfl
theorem z84:(tv 84).zc=[.nilFunc,.nilFunc]:=by kernel_rfl
theorem f84:(tv 84).flds=[(0,1,81,false),(1,1,82,false)]:=by kernel_rfl
theorem ti88:ti tb 88=some (tv 88):=ti_tv (by kernel_rfl)
theorem g88:(tv 88).agg=true:=by kernel_rfl
theorem s88:(tv 88).inf.size=4:=by kernel_rfl
theorem f88:(tv 88).flds=[(0,1,9,false),(1,1,4,false),(2,1,3,false),(3,1,9,false)]:=by kernel_rfl
theorem ti97:ti tb 97=some (tv 97):=ti_tv (by kernel_rfl)
theorem g97:(tv 97).agg=false:=by kernel_rfl
theorem s97:(tv 97).inf.size=1:=by kernel_rfl
theorem h97:(tv 97).hasZ=true:=by kernel_rfl
theorem z97:(tv 97).zc=[.pointer none]:=by kernel_rfl
theorem ti99:ti tb 99=some (tv 99):=ti_tv (by kernel_rfl)
theorem d99:(tv 99).d=.struct (fsv 99):=by kernel_rfl
theorem h99:(tv 99).hasZ=true:=by kernel_rfl
theorem z99:(tv 99).zc=[.int .i64 0,.int .u64 0,.int .u64 0,.int .i64 0,.int .i64 0,.int .i64 0,.int .i64 0,.int .i64 0,.int .u64 0,.slice none 0 0,.bool false]:=by kernel_rfl
theorem f99:(tv 99).flds=[(0,9,26,false),(9,1,27,false),(10,1,4,false)]:=by kernel_rfl
theorem ti105:ti tb 105=some (tv 105):=ti_tv (by kernel_rfl)
theorem d105:(tv 105).d=.struct (fsv 105):=by kernel_rfl
theorem g105:(tv 105).agg=true:=by kernel_rfl
theorem s105:(tv 105).inf.size=28:=by kernel_rfl
theorem h105:(tv 105).hasZ=true:=by kernel_rfl
theorem z105:(tv 105).zc=[.bool false,.bool false,.int .i64 0,.int .u64 0,.int .u64 0,.int .i64 0,.int .i64 0,.int .i64 0,.int .i64 0,.int .i64 0,.int .u64 0,.int .i64 0,.int .i64 0,.int .i64 0,.int .u64 0,.int .u64 0,.slice none 0 0,.int .u64 0,.int .i64 0,.int .i64 0,.int .i64 0,.int .i64 0,.int .i64 0,.int .u32 0,.int .u64 0,.slice none 0 0,.int .i64 0,.int .u64 0]:=by kernel_rfl
theorem f105:(tv 105).flds=[(0,1,4,false),(1,1,4,false),(2,9,26,false),(11,17,36,false)]:=by kernel_rfl
theorem ti110:ti tb 110=some (tv 110):=ti_tv (by kernel_rfl)
theorem d110:(tv 110).d=.slice 27:=by kernel_rfl
theorem ti118:ti tb 118=some (tv 118):=ti_tv (by kernel_rfl)
theorem g118:(tv 118).agg=false:=by kernel_rfl
theorem ti121:ti tb 121=some (tv 121):=ti_tv (by kernel_rfl)
theorem g121:(tv 121).agg=false:=by kernel_rfl
theorem ti123:ti tb 123=some (tv 123):=ti_tv (by kernel_rfl)
theorem d123:(tv 123).d=.slice 88:=by kernel_rfl
theorem ti128:ti tb 128=some (tv 128):=ti_tv (by kernel_rfl)
theorem d128:(tv 128).d=.struct (fsv 128):=by kernel_rfl
theorem s128:(tv 128).inf.size=0:=by kernel_rfl
theorem h128:(tv 128).hasZ=true:=by kernel_rfl
theorem z128:(tv 128).zc=[]:=by kernel_rfl
theorem ti132:ti tb 132=some (tv 132):=ti_tv (by kernel_rfl)
theorem d132:(tv 132).d=.struct (fsv 132):=by kernel_rfl
theorem h132:(tv 132).hasZ=true:=by kernel_rfl
theorem z132:(tv 132).zc=[.slice none 0 0]:=by kernel_rfl
theorem f132:(tv 132).flds=[(0,1,54,false)]:=by kernel_rfl
theorem ti139:ti tb 139=some (tv 139):=ti_tv (by kernel_rfl)
theorem d139:(tv 139).d=.slice 22:=by kernel_rfl
theorem g139:(tv 139).agg=false:=by kernel_rfl
theorem s139:(tv 139).inf.size=1:=by kernel_rfl
theorem ti141:ti tb 141=some (tv 141):=ti_tv (by kernel_rfl)
theorem d141:(tv 141).d=.struct (fsv 141):=by kernel_rfl
theorem g141:(tv 141).agg=true:=by kernel_rfl
theorem s141:(tv 141).inf.size=4:=by kernel_rfl
theorem h141:(tv 141).hasZ=true:=by kernel_rfl
theorem z141:(tv 141).zc=[.slice none 0 0,.slice none 0 0,.int .i64 0,.slice none 0 0]:=by kernel_rfl
theorem f141:(tv 141).flds=[(0,1,34,false),(1,1,139,false),(2,1,3,false),(3,1,29,false)]:=by kernel_rfl
end Ty
theorem vwO_zeroI (e:TypeId) (n:Nat) (z:List Value):vwO (zeroObj e n z)=if n=z.length then some ⟨true,e,false,z⟩ else vwX (zeroObj e n z):=by
 split
 ·rename_i h;subst h;exact vwO_zero1 e z
 ·rfl
def isRow:Option Vw→Bool
 |some _=>true
 |none=>false
theorem isRow_some (v:Vw):isRow (some v)=true:=_root_.id rfl
theorem o_loadC {tb:Tabs} {m:Mem} (t:TypeId) (b o:Nat) (s:Option Nat) (h:isRow (vw m b)=true):opLoad tb t m (.pointer (some ⟨b,o,s⟩))=ldW tb t m b o s (ti tb t) (vw m b):=o_loadW t b o s
attribute [simp] o_loadC isRow_some o_storeW
attribute [simp] wpR_cons wpG_true wpG_false wpS_r wpS_f wpS_e wpS_c wpR_nil dB_some dB_none wX_no wX_on isB_bool setSl_some setSl_none oR_some oE_some nil_ptr pick_bool oB_some' gx_c0 gx_cs gx_set gx_set_ne evL_tmp' evL_const evL_func evsL_nil evsL_cons evPL_nil evPL_cons evOL_none evOL_some o_move o_assign o_pick o_alloc o_box o_build o_buildSlice o_load o_store o_nilCheck o_binOp o_unOp o_convert o_makeInterface o_makeFunc o_slice o_fieldAddr o_indexAddr o_index o_typeAssert o_extract o_callV o_callB o_defer o_panic b_add b_sub b_mul b_eql b_neq b_lss b_gtr b_leq b_geq b_beql b_bneq u_not u_neg thenA_normal thenA_jump thenA_pan blockA_normal blockA_pan blockA_exit resX_nil resX_one resX_two wpCallX_call wpCallX_panic ldW_some stW_some ia_slice ia_str cv_int lo_nil lo_cons T.get_setL T.get_lf bound_eq len_slice len_str sl_W slW_some sl_str fi_W fiW_some at_W atW_some ap_first' growM_next vw_growM ble_d beq_d dStrip stripG bindOn gNames tmpsOf Region.binds Op.operands Call.operands dPass_nil dPass_cons dBl_true dBl_false dGd_false dGd_true dSt_r dSt_f dSt_e dSt_c dNext_nil dNext_cons dNx_e dNx_c wpD_succ anyIn memL dDeps dMask dAlone dRecheck dCheck dCheckK vEq_b vEq_i vEq_s vEq_p vEq_l vEqL isPure opBuiltin appendA appended lenOfA opAlloc opBuildSlice fillA cellsOfV fieldAddrA oBound bounds3 slStr slExt addIf addA ldV next_newObjA next_putObj stM_next vw_new vw_put vwO_rowObj vwO_zeroI vwO_lf vwO_setL updL_some repl takeN_zero takeN_c0 takeN_cs takeN_self spl stOk u8s_length i64s_length oneC buildA fieldA partA placeS opMkIface isIface ptr0
open Ty in
attribute [simp] ti3 d3 g3 s3 y3 h3 z3 ti4 d4 g4 s4 h4 z4 ti5 d5 g5 s5 y5 h5 z5 ti9 d9 g9 s9 y9 h9 z9 ti20 ti22 d22 g22 s22 y22 h22 z22 ti24 d24 g24 s24 h24 z24 f24 ti26 d26 g26 s26 h26 z26 f26 ti27 d27 g27 s27 y27 h27 z27 ti29 d29 g29 s29 y29 h29 z29 ti32 d32 g32 s32 h32 z32 f32 ti33 d33 g33 s33 ti34 d34 g34 s34 y34 h34 z34 ti36 d36 g36 s36 y36 h36 z36 f36 ti38 g38 s38 h38 z38 ti54 d54 g54 s54 ti56 d56 ti57 d57 ti69 ti75 d75 ti78 d78 g78 ti80 g80 s80 h80 z80 f80 ti81 g81 ti84 g84 s84 h84 z84 f84 ti88 g88 s88 f88 ti97 g97 s97 h97 z97 ti99 d99 h99 z99 f99 ti105 d105 g105 s105 h105 z105 f105 ti110 d110 ti118 g118 ti121 g121 ti123 d123 ti128 d128 s128 h128 z128 ti132 d132 h132 z132 f132 ti139 d139 g139 s139 ti141 d141 g141 s141 h141 z141 f141
def Sl (k:List Value) (n:Nat) (l:List Value):Prop:=∃ ts,ts.length=n∧l=k++ts
theorem Sl.mk {k l:List Value} {n:Nat} (h:l.take k.length=k) (hl:l.length=k.length+n):Sl k n l:=⟨l.drop k.length,by simp [hl],by conv=>lhs;rw [← List.take_append_drop k.length l,h]⟩
theorem xclosed {f:FuncId} {v:Value} {rows:List CRow} {m:Mem} {ds:List Deferred} {K:Value→List Deferred→Mem→Prop} {PK:List PanicEntry→Mem→Prop} (hov:tb.ov.get f=some (closedOv v rows)) (hm:8≤m.next)
  (k:RowsAt rows (layRows m (rows.map (CRow.ren 8 m.next))) m.next→K (renV 8 m.next v) ds (layRows m (rows.map (CRow.ren 8 m.next)))):wpNext tb (callValue tb (.func (.func f) #[] #[]) [] m) ds m K PK:=by
 have hb:Nat.ble 8 m.next=true:=by rw [Nat.ble_eq];exact hm
 have e:callValue tb (.func (.func f) #[] #[]) [] m=.over (renV 8 m.next v) (layRows m (rows.map (CRow.ren 8 m.next))):=by
  simp only [callValue,invokeA,callF,List.nil_append,List.append_nil,hov,closedOv,hb]
 rw [e];exact k (rowsAt_lay rows m)
theorem xover {f:FuncId} {g:List Value→Mem→Option (Value × Mem)} {args:List Value} {m m':Mem} {v:Value} {ds:List Deferred} {K:Value→List Deferred→Mem→Prop} {PK:List PanicEntry→Mem→Prop} (hov:tb.ov.get f=some g) (h:g args m=some (v,m'))
  (k:K v ds m'):wpNext tb (callValue tb (.func (.func f) #[] #[]) args m) ds m K PK:=by
 have e:callValue tb (.func (.func f) #[] #[]) args m=.over v m':=by
  simp only [callValue,invokeA,callF,List.nil_append,List.append_nil,hov,h]
 rw [e];exact k
end Go.Proofs.YtgmkbdmgifdfeaaGreatDoor

set_option maxRecDepth 10000
namespace Go.Proofs.YtgmkbdmgifdfeaaGreatDoor
open Go Go.Ev
theorem callsS {f:FuncId} {fd:Func} {s:SCode} {n:Nat} {rs:List ResultVar} {args:List Value} {m:Mem} {R:OutA→Mem→Prop} (hf:Tryz.prog.funcs[f]? = some fd) (he:fd.body.map strip=some s) (hn:fd.ntmps=n) (hr:fd.results.toList=rs)
  (h:wpX tb ⟨f,.normal,none⟩ s (args++List.replicate (n-args.length) undef) [] m (endX tb rs R)):CallsA tb f args m R:=by
 cases hb:fd.body with
 |none=>rw [hb] at he;cases he
 |some c =>
  rw [hb] at he
  exact callsZ (fget hf) hb (Option.some.inj he) hn hr h
noncomputable def s3:SCode:=(⟨_,by simp only [kA,Tryz.f3,Op.operands,List.range,List.range.loop];exact⟨rfl⟩⟩ : { s // IsS (Tryz.f3.body.map strip) s }).1
noncomputable def s9:SCode:=(⟨_,by simp only [kA,Tryz.f9,Op.operands,List.range,List.range.loop];exact⟨rfl⟩⟩ : { s // IsS (Tryz.f9.body.map strip) s }).1
theorem e9:(Tryz.f9.body.map strip)=some s9:=by kernel_rfl
noncomputable def s15:SCode:=(⟨_,by simp only [kA,Tryz.f15,Op.operands,List.range,List.range.loop];exact⟨rfl⟩⟩ : { s // IsS (Tryz.f15.body.map strip) s }).1
theorem e15:(Tryz.f15.body.map strip)=some s15:=by kernel_rfl
noncomputable def s16:SCode:=(⟨_,by simp only [kA,Tryz.f16,Op.operands,List.range,List.range.loop];exact⟨rfl⟩⟩ : { s // IsS (Tryz.f16.body.map strip) s }).1
theorem e16:(Tryz.f16.body.map strip)=some s16:=by kernel_rfl
noncomputable def s20:SCode:=(⟨_,by simp only [kA,Tryz.f20,Op.operands,List.range,List.range.loop];exact⟨rfl⟩⟩ : { s // IsS (Tryz.f20.body.map strip) s }).1
theorem e20:(Tryz.f20.body.map strip)=some s20:=by kernel_rfl
noncomputable def s22:SCode:=(⟨_,by simp only [kA,Tryz.f22,Op.operands,List.range,List.range.loop];exact⟨rfl⟩⟩ : { s // IsS (Tryz.f22.body.map strip) s }).1
theorem e22:(Tryz.f22.body.map strip)=some s22:=by kernel_rfl
noncomputable def s23:SCode:=(⟨_,by simp only [kA,Tryz.f23,Op.operands,List.range,List.range.loop];exact⟨rfl⟩⟩ : { s // IsS (Tryz.f23.body.map strip) s }).1
theorem e23:(Tryz.f23.body.map strip)=some s23:=by kernel_rfl
noncomputable def s24:SCode:=(⟨_,by simp only [kA,Tryz.f24,Op.operands,List.range,List.range.loop];exact⟨rfl⟩⟩ : { s // IsS (Tryz.f24.body.map strip) s }).1
theorem e24:(Tryz.f24.body.map strip)=some s24:=by kernel_rfl
noncomputable def s38:SCode:=(⟨_,by simp only [kA,Tryz.f38,Op.operands,List.range,List.range.loop];exact⟨rfl⟩⟩ : { s // IsS (Tryz.f38.body.map strip) s }).1
theorem e38:(Tryz.f38.body.map strip)=some s38:=by kernel_rfl
noncomputable def s39:SCode:=(⟨_,by simp only [kA,Tryz.f39,Op.operands,List.range,List.range.loop];exact⟨rfl⟩⟩ : { s // IsS (Tryz.f39.body.map strip) s }).1
theorem e39:(Tryz.f39.body.map strip)=some s39:=by kernel_rfl
noncomputable def s40:SCode:=(⟨_,by simp only [kA,Tryz.f40,Op.operands,List.range,List.range.loop];exact⟨rfl⟩⟩ : { s // IsS (Tryz.f40.body.map strip) s }).1
theorem e40:(Tryz.f40.body.map strip)=some s40:=by kernel_rfl
noncomputable def s41:SCode:=(⟨_,by simp only [kA,Tryz.f41,Op.operands,List.range,List.range.loop];exact⟨rfl⟩⟩ : { s // IsS (Tryz.f41.body.map strip) s }).1
theorem e41:(Tryz.f41.body.map strip)=some s41:=by kernel_rfl
noncomputable def s42:SCode:=(⟨_,by simp only [kA,Tryz.f42,Op.operands,List.range,List.range.loop];exact⟨rfl⟩⟩ : { s // IsS (Tryz.f42.body.map strip) s }).1
theorem e42:(Tryz.f42.body.map strip)=some s42:=by kernel_rfl
noncomputable def s43:SCode:=(⟨_,by simp only [kA,Tryz.f43,Op.operands,List.range,List.range.loop];exact⟨rfl⟩⟩ : { s // IsS (Tryz.f43.body.map strip) s }).1
theorem e43:(Tryz.f43.body.map strip)=some s43:=by kernel_rfl
noncomputable def s44:SCode:=(⟨_,by simp only [kA,Tryz.f44,Op.operands,List.range,List.range.loop];exact⟨rfl⟩⟩ : { s // IsS (Tryz.f44.body.map strip) s }).1
theorem e44:(Tryz.f44.body.map strip)=some s44:=by kernel_rfl
noncomputable def s51:SCode:=(⟨_,by simp only [kA,Tryz.f51,Op.operands,List.range,List.range.loop];exact⟨rfl⟩⟩ : { s // IsS (Tryz.f51.body.map strip) s }).1
theorem e51:(Tryz.f51.body.map strip)=some s51:=by kernel_rfl
noncomputable def s52:SCode:=(⟨_,by simp only [kA,Tryz.f52,Op.operands,List.range,List.range.loop];exact⟨rfl⟩⟩ : { s // IsS (Tryz.f52.body.map strip) s }).1
theorem e52:(Tryz.f52.body.map strip)=some s52:=by kernel_rfl
noncomputable def s54:SCode:=(⟨_,by simp only [kA,Tryz.f54,Op.operands,List.range,List.range.loop];exact⟨rfl⟩⟩ : { s // IsS (Tryz.f54.body.map strip) s }).1
theorem e54:(Tryz.f54.body.map strip)=some s54:=by kernel_rfl
noncomputable def s55:SCode:=(⟨_,by simp only [kA,Tryz.f55,Op.operands,List.range,List.range.loop];exact⟨rfl⟩⟩ : { s // IsS (Tryz.f55.body.map strip) s }).1
theorem e55:(Tryz.f55.body.map strip)=some s55:=by kernel_rfl
noncomputable def s56:SCode:=(⟨_,by simp only [kA,Tryz.f56,Op.operands,List.range,List.range.loop];exact⟨rfl⟩⟩ : { s // IsS (Tryz.f56.body.map strip) s }).1
theorem e56:(Tryz.f56.body.map strip)=some s56:=by kernel_rfl
noncomputable def s57:SCode:=(⟨_,by simp only [kA,Tryz.f57,Op.operands,List.range,List.range.loop];exact⟨rfl⟩⟩ : { s // IsS (Tryz.f57.body.map strip) s }).1
theorem e57:(Tryz.f57.body.map strip)=some s57:=by kernel_rfl
noncomputable def s70:SCode:=(⟨_,by simp only [kA,Tryz.f70,Op.operands,List.range,List.range.loop];exact⟨rfl⟩⟩ : { s // IsS (Tryz.f70.body.map strip) s }).1
theorem e70:(Tryz.f70.body.map strip)=some s70:=by kernel_rfl
noncomputable def s71:SCode:=(⟨_,by simp only [kA,Tryz.f71,Op.operands,List.range,List.range.loop];exact⟨rfl⟩⟩ : { s // IsS (Tryz.f71.body.map strip) s }).1
theorem e71:(Tryz.f71.body.map strip)=some s71:=by kernel_rfl
noncomputable def s72:SCode:=(⟨_,by simp only [kA,Tryz.f72,Op.operands,List.range,List.range.loop];exact⟨rfl⟩⟩ : { s // IsS (Tryz.f72.body.map strip) s }).1
theorem e72:(Tryz.f72.body.map strip)=some s72:=by kernel_rfl
noncomputable def s73:SCode:=(⟨_,by simp only [kA,Tryz.f73,Op.operands,List.range,List.range.loop];exact⟨rfl⟩⟩ : { s // IsS (Tryz.f73.body.map strip) s }).1
theorem e73:(Tryz.f73.body.map strip)=some s73:=by kernel_rfl
noncomputable def s74:SCode:=(⟨_,by simp only [kA,Tryz.f74,Op.operands,List.range,List.range.loop];exact⟨rfl⟩⟩ : { s // IsS (Tryz.f74.body.map strip) s }).1
theorem e74:(Tryz.f74.body.map strip)=some s74:=by kernel_rfl
noncomputable def s75:SCode:=(⟨_,by simp only [kA,Tryz.f75,Op.operands,List.range,List.range.loop];exact⟨rfl⟩⟩ : { s // IsS (Tryz.f75.body.map strip) s }).1
theorem e75:(Tryz.f75.body.map strip)=some s75:=by kernel_rfl
noncomputable def s76:SCode:=(⟨_,by simp only [kA,Tryz.f76,Op.operands,List.range,List.range.loop];exact⟨rfl⟩⟩ : { s // IsS (Tryz.f76.body.map strip) s }).1
theorem e76:(Tryz.f76.body.map strip)=some s76:=by kernel_rfl
noncomputable def s77:SCode:=(⟨_,by simp only [kA,Tryz.f77,Op.operands,List.range,List.range.loop];exact⟨rfl⟩⟩ : { s // IsS (Tryz.f77.body.map strip) s }).1
theorem e77:(Tryz.f77.body.map strip)=some s77:=by kernel_rfl
noncomputable def s78:SCode:=(⟨_,by simp only [kA,Tryz.f78,Op.operands,List.range,List.range.loop];exact⟨rfl⟩⟩ : { s // IsS (Tryz.f78.body.map strip) s }).1
theorem e78:(Tryz.f78.body.map strip)=some s78:=by kernel_rfl
noncomputable def s79:SCode:=(⟨_,by simp only [kA,Tryz.f79,Op.operands,List.range,List.range.loop];exact⟨rfl⟩⟩ : { s // IsS (Tryz.f79.body.map strip) s }).1
theorem e79:(Tryz.f79.body.map strip)=some s79:=by kernel_rfl
noncomputable def s82:SCode:=(⟨_,by simp only [kA,Tryz.f82,Op.operands,List.range,List.range.loop];exact⟨rfl⟩⟩ : { s // IsS (Tryz.f82.body.map strip) s }).1
theorem e82:(Tryz.f82.body.map strip)=some s82:=by kernel_rfl
noncomputable def s83:SCode:=(⟨_,by simp only [kA,Tryz.f83,Op.operands,List.range,List.range.loop];exact⟨rfl⟩⟩ : { s // IsS (Tryz.f83.body.map strip) s }).1
theorem e83:(Tryz.f83.body.map strip)=some s83:=by kernel_rfl
noncomputable def s84:SCode:=(⟨_,by simp only [kA,Tryz.f84,Op.operands,List.range,List.range.loop];exact⟨rfl⟩⟩ : { s // IsS (Tryz.f84.body.map strip) s }).1
theorem e84:(Tryz.f84.body.map strip)=some s84:=by kernel_rfl
noncomputable def s86:SCode:=(⟨_,by simp only [kA,Tryz.f86,Op.operands,List.range,List.range.loop];exact⟨rfl⟩⟩ : { s // IsS (Tryz.f86.body.map strip) s }).1
theorem e86:(Tryz.f86.body.map strip)=some s86:=by kernel_rfl
noncomputable def s87:SCode:=(⟨_,by simp only [kA,Tryz.f87,Op.operands,List.range,List.range.loop];exact⟨rfl⟩⟩ : { s // IsS (Tryz.f87.body.map strip) s }).1
theorem e87:(Tryz.f87.body.map strip)=some s87:=by kernel_rfl
noncomputable def s89:SCode:=(⟨_,by simp only [kA,Tryz.f89,Op.operands,List.range,List.range.loop];exact⟨rfl⟩⟩ : { s // IsS (Tryz.f89.body.map strip) s }).1
theorem e89:(Tryz.f89.body.map strip)=some s89:=by kernel_rfl
noncomputable def s90:SCode:=(⟨_,by simp only [kA,Tryz.f90,Op.operands,List.range,List.range.loop];exact⟨rfl⟩⟩ : { s // IsS (Tryz.f90.body.map strip) s }).1
theorem e90:(Tryz.f90.body.map strip)=some s90:=by kernel_rfl
noncomputable def s91:SCode:=(⟨_,by simp only [kA,Tryz.f91,Op.operands,List.range,List.range.loop];exact⟨rfl⟩⟩ : { s // IsS (Tryz.f91.body.map strip) s }).1
theorem e91:(Tryz.f91.body.map strip)=some s91:=by kernel_rfl
noncomputable def s94:SCode:=(⟨_,by simp only [kA,Tryz.f94,Op.operands,List.range,List.range.loop];exact⟨rfl⟩⟩ : { s // IsS (Tryz.f94.body.map strip) s }).1
theorem e94:(Tryz.f94.body.map strip)=some s94:=by kernel_rfl
noncomputable def s95:SCode:=(⟨_,by simp only [kA,Tryz.f95,Op.operands,List.range,List.range.loop];exact⟨rfl⟩⟩ : { s // IsS (Tryz.f95.body.map strip) s }).1
theorem e95:(Tryz.f95.body.map strip)=some s95:=by kernel_rfl
noncomputable def s97:SCode:=(⟨_,by simp only [kA,Tryz.f97,Op.operands,List.range,List.range.loop];exact⟨rfl⟩⟩ : { s // IsS (Tryz.f97.body.map strip) s }).1
theorem e97:(Tryz.f97.body.map strip)=some s97:=by kernel_rfl
noncomputable def s98:SCode:=(⟨_,by simp only [kA,Tryz.f98,Op.operands,List.range,List.range.loop];exact⟨rfl⟩⟩ : { s // IsS (Tryz.f98.body.map strip) s }).1
theorem e98:(Tryz.f98.body.map strip)=some s98:=by kernel_rfl
noncomputable def s99:SCode:=(⟨_,by simp only [kA,Tryz.f99,Op.operands,List.range,List.range.loop];exact⟨rfl⟩⟩ : { s // IsS (Tryz.f99.body.map strip) s }).1
theorem e99:(Tryz.f99.body.map strip)=some s99:=by kernel_rfl
noncomputable def s100:SCode:=(⟨_,by simp only [kA,Tryz.f100,Op.operands,List.range,List.range.loop];exact⟨rfl⟩⟩ : { s // IsS (Tryz.f100.body.map strip) s }).1
theorem e100:(Tryz.f100.body.map strip)=some s100:=by kernel_rfl
noncomputable def s102:SCode:=(⟨_,by simp only [kA,Tryz.f102,Op.operands,List.range,List.range.loop];exact⟨rfl⟩⟩ : { s // IsS (Tryz.f102.body.map strip) s }).1
theorem e102:(Tryz.f102.body.map strip)=some s102:=by kernel_rfl
noncomputable def s104:SCode:=(⟨_,by simp only [kA,Tryz.f104,Op.operands,List.range,List.range.loop];exact⟨rfl⟩⟩ : { s // IsS (Tryz.f104.body.map strip) s }).1
theorem e104:(Tryz.f104.body.map strip)=some s104:=by kernel_rfl
noncomputable def s106:SCode:=(⟨_,by simp only [kA,Tryz.f106,Op.operands,List.range,List.range.loop];exact⟨rfl⟩⟩ : { s // IsS (Tryz.f106.body.map strip) s }).1
theorem e106:(Tryz.f106.body.map strip)=some s106:=by kernel_rfl
noncomputable def s109:SCode:=(⟨_,by simp only [kA,Tryz.f109,Op.operands,List.range,List.range.loop];exact⟨rfl⟩⟩ : { s // IsS (Tryz.f109.body.map strip) s }).1
theorem e109:(Tryz.f109.body.map strip)=some s109:=by kernel_rfl
noncomputable def s110:SCode:=(⟨_,by simp only [kA,Tryz.f110,Op.operands,List.range,List.range.loop];exact⟨rfl⟩⟩ : { s // IsS (Tryz.f110.body.map strip) s }).1
theorem e110:(Tryz.f110.body.map strip)=some s110:=by kernel_rfl
noncomputable def s111:SCode:=(⟨_,by simp only [kA,Tryz.f111,Op.operands,List.range,List.range.loop];exact⟨rfl⟩⟩ : { s // IsS (Tryz.f111.body.map strip) s }).1
theorem e111:(Tryz.f111.body.map strip)=some s111:=by kernel_rfl
noncomputable def s112:SCode:=(⟨_,by simp only [kA,Tryz.f112,Op.operands,List.range,List.range.loop];exact⟨rfl⟩⟩ : { s // IsS (Tryz.f112.body.map strip) s }).1
theorem e112:(Tryz.f112.body.map strip)=some s112:=by kernel_rfl
noncomputable def s113:SCode:=(⟨_,by simp only [kA,Tryz.f113,Op.operands,List.range,List.range.loop];exact⟨rfl⟩⟩ : { s // IsS (Tryz.f113.body.map strip) s }).1
theorem e113:(Tryz.f113.body.map strip)=some s113:=by kernel_rfl
noncomputable def s119:SCode:=(⟨_,by simp only [kA,Tryz.f119,Op.operands,List.range,List.range.loop];exact⟨rfl⟩⟩ : { s // IsS (Tryz.f119.body.map strip) s }).1
theorem e119:(Tryz.f119.body.map strip)=some s119:=by kernel_rfl
noncomputable def s120:SCode:=(⟨_,by simp only [kA,Tryz.f120,Op.operands,List.range,List.range.loop];exact⟨rfl⟩⟩ : { s // IsS (Tryz.f120.body.map strip) s }).1
theorem e120:(Tryz.f120.body.map strip)=some s120:=by kernel_rfl
noncomputable def s123:SCode:=(⟨_,by simp only [kA,Tryz.f123,Op.operands,List.range,List.range.loop];exact⟨rfl⟩⟩ : { s // IsS (Tryz.f123.body.map strip) s }).1
theorem e123:(Tryz.f123.body.map strip)=some s123:=by kernel_rfl
end Go.Proofs.YtgmkbdmgifdfeaaGreatDoor

set_option maxRecDepth 10000
namespace Go.Proofs.YtgmkbdmgifdfeaaGreatDoor
open Go Go.Ev
noncomputable def s19:SCode:=(⟨_,by simp only [kA,Tryz.f19,Op.operands,List.range,List.range.loop];exact⟨rfl⟩⟩ : { s // IsS (Tryz.f19.body.map strip) s }).1
theorem e19:(Tryz.f19.body.map strip)=some s19:=by kernel_rfl
end Go.Proofs.YtgmkbdmgifdfeaaGreatDoor

namespace Go.Proofs.YtgmkbdmgifdfeaaGreatDoor
open Go
structure Stp where
 kind:Int
 node:Int
 stream:Int
 time:Int
 life:Int
 data:List UInt8
 seq:Int
 qc:Int
 qb:Int
 way:Int
 place:Int
 pos:Int
 mask:Int
 ticks:Int
 choices:List Int
 cursor:Int
 to:Int
def i64R (n:Int):Prop := -9223372036854775808≤n∧n≤9223372036854775807
def u64R (n:Int):Prop:=0≤n∧n≤18446744073709551615
def u32R (n:Int):Prop:=0≤n∧n≤4294967295
structure Stp.R (s:Stp):Prop where
 kind:i64R s.kind
 node:i64R s.node
 stream:i64R s.stream
 time:u64R s.time
 life:u64R s.life
 seq:u64R s.seq
 qc:i64R s.qc
 qb:i64R s.qb
 way:i64R s.way
 place:i64R s.place
 pos:i64R s.pos
 mask:u32R s.mask
 ticks:u64R s.ticks
 choices:∀ c∈s.choices,i64R c
 cursor:i64R s.cursor
 to:u64R s.to
structure Stu where
 mtu:Int
 ack:Int
 retry:Int
 retries:Int
 window:Int
 inbox:Int
 sectors:Int
 room:Int
 start:Int
structure Stu.R (s:Stu):Prop where
 mtu:i64R s.mtu
 ack:u64R s.ack
 retry:u64R s.retry
 retries:i64R s.retries
 window:i64R s.window
 inbox:i64R s.inbox
 sectors:i64R s.sectors
 room:i64R s.room
 start:u64R s.start
inductive Fd where
 |stream|qc|qb|place|pos|cursor
 |time|life|seq|to|ticks|mask
 |data|way|choices
def fieldsOf:Nat→List Fd
 |1=>[.ticks]|2=>[.stream,.qc,.qb]|3=>[.stream]|4=>[.stream]|5=>[.stream]|6=>[.stream,.time,.life,.data]|7=>[.stream,.seq]|8=>[]
 |9=>[.way,.place]|10=>[.way,.place]|11=>[.way,.place]|12=>[.way,.place,.pos,.mask]|13=>[.pos]|14=>[.choices]|15=>[]
 |16=>[.stream]|17=>[.cursor]|18=>[.cursor,.time]|19=>[.cursor]|20=>[.cursor]|21=>[.cursor]|22=>[.stream,.time,.to]
 |_=>[]
def wordOf:Nat→List UInt8
 |1=>[116,105,99,107]|2=>[108,105,115,116,101,110]|3=>[117,110,108,105,115,116,101,110]|4=>[98,101,103,105,110]|5=>[99,101,97,115,101]|6=>[115,101,110,100]
 |7=>[99,97,110,99,101,108]|8=>[107,105,99,107]|9=>[100,101,108,105,118,101,114]|10=>[100,114,111,112]|11=>[100,111,117,98,108,101]|12=>[116,117,114,110]
 |13=>[99,117,116]|14=>[99,114,97,115,104]|15=>[114,101,115,116,97,114,116]|16=>[99,117,114,115,111,114]|17=>[99,108,111,115,101]|18=>[115,101,101,107]
 |19=>[110,101,120,116]|20=>[112,114,101,118]|21=>[114,101,119,105,110,100]|22=>[103,97,112,115]
 |_=>[]
end Go.Proofs.YtgmkbdmgifdfeaaGreatDoor

