/- A part of a proof: ScriptBack. -/
import Derived.Lib.ItoaNum
import Derived.Lib.ParseIntB
import Derived.Shelf.Small.Wraps
import Derived.Shelf.Strings.Search3
import Derived.Test.YtgmkbdmgifdfeaaGreatDoorChecked
import Derived.Test.YtgmkbdmgifdfeaaGreatDoorD11
set_option linter.unusedVariables false
set_option linter.unusedSimpArgs false
namespace Go.Proofs.YtgmkbdmgifdfeaaGreatDoor
open Go Go.Ev
def Qpk:Value:=(.slice (some ⟨116,0,none⟩) 23 23)
def Qaq:List CRow:=[
 ⟨84,false,[(.func (.func 83) ⟨[]⟩ ⟨[(.pointer (some ⟨9,0,none⟩))]⟩),(.func (.func 85) ⟨[]⟩ ⟨[(.pointer (some ⟨9,0,none⟩))]⟩)]⟩,
 ⟨118,false,[(.func (.func 82) ⟨[]⟩ ⟨[]⟩)]⟩,
 ⟨84,false,[(.func (.func 83) ⟨[]⟩ ⟨[(.pointer (some ⟨9,0,none⟩))]⟩),(.func (.func 85) ⟨[]⟩ ⟨[(.pointer (some ⟨9,0,none⟩))]⟩)]⟩,
 ⟨118,false,[(.func (.func 51) ⟨[]⟩ ⟨[]⟩)]⟩,
 ⟨84,false,[(.func (.func 83) ⟨[]⟩ ⟨[(.pointer (some ⟨11,0,none⟩))]⟩),(.func (.func 85) ⟨[]⟩ ⟨[(.pointer (some ⟨11,0,none⟩))]⟩)]⟩,
 ⟨118,false,[(.func (.func 52) ⟨[]⟩ ⟨[]⟩)]⟩,
 ⟨84,false,[(.func (.func 83) ⟨[]⟩ ⟨[(.pointer (some ⟨13,0,none⟩))]⟩),(.func (.func 85) ⟨[]⟩ ⟨[(.pointer (some ⟨13,0,none⟩))]⟩)]⟩,
 ⟨84,false,[(.func (.func 83) ⟨[]⟩ ⟨[(.pointer (some ⟨9,0,none⟩))]⟩),(.func (.func 85) ⟨[]⟩ ⟨[(.pointer (some ⟨9,0,none⟩))]⟩),(.func (.func 83) ⟨[]⟩ ⟨[(.pointer (some ⟨11,0,none⟩))]⟩),(.func (.func 85) ⟨[]⟩ ⟨[(.pointer (some ⟨11,0,none⟩))]⟩),(.func (.func 83) ⟨[]⟩ ⟨[(.pointer (some ⟨13,0,none⟩))]⟩),(.func (.func 85) ⟨[]⟩ ⟨[(.pointer (some ⟨13,0,none⟩))]⟩)]⟩,
 ⟨121,false,[(.func (.func 54) ⟨[]⟩ ⟨[]⟩)]⟩,
 ⟨84,false,[(.func (.func 86) ⟨[]⟩ ⟨[(.pointer (some ⟨16,0,none⟩))]⟩),(.func (.func 88) ⟨[]⟩ ⟨[(.pointer (some ⟨16,0,none⟩))]⟩)]⟩,
 ⟨84,false,[(.func (.func 86) ⟨[]⟩ ⟨[(.pointer (some ⟨16,0,none⟩))]⟩),(.func (.func 88) ⟨[]⟩ ⟨[(.pointer (some ⟨16,0,none⟩))]⟩)]⟩,
 ⟨121,false,[(.func (.func 55) ⟨[]⟩ ⟨[]⟩)]⟩,
 ⟨84,false,[(.func (.func 86) ⟨[]⟩ ⟨[(.pointer (some ⟨19,0,none⟩))]⟩),(.func (.func 88) ⟨[]⟩ ⟨[(.pointer (some ⟨19,0,none⟩))]⟩)]⟩,
 ⟨84,false,[(.func (.func 86) ⟨[]⟩ ⟨[(.pointer (some ⟨19,0,none⟩))]⟩),(.func (.func 88) ⟨[]⟩ ⟨[(.pointer (some ⟨19,0,none⟩))]⟩)]⟩,
 ⟨121,false,[(.func (.func 56) ⟨[]⟩ ⟨[]⟩)]⟩,
 ⟨84,false,[(.func (.func 86) ⟨[]⟩ ⟨[(.pointer (some ⟨22,0,none⟩))]⟩),(.func (.func 88) ⟨[]⟩ ⟨[(.pointer (some ⟨22,0,none⟩))]⟩)]⟩,
 ⟨84,false,[(.func (.func 86) ⟨[]⟩ ⟨[(.pointer (some ⟨22,0,none⟩))]⟩),(.func (.func 88) ⟨[]⟩ ⟨[(.pointer (some ⟨22,0,none⟩))]⟩)]⟩,
 ⟨121,false,[(.func (.func 57) ⟨[]⟩ ⟨[]⟩)]⟩,
 ⟨84,false,[(.func (.func 86) ⟨[]⟩ ⟨[(.pointer (some ⟨25,0,none⟩))]⟩),(.func (.func 88) ⟨[]⟩ ⟨[(.pointer (some ⟨25,0,none⟩))]⟩)]⟩,
 ⟨84,false,[(.func (.func 86) ⟨[]⟩ ⟨[(.pointer (some ⟨25,0,none⟩))]⟩),(.func (.func 88) ⟨[]⟩ ⟨[(.pointer (some ⟨25,0,none⟩))]⟩)]⟩,
 ⟨84,false,[(.func (.func 83) ⟨[]⟩ ⟨[(.pointer (some ⟨29,0,none⟩))]⟩),(.func (.func 85) ⟨[]⟩ ⟨[(.pointer (some ⟨29,0,none⟩))]⟩)]⟩,
 ⟨118,false,[(.func (.func 82) ⟨[]⟩ ⟨[]⟩)]⟩,
 ⟨84,false,[(.func (.func 83) ⟨[]⟩ ⟨[(.pointer (some ⟨29,0,none⟩))]⟩),(.func (.func 85) ⟨[]⟩ ⟨[(.pointer (some ⟨29,0,none⟩))]⟩)]⟩,
 ⟨84,false,[(.func (.func 83) ⟨[]⟩ ⟨[(.pointer (some ⟨29,0,none⟩))]⟩),(.func (.func 85) ⟨[]⟩ ⟨[(.pointer (some ⟨29,0,none⟩))]⟩)]⟩,
 ⟨84,false,[(.func (.func 83) ⟨[]⟩ ⟨[(.pointer (some ⟨33,0,none⟩))]⟩),(.func (.func 85) ⟨[]⟩ ⟨[(.pointer (some ⟨33,0,none⟩))]⟩)]⟩,
 ⟨118,false,[(.func (.func 82) ⟨[]⟩ ⟨[]⟩)]⟩,
 ⟨84,false,[(.func (.func 83) ⟨[]⟩ ⟨[(.pointer (some ⟨33,0,none⟩))]⟩),(.func (.func 85) ⟨[]⟩ ⟨[(.pointer (some ⟨33,0,none⟩))]⟩)]⟩,
 ⟨84,false,[(.func (.func 83) ⟨[]⟩ ⟨[(.pointer (some ⟨33,0,none⟩))]⟩),(.func (.func 85) ⟨[]⟩ ⟨[(.pointer (some ⟨33,0,none⟩))]⟩)]⟩,
 ⟨84,false,[(.func (.func 83) ⟨[]⟩ ⟨[(.pointer (some ⟨37,0,none⟩))]⟩),(.func (.func 85) ⟨[]⟩ ⟨[(.pointer (some ⟨37,0,none⟩))]⟩)]⟩,
 ⟨118,false,[(.func (.func 82) ⟨[]⟩ ⟨[]⟩)]⟩,
 ⟨84,false,[(.func (.func 83) ⟨[]⟩ ⟨[(.pointer (some ⟨37,0,none⟩))]⟩),(.func (.func 85) ⟨[]⟩ ⟨[(.pointer (some ⟨37,0,none⟩))]⟩)]⟩,
 ⟨84,false,[(.func (.func 83) ⟨[]⟩ ⟨[(.pointer (some ⟨37,0,none⟩))]⟩),(.func (.func 85) ⟨[]⟩ ⟨[(.pointer (some ⟨37,0,none⟩))]⟩)]⟩,
 ⟨84,false,[(.func (.func 83) ⟨[]⟩ ⟨[(.pointer (some ⟨41,0,none⟩))]⟩),(.func (.func 85) ⟨[]⟩ ⟨[(.pointer (some ⟨41,0,none⟩))]⟩)]⟩,
 ⟨118,false,[(.func (.func 82) ⟨[]⟩ ⟨[]⟩)]⟩,
 ⟨84,false,[(.func (.func 83) ⟨[]⟩ ⟨[(.pointer (some ⟨41,0,none⟩))]⟩),(.func (.func 85) ⟨[]⟩ ⟨[(.pointer (some ⟨41,0,none⟩))]⟩)]⟩,
 ⟨84,false,[(.func (.func 86) ⟨[]⟩ ⟨[(.pointer (some ⟨44,0,none⟩))]⟩),(.func (.func 88) ⟨[]⟩ ⟨[(.pointer (some ⟨44,0,none⟩))]⟩)]⟩,
 ⟨121,false,[(.func (.func 89) ⟨[]⟩ ⟨[]⟩)]⟩,
 ⟨84,false,[(.func (.func 86) ⟨[]⟩ ⟨[(.pointer (some ⟨44,0,none⟩))]⟩),(.func (.func 88) ⟨[]⟩ ⟨[(.pointer (some ⟨44,0,none⟩))]⟩)]⟩,
 ⟨84,false,[(.func (.func 90) ⟨[]⟩ ⟨[]⟩),(.func (.func 92) ⟨[]⟩ ⟨[]⟩)]⟩,
 ⟨84,false,[(.func (.func 83) ⟨[]⟩ ⟨[(.pointer (some ⟨41,0,none⟩))]⟩),(.func (.func 85) ⟨[]⟩ ⟨[(.pointer (some ⟨41,0,none⟩))]⟩),(.func (.func 86) ⟨[]⟩ ⟨[(.pointer (some ⟨44,0,none⟩))]⟩),(.func (.func 88) ⟨[]⟩ ⟨[(.pointer (some ⟨44,0,none⟩))]⟩),(.func (.func 86) ⟨[]⟩ ⟨[(.pointer (some ⟨19,0,none⟩))]⟩),(.func (.func 88) ⟨[]⟩ ⟨[(.pointer (some ⟨19,0,none⟩))]⟩),(.func (.func 90) ⟨[]⟩ ⟨[]⟩),(.func (.func 92) ⟨[]⟩ ⟨[]⟩)]⟩,
 ⟨84,false,[(.func (.func 83) ⟨[]⟩ ⟨[(.pointer (some ⟨49,0,none⟩))]⟩),(.func (.func 85) ⟨[]⟩ ⟨[(.pointer (some ⟨49,0,none⟩))]⟩)]⟩,
 ⟨118,false,[(.func (.func 82) ⟨[]⟩ ⟨[]⟩)]⟩,
 ⟨84,false,[(.func (.func 83) ⟨[]⟩ ⟨[(.pointer (some ⟨49,0,none⟩))]⟩),(.func (.func 85) ⟨[]⟩ ⟨[(.pointer (some ⟨49,0,none⟩))]⟩)]⟩,
 ⟨84,false,[(.func (.func 83) ⟨[]⟩ ⟨[(.pointer (some ⟨49,0,none⟩))]⟩),(.func (.func 85) ⟨[]⟩ ⟨[(.pointer (some ⟨49,0,none⟩))]⟩),(.func (.func 86) ⟨[]⟩ ⟨[(.pointer (some ⟨16,0,none⟩))]⟩),(.func (.func 88) ⟨[]⟩ ⟨[(.pointer (some ⟨16,0,none⟩))]⟩)]⟩,
 ⟨84,false,[(.func (.func 94) ⟨[]⟩ ⟨[]⟩),(.func (.func 96) ⟨[]⟩ ⟨[]⟩)]⟩,
 ⟨84,false,[(.func (.func 83) ⟨[]⟩ ⟨[(.pointer (some ⟨54,0,none⟩))]⟩),(.func (.func 85) ⟨[]⟩ ⟨[(.pointer (some ⟨54,0,none⟩))]⟩)]⟩,
 ⟨118,false,[(.func (.func 97) ⟨[]⟩ ⟨[]⟩)]⟩,
 ⟨84,false,[(.func (.func 83) ⟨[]⟩ ⟨[(.pointer (some ⟨54,0,none⟩))]⟩),(.func (.func 85) ⟨[]⟩ ⟨[(.pointer (some ⟨54,0,none⟩))]⟩)]⟩,
 ⟨84,false,[(.func (.func 94) ⟨[]⟩ ⟨[]⟩),(.func (.func 96) ⟨[]⟩ ⟨[]⟩),(.func (.func 83) ⟨[]⟩ ⟨[(.pointer (some ⟨54,0,none⟩))]⟩),(.func (.func 85) ⟨[]⟩ ⟨[(.pointer (some ⟨54,0,none⟩))]⟩)]⟩,
 ⟨84,false,[(.func (.func 94) ⟨[]⟩ ⟨[]⟩),(.func (.func 96) ⟨[]⟩ ⟨[]⟩)]⟩,
 ⟨84,false,[(.func (.func 83) ⟨[]⟩ ⟨[(.pointer (some ⟨59,0,none⟩))]⟩),(.func (.func 85) ⟨[]⟩ ⟨[(.pointer (some ⟨59,0,none⟩))]⟩)]⟩,
 ⟨118,false,[(.func (.func 97) ⟨[]⟩ ⟨[]⟩)]⟩,
 ⟨84,false,[(.func (.func 83) ⟨[]⟩ ⟨[(.pointer (some ⟨59,0,none⟩))]⟩),(.func (.func 85) ⟨[]⟩ ⟨[(.pointer (some ⟨59,0,none⟩))]⟩)]⟩,
 ⟨84,false,[(.func (.func 94) ⟨[]⟩ ⟨[]⟩),(.func (.func 96) ⟨[]⟩ ⟨[]⟩),(.func (.func 83) ⟨[]⟩ ⟨[(.pointer (some ⟨59,0,none⟩))]⟩),(.func (.func 85) ⟨[]⟩ ⟨[(.pointer (some ⟨59,0,none⟩))]⟩)]⟩,
 ⟨84,false,[(.func (.func 94) ⟨[]⟩ ⟨[]⟩),(.func (.func 96) ⟨[]⟩ ⟨[]⟩)]⟩,
 ⟨84,false,[(.func (.func 83) ⟨[]⟩ ⟨[(.pointer (some ⟨64,0,none⟩))]⟩),(.func (.func 85) ⟨[]⟩ ⟨[(.pointer (some ⟨64,0,none⟩))]⟩)]⟩,
 ⟨118,false,[(.func (.func 97) ⟨[]⟩ ⟨[]⟩)]⟩,
 ⟨84,false,[(.func (.func 83) ⟨[]⟩ ⟨[(.pointer (some ⟨64,0,none⟩))]⟩),(.func (.func 85) ⟨[]⟩ ⟨[(.pointer (some ⟨64,0,none⟩))]⟩)]⟩,
 ⟨84,false,[(.func (.func 94) ⟨[]⟩ ⟨[]⟩),(.func (.func 96) ⟨[]⟩ ⟨[]⟩),(.func (.func 83) ⟨[]⟩ ⟨[(.pointer (some ⟨64,0,none⟩))]⟩),(.func (.func 85) ⟨[]⟩ ⟨[(.pointer (some ⟨64,0,none⟩))]⟩)]⟩,
 ⟨84,false,[(.func (.func 94) ⟨[]⟩ ⟨[]⟩),(.func (.func 96) ⟨[]⟩ ⟨[]⟩)]⟩,
 ⟨84,false,[(.func (.func 83) ⟨[]⟩ ⟨[(.pointer (some ⟨69,0,none⟩))]⟩),(.func (.func 85) ⟨[]⟩ ⟨[(.pointer (some ⟨69,0,none⟩))]⟩)]⟩,
 ⟨118,false,[(.func (.func 97) ⟨[]⟩ ⟨[]⟩)]⟩,
 ⟨84,false,[(.func (.func 83) ⟨[]⟩ ⟨[(.pointer (some ⟨69,0,none⟩))]⟩),(.func (.func 85) ⟨[]⟩ ⟨[(.pointer (some ⟨69,0,none⟩))]⟩)]⟩,
 ⟨84,false,[(.func (.func 83) ⟨[]⟩ ⟨[(.pointer (some ⟨72,0,none⟩))]⟩),(.func (.func 85) ⟨[]⟩ ⟨[(.pointer (some ⟨72,0,none⟩))]⟩)]⟩,
 ⟨118,false,[(.func (.func 98) ⟨[]⟩ ⟨[]⟩)]⟩,
 ⟨84,false,[(.func (.func 83) ⟨[]⟩ ⟨[(.pointer (some ⟨72,0,none⟩))]⟩),(.func (.func 85) ⟨[]⟩ ⟨[(.pointer (some ⟨72,0,none⟩))]⟩)]⟩,
 ⟨84,false,[(.func (.func 99) ⟨[]⟩ ⟨[]⟩),(.func (.func 101) ⟨[]⟩ ⟨[]⟩)]⟩,
 ⟨84,false,[(.func (.func 94) ⟨[]⟩ ⟨[]⟩),(.func (.func 96) ⟨[]⟩ ⟨[]⟩),(.func (.func 83) ⟨[]⟩ ⟨[(.pointer (some ⟨69,0,none⟩))]⟩),(.func (.func 85) ⟨[]⟩ ⟨[(.pointer (some ⟨69,0,none⟩))]⟩),(.func (.func 83) ⟨[]⟩ ⟨[(.pointer (some ⟨72,0,none⟩))]⟩),(.func (.func 85) ⟨[]⟩ ⟨[(.pointer (some ⟨72,0,none⟩))]⟩),(.func (.func 99) ⟨[]⟩ ⟨[]⟩),(.func (.func 101) ⟨[]⟩ ⟨[]⟩)]⟩,
 ⟨84,false,[(.func (.func 83) ⟨[]⟩ ⟨[(.pointer (some ⟨77,0,none⟩))]⟩),(.func (.func 85) ⟨[]⟩ ⟨[(.pointer (some ⟨77,0,none⟩))]⟩)]⟩,
 ⟨118,false,[(.func (.func 98) ⟨[]⟩ ⟨[]⟩)]⟩,
 ⟨84,false,[(.func (.func 83) ⟨[]⟩ ⟨[(.pointer (some ⟨77,0,none⟩))]⟩),(.func (.func 85) ⟨[]⟩ ⟨[(.pointer (some ⟨77,0,none⟩))]⟩)]⟩,
 ⟨84,false,[(.func (.func 83) ⟨[]⟩ ⟨[(.pointer (some ⟨77,0,none⟩))]⟩),(.func (.func 85) ⟨[]⟩ ⟨[(.pointer (some ⟨77,0,none⟩))]⟩)]⟩,
 ⟨84,false,[(.func (.func 102) ⟨[]⟩ ⟨[]⟩),(.func (.func 103) ⟨[]⟩ ⟨[]⟩)]⟩,
 ⟨84,false,[(.func (.func 102) ⟨[]⟩ ⟨[]⟩),(.func (.func 103) ⟨[]⟩ ⟨[]⟩)]⟩,
 ⟨84,false,[(.func (.func 83) ⟨[]⟩ ⟨[(.pointer (some ⟨83,0,none⟩))]⟩),(.func (.func 85) ⟨[]⟩ ⟨[(.pointer (some ⟨83,0,none⟩))]⟩)]⟩,
 ⟨118,false,[(.func (.func 82) ⟨[]⟩ ⟨[]⟩)]⟩,
 ⟨84,false,[(.func (.func 83) ⟨[]⟩ ⟨[(.pointer (some ⟨83,0,none⟩))]⟩),(.func (.func 85) ⟨[]⟩ ⟨[(.pointer (some ⟨83,0,none⟩))]⟩)]⟩,
 ⟨84,false,[(.func (.func 83) ⟨[]⟩ ⟨[(.pointer (some ⟨83,0,none⟩))]⟩),(.func (.func 85) ⟨[]⟩ ⟨[(.pointer (some ⟨83,0,none⟩))]⟩)]⟩,
 ⟨84,false,[(.func (.func 83) ⟨[]⟩ ⟨[(.pointer (some ⟨87,0,none⟩))]⟩),(.func (.func 85) ⟨[]⟩ ⟨[(.pointer (some ⟨87,0,none⟩))]⟩)]⟩,
 ⟨118,false,[(.func (.func 104) ⟨[]⟩ ⟨[]⟩)]⟩,
 ⟨84,false,[(.func (.func 83) ⟨[]⟩ ⟨[(.pointer (some ⟨87,0,none⟩))]⟩),(.func (.func 85) ⟨[]⟩ ⟨[(.pointer (some ⟨87,0,none⟩))]⟩)]⟩,
 ⟨84,false,[(.func (.func 83) ⟨[]⟩ ⟨[(.pointer (some ⟨87,0,none⟩))]⟩),(.func (.func 85) ⟨[]⟩ ⟨[(.pointer (some ⟨87,0,none⟩))]⟩)]⟩,
 ⟨84,false,[(.func (.func 83) ⟨[]⟩ ⟨[(.pointer (some ⟨91,0,none⟩))]⟩),(.func (.func 85) ⟨[]⟩ ⟨[(.pointer (some ⟨91,0,none⟩))]⟩)]⟩,
 ⟨118,false,[(.func (.func 104) ⟨[]⟩ ⟨[]⟩)]⟩,
 ⟨84,false,[(.func (.func 83) ⟨[]⟩ ⟨[(.pointer (some ⟨91,0,none⟩))]⟩),(.func (.func 85) ⟨[]⟩ ⟨[(.pointer (some ⟨91,0,none⟩))]⟩)]⟩,
 ⟨84,false,[(.func (.func 86) ⟨[]⟩ ⟨[(.pointer (some ⟨94,0,none⟩))]⟩),(.func (.func 88) ⟨[]⟩ ⟨[(.pointer (some ⟨94,0,none⟩))]⟩)]⟩,
 ⟨121,false,[(.func (.func 89) ⟨[]⟩ ⟨[]⟩)]⟩,
 ⟨84,false,[(.func (.func 86) ⟨[]⟩ ⟨[(.pointer (some ⟨94,0,none⟩))]⟩),(.func (.func 88) ⟨[]⟩ ⟨[(.pointer (some ⟨94,0,none⟩))]⟩)]⟩,
 ⟨84,false,[(.func (.func 83) ⟨[]⟩ ⟨[(.pointer (some ⟨91,0,none⟩))]⟩),(.func (.func 85) ⟨[]⟩ ⟨[(.pointer (some ⟨91,0,none⟩))]⟩),(.func (.func 86) ⟨[]⟩ ⟨[(.pointer (some ⟨94,0,none⟩))]⟩),(.func (.func 88) ⟨[]⟩ ⟨[(.pointer (some ⟨94,0,none⟩))]⟩)]⟩,
 ⟨84,false,[(.func (.func 83) ⟨[]⟩ ⟨[(.pointer (some ⟨98,0,none⟩))]⟩),(.func (.func 85) ⟨[]⟩ ⟨[(.pointer (some ⟨98,0,none⟩))]⟩)]⟩,
 ⟨118,false,[(.func (.func 104) ⟨[]⟩ ⟨[]⟩)]⟩,
 ⟨84,false,[(.func (.func 83) ⟨[]⟩ ⟨[(.pointer (some ⟨98,0,none⟩))]⟩),(.func (.func 85) ⟨[]⟩ ⟨[(.pointer (some ⟨98,0,none⟩))]⟩)]⟩,
 ⟨84,false,[(.func (.func 83) ⟨[]⟩ ⟨[(.pointer (some ⟨98,0,none⟩))]⟩),(.func (.func 85) ⟨[]⟩ ⟨[(.pointer (some ⟨98,0,none⟩))]⟩)]⟩,
 ⟨84,false,[(.func (.func 83) ⟨[]⟩ ⟨[(.pointer (some ⟨102,0,none⟩))]⟩),(.func (.func 85) ⟨[]⟩ ⟨[(.pointer (some ⟨102,0,none⟩))]⟩)]⟩,
 ⟨118,false,[(.func (.func 104) ⟨[]⟩ ⟨[]⟩)]⟩,
 ⟨84,false,[(.func (.func 83) ⟨[]⟩ ⟨[(.pointer (some ⟨102,0,none⟩))]⟩),(.func (.func 85) ⟨[]⟩ ⟨[(.pointer (some ⟨102,0,none⟩))]⟩)]⟩,
 ⟨84,false,[(.func (.func 83) ⟨[]⟩ ⟨[(.pointer (some ⟨102,0,none⟩))]⟩),(.func (.func 85) ⟨[]⟩ ⟨[(.pointer (some ⟨102,0,none⟩))]⟩)]⟩,
 ⟨84,false,[(.func (.func 83) ⟨[]⟩ ⟨[(.pointer (some ⟨106,0,none⟩))]⟩),(.func (.func 85) ⟨[]⟩ ⟨[(.pointer (some ⟨106,0,none⟩))]⟩)]⟩,
 ⟨118,false,[(.func (.func 104) ⟨[]⟩ ⟨[]⟩)]⟩,
 ⟨84,false,[(.func (.func 83) ⟨[]⟩ ⟨[(.pointer (some ⟨106,0,none⟩))]⟩),(.func (.func 85) ⟨[]⟩ ⟨[(.pointer (some ⟨106,0,none⟩))]⟩)]⟩,
 ⟨84,false,[(.func (.func 83) ⟨[]⟩ ⟨[(.pointer (some ⟨106,0,none⟩))]⟩),(.func (.func 85) ⟨[]⟩ ⟨[(.pointer (some ⟨106,0,none⟩))]⟩)]⟩,
 ⟨84,false,[(.func (.func 83) ⟨[]⟩ ⟨[(.pointer (some ⟨110,0,none⟩))]⟩),(.func (.func 85) ⟨[]⟩ ⟨[(.pointer (some ⟨110,0,none⟩))]⟩)]⟩,
 ⟨118,false,[(.func (.func 82) ⟨[]⟩ ⟨[]⟩)]⟩,
 ⟨84,false,[(.func (.func 83) ⟨[]⟩ ⟨[(.pointer (some ⟨110,0,none⟩))]⟩),(.func (.func 85) ⟨[]⟩ ⟨[(.pointer (some ⟨110,0,none⟩))]⟩)]⟩,
 ⟨84,false,[(.func (.func 86) ⟨[]⟩ ⟨[(.pointer (some ⟨113,0,none⟩))]⟩),(.func (.func 88) ⟨[]⟩ ⟨[(.pointer (some ⟨113,0,none⟩))]⟩)]⟩,
 ⟨121,false,[(.func (.func 89) ⟨[]⟩ ⟨[]⟩)]⟩,
 ⟨84,false,[(.func (.func 86) ⟨[]⟩ ⟨[(.pointer (some ⟨113,0,none⟩))]⟩),(.func (.func 88) ⟨[]⟩ ⟨[(.pointer (some ⟨113,0,none⟩))]⟩)]⟩,
 ⟨84,false,[(.func (.func 83) ⟨[]⟩ ⟨[(.pointer (some ⟨110,0,none⟩))]⟩),(.func (.func 85) ⟨[]⟩ ⟨[(.pointer (some ⟨110,0,none⟩))]⟩),(.func (.func 86) ⟨[]⟩ ⟨[(.pointer (some ⟨113,0,none⟩))]⟩),(.func (.func 88) ⟨[]⟩ ⟨[(.pointer (some ⟨113,0,none⟩))]⟩),(.func (.func 86) ⟨[]⟩ ⟨[(.pointer (some ⟨22,0,none⟩))]⟩),(.func (.func 88) ⟨[]⟩ ⟨[(.pointer (some ⟨22,0,none⟩))]⟩)]⟩,
 ⟨80,false,[(.string ⟨⟨[]⟩⟩),(.slice none 0 0),(.string ⟨⟨[116,105,99,107]⟩⟩),(.slice (some ⟨27,0,none⟩) 1 1),(.string ⟨⟨[108,105,115,116,101,110]⟩⟩),(.slice (some ⟨15,0,none⟩) 3 3),(.string ⟨⟨[117,110,108,105,115,116,101,110]⟩⟩),(.slice (some ⟨31,0,none⟩) 1 1),(.string ⟨⟨[98,101,103,105,110]⟩⟩),(.slice (some ⟨35,0,none⟩) 1 1),(.string ⟨⟨[99,101,97,115,101]⟩⟩),(.slice (some ⟨39,0,none⟩) 1 1),(.string ⟨⟨[115,101,110,100]⟩⟩),(.slice (some ⟨47,0,none⟩) 4 4),(.string ⟨⟨[99,97,110,99,101,108]⟩⟩),(.slice (some ⟨51,0,none⟩) 2 2),(.string ⟨⟨[107,105,99,107]⟩⟩),(.slice none 0 0),(.string ⟨⟨[100,101,108,105,118,101,114]⟩⟩),(.slice (some ⟨56,0,none⟩) 2 2),(.string ⟨⟨[100,114,111,112]⟩⟩),(.slice (some ⟨61,0,none⟩) 2 2),(.string ⟨⟨[100,111,117,98,108,101]⟩⟩),(.slice (some ⟨66,0,none⟩) 2 2),(.string ⟨⟨[116,117,114,110]⟩⟩),(.slice (some ⟨75,0,none⟩) 4 4),(.string ⟨⟨[99,117,116]⟩⟩),(.slice (some ⟨79,0,none⟩) 1 1),(.string ⟨⟨[99,114,97,115,104]⟩⟩),(.slice (some ⟨81,0,none⟩) 1 1),(.string ⟨⟨[114,101,115,116,97,114,116]⟩⟩),(.slice none 0 0),(.string ⟨⟨[99,117,114,115,111,114]⟩⟩),(.slice (some ⟨85,0,none⟩) 1 1),(.string ⟨⟨[99,108,111,115,101]⟩⟩),(.slice (some ⟨89,0,none⟩) 1 1),(.string ⟨⟨[115,101,101,107]⟩⟩),(.slice (some ⟨96,0,none⟩) 2 2),(.string ⟨⟨[110,101,120,116]⟩⟩),(.slice (some ⟨100,0,none⟩) 1 1),(.string ⟨⟨[112,114,101,118]⟩⟩),(.slice (some ⟨104,0,none⟩) 1 1),(.string ⟨⟨[114,101,119,105,110,100]⟩⟩),(.slice (some ⟨108,0,none⟩) 1 1),(.string ⟨⟨[103,97,112,115]⟩⟩),(.slice (some ⟨115,0,none⟩) 3 3)]⟩]
def Qvo:Value:=(.slice (some ⟨8,0,none⟩) 22 22)
def Qfu:List CRow:=[
 ⟨88,false,[(.string ⟨⟨[116,105,99,107]⟩⟩),(.bool false),(.int .i64 1),(.string ⟨⟨[110]⟩⟩),(.string ⟨⟨[108,105,115,116,101,110]⟩⟩),(.bool true),(.int .i64 2),(.string ⟨⟨[105,105,105]⟩⟩),(.string ⟨⟨[117,110,108,105,115,116,101,110]⟩⟩),(.bool true),(.int .i64 3),(.string ⟨⟨[105]⟩⟩),(.string ⟨⟨[98,101,103,105,110]⟩⟩),(.bool true),(.int .i64 4),(.string ⟨⟨[105]⟩⟩),(.string ⟨⟨[99,101,97,115,101]⟩⟩),(.bool true),(.int .i64 5),(.string ⟨⟨[105]⟩⟩),(.string ⟨⟨[115,101,110,100]⟩⟩),(.bool true),(.int .i64 6),(.string ⟨⟨[105,110,110,116]⟩⟩),(.string ⟨⟨[99,97,110,99,101,108]⟩⟩),(.bool true),(.int .i64 7),(.string ⟨⟨[105,110]⟩⟩),(.string ⟨⟨[107,105,99,107]⟩⟩),(.bool true),(.int .i64 8),(.string ⟨⟨[]⟩⟩),(.string ⟨⟨[100,101,108,105,118,101,114]⟩⟩),(.bool true),(.int .i64 9),(.string ⟨⟨[119,105]⟩⟩),(.string ⟨⟨[100,114,111,112]⟩⟩),(.bool true),(.int .i64 10),(.string ⟨⟨[119,105]⟩⟩),(.string ⟨⟨[100,111,117,98,108,101]⟩⟩),(.bool true),(.int .i64 11),(.string ⟨⟨[119,105]⟩⟩),(.string ⟨⟨[116,117,114,110]⟩⟩),(.bool true),(.int .i64 12),(.string ⟨⟨[119,105,105,109]⟩⟩),(.string ⟨⟨[99,117,116]⟩⟩),(.bool true),(.int .i64 13),(.string ⟨⟨[105]⟩⟩),(.string ⟨⟨[99,114,97,115,104]⟩⟩),(.bool true),(.int .i64 14),(.string ⟨⟨[99]⟩⟩),(.string ⟨⟨[114,101,115,116,97,114,116]⟩⟩),(.bool true),(.int .i64 15),(.string ⟨⟨[]⟩⟩),(.string ⟨⟨[99,117,114,115,111,114]⟩⟩),(.bool true),(.int .i64 16),(.string ⟨⟨[105]⟩⟩),(.string ⟨⟨[99,108,111,115,101]⟩⟩),(.bool true),(.int .i64 17),(.string ⟨⟨[105]⟩⟩),(.string ⟨⟨[115,101,101,107]⟩⟩),(.bool true),(.int .i64 18),(.string ⟨⟨[105,110]⟩⟩),(.string ⟨⟨[110,101,120,116]⟩⟩),(.bool true),(.int .i64 19),(.string ⟨⟨[105]⟩⟩),(.string ⟨⟨[112,114,101,118]⟩⟩),(.bool true),(.int .i64 20),(.string ⟨⟨[105]⟩⟩),(.string ⟨⟨[114,101,119,105,110,100]⟩⟩),(.bool true),(.int .i64 21),(.string ⟨⟨[105]⟩⟩),(.string ⟨⟨[103,97,112,115]⟩⟩),(.bool true),(.int .i64 22),(.string ⟨⟨[105,110,110]⟩⟩)]⟩]
def Qbl (rows:List CRow) (m:Mem) (k:Nat):Prop:=∀ j r,rows[j]? = some r→vw m (k+j)=some ⟨true,r.elem,r.ext,r.cells.map (renV 8 k)⟩
theorem Qxb (rows:List CRow) (m:Mem):Qbl rows (Qdr m (rows.map (CRow.ren 8 m.next))) m.next:=fun j r h=>by
 have:=Qxo m (rows.map (CRow.ren 8 m.next)) (j:=j) (r:=r.ren 8 m.next) (by rw [List.getElem?_map,h];rfl)
 exact this
theorem Qbl.keep {rows:List CRow} {m m':Mem} {k:Nat} (h:Qbl rows m k) (hk:∀ x,k≤x→x<k+rows.length→m'.objs.get x=m.objs.get x):Qbl rows m' k:=fun j r hj=>by
 have hlt:j<rows.length:=(Kgs.1 hj).1
 have:=h j r hj
 unfold vw at this ⊢
 rw [hk _ (by omega) (by omega)];exact this
end Go.Proofs.YtgmkbdmgifdfeaaGreatDoor

namespace Go.Proofs.YtgmkbdmgifdfeaaGreatDoor
open Go Go.Ev
noncomputable def Qbp:List Value:=(List.range 20).map fun i=>.int .u64 ((10 ^ i:Nat):Int)
def Qb4 (m:Mem):Prop:=0<m.next∧∃ e,vw m 0=some ⟨false,e,false,Qbp⟩
theorem Qb4.old {n:Nat} {m m':Mem} (h:Qb4 m) (k:Old n m m') (hn:0<n):Qb4 m':=by
 obtain⟨h1,e,h2⟩:=h
 exact⟨Nat.lt_of_lt_of_le h1 k.1,e,by rw [k.vw hn];exact h2⟩
open Classical in
noncomputable def Qpi:List Value→Mem→Option (Value × Mem)
 | [.int .i64 n],m=>if -9223372036854775808≤n∧n≤9223372036854775807∧Qb4 m then some (.string ⟨⟨Lib.itoa n⟩⟩,m) else none
 |_,_=>none
open Classical in
noncomputable def Qxw:List Value→Mem→Option (Value × Mem)
 | [.int .u64 n,.int .i64 z],m=>if 0≤n∧n≤18446744073709551615∧z=10∧Qb4 m then some (.string ⟨⟨Lib.decDigits n.toNat⟩⟩,m) else none
 |_,_=>none
noncomputable def Qew (v:Value) (rows:List CRow):List Value→Mem→Option (Value × Mem)
 | [],m=>match Nat.ble 8 m.next with|true=>some (renV 8 m.next v,Qdr m (rows.map (CRow.ren 8 m.next)))|false=>none
 |_,_=>none
def Qcv (m:Mem):Prop:=7<m.next∧(∃ e t a,vw m 6=some ⟨false,e,false,[.iface t (.pointer (some a))]⟩)∧∃ e t a,vw m 7=some ⟨false,e,false,[.iface t (.pointer (some a))]⟩
theorem Qcv.old {n:Nat} {m m':Mem} (h:Qcv m) (k:Old n m m') (hn:7<n):Qcv m':=by
 obtain⟨h1,⟨e,t,a,h2⟩,e',t',a',h3⟩:=h
 exact⟨Nat.lt_of_lt_of_le h1 k.1,⟨e,t,a,by rw [k.vw (by omega)];exact h2⟩,e',t',a',by rw [k.vw hn];exact h3⟩
open Classical in
noncomputable def puOv:List Value→Mem→Option (Value × Mem)
 | [.string s,.int .i64 b,.int .i64 z],m=>if b=10∧z=64∧s.data.toList.length≤281474976710656∧Qcv m then (match Lib.parseUintB 64 s.data.toList with
   | .ok u=>some (.tuple ⟨[.int .u64 (u:Int),.nilIface]⟩,m)
   | .range=>some (.tuple ⟨[.int .u64 18446744073709551615,.iface 195 (.pointer (some ⟨m.next,0,none⟩))]⟩,Qah m .dead)
   |_=>some (.tuple ⟨[.int .u64 0,.iface 195 (.pointer (some ⟨m.next,0,none⟩))]⟩,Qah m .dead)) else none
 |_,_=>none
noncomputable def Ja1:List Value→Mem→Option (Value × Mem)
 | [.string s,.string ⟨⟨[c]⟩⟩],m=>some (.int .i64 (Lib.indexByte s.data.toList c),m)
 |_,_=>none
noncomputable def Qx6:List Value→Mem→Option (Value × Mem)
 | [.string s,.string p],m=>some (.tuple ⟨[.string ⟨⟨Lib.trimPrefix s.data.toList p.data.toList⟩⟩,.bool (Lib.hasPrefix s.data.toList p.data.toList)]⟩,m)
 |_,_=>none
noncomputable def ibOv:List Value→Mem→Option (Value × Mem)
 | [.string s,.int .u8 c],m=>some (.int .i64 (Lib.indexByte s.data.toList c.toNat.toUInt8),m)
 |_,_=>none
noncomputable def ovL:List (Nat × (List Value→Mem→Option (Value × Mem))) :=
 [(31,Qpi),(48,Qxw),(30,Qew Qpk Qaq),(67,Qew Qvo Qfu),(130,puOv),(108,Ja1),(118,Qx6),(131,ibOv)]
noncomputable def Qvk {α : Type}:List (Nat × α)→T α
 | []=>.lf
 | (k,v)::l=>T.set (Qvk l) k v
theorem Qkz {α : Type}:∀ (l:List (Nat × α)) (f:Nat),(Qvk l).get f=(l.find? fun x=>decide (f=x.1)).map (·.2)
 | [],f=>T.get_lf f
 | (k,v)::l,f=>by
   rw [Qvk,T.get_set,List.find?_cons]
   by_cases h:f=k
   ·rw [if_pos h];simp [h]
   ·rw [if_neg h,Qkz l f];simp [h]
noncomputable def ovs:T (List Value→Mem→Option (Value × Mem)):=Qvk ovL
noncomputable def tb:Tabs:=Qdo Tryz.prog 8 ovs
theorem Qqh (f:Nat):tb.ov.get f=(ovL.find? fun x=>decide (f=x.1)).map (·.2):=Qkz ovL f
theorem Qad {f:Nat} (h:(decide (f=31)||decide (f=48)||decide (f=30)||decide (f=67)||decide (f=130)||decide (f=108)||decide (f=118)||decide (f=131))=false):tb.ov.get f=none:=by
 rw [Qqh]
 simp only [Bool.or_eq_false_iff] at h
 obtain⟨⟨⟨⟨⟨⟨⟨h1,h2⟩,h3⟩,h4⟩,h5⟩,h6⟩,h7⟩,h8⟩:=h
 simp only [ovL,List.find?_cons,h1,h2,h3,h4,h5,h6,h7,h8,List.find?_nil,Option.map_none]
theorem ov_itoa:tb.ov.get 31=some Qpi:=by rw [Qqh];rfl
theorem ov_fmt:tb.ov.get 48=some Qxw:=by rw [Qqh];rfl
theorem Qvw:tb.ov.get 30=some (Qew Qpk Qaq):=by rw [Qqh];rfl
theorem ov_rrows:tb.ov.get 67=some (Qew Qvo Qfu):=by rw [Qqh];rfl
theorem ov_pu:tb.ov.get 130=some puOv:=by rw [Qqh];rfl
theorem ov_idx:tb.ov.get 108=some Ja1:=by rw [Qqh];rfl
theorem ov_cut:tb.ov.get 118=some Qx6:=by rw [Qqh];rfl
theorem ov_ib:tb.ov.get 131=some ibOv:=by rw [Qqh];rfl
theorem fget {f:Nat} {fd:Func} (h:Tryz.prog.funcs[f]? = some fd):tb.funcs.get f=some fd:=by
 simp only [tb,Qdo,T.get_ofList]
 simpa using h
noncomputable def tvP (P:Program) (t:Nat):TI:=match mkTI P t with|some i=>i|none=>⟨.bool,default,false,[],false,[],false,false⟩
theorem ti_tvP {P:Program} {g:Nat} {ov:T (List Value→Mem→Option (Value × Mem))} {t:Nat} (h:(Nat.blt t P.types.size&&(mkTI P t).isSome)=true):ti (Qdo P g ov) t=some (tvP P t):=by
 simp only [Kba,Nat.blt_eq] at h
 obtain⟨h1,h2⟩:=h
 simp only [ti,Qdo,T.get_ofList]
 rw [List.getElem?_map,List.getElem?_range h1]
 simp only [Option.map_some,tvP]
 cases h:mkTI P t with
 |none=>rw [h] at h2;cases h2
 |some i=>rfl
noncomputable def tv (t:Nat):TI:=tvP Tryz.prog t
noncomputable def fsv (t:Nat):Array Field:=match (tv t).d with | .struct fs=>fs|_ => #[]
theorem Qc4 {t:Nat} (h:(Nat.blt t Tryz.prog.types.size&&(mkTI Tryz.prog t).isSome)=true):ti tb t=some (tv t):=ti_tvP h
namespace Ty
theorem ti3:ti tb 3=some (tv 3):=Qc4 (by kernel_rfl)
theorem d3:(tv 3).d=.int .i64:=by kernel_rfl
theorem g3:(tv 3).agg=false:=by kernel_rfl
theorem s3:(tv 3).inf.size=1:=by kernel_rfl
theorem y3:(tv 3).inf.bytes=8:=by kernel_rfl
theorem h3:(tv 3).hasZ=true:=by kernel_rfl
theorem z3:(tv 3).zc=[.int .i64 0]:=by kernel_rfl
theorem ti4:ti tb 4=some (tv 4):=Qc4 (by kernel_rfl)
theorem d4:(tv 4).d=.bool:=by kernel_rfl
theorem g4:(tv 4).agg=false:=by kernel_rfl
theorem s4:(tv 4).inf.size=1:=by kernel_rfl
theorem h4:(tv 4).hasZ=true:=by kernel_rfl
theorem z4:(tv 4).zc=[.bool false]:=by kernel_rfl
theorem ti5:ti tb 5=some (tv 5):=Qc4 (by kernel_rfl)
theorem d5:(tv 5).d=.int .u8:=by kernel_rfl
theorem g5:(tv 5).agg=false:=by kernel_rfl
theorem s5:(tv 5).inf.size=1:=by kernel_rfl
theorem y5:(tv 5).inf.bytes=1:=by kernel_rfl
theorem h5:(tv 5).hasZ=true:=by kernel_rfl
theorem z5:(tv 5).zc=[.int .u8 0]:=by kernel_rfl
theorem ti9:ti tb 9=some (tv 9):=Qc4 (by kernel_rfl)
theorem d9:(tv 9).d=.string:=by kernel_rfl
theorem g9:(tv 9).agg=false:=by kernel_rfl
theorem s9:(tv 9).inf.size=1:=by kernel_rfl
theorem y9:(tv 9).inf.bytes=16:=by kernel_rfl
theorem h9:(tv 9).hasZ=true:=by kernel_rfl
theorem z9:(tv 9).zc=[.string ⟨⟨[]⟩⟩]:=by kernel_rfl
theorem ti20:ti tb 20=some (tv 20):=Qc4 (by kernel_rfl)
theorem ti22:ti tb 22=some (tv 22):=Qc4 (by kernel_rfl)
theorem d22:(tv 22).d=.int .u64:=by kernel_rfl
theorem g22:(tv 22).agg=false:=by kernel_rfl
theorem s22:(tv 22).inf.size=1:=by kernel_rfl
theorem ti24:ti tb 24=some (tv 24):=Qc4 (by kernel_rfl)
theorem d24:(tv 24).d=.struct (fsv 24):=by kernel_rfl
theorem g24:(tv 24).agg=true:=by kernel_rfl
theorem s24:(tv 24).inf.size=6:=by kernel_rfl
theorem h24:(tv 24).hasZ=true:=by kernel_rfl
theorem z24:(tv 24).zc=[.int .i64 0,.int .u64 0,.int .u64 0,.int .i64 0,.int .i64 0,.int .i64 0]:=by kernel_rfl
theorem f24:(tv 24).flds=[(0,1,3,false),(1,1,22,false),(2,1,22,false),(3,1,3,false),(4,1,3,false),(5,1,3,false)]:=by kernel_rfl
theorem ti26:ti tb 26=some (tv 26):=Qc4 (by kernel_rfl)
theorem d26:(tv 26).d=.struct (fsv 26):=by kernel_rfl
theorem g26:(tv 26).agg=true:=by kernel_rfl
theorem s26:(tv 26).inf.size=9:=by kernel_rfl
theorem h26:(tv 26).hasZ=true:=by kernel_rfl
theorem z26:(tv 26).zc=[.int .i64 0,.int .u64 0,.int .u64 0,.int .i64 0,.int .i64 0,.int .i64 0,.int .i64 0,.int .i64 0,.int .u64 0]:=by kernel_rfl
theorem f26:(tv 26).flds=[(0,6,24,false),(6,1,3,false),(7,1,3,false),(8,1,22,false)]:=by kernel_rfl
theorem ti27:ti tb 27=some (tv 27):=Qc4 (by kernel_rfl)
theorem d27:(tv 27).d=.slice 36:=by kernel_rfl
theorem g27:(tv 27).agg=false:=by kernel_rfl
theorem s27:(tv 27).inf.size=1:=by kernel_rfl
theorem h27:(tv 27).hasZ=true:=by kernel_rfl
theorem z27:(tv 27).zc=[.slice none 0 0]:=by kernel_rfl
theorem ti29:ti tb 29=some (tv 29):=Qc4 (by kernel_rfl)
theorem d29:(tv 29).d=.slice 5:=by kernel_rfl
theorem g29:(tv 29).agg=false:=by kernel_rfl
theorem s29:(tv 29).inf.size=1:=by kernel_rfl
theorem ti32:ti tb 32=some (tv 32):=Qc4 (by kernel_rfl)
theorem f32:(tv 32).flds=[(0,1,3,false),(1,1,3,false)]:=by kernel_rfl
theorem ti33:ti tb 33=some (tv 33):=Qc4 (by kernel_rfl)
theorem d33:(tv 33).d=.int .u32:=by kernel_rfl
theorem g33:(tv 33).agg=false:=by kernel_rfl
theorem s33:(tv 33).inf.size=1:=by kernel_rfl
theorem ti34:ti tb 34=some (tv 34):=Qc4 (by kernel_rfl)
theorem d34:(tv 34).d=.slice 3:=by kernel_rfl
theorem g34:(tv 34).agg=false:=by kernel_rfl
theorem s34:(tv 34).inf.size=1:=by kernel_rfl
theorem ti36:ti tb 36=some (tv 36):=Qc4 (by kernel_rfl)
theorem d36:(tv 36).d=.struct (fsv 36):=by kernel_rfl
theorem g36:(tv 36).agg=true:=by kernel_rfl
theorem s36:(tv 36).inf.size=17:=by kernel_rfl
theorem y36:(tv 36).inf.bytes=168:=by kernel_rfl
theorem h36:(tv 36).hasZ=true:=by kernel_rfl
theorem z36:(tv 36).zc=[.int .i64 0,.int .i64 0,.int .i64 0,.int .u64 0,.int .u64 0,.slice none 0 0,.int .u64 0,.int .i64 0,.int .i64 0,.int .i64 0,.int .i64 0,.int .i64 0,.int .u32 0,.int .u64 0,.slice none 0 0,.int .i64 0,.int .u64 0]:=by kernel_rfl
theorem f36:(tv 36).flds=[(0,1,3,false),(1,1,3,false),(2,1,3,false),(3,1,22,false),(4,1,22,false),(5,1,29,false),(6,1,22,false),(7,2,32,false),(9,1,3,false),(10,1,3,false),(11,1,3,false),(12,1,33,false),(13,1,22,false),(14,1,34,false),(15,1,3,false),(16,1,22,false)]:=by kernel_rfl
theorem ti38:ti tb 38=some (tv 38):=Qc4 (by kernel_rfl)
theorem g38:(tv 38).agg=false:=by kernel_rfl
theorem s38:(tv 38).inf.size=1:=by kernel_rfl
theorem h38:(tv 38).hasZ=true:=by kernel_rfl
theorem z38:(tv 38).zc=[.int .i64 0]:=by kernel_rfl
theorem ti54:ti tb 54=some (tv 54):=Qc4 (by kernel_rfl)
theorem d54:(tv 54).d=.slice 9:=by kernel_rfl
theorem g54:(tv 54).agg=false:=by kernel_rfl
theorem s54:(tv 54).inf.size=1:=by kernel_rfl
theorem ti63:ti tb 63=some (tv 63):=Qc4 (by kernel_rfl)
theorem d63:(tv 63).d=.pointer 65:=by kernel_rfl
theorem g63:(tv 63).agg=false:=by kernel_rfl
theorem s63:(tv 63).inf.size=1:=by kernel_rfl
theorem ti65:ti tb 65=some (tv 65):=Qc4 (by kernel_rfl)
theorem s65:(tv 65).inf.size=2:=by kernel_rfl
theorem h65:(tv 65).hasZ=true:=by kernel_rfl
theorem z65:(tv 65).zc=[.pointer none,.slice none 0 0]:=by kernel_rfl
theorem f65:(tv 65).flds=[(0,1,63,false),(1,1,29,false)]:=by kernel_rfl
theorem ti67:ti tb 67=some (tv 67):=Qc4 (by kernel_rfl)
theorem d67:(tv 67).d=.struct (fsv 67):=by kernel_rfl
theorem h67:(tv 67).hasZ=true:=by kernel_rfl
theorem z67:(tv 67).zc=[.pointer none,.slice none 0 0,.bool false]:=by kernel_rfl
theorem f67:(tv 67).flds=[(0,2,65,false),(2,1,4,false)]:=by kernel_rfl
theorem ti69:ti tb 69=some (tv 69):=Qc4 (by kernel_rfl)
theorem ti75:ti tb 75=some (tv 75):=Qc4 (by kernel_rfl)
theorem d75:(tv 75).d=.slice 80:=by kernel_rfl
theorem ti78:ti tb 78=some (tv 78):=Qc4 (by kernel_rfl)
theorem d78:(tv 78).d=.slice 84:=by kernel_rfl
theorem g78:(tv 78).agg=false:=by kernel_rfl
theorem ti80:ti tb 80=some (tv 80):=Qc4 (by kernel_rfl)
theorem g80:(tv 80).agg=true:=by kernel_rfl
theorem s80:(tv 80).inf.size=2:=by kernel_rfl
theorem h80:(tv 80).hasZ=true:=by kernel_rfl
theorem z80:(tv 80).zc=[.string ⟨⟨[]⟩⟩,.slice none 0 0]:=by kernel_rfl
theorem f80:(tv 80).flds=[(0,1,9,false),(1,1,78,false)]:=by kernel_rfl
theorem ti81:ti tb 81=some (tv 81):=Qc4 (by kernel_rfl)
theorem g81:(tv 81).agg=false:=by kernel_rfl
theorem ti82:ti tb 82=some (tv 82):=Qc4 (by kernel_rfl)
theorem g82:(tv 82).agg=false:=by kernel_rfl
theorem ti84:ti tb 84=some (tv 84):=Qc4 (by kernel_rfl)
theorem g84:(tv 84).agg=true:=by kernel_rfl
theorem s84:(tv 84).inf.size=2:=by kernel_rfl
theorem h84:(tv 84).hasZ=true:=by kernel_rfl
theorem z84:(tv 84).zc=[.nilFunc,.nilFunc]:=by kernel_rfl
theorem f84:(tv 84).flds=[(0,1,81,false),(1,1,82,false)]:=by kernel_rfl
theorem ti88:ti tb 88=some (tv 88):=Qc4 (by kernel_rfl)
theorem d88:(tv 88).d=.struct (fsv 88):=by kernel_rfl
theorem g88:(tv 88).agg=true:=by kernel_rfl
theorem s88:(tv 88).inf.size=4:=by kernel_rfl
theorem h88:(tv 88).hasZ=true:=by kernel_rfl
theorem z88:(tv 88).zc=[.string ⟨⟨[]⟩⟩,.bool false,.int .i64 0,.string ⟨⟨[]⟩⟩]:=by kernel_rfl
theorem f88:(tv 88).flds=[(0,1,9,false),(1,1,4,false),(2,1,3,false),(3,1,9,false)]:=by kernel_rfl
theorem ti93:ti tb 93=some (tv 93):=Qc4 (by kernel_rfl)
theorem d93:(tv 93).d=.struct (fsv 93):=by kernel_rfl
theorem h93:(tv 93).hasZ=true:=by kernel_rfl
theorem z93:(tv 93).zc=[.string ⟨⟨[]⟩⟩,.bool false]:=by kernel_rfl
theorem f93:(tv 93).flds=[(0,1,9,false),(1,1,4,false)]:=by kernel_rfl
theorem ti97:ti tb 97=some (tv 97):=Qc4 (by kernel_rfl)
theorem g97:(tv 97).agg=false:=by kernel_rfl
theorem s97:(tv 97).inf.size=1:=by kernel_rfl
theorem h97:(tv 97).hasZ=true:=by kernel_rfl
theorem z97:(tv 97).zc=[.pointer none]:=by kernel_rfl
theorem ti99:ti tb 99=some (tv 99):=Qc4 (by kernel_rfl)
theorem d99:(tv 99).d=.struct (fsv 99):=by kernel_rfl
theorem h99:(tv 99).hasZ=true:=by kernel_rfl
theorem z99:(tv 99).zc=[.int .i64 0,.int .u64 0,.int .u64 0,.int .i64 0,.int .i64 0,.int .i64 0,.int .i64 0,.int .i64 0,.int .u64 0,.slice none 0 0,.bool false]:=by kernel_rfl
theorem f99:(tv 99).flds=[(0,9,26,false),(9,1,27,false),(10,1,4,false)]:=by kernel_rfl
theorem ti118:ti tb 118=some (tv 118):=Qc4 (by kernel_rfl)
theorem g118:(tv 118).agg=false:=by kernel_rfl
theorem ti121:ti tb 121=some (tv 121):=Qc4 (by kernel_rfl)
theorem g121:(tv 121).agg=false:=by kernel_rfl
theorem ti122:ti tb 122=some (tv 122):=Qc4 (by kernel_rfl)
theorem d122:(tv 122).d=.pointer 5:=by kernel_rfl
theorem ti123:ti tb 123=some (tv 123):=Qc4 (by kernel_rfl)
theorem d123:(tv 123).d=.slice 88:=by kernel_rfl
theorem ti128:ti tb 128=some (tv 128):=Qc4 (by kernel_rfl)
theorem d128:(tv 128).d=.struct (fsv 128):=by kernel_rfl
theorem s128:(tv 128).inf.size=0:=by kernel_rfl
theorem h128:(tv 128).hasZ=true:=by kernel_rfl
theorem z128:(tv 128).zc=[]:=by kernel_rfl
theorem ti132:ti tb 132=some (tv 132):=Qc4 (by kernel_rfl)
theorem d132:(tv 132).d=.struct (fsv 132):=by kernel_rfl
theorem h132:(tv 132).hasZ=true:=by kernel_rfl
theorem z132:(tv 132).zc=[.slice none 0 0]:=by kernel_rfl
theorem f132:(tv 132).flds=[(0,1,54,false)]:=by kernel_rfl
theorem ti145:ti tb 145=some (tv 145):=Qc4 (by kernel_rfl)
theorem d145:(tv 145).d=.unsafePointer:=by kernel_rfl
theorem ti149:ti tb 149=some (tv 149):=Qc4 (by kernel_rfl)
theorem d149:(tv 149).d=.array 3 9:=by kernel_rfl
theorem h149:(tv 149).hasZ=true:=by kernel_rfl
theorem z149:(tv 149).zc=[.string ⟨⟨[]⟩⟩,.string ⟨⟨[]⟩⟩,.string ⟨⟨[]⟩⟩]:=by kernel_rfl
end Ty
theorem Qyp (e:TypeId) (n:Nat) (z:List Value):vwO (Qcf e n z)=if n=z.length then some ⟨true,e,false,z⟩ else vwX (Qcf e n z):=by
 split
 ·rename_i h;subst h;exact Qh0 e z
 ·rfl
def isRow:Option Vw→Bool
 |some _=>true
 |none=>false
theorem Qxr (v:Vw):isRow (some v)=true:=_root_.id rfl
theorem o_loadC {tb:Tabs} {m:Mem} (t:TypeId) (b o:Nat) (s:Option Nat) (h:isRow (vw m b)=true):Qdz tb t m (.pointer (some ⟨b,o,s⟩))=ldW tb t m b o s (ti tb t) (vw m b):=o_loadW t b o s
attribute [simp] o_loadC Qxr o_storeW
attribute [simp] wpR_cons wpG_true Qyi wpS_r wpS_f wpS_e wpS_c wpR_nil dB_some dB_none wX_no wX_on isB_bool Qwy Qwz oR_some oE_some nil_ptr Qz7 Qqj gx_c0 gx_cs Ja5 Qnq Qei Jbh evL_func evsL_nil Jbd evPL_nil Jbe Jbg Jbf o_move o_assign o_pick o_alloc o_box o_build Qsa o_load o_store Qxh o_binOp o_unOp Jae Qm9 Qxi o_slice Quh Qug o_index Qr9 Jad o_callV o_callB o_defer o_panic b_add b_sub b_eql b_neq b_lss b_gtr b_leq b_geq b_beql b_bneq u_not u_neg Qcx Qoz Qyv Qq8 Qya Qog retR_ret Qdd Qat Qfh Qrj Qpw ldW_some stW_some ia_slice ia_str ia_agg cv_int lo_nil lo_cons T.get_setL T.get_lf b_shr b_and bound_eq Jan len_str sl_W slW_some sl_str fi_W fiW_some fi_nil fi_str at_W Qrb Jb7 Qtb Qg7 Ql8 ble_d blt_d beq_d Qdf Qgb Qio Qlp Qhr Region.binds Op.operands Call.operands Jbs Qx3 dBl_true Jbw Jbu dGd_true dSt_r dSt_f dSt_e dSt_c Jbt Qx4 dNx_e dNx_c wpD_succ Ql5 memL Qn5 Ql3 Qn7 Qfj Jbv Qn6 Qyq vEq_s vEq_p vEq_l vEqL Qln Qcm Qrc Qi3 Qsh Qm7 Qe3 Qqs Qa0 Qg9 Qgd Qf5 slStr Qp5 Ql6 addA ldV Qaf Qcc Qav Qcs Qyo Qcj Qyp vwO_lf vwO_setL Qyr repl Qwp takeN_c0 Qis spl stOk Qfl one_u8s Qnn oneC Qs7 Qv4 Qia Qz5 Qj5 Qnm ptr0
open Ty in
attribute [simp] ti3 d3 g3 s3 y3 h3 z3 ti4 d4 g4 s4 h4 z4 ti5 d5 g5 s5 y5 h5 z5 ti9 d9 g9 s9 y9 h9 z9 ti20 ti22 d22 g22 s22 ti24 d24 g24 s24 h24 z24 f24 ti26 d26 g26 s26 h26 z26 f26 ti27 d27 g27 s27 h27 z27 ti29 d29 g29 s29 ti32 f32 ti33 d33 g33 s33 ti34 d34 g34 s34 ti36 d36 g36 s36 y36 h36 z36 f36 ti38 g38 s38 h38 z38 ti54 d54 g54 s54 ti63 d63 g63 s63 ti65 s65 h65 z65 f65 ti67 d67 h67 z67 f67 ti69 ti75 d75 ti78 d78 g78 ti80 g80 s80 h80 z80 f80 ti81 g81 ti82 g82 ti84 g84 s84 h84 z84 f84 ti88 d88 g88 s88 h88 z88 f88 ti93 d93 h93 z93 f93 ti97 g97 s97 h97 z97 ti99 d99 h99 z99 f99 ti118 g118 ti121 g121 ti122 d122 ti123 d123 ti128 d128 s128 h128 z128 ti132 d132 h132 z132 f132 ti145 d145 ti149 d149 h149 z149
def Sl (k:List Value) (n:Nat) (l:List Value):Prop:=∃ ts,ts.length=n∧l=k++ts
theorem Sl.mk {k l:List Value} {n:Nat} (h:l.take k.length=k) (hl:l.length=k.length+n):Sl k n l:=⟨l.drop k.length,by simp [hl],by conv=>lhs;rw [← List.take_append_drop k.length l,h]⟩
theorem xitoa {n:Int} {m:Mem} {ds:List Deferred} {K:Value→List Deferred→Mem→Prop} {PK:List PanicEntry→Mem→Prop} (h0 : -9223372036854775808≤n) (h1:n≤9223372036854775807) (hp:Qb4 m)
  (k:K (.string ⟨⟨Lib.itoa n⟩⟩) ds m):Qey tb (Qaz tb (.func (.func 31) #[] #[]) [.int .i64 n] m) ds m K PK:=by
 have e:Qaz tb (.func (.func 31) #[] #[]) [.int .i64 n] m=.over (.string ⟨⟨Lib.itoa n⟩⟩) m:=by
  simp only [Qaz,Qd8,Ql4,Kna,List.append_nil,ov_itoa,Qpi,if_pos (show -9223372036854775808≤n∧n≤9223372036854775807∧Qb4 m from ⟨h0,h1,hp⟩)]
 rw [e];exact k
theorem xfmt {n:Int} {m:Mem} {ds:List Deferred} {K:Value→List Deferred→Mem→Prop} {PK:List PanicEntry→Mem→Prop} (h0:0≤n) (h1:n≤18446744073709551615) (hp:Qb4 m)
  (k:K (.string ⟨⟨Lib.decDigits n.toNat⟩⟩) ds m):Qey tb (Qaz tb (.func (.func 48) #[] #[]) [.int .u64 n,.int .i64 10] m) ds m K PK:=by
 have e:Qaz tb (.func (.func 48) #[] #[]) [.int .u64 n,.int .i64 10] m=.over (.string ⟨⟨Lib.decDigits n.toNat⟩⟩) m:=by
  simp only [Qaz,Qd8,Ql4,Kna,List.append_nil,ov_fmt,Qxw,if_pos (show 0≤n∧n≤18446744073709551615∧(10:Int)=10∧Qb4 m from ⟨h0,h1,rfl,hp⟩)]
 rw [e];exact k
theorem Qto {f:FuncId} {v:Value} {rows:List CRow} {m:Mem} {ds:List Deferred} {K:Value→List Deferred→Mem→Prop} {PK:List PanicEntry→Mem→Prop} (hov:tb.ov.get f=some (Qew v rows)) (hm:8≤m.next)
  (k:Qbl rows (Qdr m (rows.map (CRow.ren 8 m.next))) m.next→K (renV 8 m.next v) ds (Qdr m (rows.map (CRow.ren 8 m.next)))):Qey tb (Qaz tb (.func (.func f) #[] #[]) [] m) ds m K PK:=by
 have hb:Nat.ble 8 m.next=true:=by rw [Nat.ble_eq];exact hm
 have e:Qaz tb (.func (.func f) #[] #[]) [] m=.over (renV 8 m.next v) (Qdr m (rows.map (CRow.ren 8 m.next))):=by
  simp only [Qaz,Qd8,Ql4,Kna,List.append_nil,hov,Qew,hb]
 rw [e];exact k (Qxb rows m)
theorem Qwi {f:FuncId} {g:List Value→Mem→Option (Value × Mem)} {args:List Value} {m m':Mem} {v:Value} {ds:List Deferred} {K:Value→List Deferred→Mem→Prop} {PK:List PanicEntry→Mem→Prop} (hov:tb.ov.get f=some g) (h:g args m=some (v,m'))
  (k:K v ds m'):Qey tb (Qaz tb (.func (.func f) #[] #[]) args m) ds m K PK:=by
 have e:Qaz tb (.func (.func f) #[] #[]) args m=.over v m':=by
  simp only [Qaz,Qd8,Ql4,Kna,List.append_nil,hov,h]
 rw [e];exact k
end Go.Proofs.YtgmkbdmgifdfeaaGreatDoor

