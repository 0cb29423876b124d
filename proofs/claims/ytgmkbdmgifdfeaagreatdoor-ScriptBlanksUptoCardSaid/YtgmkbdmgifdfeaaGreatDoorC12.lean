/- A part of a proof: ScriptBlanks. -/
import Derived.Lib.ItoaNum
import Derived.Lib.ParseIntB
import Derived.Shelf.Small.Wraps
import Derived.Shelf.Strings.Search3
import Derived.Test.YtgmkbdmgifdfeaaGreatDoorChecked
import Derived.Test.YtgmkbdmgifdfeaaGreatDoorC11
set_option linter.unusedVariables false
set_option linter.unusedSimpArgs false
namespace Go.Proofs.YtgmkbdmgifdfeaaGreatDoor
open Go Go.Ev
def Qpl:Value:=(.slice (some ⟨116,0,none⟩) 23 23)
def Qav:List CRow:=[
 ⟨84,false,[(.func (.func 83) ⟨[]⟩ ⟨[(.pointer (some ⟨9,0,none⟩))]⟩),(.func (.func 85) ⟨[]⟩ ⟨[(.pointer (some ⟨9,0,none⟩))]⟩)]⟩,
 ⟨118,false,[(.func (.func 82) ⟨[]⟩ ⟨[]⟩)]⟩,
 ⟨84,false,[(.func (.func 83) ⟨[]⟩ ⟨[(.pointer (some ⟨9,0,none⟩))]⟩),(.func (.func 85) ⟨[]⟩ ⟨[(.pointer (some ⟨9,0,none⟩))]⟩)]⟩,
 ⟨118,false,[(.func (.func 51) ⟨[]⟩ ⟨[]⟩)]⟩,
 ⟨84,false,[(.func (.func 83) ⟨[]⟩ ⟨[(.pointer (some ⟨11,0,none⟩))]⟩),(.func (.func 85) ⟨[]⟩ ⟨[(.pointer (some ⟨11,0,none⟩))]⟩)]⟩,
 ⟨118,false,[(.func (.func 52) ⟨[]⟩ ⟨[]⟩)]⟩,
 ⟨84,false,[(.func (.func 83) ⟨[]⟩ ⟨[(.pointer (some ⟨13,0,none⟩))]⟩),(.func (.func 85) ⟨[]⟩ ⟨[(.pointer (some ⟨13,0,none⟩))]⟩)]⟩,
 ⟨84,false,[(.func (.func 83) ⟨[]⟩ ⟨[(.pointer (some ⟨9,0,none⟩))]⟩),(.func (.func 85) ⟨[]⟩ ⟨[(.pointer (some ⟨9,0,none⟩))]⟩),(.func (.func 83) ⟨[]⟩ ⟨[(.pointer (some ⟨11,0,none⟩))]⟩),(.func (.func 85) ⟨[]⟩ ⟨[(.pointer (some ⟨11,0,none⟩))]⟩),(.func (.func 83) ⟨[]⟩ ⟨[(.pointer (some ⟨13,0,none⟩))]⟩),(.func (.func 85) ⟨[]⟩ ⟨[(.pointer (some ⟨13,0,none⟩))]⟩)]⟩,
 ⟨121,false,[(.func (.func 54) ⟨[]⟩ ⟨[]⟩)]⟩,
 ⟨84,false,[(.func (.func 86) ⟨[]⟩ ⟨[(.pointer (some ⟨16,0,none⟩))]⟩),(.func (.func 88) ⟨[]⟩ ⟨[(.pointer (some ⟨16,0,none⟩))]⟩)]⟩,
 ⟨84,false,[(.func (.func 86) ⟨[]⟩ ⟨[(.pointer (some ⟨16,0,none⟩))]⟩),(.func (.func 88) ⟨[]⟩ ⟨[(.pointer (some ⟨16,0,none⟩))]⟩)]⟩,
 ⟨121,false,[(.func (.func 55) ⟨[]⟩ ⟨[]⟩)]⟩,
 ⟨84,false,[(.func (.func 86) ⟨[]⟩ ⟨[(.pointer (some ⟨19,0,none⟩))]⟩),(.func (.func 88) ⟨[]⟩ ⟨[(.pointer (some ⟨19,0,none⟩))]⟩)]⟩,
 ⟨84,false,[(.func (.func 86) ⟨[]⟩ ⟨[(.pointer (some ⟨19,0,none⟩))]⟩),(.func (.func 88) ⟨[]⟩ ⟨[(.pointer (some ⟨19,0,none⟩))]⟩)]⟩,
 ⟨121,false,[(.func (.func 56) ⟨[]⟩ ⟨[]⟩)]⟩,
 ⟨84,false,[(.func (.func 86) ⟨[]⟩ ⟨[(.pointer (some ⟨22,0,none⟩))]⟩),(.func (.func 88) ⟨[]⟩ ⟨[(.pointer (some ⟨22,0,none⟩))]⟩)]⟩,
 ⟨84,false,[(.func (.func 86) ⟨[]⟩ ⟨[(.pointer (some ⟨22,0,none⟩))]⟩),(.func (.func 88) ⟨[]⟩ ⟨[(.pointer (some ⟨22,0,none⟩))]⟩)]⟩,
 ⟨121,false,[(.func (.func 57) ⟨[]⟩ ⟨[]⟩)]⟩,
 ⟨84,false,[(.func (.func 86) ⟨[]⟩ ⟨[(.pointer (some ⟨25,0,none⟩))]⟩),(.func (.func 88) ⟨[]⟩ ⟨[(.pointer (some ⟨25,0,none⟩))]⟩)]⟩,
 ⟨84,false,[(.func (.func 86) ⟨[]⟩ ⟨[(.pointer (some ⟨25,0,none⟩))]⟩),(.func (.func 88) ⟨[]⟩ ⟨[(.pointer (some ⟨25,0,none⟩))]⟩)]⟩,
 ⟨84,false,[(.func (.func 83) ⟨[]⟩ ⟨[(.pointer (some ⟨29,0,none⟩))]⟩),(.func (.func 85) ⟨[]⟩ ⟨[(.pointer (some ⟨29,0,none⟩))]⟩)]⟩,
 ⟨118,false,[(.func (.func 82) ⟨[]⟩ ⟨[]⟩)]⟩,
 ⟨84,false,[(.func (.func 83) ⟨[]⟩ ⟨[(.pointer (some ⟨29,0,none⟩))]⟩),(.func (.func 85) ⟨[]⟩ ⟨[(.pointer (some ⟨29,0,none⟩))]⟩)]⟩,
 ⟨84,false,[(.func (.func 83) ⟨[]⟩ ⟨[(.pointer (some ⟨29,0,none⟩))]⟩),(.func (.func 85) ⟨[]⟩ ⟨[(.pointer (some ⟨29,0,none⟩))]⟩)]⟩,
 ⟨84,false,[(.func (.func 83) ⟨[]⟩ ⟨[(.pointer (some ⟨33,0,none⟩))]⟩),(.func (.func 85) ⟨[]⟩ ⟨[(.pointer (some ⟨33,0,none⟩))]⟩)]⟩,
 ⟨118,false,[(.func (.func 82) ⟨[]⟩ ⟨[]⟩)]⟩,
 ⟨84,false,[(.func (.func 83) ⟨[]⟩ ⟨[(.pointer (some ⟨33,0,none⟩))]⟩),(.func (.func 85) ⟨[]⟩ ⟨[(.pointer (some ⟨33,0,none⟩))]⟩)]⟩,
 ⟨84,false,[(.func (.func 83) ⟨[]⟩ ⟨[(.pointer (some ⟨33,0,none⟩))]⟩),(.func (.func 85) ⟨[]⟩ ⟨[(.pointer (some ⟨33,0,none⟩))]⟩)]⟩,
 ⟨84,false,[(.func (.func 83) ⟨[]⟩ ⟨[(.pointer (some ⟨37,0,none⟩))]⟩),(.func (.func 85) ⟨[]⟩ ⟨[(.pointer (some ⟨37,0,none⟩))]⟩)]⟩,
 ⟨118,false,[(.func (.func 82) ⟨[]⟩ ⟨[]⟩)]⟩,
 ⟨84,false,[(.func (.func 83) ⟨[]⟩ ⟨[(.pointer (some ⟨37,0,none⟩))]⟩),(.func (.func 85) ⟨[]⟩ ⟨[(.pointer (some ⟨37,0,none⟩))]⟩)]⟩,
 ⟨84,false,[(.func (.func 83) ⟨[]⟩ ⟨[(.pointer (some ⟨37,0,none⟩))]⟩),(.func (.func 85) ⟨[]⟩ ⟨[(.pointer (some ⟨37,0,none⟩))]⟩)]⟩,
 ⟨84,false,[(.func (.func 83) ⟨[]⟩ ⟨[(.pointer (some ⟨41,0,none⟩))]⟩),(.func (.func 85) ⟨[]⟩ ⟨[(.pointer (some ⟨41,0,none⟩))]⟩)]⟩,
 ⟨118,false,[(.func (.func 82) ⟨[]⟩ ⟨[]⟩)]⟩,
 ⟨84,false,[(.func (.func 83) ⟨[]⟩ ⟨[(.pointer (some ⟨41,0,none⟩))]⟩),(.func (.func 85) ⟨[]⟩ ⟨[(.pointer (some ⟨41,0,none⟩))]⟩)]⟩,
 ⟨84,false,[(.func (.func 86) ⟨[]⟩ ⟨[(.pointer (some ⟨44,0,none⟩))]⟩),(.func (.func 88) ⟨[]⟩ ⟨[(.pointer (some ⟨44,0,none⟩))]⟩)]⟩,
 ⟨121,false,[(.func (.func 89) ⟨[]⟩ ⟨[]⟩)]⟩,
 ⟨84,false,[(.func (.func 86) ⟨[]⟩ ⟨[(.pointer (some ⟨44,0,none⟩))]⟩),(.func (.func 88) ⟨[]⟩ ⟨[(.pointer (some ⟨44,0,none⟩))]⟩)]⟩,
 ⟨84,false,[(.func (.func 90) ⟨[]⟩ ⟨[]⟩),(.func (.func 92) ⟨[]⟩ ⟨[]⟩)]⟩,
 ⟨84,false,[(.func (.func 83) ⟨[]⟩ ⟨[(.pointer (some ⟨41,0,none⟩))]⟩),(.func (.func 85) ⟨[]⟩ ⟨[(.pointer (some ⟨41,0,none⟩))]⟩),(.func (.func 86) ⟨[]⟩ ⟨[(.pointer (some ⟨44,0,none⟩))]⟩),(.func (.func 88) ⟨[]⟩ ⟨[(.pointer (some ⟨44,0,none⟩))]⟩),(.func (.func 86) ⟨[]⟩ ⟨[(.pointer (some ⟨19,0,none⟩))]⟩),(.func (.func 88) ⟨[]⟩ ⟨[(.pointer (some ⟨19,0,none⟩))]⟩),(.func (.func 90) ⟨[]⟩ ⟨[]⟩),(.func (.func 92) ⟨[]⟩ ⟨[]⟩)]⟩,
 ⟨84,false,[(.func (.func 83) ⟨[]⟩ ⟨[(.pointer (some ⟨49,0,none⟩))]⟩),(.func (.func 85) ⟨[]⟩ ⟨[(.pointer (some ⟨49,0,none⟩))]⟩)]⟩,
 ⟨118,false,[(.func (.func 82) ⟨[]⟩ ⟨[]⟩)]⟩,
 ⟨84,false,[(.func (.func 83) ⟨[]⟩ ⟨[(.pointer (some ⟨49,0,none⟩))]⟩),(.func (.func 85) ⟨[]⟩ ⟨[(.pointer (some ⟨49,0,none⟩))]⟩)]⟩,
 ⟨84,false,[(.func (.func 83) ⟨[]⟩ ⟨[(.pointer (some ⟨49,0,none⟩))]⟩),(.func (.func 85) ⟨[]⟩ ⟨[(.pointer (some ⟨49,0,none⟩))]⟩),(.func (.func 86) ⟨[]⟩ ⟨[(.pointer (some ⟨16,0,none⟩))]⟩),(.func (.func 88) ⟨[]⟩ ⟨[(.pointer (some ⟨16,0,none⟩))]⟩)]⟩,
 ⟨84,false,[(.func (.func 94) ⟨[]⟩ ⟨[]⟩),(.func (.func 96) ⟨[]⟩ ⟨[]⟩)]⟩,
 ⟨84,false,[(.func (.func 83) ⟨[]⟩ ⟨[(.pointer (some ⟨54,0,none⟩))]⟩),(.func (.func 85) ⟨[]⟩ ⟨[(.pointer (some ⟨54,0,none⟩))]⟩)]⟩,
 ⟨118,false,[(.func (.func 97) ⟨[]⟩ ⟨[]⟩)]⟩,
 ⟨84,false,[(.func (.func 83) ⟨[]⟩ ⟨[(.pointer (some ⟨54,0,none⟩))]⟩),(.func (.func 85) ⟨[]⟩ ⟨[(.pointer (some ⟨54,0,none⟩))]⟩)]⟩,
 ⟨84,false,[(.func (.func 94) ⟨[]⟩ ⟨[]⟩),(.func (.func 96) ⟨[]⟩ ⟨[]⟩),(.func (.func 83) ⟨[]⟩ ⟨[(.pointer (some ⟨54,0,none⟩))]⟩),(.func (.func 85) ⟨[]⟩ ⟨[(.pointer (some ⟨54,0,none⟩))]⟩)]⟩,
 ⟨84,false,[(.func (.func 94) ⟨[]⟩ ⟨[]⟩),(.func (.func 96) ⟨[]⟩ ⟨[]⟩)]⟩,
 ⟨84,false,[(.func (.func 83) ⟨[]⟩ ⟨[(.pointer (some ⟨59,0,none⟩))]⟩),(.func (.func 85) ⟨[]⟩ ⟨[(.pointer (some ⟨59,0,none⟩))]⟩)]⟩,
 ⟨118,false,[(.func (.func 97) ⟨[]⟩ ⟨[]⟩)]⟩,
 ⟨84,false,[(.func (.func 83) ⟨[]⟩ ⟨[(.pointer (some ⟨59,0,none⟩))]⟩),(.func (.func 85) ⟨[]⟩ ⟨[(.pointer (some ⟨59,0,none⟩))]⟩)]⟩,
 ⟨84,false,[(.func (.func 94) ⟨[]⟩ ⟨[]⟩),(.func (.func 96) ⟨[]⟩ ⟨[]⟩),(.func (.func 83) ⟨[]⟩ ⟨[(.pointer (some ⟨59,0,none⟩))]⟩),(.func (.func 85) ⟨[]⟩ ⟨[(.pointer (some ⟨59,0,none⟩))]⟩)]⟩,
 ⟨84,false,[(.func (.func 94) ⟨[]⟩ ⟨[]⟩),(.func (.func 96) ⟨[]⟩ ⟨[]⟩)]⟩,
 ⟨84,false,[(.func (.func 83) ⟨[]⟩ ⟨[(.pointer (some ⟨64,0,none⟩))]⟩),(.func (.func 85) ⟨[]⟩ ⟨[(.pointer (some ⟨64,0,none⟩))]⟩)]⟩,
 ⟨118,false,[(.func (.func 97) ⟨[]⟩ ⟨[]⟩)]⟩,
 ⟨84,false,[(.func (.func 83) ⟨[]⟩ ⟨[(.pointer (some ⟨64,0,none⟩))]⟩),(.func (.func 85) ⟨[]⟩ ⟨[(.pointer (some ⟨64,0,none⟩))]⟩)]⟩,
 ⟨84,false,[(.func (.func 94) ⟨[]⟩ ⟨[]⟩),(.func (.func 96) ⟨[]⟩ ⟨[]⟩),(.func (.func 83) ⟨[]⟩ ⟨[(.pointer (some ⟨64,0,none⟩))]⟩),(.func (.func 85) ⟨[]⟩ ⟨[(.pointer (some ⟨64,0,none⟩))]⟩)]⟩,
 ⟨84,false,[(.func (.func 94) ⟨[]⟩ ⟨[]⟩),(.func (.func 96) ⟨[]⟩ ⟨[]⟩)]⟩,
 ⟨84,false,[(.func (.func 83) ⟨[]⟩ ⟨[(.pointer (some ⟨69,0,none⟩))]⟩),(.func (.func 85) ⟨[]⟩ ⟨[(.pointer (some ⟨69,0,none⟩))]⟩)]⟩,
 ⟨118,false,[(.func (.func 97) ⟨[]⟩ ⟨[]⟩)]⟩,
 ⟨84,false,[(.func (.func 83) ⟨[]⟩ ⟨[(.pointer (some ⟨69,0,none⟩))]⟩),(.func (.func 85) ⟨[]⟩ ⟨[(.pointer (some ⟨69,0,none⟩))]⟩)]⟩,
 ⟨84,false,[(.func (.func 83) ⟨[]⟩ ⟨[(.pointer (some ⟨72,0,none⟩))]⟩),(.func (.func 85) ⟨[]⟩ ⟨[(.pointer (some ⟨72,0,none⟩))]⟩)]⟩,
 ⟨118,false,[(.func (.func 98) ⟨[]⟩ ⟨[]⟩)]⟩,
 ⟨84,false,[(.func (.func 83) ⟨[]⟩ ⟨[(.pointer (some ⟨72,0,none⟩))]⟩),(.func (.func 85) ⟨[]⟩ ⟨[(.pointer (some ⟨72,0,none⟩))]⟩)]⟩,
 ⟨84,false,[(.func (.func 99) ⟨[]⟩ ⟨[]⟩),(.func (.func 101) ⟨[]⟩ ⟨[]⟩)]⟩,
 ⟨84,false,[(.func (.func 94) ⟨[]⟩ ⟨[]⟩),(.func (.func 96) ⟨[]⟩ ⟨[]⟩),(.func (.func 83) ⟨[]⟩ ⟨[(.pointer (some ⟨69,0,none⟩))]⟩),(.func (.func 85) ⟨[]⟩ ⟨[(.pointer (some ⟨69,0,none⟩))]⟩),(.func (.func 83) ⟨[]⟩ ⟨[(.pointer (some ⟨72,0,none⟩))]⟩),(.func (.func 85) ⟨[]⟩ ⟨[(.pointer (some ⟨72,0,none⟩))]⟩),(.func (.func 99) ⟨[]⟩ ⟨[]⟩),(.func (.func 101) ⟨[]⟩ ⟨[]⟩)]⟩,
 ⟨84,false,[(.func (.func 83) ⟨[]⟩ ⟨[(.pointer (some ⟨77,0,none⟩))]⟩),(.func (.func 85) ⟨[]⟩ ⟨[(.pointer (some ⟨77,0,none⟩))]⟩)]⟩,
 ⟨118,false,[(.func (.func 98) ⟨[]⟩ ⟨[]⟩)]⟩,
 ⟨84,false,[(.func (.func 83) ⟨[]⟩ ⟨[(.pointer (some ⟨77,0,none⟩))]⟩),(.func (.func 85) ⟨[]⟩ ⟨[(.pointer (some ⟨77,0,none⟩))]⟩)]⟩,
 ⟨84,false,[(.func (.func 83) ⟨[]⟩ ⟨[(.pointer (some ⟨77,0,none⟩))]⟩),(.func (.func 85) ⟨[]⟩ ⟨[(.pointer (some ⟨77,0,none⟩))]⟩)]⟩,
 ⟨84,false,[(.func (.func 102) ⟨[]⟩ ⟨[]⟩),(.func (.func 103) ⟨[]⟩ ⟨[]⟩)]⟩,
 ⟨84,false,[(.func (.func 102) ⟨[]⟩ ⟨[]⟩),(.func (.func 103) ⟨[]⟩ ⟨[]⟩)]⟩,
 ⟨84,false,[(.func (.func 83) ⟨[]⟩ ⟨[(.pointer (some ⟨83,0,none⟩))]⟩),(.func (.func 85) ⟨[]⟩ ⟨[(.pointer (some ⟨83,0,none⟩))]⟩)]⟩,
 ⟨118,false,[(.func (.func 82) ⟨[]⟩ ⟨[]⟩)]⟩,
 ⟨84,false,[(.func (.func 83) ⟨[]⟩ ⟨[(.pointer (some ⟨83,0,none⟩))]⟩),(.func (.func 85) ⟨[]⟩ ⟨[(.pointer (some ⟨83,0,none⟩))]⟩)]⟩,
 ⟨84,false,[(.func (.func 83) ⟨[]⟩ ⟨[(.pointer (some ⟨83,0,none⟩))]⟩),(.func (.func 85) ⟨[]⟩ ⟨[(.pointer (some ⟨83,0,none⟩))]⟩)]⟩,
 ⟨84,false,[(.func (.func 83) ⟨[]⟩ ⟨[(.pointer (some ⟨87,0,none⟩))]⟩),(.func (.func 85) ⟨[]⟩ ⟨[(.pointer (some ⟨87,0,none⟩))]⟩)]⟩,
 ⟨118,false,[(.func (.func 104) ⟨[]⟩ ⟨[]⟩)]⟩,
 ⟨84,false,[(.func (.func 83) ⟨[]⟩ ⟨[(.pointer (some ⟨87,0,none⟩))]⟩),(.func (.func 85) ⟨[]⟩ ⟨[(.pointer (some ⟨87,0,none⟩))]⟩)]⟩,
 ⟨84,false,[(.func (.func 83) ⟨[]⟩ ⟨[(.pointer (some ⟨87,0,none⟩))]⟩),(.func (.func 85) ⟨[]⟩ ⟨[(.pointer (some ⟨87,0,none⟩))]⟩)]⟩,
 ⟨84,false,[(.func (.func 83) ⟨[]⟩ ⟨[(.pointer (some ⟨91,0,none⟩))]⟩),(.func (.func 85) ⟨[]⟩ ⟨[(.pointer (some ⟨91,0,none⟩))]⟩)]⟩,
 ⟨118,false,[(.func (.func 104) ⟨[]⟩ ⟨[]⟩)]⟩,
 ⟨84,false,[(.func (.func 83) ⟨[]⟩ ⟨[(.pointer (some ⟨91,0,none⟩))]⟩),(.func (.func 85) ⟨[]⟩ ⟨[(.pointer (some ⟨91,0,none⟩))]⟩)]⟩,
 ⟨84,false,[(.func (.func 86) ⟨[]⟩ ⟨[(.pointer (some ⟨94,0,none⟩))]⟩),(.func (.func 88) ⟨[]⟩ ⟨[(.pointer (some ⟨94,0,none⟩))]⟩)]⟩,
 ⟨121,false,[(.func (.func 89) ⟨[]⟩ ⟨[]⟩)]⟩,
 ⟨84,false,[(.func (.func 86) ⟨[]⟩ ⟨[(.pointer (some ⟨94,0,none⟩))]⟩),(.func (.func 88) ⟨[]⟩ ⟨[(.pointer (some ⟨94,0,none⟩))]⟩)]⟩,
 ⟨84,false,[(.func (.func 83) ⟨[]⟩ ⟨[(.pointer (some ⟨91,0,none⟩))]⟩),(.func (.func 85) ⟨[]⟩ ⟨[(.pointer (some ⟨91,0,none⟩))]⟩),(.func (.func 86) ⟨[]⟩ ⟨[(.pointer (some ⟨94,0,none⟩))]⟩),(.func (.func 88) ⟨[]⟩ ⟨[(.pointer (some ⟨94,0,none⟩))]⟩)]⟩,
 ⟨84,false,[(.func (.func 83) ⟨[]⟩ ⟨[(.pointer (some ⟨98,0,none⟩))]⟩),(.func (.func 85) ⟨[]⟩ ⟨[(.pointer (some ⟨98,0,none⟩))]⟩)]⟩,
 ⟨118,false,[(.func (.func 104) ⟨[]⟩ ⟨[]⟩)]⟩,
 ⟨84,false,[(.func (.func 83) ⟨[]⟩ ⟨[(.pointer (some ⟨98,0,none⟩))]⟩),(.func (.func 85) ⟨[]⟩ ⟨[(.pointer (some ⟨98,0,none⟩))]⟩)]⟩,
 ⟨84,false,[(.func (.func 83) ⟨[]⟩ ⟨[(.pointer (some ⟨98,0,none⟩))]⟩),(.func (.func 85) ⟨[]⟩ ⟨[(.pointer (some ⟨98,0,none⟩))]⟩)]⟩,
 ⟨84,false,[(.func (.func 83) ⟨[]⟩ ⟨[(.pointer (some ⟨102,0,none⟩))]⟩),(.func (.func 85) ⟨[]⟩ ⟨[(.pointer (some ⟨102,0,none⟩))]⟩)]⟩,
 ⟨118,false,[(.func (.func 104) ⟨[]⟩ ⟨[]⟩)]⟩,
 ⟨84,false,[(.func (.func 83) ⟨[]⟩ ⟨[(.pointer (some ⟨102,0,none⟩))]⟩),(.func (.func 85) ⟨[]⟩ ⟨[(.pointer (some ⟨102,0,none⟩))]⟩)]⟩,
 ⟨84,false,[(.func (.func 83) ⟨[]⟩ ⟨[(.pointer (some ⟨102,0,none⟩))]⟩),(.func (.func 85) ⟨[]⟩ ⟨[(.pointer (some ⟨102,0,none⟩))]⟩)]⟩,
 ⟨84,false,[(.func (.func 83) ⟨[]⟩ ⟨[(.pointer (some ⟨106,0,none⟩))]⟩),(.func (.func 85) ⟨[]⟩ ⟨[(.pointer (some ⟨106,0,none⟩))]⟩)]⟩,
 ⟨118,false,[(.func (.func 104) ⟨[]⟩ ⟨[]⟩)]⟩,
 ⟨84,false,[(.func (.func 83) ⟨[]⟩ ⟨[(.pointer (some ⟨106,0,none⟩))]⟩),(.func (.func 85) ⟨[]⟩ ⟨[(.pointer (some ⟨106,0,none⟩))]⟩)]⟩,
 ⟨84,false,[(.func (.func 83) ⟨[]⟩ ⟨[(.pointer (some ⟨106,0,none⟩))]⟩),(.func (.func 85) ⟨[]⟩ ⟨[(.pointer (some ⟨106,0,none⟩))]⟩)]⟩,
 ⟨84,false,[(.func (.func 83) ⟨[]⟩ ⟨[(.pointer (some ⟨110,0,none⟩))]⟩),(.func (.func 85) ⟨[]⟩ ⟨[(.pointer (some ⟨110,0,none⟩))]⟩)]⟩,
 ⟨118,false,[(.func (.func 82) ⟨[]⟩ ⟨[]⟩)]⟩,
 ⟨84,false,[(.func (.func 83) ⟨[]⟩ ⟨[(.pointer (some ⟨110,0,none⟩))]⟩),(.func (.func 85) ⟨[]⟩ ⟨[(.pointer (some ⟨110,0,none⟩))]⟩)]⟩,
 ⟨84,false,[(.func (.func 86) ⟨[]⟩ ⟨[(.pointer (some ⟨113,0,none⟩))]⟩),(.func (.func 88) ⟨[]⟩ ⟨[(.pointer (some ⟨113,0,none⟩))]⟩)]⟩,
 ⟨121,false,[(.func (.func 89) ⟨[]⟩ ⟨[]⟩)]⟩,
 ⟨84,false,[(.func (.func 86) ⟨[]⟩ ⟨[(.pointer (some ⟨113,0,none⟩))]⟩),(.func (.func 88) ⟨[]⟩ ⟨[(.pointer (some ⟨113,0,none⟩))]⟩)]⟩,
 ⟨84,false,[(.func (.func 83) ⟨[]⟩ ⟨[(.pointer (some ⟨110,0,none⟩))]⟩),(.func (.func 85) ⟨[]⟩ ⟨[(.pointer (some ⟨110,0,none⟩))]⟩),(.func (.func 86) ⟨[]⟩ ⟨[(.pointer (some ⟨113,0,none⟩))]⟩),(.func (.func 88) ⟨[]⟩ ⟨[(.pointer (some ⟨113,0,none⟩))]⟩),(.func (.func 86) ⟨[]⟩ ⟨[(.pointer (some ⟨22,0,none⟩))]⟩),(.func (.func 88) ⟨[]⟩ ⟨[(.pointer (some ⟨22,0,none⟩))]⟩)]⟩,
 ⟨80,false,[(.string ⟨⟨[]⟩⟩),(.slice none 0 0),(.string ⟨⟨[116,105,99,107]⟩⟩),(.slice (some ⟨27,0,none⟩) 1 1),(.string ⟨⟨[108,105,115,116,101,110]⟩⟩),(.slice (some ⟨15,0,none⟩) 3 3),(.string ⟨⟨[117,110,108,105,115,116,101,110]⟩⟩),(.slice (some ⟨31,0,none⟩) 1 1),(.string ⟨⟨[98,101,103,105,110]⟩⟩),(.slice (some ⟨35,0,none⟩) 1 1),(.string ⟨⟨[99,101,97,115,101]⟩⟩),(.slice (some ⟨39,0,none⟩) 1 1),(.string ⟨⟨[115,101,110,100]⟩⟩),(.slice (some ⟨47,0,none⟩) 4 4),(.string ⟨⟨[99,97,110,99,101,108]⟩⟩),(.slice (some ⟨51,0,none⟩) 2 2),(.string ⟨⟨[107,105,99,107]⟩⟩),(.slice none 0 0),(.string ⟨⟨[100,101,108,105,118,101,114]⟩⟩),(.slice (some ⟨56,0,none⟩) 2 2),(.string ⟨⟨[100,114,111,112]⟩⟩),(.slice (some ⟨61,0,none⟩) 2 2),(.string ⟨⟨[100,111,117,98,108,101]⟩⟩),(.slice (some ⟨66,0,none⟩) 2 2),(.string ⟨⟨[116,117,114,110]⟩⟩),(.slice (some ⟨75,0,none⟩) 4 4),(.string ⟨⟨[99,117,116]⟩⟩),(.slice (some ⟨79,0,none⟩) 1 1),(.string ⟨⟨[99,114,97,115,104]⟩⟩),(.slice (some ⟨81,0,none⟩) 1 1),(.string ⟨⟨[114,101,115,116,97,114,116]⟩⟩),(.slice none 0 0),(.string ⟨⟨[99,117,114,115,111,114]⟩⟩),(.slice (some ⟨85,0,none⟩) 1 1),(.string ⟨⟨[99,108,111,115,101]⟩⟩),(.slice (some ⟨89,0,none⟩) 1 1),(.string ⟨⟨[115,101,101,107]⟩⟩),(.slice (some ⟨96,0,none⟩) 2 2),(.string ⟨⟨[110,101,120,116]⟩⟩),(.slice (some ⟨100,0,none⟩) 1 1),(.string ⟨⟨[112,114,101,118]⟩⟩),(.slice (some ⟨104,0,none⟩) 1 1),(.string ⟨⟨[114,101,119,105,110,100]⟩⟩),(.slice (some ⟨108,0,none⟩) 1 1),(.string ⟨⟨[103,97,112,115]⟩⟩),(.slice (some ⟨115,0,none⟩) 3 3)]⟩]
def Qvk:Value:=(.slice (some ⟨8,0,none⟩) 22 22)
def Qe6:List CRow:=[
 ⟨88,false,[(.string ⟨⟨[116,105,99,107]⟩⟩),(.bool false),(.int .i64 1),(.string ⟨⟨[110]⟩⟩),(.string ⟨⟨[108,105,115,116,101,110]⟩⟩),(.bool true),(.int .i64 2),(.string ⟨⟨[105,105,105]⟩⟩),(.string ⟨⟨[117,110,108,105,115,116,101,110]⟩⟩),(.bool true),(.int .i64 3),(.string ⟨⟨[105]⟩⟩),(.string ⟨⟨[98,101,103,105,110]⟩⟩),(.bool true),(.int .i64 4),(.string ⟨⟨[105]⟩⟩),(.string ⟨⟨[99,101,97,115,101]⟩⟩),(.bool true),(.int .i64 5),(.string ⟨⟨[105]⟩⟩),(.string ⟨⟨[115,101,110,100]⟩⟩),(.bool true),(.int .i64 6),(.string ⟨⟨[105,110,110,116]⟩⟩),(.string ⟨⟨[99,97,110,99,101,108]⟩⟩),(.bool true),(.int .i64 7),(.string ⟨⟨[105,110]⟩⟩),(.string ⟨⟨[107,105,99,107]⟩⟩),(.bool true),(.int .i64 8),(.string ⟨⟨[]⟩⟩),(.string ⟨⟨[100,101,108,105,118,101,114]⟩⟩),(.bool true),(.int .i64 9),(.string ⟨⟨[119,105]⟩⟩),(.string ⟨⟨[100,114,111,112]⟩⟩),(.bool true),(.int .i64 10),(.string ⟨⟨[119,105]⟩⟩),(.string ⟨⟨[100,111,117,98,108,101]⟩⟩),(.bool true),(.int .i64 11),(.string ⟨⟨[119,105]⟩⟩),(.string ⟨⟨[116,117,114,110]⟩⟩),(.bool true),(.int .i64 12),(.string ⟨⟨[119,105,105,109]⟩⟩),(.string ⟨⟨[99,117,116]⟩⟩),(.bool true),(.int .i64 13),(.string ⟨⟨[105]⟩⟩),(.string ⟨⟨[99,114,97,115,104]⟩⟩),(.bool true),(.int .i64 14),(.string ⟨⟨[99]⟩⟩),(.string ⟨⟨[114,101,115,116,97,114,116]⟩⟩),(.bool true),(.int .i64 15),(.string ⟨⟨[]⟩⟩),(.string ⟨⟨[99,117,114,115,111,114]⟩⟩),(.bool true),(.int .i64 16),(.string ⟨⟨[105]⟩⟩),(.string ⟨⟨[99,108,111,115,101]⟩⟩),(.bool true),(.int .i64 17),(.string ⟨⟨[105]⟩⟩),(.string ⟨⟨[115,101,101,107]⟩⟩),(.bool true),(.int .i64 18),(.string ⟨⟨[105,110]⟩⟩),(.string ⟨⟨[110,101,120,116]⟩⟩),(.bool true),(.int .i64 19),(.string ⟨⟨[105]⟩⟩),(.string ⟨⟨[112,114,101,118]⟩⟩),(.bool true),(.int .i64 20),(.string ⟨⟨[105]⟩⟩),(.string ⟨⟨[114,101,119,105,110,100]⟩⟩),(.bool true),(.int .i64 21),(.string ⟨⟨[105]⟩⟩),(.string ⟨⟨[103,97,112,115]⟩⟩),(.bool true),(.int .i64 22),(.string ⟨⟨[105,110,110]⟩⟩)]⟩]
def Qbq (rows:List CRow) (m:Mem) (k:Nat):Prop:=∀ j r,rows[j]? = some r→vw m (k+j)=some ⟨true,r.elem,r.ext,r.cells.map (renV 8 k)⟩
theorem Qw8 (rows:List CRow) (m:Mem):Qbq rows (Qdw m (rows.map (CRow.ren 8 m.next))) m.next:=fun j r h=>by
 have:=Qxl m (rows.map (CRow.ren 8 m.next)) (j:=j) (r:=r.ren 8 m.next) (by rw [List.getElem?_map,h];rfl)
 exact this
theorem Qbq.keep {rows:List CRow} {m m':Mem} {k:Nat} (h:Qbq rows m k) (hk:∀ x,k≤x→x<k+rows.length→m'.objs.get x=m.objs.get x):Qbq rows m' k:=fun j r hj=>by
 have hlt:j<rows.length:=(Kgs.1 hj).1
 have:=h j r hj
 unfold vw at this ⊢
 rw [hk _ (by omega) (by omega)];exact this
end Go.Proofs.YtgmkbdmgifdfeaaGreatDoor

namespace Go.Proofs.YtgmkbdmgifdfeaaGreatDoor
open Go Go.Ev
noncomputable def Qbu:List Value:=(List.range 20).map fun i=>.int .u64 ((10 ^ i:Nat):Int)
def Qeo (m:Mem):Prop:=0<m.next∧∃ e,vw m 0=some ⟨false,e,false,Qbu⟩
theorem Qeo.old {n:Nat} {m m':Mem} (h:Qeo m) (k:Old n m m') (hn:0<n):Qeo m':=by
 obtain⟨h1,e,h2⟩:=h
 exact⟨Nat.lt_of_lt_of_le h1 k.1,e,by rw [k.vw hn];exact h2⟩
open Classical in
noncomputable def Qpi:List Value→Mem→Option (Value × Mem)
 | [.int .i64 n],m=>if -9223372036854775808≤n∧n≤9223372036854775807∧Qeo m then some (.string ⟨⟨Lib.itoa n⟩⟩,m) else none
 |_,_=>none
open Classical in
noncomputable def Qxv:List Value→Mem→Option (Value × Mem)
 | [.int .u64 n,.int .i64 z],m=>if 0≤n∧n≤18446744073709551615∧z=10∧Qeo m then some (.string ⟨⟨Lib.decDigits n.toNat⟩⟩,m) else none
 |_,_=>none
noncomputable def Qe1 (v:Value) (rows:List CRow):List Value→Mem→Option (Value × Mem)
 | [],m=>match Nat.ble 8 m.next with|true=>some (renV 8 m.next v,Qdw m (rows.map (CRow.ren 8 m.next)))|false=>none
 |_,_=>none
def Qc0 (m:Mem):Prop:=7<m.next∧(∃ e t a,vw m 6=some ⟨false,e,false,[.iface t (.pointer (some a))]⟩)∧∃ e t a,vw m 7=some ⟨false,e,false,[.iface t (.pointer (some a))]⟩
theorem Qc0.old {n:Nat} {m m':Mem} (h:Qc0 m) (k:Old n m m') (hn:7<n):Qc0 m':=by
 obtain⟨h1,⟨e,t,a,h2⟩,e',t',a',h3⟩:=h
 exact⟨Nat.lt_of_lt_of_le h1 k.1,⟨e,t,a,by rw [k.vw (by omega)];exact h2⟩,e',t',a',by rw [k.vw hn];exact h3⟩
open Classical in
noncomputable def puOv:List Value→Mem→Option (Value × Mem)
 | [.string s,.int .i64 b,.int .i64 z],m=>if b=10∧z=64∧s.data.toList.length≤281474976710656∧Qc0 m then (match Lib.parseUintB 64 s.data.toList with
   | .ok u=>some (.tuple ⟨[.int .u64 (u:Int),.nilIface]⟩,m)
   | .range=>some (.tuple ⟨[.int .u64 18446744073709551615,.iface 195 (.pointer (some ⟨m.next,0,none⟩))]⟩,Qah m .dead)
   |_=>some (.tuple ⟨[.int .u64 0,.iface 195 (.pointer (some ⟨m.next,0,none⟩))]⟩,Qah m .dead)) else none
 |_,_=>none
noncomputable def Ja5:List Value→Mem→Option (Value × Mem)
 | [.string s,.string ⟨⟨[c]⟩⟩],m=>some (.int .i64 (Lib.indexByte s.data.toList c),m)
 |_,_=>none
noncomputable def Qx3:List Value→Mem→Option (Value × Mem)
 | [.string s,.string p],m=>some (.tuple ⟨[.string ⟨⟨Lib.trimPrefix s.data.toList p.data.toList⟩⟩,.bool (Lib.hasPrefix s.data.toList p.data.toList)]⟩,m)
 |_,_=>none
noncomputable def ibOv:List Value→Mem→Option (Value × Mem)
 | [.string s,.int .u8 c],m=>some (.int .i64 (Lib.indexByte s.data.toList c.toNat.toUInt8),m)
 |_,_=>none
noncomputable def ovL:List (Nat × (List Value→Mem→Option (Value × Mem))) :=
 [(31,Qpi),(48,Qxv),(30,Qe1 Qpl Qav),(67,Qe1 Qvk Qe6),(130,puOv),(108,Ja5),(118,Qx3),(131,ibOv)]
noncomputable def Qvg {α : Type}:List (Nat × α)→T α
 | []=>.lf
 | (k,v)::l=>T.set (Qvg l) k v
theorem Qkp {α : Type}:∀ (l:List (Nat × α)) (f:Nat),(Qvg l).get f=(l.find? fun x=>decide (f=x.1)).map (·.2)
 | [],f=>T.get_lf f
 | (k,v)::l,f=>by
   rw [Qvg,T.get_set,List.find?_cons]
   by_cases h:f=k
   ·rw [if_pos h];simp [h]
   ·rw [if_neg h,Qkp l f];simp [h]
noncomputable def ovs:T (List Value→Mem→Option (Value × Mem)):=Qvg ovL
noncomputable def tb:Tabs:=Qdt Tryz.prog 8 ovs
theorem Qqj (f:Nat):tb.ov.get f=(ovL.find? fun x=>decide (f=x.1)).map (·.2):=Qkp ovL f
theorem Qad {f:Nat} (h:(decide (f=31)||decide (f=48)||decide (f=30)||decide (f=67)||decide (f=130)||decide (f=108)||decide (f=118)||decide (f=131))=false):tb.ov.get f=none:=by
 rw [Qqj]
 simp only [Bool.or_eq_false_iff] at h
 obtain⟨⟨⟨⟨⟨⟨⟨h1,h2⟩,h3⟩,h4⟩,h5⟩,h6⟩,h7⟩,h8⟩:=h
 simp only [ovL,List.find?_cons,h1,h2,h3,h4,h5,h6,h7,h8,List.find?_nil,Option.map_none]
theorem ov_itoa:tb.ov.get 31=some Qpi:=by rw [Qqj];rfl
theorem ov_fmt:tb.ov.get 48=some Qxv:=by rw [Qqj];rfl
theorem Qvt:tb.ov.get 30=some (Qe1 Qpl Qav):=by rw [Qqj];rfl
theorem ov_rrows:tb.ov.get 67=some (Qe1 Qvk Qe6):=by rw [Qqj];rfl
theorem ov_pu:tb.ov.get 130=some puOv:=by rw [Qqj];rfl
theorem ov_idx:tb.ov.get 108=some Ja5:=by rw [Qqj];rfl
theorem ov_cut:tb.ov.get 118=some Qx3:=by rw [Qqj];rfl
theorem ov_ib:tb.ov.get 131=some ibOv:=by rw [Qqj];rfl
theorem fget {f:Nat} {fd:Func} (h:Tryz.prog.funcs[f]? = some fd):tb.funcs.get f=some fd:=by
 simp only [tb,Qdt,T.get_ofList]
 simpa using h
noncomputable def tvP (P:Program) (t:Nat):TI:=match mkTI P t with|some i=>i|none=>⟨.bool,default,false,[],false,[],false,false⟩
theorem ti_tvP {P:Program} {g:Nat} {ov:T (List Value→Mem→Option (Value × Mem))} {t:Nat} (h:(Nat.blt t P.types.size&&(mkTI P t).isSome)=true):ti (Qdt P g ov) t=some (tvP P t):=by
 simp only [Kba,Nat.blt_eq] at h
 obtain⟨h1,h2⟩:=h
 simp only [ti,Qdt,T.get_ofList]
 rw [List.getElem?_map,List.getElem?_range h1]
 simp only [Option.map_some,tvP]
 cases h:mkTI P t with
 |none=>rw [h] at h2;cases h2
 |some i=>rfl
noncomputable def tv (t:Nat):TI:=tvP Tryz.prog t
noncomputable def fsv (t:Nat):Array Field:=match (tv t).d with | .struct fs=>fs|_ => #[]
theorem Qc1 {t:Nat} (h:(Nat.blt t Tryz.prog.types.size&&(mkTI Tryz.prog t).isSome)=true):ti tb t=some (tv t):=ti_tvP h
namespace Ty
theorem ti3:ti tb 3=some (tv 3):=Qc1 (by kernel_rfl)
theorem d3:(tv 3).d=.int .i64:=by kernel_rfl
theorem g3:(tv 3).agg=false:=by kernel_rfl
theorem s3:(tv 3).inf.size=1:=by kernel_rfl
theorem y3:(tv 3).inf.bytes=8:=by kernel_rfl
theorem h3:(tv 3).hasZ=true:=by kernel_rfl
theorem z3:(tv 3).zc=[.int .i64 0]:=by kernel_rfl
theorem ti4:ti tb 4=some (tv 4):=Qc1 (by kernel_rfl)
theorem d4:(tv 4).d=.bool:=by kernel_rfl
theorem g4:(tv 4).agg=false:=by kernel_rfl
theorem s4:(tv 4).inf.size=1:=by kernel_rfl
theorem h4:(tv 4).hasZ=true:=by kernel_rfl
theorem z4:(tv 4).zc=[.bool false]:=by kernel_rfl
theorem ti5:ti tb 5=some (tv 5):=Qc1 (by kernel_rfl)
theorem d5:(tv 5).d=.int .u8:=by kernel_rfl
theorem g5:(tv 5).agg=false:=by kernel_rfl
theorem s5:(tv 5).inf.size=1:=by kernel_rfl
theorem y5:(tv 5).inf.bytes=1:=by kernel_rfl
theorem h5:(tv 5).hasZ=true:=by kernel_rfl
theorem z5:(tv 5).zc=[.int .u8 0]:=by kernel_rfl
theorem ti9:ti tb 9=some (tv 9):=Qc1 (by kernel_rfl)
theorem d9:(tv 9).d=.string:=by kernel_rfl
theorem g9:(tv 9).agg=false:=by kernel_rfl
theorem s9:(tv 9).inf.size=1:=by kernel_rfl
theorem y9:(tv 9).inf.bytes=16:=by kernel_rfl
theorem h9:(tv 9).hasZ=true:=by kernel_rfl
theorem z9:(tv 9).zc=[.string ⟨⟨[]⟩⟩]:=by kernel_rfl
theorem ti20:ti tb 20=some (tv 20):=Qc1 (by kernel_rfl)
theorem ti22:ti tb 22=some (tv 22):=Qc1 (by kernel_rfl)
theorem d22:(tv 22).d=.int .u64:=by kernel_rfl
theorem g22:(tv 22).agg=false:=by kernel_rfl
theorem s22:(tv 22).inf.size=1:=by kernel_rfl
theorem y22:(tv 22).inf.bytes=8:=by kernel_rfl
theorem h22:(tv 22).hasZ=true:=by kernel_rfl
theorem z22:(tv 22).zc=[.int .u64 0]:=by kernel_rfl
theorem ti24:ti tb 24=some (tv 24):=Qc1 (by kernel_rfl)
theorem d24:(tv 24).d=.struct (fsv 24):=by kernel_rfl
theorem g24:(tv 24).agg=true:=by kernel_rfl
theorem s24:(tv 24).inf.size=6:=by kernel_rfl
theorem h24:(tv 24).hasZ=true:=by kernel_rfl
theorem z24:(tv 24).zc=[.int .i64 0,.int .u64 0,.int .u64 0,.int .i64 0,.int .i64 0,.int .i64 0]:=by kernel_rfl
theorem f24:(tv 24).flds=[(0,1,3,false),(1,1,22,false),(2,1,22,false),(3,1,3,false),(4,1,3,false),(5,1,3,false)]:=by kernel_rfl
theorem ti26:ti tb 26=some (tv 26):=Qc1 (by kernel_rfl)
theorem d26:(tv 26).d=.struct (fsv 26):=by kernel_rfl
theorem g26:(tv 26).agg=true:=by kernel_rfl
theorem s26:(tv 26).inf.size=9:=by kernel_rfl
theorem h26:(tv 26).hasZ=true:=by kernel_rfl
theorem z26:(tv 26).zc=[.int .i64 0,.int .u64 0,.int .u64 0,.int .i64 0,.int .i64 0,.int .i64 0,.int .i64 0,.int .i64 0,.int .u64 0]:=by kernel_rfl
theorem f26:(tv 26).flds=[(0,6,24,false),(6,1,3,false),(7,1,3,false),(8,1,22,false)]:=by kernel_rfl
theorem ti27:ti tb 27=some (tv 27):=Qc1 (by kernel_rfl)
theorem d27:(tv 27).d=.slice 36:=by kernel_rfl
theorem g27:(tv 27).agg=false:=by kernel_rfl
theorem s27:(tv 27).inf.size=1:=by kernel_rfl
theorem h27:(tv 27).hasZ=true:=by kernel_rfl
theorem z27:(tv 27).zc=[.slice none 0 0]:=by kernel_rfl
theorem ti29:ti tb 29=some (tv 29):=Qc1 (by kernel_rfl)
theorem d29:(tv 29).d=.slice 5:=by kernel_rfl
theorem g29:(tv 29).agg=false:=by kernel_rfl
theorem s29:(tv 29).inf.size=1:=by kernel_rfl
theorem ti32:ti tb 32=some (tv 32):=Qc1 (by kernel_rfl)
theorem d32:(tv 32).d=.struct (fsv 32):=by kernel_rfl
theorem g32:(tv 32).agg=true:=by kernel_rfl
theorem s32:(tv 32).inf.size=2:=by kernel_rfl
theorem h32:(tv 32).hasZ=true:=by kernel_rfl
theorem z32:(tv 32).zc=[.int .i64 0,.int .i64 0]:=by kernel_rfl
theorem f32:(tv 32).flds=[(0,1,3,false),(1,1,3,false)]:=by kernel_rfl
theorem ti33:ti tb 33=some (tv 33):=Qc1 (by kernel_rfl)
theorem d33:(tv 33).d=.int .u32:=by kernel_rfl
theorem g33:(tv 33).agg=false:=by kernel_rfl
theorem s33:(tv 33).inf.size=1:=by kernel_rfl
theorem ti34:ti tb 34=some (tv 34):=Qc1 (by kernel_rfl)
theorem d34:(tv 34).d=.slice 3:=by kernel_rfl
theorem g34:(tv 34).agg=false:=by kernel_rfl
theorem s34:(tv 34).inf.size=1:=by kernel_rfl
theorem ti36:ti tb 36=some (tv 36):=Qc1 (by kernel_rfl)
theorem d36:(tv 36).d=.struct (fsv 36):=by kernel_rfl
theorem g36:(tv 36).agg=true:=by kernel_rfl
theorem s36:(tv 36).inf.size=17:=by kernel_rfl
theorem y36:(tv 36).inf.bytes=168:=by kernel_rfl
theorem h36:(tv 36).hasZ=true:=by kernel_rfl
theorem z36:(tv 36).zc=[.int .i64 0,.int .i64 0,.int .i64 0,.int .u64 0,.int .u64 0,.slice none 0 0,.int .u64 0,.int .i64 0,.int .i64 0,.int .i64 0,.int .i64 0,.int .i64 0,.int .u32 0,.int .u64 0,.slice none 0 0,.int .i64 0,.int .u64 0]:=by kernel_rfl
theorem f36:(tv 36).flds=[(0,1,3,false),(1,1,3,false),(2,1,3,false),(3,1,22,false),(4,1,22,false),(5,1,29,false),(6,1,22,false),(7,2,32,false),(9,1,3,false),(10,1,3,false),(11,1,3,false),(12,1,33,false),(13,1,22,false),(14,1,34,false),(15,1,3,false),(16,1,22,false)]:=by kernel_rfl
theorem ti38:ti tb 38=some (tv 38):=Qc1 (by kernel_rfl)
theorem g38:(tv 38).agg=false:=by kernel_rfl
theorem s38:(tv 38).inf.size=1:=by kernel_rfl
theorem h38:(tv 38).hasZ=true:=by kernel_rfl
theorem z38:(tv 38).zc=[.int .i64 0]:=by kernel_rfl
theorem ti54:ti tb 54=some (tv 54):=Qc1 (by kernel_rfl)
theorem d54:(tv 54).d=.slice 9:=by kernel_rfl
theorem g54:(tv 54).agg=false:=by kernel_rfl
theorem s54:(tv 54).inf.size=1:=by kernel_rfl
theorem ti63:ti tb 63=some (tv 63):=Qc1 (by kernel_rfl)
theorem d63:(tv 63).d=.pointer 65:=by kernel_rfl
theorem g63:(tv 63).agg=false:=by kernel_rfl
theorem s63:(tv 63).inf.size=1:=by kernel_rfl
theorem ti65:ti tb 65=some (tv 65):=Qc1 (by kernel_rfl)
theorem s65:(tv 65).inf.size=2:=by kernel_rfl
theorem h65:(tv 65).hasZ=true:=by kernel_rfl
theorem z65:(tv 65).zc=[.pointer none,.slice none 0 0]:=by kernel_rfl
theorem f65:(tv 65).flds=[(0,1,63,false),(1,1,29,false)]:=by kernel_rfl
theorem ti67:ti tb 67=some (tv 67):=Qc1 (by kernel_rfl)
theorem d67:(tv 67).d=.struct (fsv 67):=by kernel_rfl
theorem h67:(tv 67).hasZ=true:=by kernel_rfl
theorem z67:(tv 67).zc=[.pointer none,.slice none 0 0,.bool false]:=by kernel_rfl
theorem f67:(tv 67).flds=[(0,2,65,false),(2,1,4,false)]:=by kernel_rfl
theorem ti69:ti tb 69=some (tv 69):=Qc1 (by kernel_rfl)
theorem ti75:ti tb 75=some (tv 75):=Qc1 (by kernel_rfl)
theorem d75:(tv 75).d=.slice 80:=by kernel_rfl
theorem ti78:ti tb 78=some (tv 78):=Qc1 (by kernel_rfl)
theorem d78:(tv 78).d=.slice 84:=by kernel_rfl
theorem g78:(tv 78).agg=false:=by kernel_rfl
theorem ti80:ti tb 80=some (tv 80):=Qc1 (by kernel_rfl)
theorem g80:(tv 80).agg=true:=by kernel_rfl
theorem s80:(tv 80).inf.size=2:=by kernel_rfl
theorem h80:(tv 80).hasZ=true:=by kernel_rfl
theorem z80:(tv 80).zc=[.string ⟨⟨[]⟩⟩,.slice none 0 0]:=by kernel_rfl
theorem f80:(tv 80).flds=[(0,1,9,false),(1,1,78,false)]:=by kernel_rfl
theorem ti81:ti tb 81=some (tv 81):=Qc1 (by kernel_rfl)
theorem g81:(tv 81).agg=false:=by kernel_rfl
theorem ti82:ti tb 82=some (tv 82):=Qc1 (by kernel_rfl)
theorem g82:(tv 82).agg=false:=by kernel_rfl
theorem ti84:ti tb 84=some (tv 84):=Qc1 (by kernel_rfl)
theorem g84:(tv 84).agg=true:=by kernel_rfl
theorem s84:(tv 84).inf.size=2:=by kernel_rfl
theorem h84:(tv 84).hasZ=true:=by kernel_rfl
theorem z84:(tv 84).zc=[.nilFunc,.nilFunc]:=by kernel_rfl
theorem f84:(tv 84).flds=[(0,1,81,false),(1,1,82,false)]:=by kernel_rfl
theorem ti88:ti tb 88=some (tv 88):=Qc1 (by kernel_rfl)
theorem g88:(tv 88).agg=true:=by kernel_rfl
theorem s88:(tv 88).inf.size=4:=by kernel_rfl
theorem f88:(tv 88).flds=[(0,1,9,false),(1,1,4,false),(2,1,3,false),(3,1,9,false)]:=by kernel_rfl
theorem ti97:ti tb 97=some (tv 97):=Qc1 (by kernel_rfl)
theorem g97:(tv 97).agg=false:=by kernel_rfl
theorem s97:(tv 97).inf.size=1:=by kernel_rfl
theorem h97:(tv 97).hasZ=true:=by kernel_rfl
theorem z97:(tv 97).zc=[.pointer none]:=by kernel_rfl
theorem ti99:ti tb 99=some (tv 99):=Qc1 (by kernel_rfl)
theorem d99:(tv 99).d=.struct (fsv 99):=by kernel_rfl
theorem h99:(tv 99).hasZ=true:=by kernel_rfl
theorem z99:(tv 99).zc=[.int .i64 0,.int .u64 0,.int .u64 0,.int .i64 0,.int .i64 0,.int .i64 0,.int .i64 0,.int .i64 0,.int .u64 0,.slice none 0 0,.bool false]:=by kernel_rfl
theorem f99:(tv 99).flds=[(0,9,26,false),(9,1,27,false),(10,1,4,false)]:=by kernel_rfl
theorem ti105:ti tb 105=some (tv 105):=Qc1 (by kernel_rfl)
theorem d105:(tv 105).d=.struct (fsv 105):=by kernel_rfl
theorem g105:(tv 105).agg=true:=by kernel_rfl
theorem s105:(tv 105).inf.size=28:=by kernel_rfl
theorem h105:(tv 105).hasZ=true:=by kernel_rfl
theorem z105:(tv 105).zc=[.bool false,.bool false,.int .i64 0,.int .u64 0,.int .u64 0,.int .i64 0,.int .i64 0,.int .i64 0,.int .i64 0,.int .i64 0,.int .u64 0,.int .i64 0,.int .i64 0,.int .i64 0,.int .u64 0,.int .u64 0,.slice none 0 0,.int .u64 0,.int .i64 0,.int .i64 0,.int .i64 0,.int .i64 0,.int .i64 0,.int .u32 0,.int .u64 0,.slice none 0 0,.int .i64 0,.int .u64 0]:=by kernel_rfl
theorem f105:(tv 105).flds=[(0,1,4,false),(1,1,4,false),(2,9,26,false),(11,17,36,false)]:=by kernel_rfl
theorem ti118:ti tb 118=some (tv 118):=Qc1 (by kernel_rfl)
theorem g118:(tv 118).agg=false:=by kernel_rfl
theorem ti121:ti tb 121=some (tv 121):=Qc1 (by kernel_rfl)
theorem g121:(tv 121).agg=false:=by kernel_rfl
theorem ti122:ti tb 122=some (tv 122):=Qc1 (by kernel_rfl)
theorem d122:(tv 122).d=.pointer 5:=by kernel_rfl
theorem ti123:ti tb 123=some (tv 123):=Qc1 (by kernel_rfl)
theorem d123:(tv 123).d=.slice 88:=by kernel_rfl
theorem ti128:ti tb 128=some (tv 128):=Qc1 (by kernel_rfl)
theorem d128:(tv 128).d=.struct (fsv 128):=by kernel_rfl
theorem s128:(tv 128).inf.size=0:=by kernel_rfl
theorem h128:(tv 128).hasZ=true:=by kernel_rfl
theorem z128:(tv 128).zc=[]:=by kernel_rfl
theorem ti132:ti tb 132=some (tv 132):=Qc1 (by kernel_rfl)
theorem d132:(tv 132).d=.struct (fsv 132):=by kernel_rfl
theorem h132:(tv 132).hasZ=true:=by kernel_rfl
theorem z132:(tv 132).zc=[.slice none 0 0]:=by kernel_rfl
theorem f132:(tv 132).flds=[(0,1,54,false)]:=by kernel_rfl
theorem ti139:ti tb 139=some (tv 139):=Qc1 (by kernel_rfl)
theorem d139:(tv 139).d=.slice 22:=by kernel_rfl
theorem g139:(tv 139).agg=false:=by kernel_rfl
theorem s139:(tv 139).inf.size=1:=by kernel_rfl
theorem ti141:ti tb 141=some (tv 141):=Qc1 (by kernel_rfl)
theorem d141:(tv 141).d=.struct (fsv 141):=by kernel_rfl
theorem g141:(tv 141).agg=true:=by kernel_rfl
theorem s141:(tv 141).inf.size=4:=by kernel_rfl
theorem h141:(tv 141).hasZ=true:=by kernel_rfl
theorem z141:(tv 141).zc=[.slice none 0 0,.slice none 0 0,.int .i64 0,.slice none 0 0]:=by kernel_rfl
theorem f141:(tv 141).flds=[(0,1,34,false),(1,1,139,false),(2,1,3,false),(3,1,29,false)]:=by kernel_rfl
theorem ti145:ti tb 145=some (tv 145):=Qc1 (by kernel_rfl)
theorem d145:(tv 145).d=.unsafePointer:=by kernel_rfl
theorem ti149:ti tb 149=some (tv 149):=Qc1 (by kernel_rfl)
theorem d149:(tv 149).d=.array 3 9:=by kernel_rfl
theorem h149:(tv 149).hasZ=true:=by kernel_rfl
theorem z149:(tv 149).zc=[.string ⟨⟨[]⟩⟩,.string ⟨⟨[]⟩⟩,.string ⟨⟨[]⟩⟩]:=by kernel_rfl
end Ty
theorem Qyh (e:TypeId) (n:Nat) (z:List Value):vwO (Qbw e n z)=if n=z.length then some ⟨true,e,false,z⟩ else vwX (Qbw e n z):=by
 split
 ·rename_i h;subst h;exact Qdn e z
 ·rfl
def isRow:Option Vw→Bool
 |some _=>true
 |none=>false
theorem Qxo (v:Vw):isRow (some v)=true:=_root_.id rfl
theorem o_loadC {tb:Tabs} {m:Mem} (t:TypeId) (b o:Nat) (s:Option Nat) (h:isRow (vw m b)=true):Qfi tb t m (.pointer (some ⟨b,o,s⟩))=ldW tb t m b o s (ti tb t) (vw m b):=o_loadW t b o s
attribute [simp] o_loadC Qxo o_storeW
attribute [simp] wpR_cons wpG_true Qyc wpS_r wpS_f wpS_e wpS_c wpR_nil dB_some dB_none wX_no wX_on isB_bool Qwt Qwu Qnd oE_some nil_ptr Jac Qql gx_c0 gx_cs gx_set Ja6 Qfp Jbj evL_func evsL_nil Jbf evPL_nil Jbg Jbi Jbh o_move o_assign o_pick o_alloc o_box o_build Qr2 o_load o_store Qxe o_binOp o_unOp Jai Qnb Qxf o_slice Quc Qub o_index Qr1 Jah o_callV o_callB o_defer o_panic b_add b_sub b_mul b_eql b_neq b_lss b_gtr b_leq b_geq b_beql b_bneq u_not u_neg Qaf Qo1 Qyl Qq7 Qx6 Qoh retR_ret Qdh Qaw Qc7 Qre Qpy ldW_some stW_some ia_slice ia_str ia_agg cv_int lo_nil lo_cons T.get_setL T.get_lf b_shr b_and bound_eq Jau len_str sl_W slW_some sl_str fi_W fiW_some fi_str at_W Qwe Jcc Qs2 Qiy Qp1 ble_d blt_d beq_d Qdj Qgf Qij Qlj Qhs Region.binds Op.operands Call.operands Jbt Qx0 dBl_true Jbx Jbv dGd_true dSt_r dSt_f dSt_e dSt_c Jbu Qx1 dNx_e dNx_c wpD_succ Ql0 memL Qn6 Qly Qn8 Qfq Jbw Qn7 vEq_b Qtg vEq_s vEq_p Qrh vEqL Qlh Qck Qq9 Qi1 Qr8 Qm9 Qe8 Qqs Qbc Qha Qgi Qga slStr Qp8 Ql1 addA ldV Qae Qcf Qaq Qcy Qyg Qec Qyh vwO_lf vwO_setL Qyi repl Qwk takeN_c0 takeN_cs Qkn spl stOk Qg0 one_u8s Qul oneC Qsx Qv4 Qgn Jaa Qj1 Qnq ptr0
open Ty in
attribute [simp] ti3 d3 g3 s3 y3 h3 z3 ti4 d4 g4 s4 h4 z4 ti5 d5 g5 s5 y5 h5 z5 ti9 d9 g9 s9 y9 h9 z9 ti20 ti22 d22 g22 s22 y22 h22 z22 ti24 d24 g24 s24 h24 z24 f24 ti26 d26 g26 s26 h26 z26 f26 ti27 d27 g27 s27 h27 z27 ti29 d29 g29 s29 ti32 d32 g32 s32 h32 z32 f32 ti33 d33 g33 s33 ti34 d34 g34 s34 ti36 d36 g36 s36 y36 h36 z36 f36 ti38 g38 s38 h38 z38 ti54 d54 g54 s54 ti63 d63 g63 s63 ti65 s65 h65 z65 f65 ti67 d67 h67 z67 f67 ti69 ti75 d75 ti78 d78 g78 ti80 g80 s80 h80 z80 f80 ti81 g81 ti82 g82 ti84 g84 s84 h84 z84 f84 ti88 g88 s88 f88 ti97 g97 s97 h97 z97 ti99 d99 h99 z99 f99 ti105 d105 g105 s105 h105 z105 f105 ti118 g118 ti121 g121 ti122 d122 ti123 d123 ti128 d128 s128 h128 z128 ti132 d132 h132 z132 f132 ti139 d139 g139 s139 ti141 d141 g141 s141 h141 z141 f141 ti145 d145 ti149 d149 h149 z149
def Sl (k:List Value) (n:Nat) (l:List Value):Prop:=∃ ts,ts.length=n∧l=k++ts
theorem Sl.mk {k l:List Value} {n:Nat} (h:l.take k.length=k) (hl:l.length=k.length+n):Sl k n l:=⟨l.drop k.length,by simp [hl],by conv=>lhs;rw [← List.take_append_drop k.length l,h]⟩
theorem xitoa {n:Int} {m:Mem} {ds:List Deferred} {K:Value→List Deferred→Mem→Prop} {PK:List PanicEntry→Mem→Prop} (h0 : -9223372036854775808≤n) (h1:n≤9223372036854775807) (hp:Qeo m)
  (k:K (.string ⟨⟨Lib.itoa n⟩⟩) ds m):Qe2 tb (Qa7 tb (.func (.func 31) #[] #[]) [.int .i64 n] m) ds m K PK:=by
 have e:Qa7 tb (.func (.func 31) #[] #[]) [.int .i64 n] m=.over (.string ⟨⟨Lib.itoa n⟩⟩) m:=by
  simp only [Qa7,Qeb,Qlz,Kna,List.append_nil,ov_itoa,Qpi,if_pos (show -9223372036854775808≤n∧n≤9223372036854775807∧Qeo m from ⟨h0,h1,hp⟩)]
 rw [e];exact k
theorem xfmt {n:Int} {m:Mem} {ds:List Deferred} {K:Value→List Deferred→Mem→Prop} {PK:List PanicEntry→Mem→Prop} (h0:0≤n) (h1:n≤18446744073709551615) (hp:Qeo m)
  (k:K (.string ⟨⟨Lib.decDigits n.toNat⟩⟩) ds m):Qe2 tb (Qa7 tb (.func (.func 48) #[] #[]) [.int .u64 n,.int .i64 10] m) ds m K PK:=by
 have e:Qa7 tb (.func (.func 48) #[] #[]) [.int .u64 n,.int .i64 10] m=.over (.string ⟨⟨Lib.decDigits n.toNat⟩⟩) m:=by
  simp only [Qa7,Qeb,Qlz,Kna,List.append_nil,ov_fmt,Qxv,if_pos (show 0≤n∧n≤18446744073709551615∧(10:Int)=10∧Qeo m from ⟨h0,h1,rfl,hp⟩)]
 rw [e];exact k
theorem Qtc {f:FuncId} {v:Value} {rows:List CRow} {m:Mem} {ds:List Deferred} {K:Value→List Deferred→Mem→Prop} {PK:List PanicEntry→Mem→Prop} (hov:tb.ov.get f=some (Qe1 v rows)) (hm:8≤m.next)
  (k:Qbq rows (Qdw m (rows.map (CRow.ren 8 m.next))) m.next→K (renV 8 m.next v) ds (Qdw m (rows.map (CRow.ren 8 m.next)))):Qe2 tb (Qa7 tb (.func (.func f) #[] #[]) [] m) ds m K PK:=by
 have hb:Nat.ble 8 m.next=true:=by rw [Nat.ble_eq];exact hm
 have e:Qa7 tb (.func (.func f) #[] #[]) [] m=.over (renV 8 m.next v) (Qdw m (rows.map (CRow.ren 8 m.next))):=by
  simp only [Qa7,Qeb,Qlz,Kna,List.append_nil,hov,Qe1,hb]
 rw [e];exact k (Qw8 rows m)
theorem Qwg {f:FuncId} {g:List Value→Mem→Option (Value × Mem)} {args:List Value} {m m':Mem} {v:Value} {ds:List Deferred} {K:Value→List Deferred→Mem→Prop} {PK:List PanicEntry→Mem→Prop} (hov:tb.ov.get f=some g) (h:g args m=some (v,m'))
  (k:K v ds m'):Qe2 tb (Qa7 tb (.func (.func f) #[] #[]) args m) ds m K PK:=by
 have e:Qa7 tb (.func (.func f) #[] #[]) args m=.over v m':=by
  simp only [Qa7,Qeb,Qlz,Kna,List.append_nil,hov,h]
 rw [e];exact k
end Go.Proofs.YtgmkbdmgifdfeaaGreatDoor

