/- A part of a proof: ScriptBack. -/
import Derived.BigCall
import Derived.BigGuard
import Derived.ChangeArms
import Derived.DataReads
import Derived.Deep.Slices
import Derived.Ground.MpProg
import Derived.LaidLaws
import Derived.Lib.AppendIntMem
import Derived.Lib.AtoiErrMem
import Derived.Lib.ItoaMem
import Derived.Lib.Walk
import Derived.OpenShut
import Derived.ProofKit
import Derived.Shelf.LaysM
import Derived.Shelf.Pu.ParseUintPublic10
import Derived.Shelf.Small.Strs
import Derived.Shelf.Strconv.Itoa0
import Derived.Shelf.Strconv.Itoa1
import Derived.Shelf.Strconv.Itoa2
import Derived.Shelf.Strconv.Itoa3
import Derived.Stop.LaidErr
import Derived.WalkKit
import Derived.Test.YtgmkbdmgifdfeaaGreatDoorRows
import Derived.Test.YtgmkbdmgifdfeaaGreatDoorD23
set_option linter.unusedVariables false
set_option linter.unusedSimpArgs false
namespace Go.Proofs
open Go.Shelf
def Tryz.lays283_ren:Go.Shelf.Ren:=⟨fun|283=>114|n=>n,fun|3=>3|9=>9|4=>4|n=>n,fun|n=>n⟩
theorem Tryz.lays283:Go.Proofs.Lays.n283 Tryz.prog Tryz.lays283_ren := {
 mixed:=by kernel_rfl
 f283:=Tryz.func114.trans (congrArg some (by kernel_rfl))
 t3:=Tryz.underlying3
 a3:=Tryz.isAgg3
 z3:=Tryz.sizeOf3
 v3:=Tryz.zeroValue3
 t4:=Tryz.underlying4
 a4:=Tryz.isAgg4
 z4:=Tryz.sizeOf4
 v4:=Tryz.zeroValue4
 t9:=Tryz.underlying9
 a9:=Tryz.isAgg9
 z9:=Tryz.sizeOf9
 v9:=Tryz.zeroValue9 }
open Go.Lib in
theorem Tryz.internal_strconv_small (i:Nat) (h:i<100) (w:World) :
  Calls Tryz.prog 114 #[.int .i64 i] w fun e w'=>e=.returned (.string ⟨(Lib.decDigits i).toArray⟩)∧w'=w:=Any.internal_strconv_small Tryz.lays283 i h w
def Tryz.laysM284_ren:Go.Shelf.Ren:=⟨fun|284=>115|129=>125|317=>124|318=>126|n=>n,fun|53=>22|3=>3|212=>177|0=>0|4=>4|46=>174|5=>5|9=>9|n=>n,fun|17=>0|n=>n⟩
theorem Tryz.laysM284:Go.Proofs.LaysM.n284 Tryz.prog Tryz.laysM284_ren := {
 mixed:=by kernel_rfl
 f129:=Tryz.func125.trans (congrArg some (by kernel_rfl))
 f284:=Tryz.func115.trans (congrArg some (by kernel_rfl))
 f317:=Tryz.func124.trans (congrArg some (by kernel_rfl))
 f318:=Tryz.func126.trans (congrArg some (by kernel_rfl))
 t0:=Tryz.underlying0
 a0:=Tryz.isAgg0
 z0:=Tryz.sizeOf0
 v0:=Tryz.zeroValue0
 t3:=Tryz.underlying3
 a3:=Tryz.isAgg3
 z3:=Tryz.sizeOf3
 v3:=Tryz.zeroValue3
 t4:=Tryz.underlying4
 a4:=Tryz.isAgg4
 z4:=Tryz.sizeOf4
 v4:=Tryz.zeroValue4
 t5:=Tryz.underlying5
 a5:=Tryz.isAgg5
 z5:=Tryz.sizeOf5
 v5:=Tryz.zeroValue5
 t9:=Tryz.underlying9
 a9:=Tryz.isAgg9
 z9:=Tryz.sizeOf9
 v9:=Tryz.zeroValue9
 t46:=Tryz.underlying174
 a46:=Tryz.isAgg174
 z46:=Tryz.sizeOf174
 v46:=Tryz.zeroValue174
 t53:=Tryz.underlying22
 a53:=Tryz.isAgg22
 z53:=Tryz.sizeOf22
 v53:=Tryz.zeroValue22
 t212:=Tryz.underlying177
 a212:=Tryz.isAgg177
 z212:=Tryz.sizeOf177
 v212:=Tryz.zeroValue177
 g17:=by kernel_rfl
 i0:=by kernel_rfl
 i3:=by kernel_rfl
 i4:=by kernel_rfl
 i5:=by kernel_rfl
 i9:=by kernel_rfl
 i46:=by kernel_rfl
 i53:=by kernel_rfl
 i212:=by kernel_rfl
 m17:=by kernel_rfl }
open Go.Lib in
theorem Tryz.internal_strconv_numDigits (u:Nat) (h1:1≤u) (h2:u<18446744073709551616) (w:World) (htab:Lib.TabIs Tryz.prog w "internal/strconv.uint64pow10" .u64 Lib.pow10Tab) :
  Calls Tryz.prog 115 #[.int .u64 u] w fun e w'=>e=.returned (.int .i64 (Lib.nDigits u))∧w'=w:=Any.internal_strconv_numDigits Tryz.laysM284 u h1 h2 w htab
def Tryz.lays285_ren:Go.Shelf.Ren:=⟨fun|285=>116|n=>n,fun|37=>29|53=>22|3=>3|4=>4|51=>33|9=>9|5=>5|0=>0|n=>n,fun|n=>n⟩
theorem Tryz.lays285:Go.Proofs.Lays.n285 Tryz.prog Tryz.lays285_ren := {
 mixed:=by kernel_rfl
 f285:=Tryz.func116.trans (congrArg some (by kernel_rfl))
 t0:=Tryz.underlying0
 a0:=Tryz.isAgg0
 z0:=Tryz.sizeOf0
 v0:=Tryz.zeroValue0
 t3:=Tryz.underlying3
 a3:=Tryz.isAgg3
 z3:=Tryz.sizeOf3
 v3:=Tryz.zeroValue3
 t4:=Tryz.underlying4
 a4:=Tryz.isAgg4
 z4:=Tryz.sizeOf4
 v4:=Tryz.zeroValue4
 t5:=Tryz.underlying5
 a5:=Tryz.isAgg5
 z5:=Tryz.sizeOf5
 v5:=Tryz.zeroValue5
 t9:=Tryz.underlying9
 a9:=Tryz.isAgg9
 z9:=Tryz.sizeOf9
 v9:=Tryz.zeroValue9
 t37:=Tryz.underlying29
 a37:=Tryz.isAgg29
 z37:=Tryz.sizeOf29
 v37:=Tryz.zeroValue29
 t51:=Tryz.underlying33
 a51:=Tryz.isAgg33
 z51:=Tryz.sizeOf33
 v51:=Tryz.zeroValue33
 t53:=Tryz.underlying22
 a53:=Tryz.isAgg22
 z53:=Tryz.sizeOf22
 v53:=Tryz.zeroValue22 }
open Go.RowKit Go.Sort Go.Lib in
theorem Tryz.internal_strconv_formatBase10 (blk off cap:Nat) (u:Nat) (d:Array UInt8) (w:World) (hH:Holds (fun (b:UInt8)=>Value.int .u8 (b.toNat:Int)) w blk off d) (hu:u<10 ^ d.size) (hu64:u<18446744073709551616) (hsz:d.size<4611686018427387904) :
  Calls Tryz.prog 116 #[.slice (some ⟨blk,off,none⟩) d.size cap,.int .u64 u] w fun e w' =>
   e=.returned (.tuple #[])∧∃ (n v':Nat) (dk:Array UInt8),w'=(putRow (fun (b:UInt8)=>Value.int .u8 (b.toNat:Int)) w blk off dk).drewN n∧FmtInv d.size u 0 v' dk:=Any.internal_strconv_formatBase10 Tryz.lays285 blk off cap u d w hH hu hu64 hsz
def Tryz.laysM171_ren:Go.Shelf.Ren:=⟨fun|171=>31|243=>66|246=>105|283=>114|284=>115|285=>116|286=>117|129=>125|317=>124|318=>126|319=>127|320=>128|337=>136|338=>137|n=>n,fun|3=>3|9=>9|2=>2|4=>4|171=>165|0=>0|53=>22|37=>29|5=>5|173=>168|212=>177|51=>33|20=>20|213=>178|46=>174|232=>192|233=>193|n=>n,fun|17=>0|18=>4|19=>5|n=>n⟩
theorem Tryz.laysM171:Go.Proofs.LaysM.n171 Tryz.prog Tryz.laysM171_ren := {
 mixed:=by kernel_rfl
 f129:=Tryz.func125.trans (congrArg some (by kernel_rfl))
 f171:=Tryz.func31.trans (congrArg some (by kernel_rfl))
 f243:=Tryz.func66.trans (congrArg some (by kernel_rfl))
 f246:=Tryz.func105.trans (congrArg some (by kernel_rfl))
 f283:=Tryz.func114.trans (congrArg some (by kernel_rfl))
 f284:=Tryz.func115.trans (congrArg some (by kernel_rfl))
 f285:=Tryz.func116.trans (congrArg some (by kernel_rfl))
 f286:=Tryz.func117.trans (congrArg some (by kernel_rfl))
 f317:=Tryz.func124.trans (congrArg some (by kernel_rfl))
 f318:=Tryz.func126.trans (congrArg some (by kernel_rfl))
 f319:=Tryz.func127.trans (congrArg some (by kernel_rfl))
 f320:=Tryz.func128.trans (congrArg some (by kernel_rfl))
 f337:=Tryz.func136.trans (congrArg some (by kernel_rfl))
 f338:=Tryz.func137.trans (congrArg some (by kernel_rfl))
 t0:=Tryz.underlying0
 a0:=Tryz.isAgg0
 z0:=Tryz.sizeOf0
 v0:=Tryz.zeroValue0
 t2:=Tryz.underlying2
 a2:=Tryz.isAgg2
 z2:=Tryz.sizeOf2
 v2:=Tryz.zeroValue2
 t3:=Tryz.underlying3
 a3:=Tryz.isAgg3
 z3:=Tryz.sizeOf3
 v3:=Tryz.zeroValue3
 t4:=Tryz.underlying4
 a4:=Tryz.isAgg4
 z4:=Tryz.sizeOf4
 v4:=Tryz.zeroValue4
 t5:=Tryz.underlying5
 a5:=Tryz.isAgg5
 z5:=Tryz.sizeOf5
 v5:=Tryz.zeroValue5
 t9:=Tryz.underlying9
 a9:=Tryz.isAgg9
 z9:=Tryz.sizeOf9
 v9:=Tryz.zeroValue9
 t20:=Tryz.underlying20
 a20:=Tryz.isAgg20
 z20:=Tryz.sizeOf20
 v20:=Tryz.zeroValue20
 t37:=Tryz.underlying29
 a37:=Tryz.isAgg29
 z37:=Tryz.sizeOf29
 v37:=Tryz.zeroValue29
 t46:=Tryz.underlying174
 a46:=Tryz.isAgg174
 z46:=Tryz.sizeOf174
 v46:=Tryz.zeroValue174
 t51:=Tryz.underlying33
 a51:=Tryz.isAgg33
 z51:=Tryz.sizeOf33
 v51:=Tryz.zeroValue33
 t53:=Tryz.underlying22
 a53:=Tryz.isAgg22
 z53:=Tryz.sizeOf22
 v53:=Tryz.zeroValue22
 t171:=Tryz.underlying165
 a171:=Tryz.isAgg165
 z171:=Tryz.sizeOf165
 v171:=Tryz.zeroValue165
 t173:=Tryz.underlying168
 a173:=Tryz.isAgg168
 z173:=Tryz.sizeOf168
 v173:=Tryz.zeroValue168
 t212:=Tryz.underlying177
 a212:=Tryz.isAgg177
 z212:=Tryz.sizeOf177
 v212:=Tryz.zeroValue177
 t213:=Tryz.underlying178
 a213:=Tryz.isAgg178
 z213:=Tryz.sizeOf178
 t232:=Tryz.underlying192
 a232:=Tryz.isAgg192
 z232:=Tryz.sizeOf192
 v232:=Tryz.zeroValue192
 t233:=Tryz.underlying193
 a233:=Tryz.isAgg193
 z233:=Tryz.sizeOf193
 v233:=Tryz.zeroValue193
 g17:=by kernel_rfl
 g18:=by kernel_rfl
 g19:=by kernel_rfl
 i0:=by kernel_rfl
 i2:=by kernel_rfl
 i3:=by kernel_rfl
 i4:=by kernel_rfl
 i5:=by kernel_rfl
 i9:=by kernel_rfl
 i20:=by kernel_rfl
 i37:=by kernel_rfl
 i46:=by kernel_rfl
 i51:=by kernel_rfl
 i53:=by kernel_rfl
 i171:=by kernel_rfl
 i173:=by kernel_rfl
 i212:=by kernel_rfl
 i232:=by kernel_rfl
 i233:=by kernel_rfl
 m17:=by kernel_rfl
 m18:=by kernel_rfl
 m19:=by kernel_rfl }
open Go.RowKit Go.Sort Go.Lib in
theorem Tryz.strconv_Itoa (n:Int) (h0 : -9223372036854775808≤n) (h1:n≤9223372036854775807) (w:World) (htab:Lib.TabIs Tryz.prog w "internal/strconv.uint64pow10" .u64 Lib.pow10Tab) :
  Calls Tryz.prog 31 #[.int .i64 n] w fun e w'=>e=.returned (.string ⟨(Lib.itoa n).toArray⟩)∧∃ k os,w'=grow (w.drewN k) os:=Any.strconv_Itoa Tryz.laysM171 n h0 h1 w htab
end Go.Proofs

namespace Go.Proofs
open Go.Shelf Go.RowKit Go.Sort Go.Lib
set_option maxHeartbeats 6400000 in
set_option maxRecDepth 100000 in
theorem Tryz.formatUint81 (u:Nat) (hu64:u<18446744073709551616) (w:World)
  (htab:Lib.TabIs Tryz.prog w "internal/strconv.uint64pow10" .u64 Lib.pow10Tab) :
  Calls Tryz.prog 81 #[.int .u64 u,.int .i64 10] w fun e w'=>e=.returned (.string ⟨(Lib.decDigits u).toArray⟩)∧∃ k os,w'=grow (w.drewN k) os:=by
 by_cases hi:u<100
 ·go_enter Tryz.func81,Tryz.ntmps81
  go_wp2_with (go_at_call 114;refine (Tryz.internal_strconv_small u hi _).mono ?_;rintro e w' ⟨rfl,rfl⟩)
  go_ret
  exact⟨rfl,0,#[],by simp [World.drewN_zero]⟩
 ·have hu1:1≤u:=by omega
  have hnd20:Lib.nDigits u≤20:=by have:=Lib.numDigits_eq u hu1 hu64;split at this<;>omega
  have hal:Tryz.prog.arrayLen 165=24:=by simp [Program.arrayLen,Tryz.underlying165]
  have hsl1:∀ W,(Instr.sliceAt 165 (.pointer (some ⟨w.heap.size,0,none⟩)) none (some (.int .i64 (Lib.nDigits u:Int))) none).run Tryz.prog W=.ok (.slice (some ⟨w.heap.size,0,none⟩) (Lib.nDigits u) 24) W:=fun W=>by
   rw [run_sliceAt_array_h W 165 ⟨w.heap.size,0,none⟩ (by simp [Program.arrayLen,Program.elem,Tryz.underlying165]) .i64 (Lib.nDigits u:Int) (by omega) (by rw [hal];omega)]
   go_simp
  have hH0:=Lib.holds_zero0 w 165 (Lib.nDigits u) (by omega)
  have hfmt:=Tryz.internal_strconv_formatBase10 w.heap.size 0 24 u (Array.replicate (Lib.nDigits u) 0) (w.alloc (.cells Lib.zeros24 165)) hH0 (by rw [Array.size_replicate];exact Lib.lt_pow_nDigits u) hu64 (by rw [Array.size_replicate];omega)
  rw [Array.size_replicate] at hfmt
  have HH0:=Lib.hid hH0
  clear hH0
  go_enter Tryz.func81,Tryz.ntmps81
  go_wp2_with (first
   | (go_at_call 115;refine (Tryz.internal_strconv_numDigits u hu1 hu64 _ (Lib.tabIs_alloc htab _)).mono ?_;rintro e w' ⟨rfl,rfl⟩))
  refine hfmt.mono ?_
  rintro e w' ⟨rfl,k,v',dk,rfl,hF⟩
  have hcv:(convert 29 9 (.slice (some ⟨w.heap.size,0,none⟩) (Lib.nDigits u) 24)).run Tryz.prog ((putRow (fun (b:UInt8)=>Value.int .u8 (b.toNat:Int)) (w.alloc (.cells Lib.zeros24 165)) w.heap.size 0 dk).drewN k)=.ok (.string ⟨(Lib.decDigits u).toArray⟩) ((putRow (fun (b:UInt8)=>Value.int .u8 (b.toNat:Int)) (w.alloc (.cells Lib.zeros24 165)) w.heap.size 0 dk).drewN k):=by
   have h:=run_convert_bytes_back (P:=Tryz.prog) ((putRow (fun (b:UInt8)=>Value.int .u8 (b.toNat:Int)) (w.alloc (.cells Lib.zeros24 165)) w.heap.size 0 dk).drewN k) 29 9 5 ⟨w.heap.size,0,none⟩ 24 (Lib.decDigits u) Tryz.underlying29 Tryz.underlying5 Tryz.underlying9 (fun j hj=>by
    rw [Lib.row_is_numeral hF j hj,Lib.add_plain,World.cell?_drewN]
    exact cell?_putRow (fun (b:UInt8)=>Value.int .u8 (b.toNat:Int)) _ w.heap.size 0 _ dk HH0.out (by rw [hF.size,Array.size_replicate]) j (by rw [hF.size];rw [Lib.decDigits_length] at hj;exact hj))
   rw [Lib.decDigits_length] at h
   exact h
  go_wp2
  go_ret
  obtain⟨os,eo⟩:=Lib.fin_at w (.cells Lib.zeros24 165) dk k 0
  exact⟨rfl,k,os,eo⟩
set_option maxRecDepth 100000 in
theorem Tryz.formatUint48 (u:Nat) (hu64:u<18446744073709551616) (w:World)
  (htab:Lib.TabIs Tryz.prog w "internal/strconv.uint64pow10" .u64 Lib.pow10Tab) :
  Calls Tryz.prog 48 #[.int .u64 u,.int .i64 10] w fun e w'=>e=.returned (.string ⟨(Lib.decDigits u).toArray⟩)∧∃ k os,w'=grow (w.drewN k) os:=by
 go_enter Tryz.func48,Tryz.ntmps48
 go_wp2_with (go_at_call 81;refine (Tryz.formatUint81 u hu64 _ htab).mono ?_;rintro e w' ⟨rfl,k,os,rfl⟩)
 go_ret
 exact⟨rfl,k,os,rfl⟩
end Go.Proofs

namespace Go.Proofs
open Go.Shelf
def Tryz.lays137_ren:Go.Shelf.Ren:=⟨fun|137=>131|217=>132|266=>141|n=>n,fun|9=>9|5=>5|3=>3|n=>n,fun|n=>n⟩
theorem Tryz.lays137:Go.Proofs.Lays.n137 Tryz.prog Tryz.lays137_ren := {
 mixed:=by kernel_rfl
 f137:=Tryz.func131.trans (congrArg some (by kernel_rfl))
 f217:=Tryz.func132.trans (congrArg some (by kernel_rfl))
 f266:=Tryz.func141.trans (congrArg some (by kernel_rfl))
 t3:=Tryz.underlying3
 a3:=Tryz.isAgg3
 z3:=Tryz.sizeOf3
 v3:=Tryz.zeroValue3
 t5:=Tryz.underlying5
 a5:=Tryz.isAgg5
 z5:=Tryz.sizeOf5
 v5:=Tryz.zeroValue5
 t9:=Tryz.underlying9
 a9:=Tryz.isAgg9
 z9:=Tryz.sizeOf9
 v9:=Tryz.zeroValue9 }
open Go.RowKit in
theorem Tryz.strings_IndexByte (s:ByteArray) (c:Int) (w:World) :
  Calls Tryz.prog 131 #[.string s,.int .u8 c] w fun e w'=>e=.returned (.int .i64 (Lib.indexByte s.data.toList c.toNat.toUInt8))∧w'=w:=Any.strings_IndexByte Tryz.lays137 s c w
def Tryz.lays103_ren:Go.Shelf.Ren:=⟨fun|103=>118|210=>129|206=>138|n=>n,fun|9=>9|4=>4|24=>170|3=>3|n=>n,fun|n=>n⟩
theorem Tryz.lays103:Go.Proofs.Lays.n103 Tryz.prog Tryz.lays103_ren := {
 mixed:=by kernel_rfl
 f103:=Tryz.func118.trans (congrArg some (by kernel_rfl))
 f206:=Tryz.func138.trans (congrArg some (by kernel_rfl))
 f210:=Tryz.func129.trans (congrArg some (by kernel_rfl))
 t3:=Tryz.underlying3
 a3:=Tryz.isAgg3
 z3:=Tryz.sizeOf3
 v3:=Tryz.zeroValue3
 t4:=Tryz.underlying4
 a4:=Tryz.isAgg4
 z4:=Tryz.sizeOf4
 v4:=Tryz.zeroValue4
 t9:=Tryz.underlying9
 a9:=Tryz.isAgg9
 z9:=Tryz.sizeOf9
 v9:=Tryz.zeroValue9
 t24:=Tryz.underlying170
 a24:=Tryz.isAgg170
 z24:=Tryz.sizeOf170
 v24:=Tryz.zeroValue170 }
open Go.RowKit in
theorem Tryz.strings_CutPrefix (s p:ByteArray) (w:World) :
  Calls Tryz.prog 118 #[.string s,.string p] w fun e w'=>e=.returned (.tuple #[.string ⟨(Lib.trimPrefix s.data.toList p.data.toList).toArray⟩,.bool (Lib.hasPrefix s.data.toList p.data.toList)])∧w'=w:=Any.strings_CutPrefix Tryz.lays103 s p w
def Tryz.laysPu14_ren:Go.Shelf.Ren:=⟨fun|14=>130|16=>139|17=>140|19=>143|20=>144|21=>145|22=>146|23=>147|24=>148|25=>149|27=>31|26=>150|28=>66|29=>105|30=>114|31=>115|32=>116|33=>117|35=>125|34=>124|36=>126|37=>127|38=>128|39=>136|40=>137|n=>n,fun|9=>9|3=>3|22=>22|24=>69|25=>180|4=>4|34=>194|5=>5|36=>174|37=>29|0=>0|39=>195|21=>21|44=>200|47=>122|50=>204|48=>202|2=>2|52=>165|55=>168|59=>177|60=>33|20=>20|61=>178|65=>192|66=>193|67=>86|n=>n,fun|0=>6|1=>7|2=>0|3=>4|4=>5|n=>n⟩
theorem Tryz.laysPu14:Go.Proofs.LaysPu.n14 Tryz.prog Tryz.laysPu14_ren := {
 mixed:=by kernel_rfl
 f14:=Tryz.func130.trans (congrArg some (by kernel_rfl))
 f16:=Tryz.func139.trans (congrArg some (by kernel_rfl))
 f17:=Tryz.func140.trans (congrArg some (by kernel_rfl))
 f19:=Tryz.func143.trans (congrArg some (by kernel_rfl))
 f20:=Tryz.func144.trans (congrArg some (by kernel_rfl))
 f21:=Tryz.func145.trans (congrArg some (by kernel_rfl))
 f22:=Tryz.func146.trans (congrArg some (by kernel_rfl))
 f23:=Tryz.func147.trans (congrArg some (by kernel_rfl))
 f24:=Tryz.func148.trans (congrArg some (by kernel_rfl))
 f25:=Tryz.func149.trans (congrArg some (by kernel_rfl))
 f26:=Tryz.func150.trans (congrArg some (by kernel_rfl))
 f27:=Tryz.func31.trans (congrArg some (by kernel_rfl))
 f28:=Tryz.func66.trans (congrArg some (by kernel_rfl))
 f29:=Tryz.func105.trans (congrArg some (by kernel_rfl))
 f30:=Tryz.func114.trans (congrArg some (by kernel_rfl))
 f31:=Tryz.func115.trans (congrArg some (by kernel_rfl))
 f32:=Tryz.func116.trans (congrArg some (by kernel_rfl))
 f33:=Tryz.func117.trans (congrArg some (by kernel_rfl))
 f34:=Tryz.func124.trans (congrArg some (by kernel_rfl))
 f35:=Tryz.func125.trans (congrArg some (by kernel_rfl))
 f36:=Tryz.func126.trans (congrArg some (by kernel_rfl))
 f37:=Tryz.func127.trans (congrArg some (by kernel_rfl))
 f38:=Tryz.func128.trans (congrArg some (by kernel_rfl))
 f39:=Tryz.func136.trans (congrArg some (by kernel_rfl))
 f40:=Tryz.func137.trans (congrArg some (by kernel_rfl))
 t0:=Tryz.underlying0
 a0:=Tryz.isAgg0
 z0:=Tryz.sizeOf0
 v0:=Tryz.zeroValue0
 i0:=by kernel_rfl
 t2:=Tryz.underlying2
 a2:=Tryz.isAgg2
 z2:=Tryz.sizeOf2
 v2:=Tryz.zeroValue2
 i2:=by kernel_rfl
 t3:=Tryz.underlying3
 a3:=Tryz.isAgg3
 z3:=Tryz.sizeOf3
 v3:=Tryz.zeroValue3
 i3:=by kernel_rfl
 t4:=Tryz.underlying4
 a4:=Tryz.isAgg4
 z4:=Tryz.sizeOf4
 v4:=Tryz.zeroValue4
 i4:=by kernel_rfl
 t5:=Tryz.underlying5
 a5:=Tryz.isAgg5
 z5:=Tryz.sizeOf5
 v5:=Tryz.zeroValue5
 i5:=by kernel_rfl
 t9:=Tryz.underlying9
 a9:=Tryz.isAgg9
 z9:=Tryz.sizeOf9
 v9:=Tryz.zeroValue9
 i9:=by kernel_rfl
 t20:=Tryz.underlying20
 a20:=Tryz.isAgg20
 z20:=Tryz.sizeOf20
 v20:=Tryz.zeroValue20
 i20:=by kernel_rfl
 t21:=Tryz.underlying21
 a21:=Tryz.isAgg21
 z21:=Tryz.sizeOf21
 v21:=Tryz.zeroValue21
 i21:=by kernel_rfl
 t22:=Tryz.underlying22
 a22:=Tryz.isAgg22
 z22:=Tryz.sizeOf22
 v22:=Tryz.zeroValue22
 i22:=by kernel_rfl
 t24:=Tryz.underlying69
 a24:=Tryz.isAgg69
 z24:=Tryz.sizeOf69
 v24:=Tryz.zeroValue69
 i24:=by kernel_rfl
 t25:=Tryz.underlying180
 a25:=Tryz.isAgg180
 z25:=Tryz.sizeOf180
 v25:=Tryz.zeroValue180
 i25:=by kernel_rfl
 t34:=Tryz.underlying194
 a34:=Tryz.isAgg194
 z34:=Tryz.sizeOf194
 v34:=Tryz.zeroValue194
 i34:=by kernel_rfl
 c34:=by kernel_rfl
 t36:=Tryz.underlying174
 a36:=Tryz.isAgg174
 z36:=Tryz.sizeOf174
 v36:=Tryz.zeroValue174
 i36:=by kernel_rfl
 t37:=Tryz.underlying29
 a37:=Tryz.isAgg29
 z37:=Tryz.sizeOf29
 v37:=Tryz.zeroValue29
 i37:=by kernel_rfl
 t39:=Tryz.underlying195
 a39:=Tryz.isAgg195
 z39:=Tryz.sizeOf195
 v39:=Tryz.zeroValue195
 i39:=by kernel_rfl
 t44:=Tryz.underlying200
 a44:=Tryz.isAgg200
 z44:=Tryz.sizeOf200
 v44:=Tryz.zeroValue200
 i44:=by kernel_rfl
 t47:=Tryz.underlying122
 a47:=Tryz.isAgg122
 z47:=Tryz.sizeOf122
 v47:=Tryz.zeroValue122
 i47:=by kernel_rfl
 t48:=Tryz.underlying202
 a48:=Tryz.isAgg202
 z48:=Tryz.sizeOf202
 v48:=Tryz.zeroValue202
 i48:=by kernel_rfl
 t50:=Tryz.underlying204
 a50:=Tryz.isAgg204
 z50:=Tryz.sizeOf204
 v50:=Tryz.zeroValue204
 i50:=by kernel_rfl
 t52:=Tryz.underlying165
 a52:=Tryz.isAgg165
 z52:=Tryz.sizeOf165
 v52:=Tryz.zeroValue165
 i52:=by kernel_rfl
 t55:=Tryz.underlying168
 a55:=Tryz.isAgg168
 z55:=Tryz.sizeOf168
 v55:=Tryz.zeroValue168
 i55:=by kernel_rfl
 t59:=Tryz.underlying177
 a59:=Tryz.isAgg177
 z59:=Tryz.sizeOf177
 v59:=Tryz.zeroValue177
 i59:=by kernel_rfl
 t60:=Tryz.underlying33
 a60:=Tryz.isAgg33
 z60:=Tryz.sizeOf33
 v60:=Tryz.zeroValue33
 i60:=by kernel_rfl
 t61:=Tryz.underlying178
 a61:=Tryz.isAgg178
 z61:=Tryz.sizeOf178
 t65:=Tryz.underlying192
 a65:=Tryz.isAgg192
 z65:=Tryz.sizeOf192
 v65:=Tryz.zeroValue192
 i65:=by kernel_rfl
 t66:=Tryz.underlying193
 a66:=Tryz.isAgg193
 z66:=Tryz.sizeOf193
 v66:=Tryz.zeroValue193
 i66:=by kernel_rfl
 t67:=Tryz.underlying86
 a67:=Tryz.isAgg86
 z67:=Tryz.sizeOf86
 v67:=Tryz.zeroValue86
 i67:=by kernel_rfl
 g0:=by kernel_rfl
 m0:=by kernel_rfl
 g1:=by kernel_rfl
 m1:=by kernel_rfl
 g2:=by kernel_rfl
 m2:=by kernel_rfl
 g3:=by kernel_rfl
 m3:=by kernel_rfl
 g4:=by kernel_rfl
 m4:=by kernel_rfl }
open Go.RowKit in
theorem Tryz.strconv_ParseUint_10_at64_ok (s:ByteArray) (hmax:s.size≤9223372036854775806) (u:Nat) (h:Lib.parseUintB 64 s.data.toList=.ok u) (w:World) :
  Calls Tryz.prog 130 #[.string s,.int .i64 10,.int .i64 64] w fun e w'=>e=.returned (.tuple #[.int .u64 u,.nilIface])∧(w'=w∨w'=Lib.bytesWorld w 5 s):=Any.strconv_ParseUint_10_at64_ok Tryz.laysPu14 s hmax u h w
open Go.RowKit in
theorem Tryz.strconv_ParseUint_10_at64_syntax (s:ByteArray) (hlim:s.size≤281474976710656) (h:Lib.parseUintB 64 s.data.toList=Lib.parseUintB 64 []) (ev:Value) (w:World) (hv:w.cell? ⟨6,0,none⟩=some ev) (hev:ev=.nilIface∨∃ te pe,ev=.iface te pe) :
  Calls Tryz.prog 130 #[.string s,.int .i64 10,.int .i64 64] w fun e w'=>∃ N,e=.returned (.tuple #[.int .u64 0,.iface 195 (.pointer (some ⟨N,0,none⟩))])∧w.heap.size≤N∧w'.heap[N]? = some (.cells #[.string ⟨#[80,97,114,115,101,85,105,110,116]⟩,.string s,ev] 200 (0,0))∧Below w.heap.size w w':=Any.strconv_ParseUint_10_at64_syntax Tryz.laysPu14 s hlim (h.trans rfl) ev w hv hev
open Go.RowKit in
theorem Tryz.strconv_ParseUint_10_at64_range (s:ByteArray) (hlim:s.size≤281474976710656) (h:Lib.parseUintB 64 s.data.toList=.range) (ev:Value) (w:World) (hv:w.cell? ⟨7,0,none⟩=some ev) (hev:ev=.nilIface∨∃ te pe,ev=.iface te pe) :
  Calls Tryz.prog 130 #[.string s,.int .i64 10,.int .i64 64] w fun e w'=>∃ N,e=.returned (.tuple #[.int .u64 18446744073709551615,.iface 195 (.pointer (some ⟨N,0,none⟩))])∧w.heap.size≤N∧w'.heap[N]? = some (.cells #[.string ⟨#[80,97,114,115,101,85,105,110,116]⟩,.string s,ev] 200 (0,0))∧Below w.heap.size w w':=Any.strconv_ParseUint_10_at64_range Tryz.laysPu14 s hlim h ev w hv hev
def Tryz.lays143_ren:Go.Shelf.Ren:=⟨fun|143=>108|219=>122|217=>132|225=>133|224=>134|267=>135|266=>141|314=>142|n=>n,fun|9=>9|3=>3|4=>4|5=>5|46=>174|146=>190|51=>33|n=>n,fun|1=>3|n=>n⟩
theorem Tryz.lays143:Go.Proofs.Lays.n143 Tryz.prog Tryz.lays143_ren := {
 mixed:=by kernel_rfl
 f143:=Tryz.func108.trans (congrArg some (by kernel_rfl))
 f217:=Tryz.func132.trans (congrArg some (by kernel_rfl))
 f219:=Tryz.func122.trans (congrArg some (by kernel_rfl))
 f224:=Tryz.func134.trans (congrArg some (by kernel_rfl))
 f225:=Tryz.func133.trans (congrArg some (by kernel_rfl))
 f266:=Tryz.func141.trans (congrArg some (by kernel_rfl))
 f267:=Tryz.func135.trans (congrArg some (by kernel_rfl))
 f314:=Tryz.func142.trans (congrArg some (by kernel_rfl))
 t3:=Tryz.underlying3
 a3:=Tryz.isAgg3
 z3:=Tryz.sizeOf3
 v3:=Tryz.zeroValue3
 t4:=Tryz.underlying4
 a4:=Tryz.isAgg4
 z4:=Tryz.sizeOf4
 v4:=Tryz.zeroValue4
 t5:=Tryz.underlying5
 a5:=Tryz.isAgg5
 z5:=Tryz.sizeOf5
 v5:=Tryz.zeroValue5
 t9:=Tryz.underlying9
 a9:=Tryz.isAgg9
 z9:=Tryz.sizeOf9
 v9:=Tryz.zeroValue9
 t46:=Tryz.underlying174
 a46:=Tryz.isAgg174
 z46:=Tryz.sizeOf174
 v46:=Tryz.zeroValue174
 t51:=Tryz.underlying33
 a51:=Tryz.isAgg33
 z51:=Tryz.sizeOf33
 v51:=Tryz.zeroValue33
 t146:=Tryz.underlying190
 a146:=Tryz.isAgg190
 z146:=Tryz.sizeOf190
 v146:=Tryz.zeroValue190
 g1:=by kernel_rfl }
open Go.RowKit Go.Lib in
theorem Tryz.strings_Index_one (s:ByteArray) (c:UInt8) (w:World) :
  Calls Tryz.prog 108 #[.string s,.string ⟨#[c]⟩] w fun e w'=>e=.returned (.int .i64 (Lib.indexByte s.data.toList c))∧w'=w:=Any.strings_Index_one Tryz.lays143 s c w
end Go.Proofs

namespace Go.Proofs.YtgmkbdmgifdfeaaGreatDoor
open Go Go.Ev Go.RowKit
theorem Qj7 {P:Program} {N:Nat} {w0 w w':World} {E:Env} {m:Mem} (HM:MR P N w0 E m w) (hb:Below w.heap.size w w'):MR P N w0 E m w' :=
 ⟨fun b i o hb1 ho hl=>by rw [hb.block _ (HM.ub b i hb1)];exact HM.objs b i o hb1 ho hl,fun b i h=>Nat.lt_of_lt_of_le (HM.ub b i h) hb.size,HM.dom,HM.inj,HM.own,HM.base.trans (hb.mono HM.size),Knt HM.size hb.size⟩
theorem Qr4:Tryz.prog.globalNamed "internal/strconv.uint64pow10" = some 0:=by kernel_rfl
theorem tab_of {N:Nat} {w0 w:World} {E:Env} {m:Mem} (HM:MR Tryz.prog N w0 E m w) (HG:Qhc 8 E) (hp:Qb4 m):Lib.TabIs Tryz.prog w "internal/strconv.uint64pow10" .u64 Lib.pow10Tab:=by
 obtain⟨_,e,hv⟩:=hp
 obtain⟨r,h1,h2,h3,h4,h5,h6,_⟩:=Qc8 hv
 have hE:=HG 0 (by omega)
 have hrow:∃ cells elem fr,w.heap[0]? = some (.cells cells elem fr)∧RowR (Tryz.prog.cellsOf r.elem) E r ⟨0,0,0⟩ cells elem fr:=by
  rcases Qit h1 with ho|ho
  ·obtain⟨ob,g1,g2⟩:=HM.objs 0 _ _ hE ho rfl
   cases g2 with
   |row h=>exact⟨_,_,_,g1,h⟩
  ·obtain⟨ob,g1,g2⟩:=HM.objs 0 _ _ hE ho rfl
   cases g2 with
   |glob h hx=>exact⟨_,_,_,g1,h⟩
 obtain⟨cells,elem,fr,g1,g2⟩:=hrow
 have hsz:cells.size=20:=by
  rw [g2.size,h2];simp [Qbp]
 have hc:cells=(Lib.pow10Tab.map fun z=>Value.int .u64 z).toArray:=by
  apply Array.ext'
  apply List.ext_getElem?
  intro j
  by_cases hj:j<20
  ·have hcell:=h6 j
   have hl:j<Qbp.length:=by simpa [Qbp] using hj
   rw [Kge hl] at hcell
   obtain⟨v',k1,k2⟩:=g2.cell j _ hcell
   simp only [Nat.zero_add] at k1
   have k3:Qbp[j]=.int .u64 ((10 ^ j:Nat):Int):=by simp [Qbp]
   rw [k3] at k2
   cases k2
   rw [Array.getElem?_toList,k1]
   simp [Lib.pow10Tab,hj]
  ·rw [List.getElem?_eq_none (by simp [hsz];omega),List.getElem?_eq_none (by simp [Lib.pow10Tab];omega)]
 unfold Lib.TabIs World.var?
 rw [Qr4,Option.bind_some,g1,hc]
theorem Qs9 (l:List UInt8):(⟨l.toArray⟩:ByteArray)=⟨⟨l⟩⟩:=rfl
theorem ov_cases {f:Nat} {g:List Value→Mem→Option (Value × Mem)} (h:ovs.get f=some g):(f=31∧g=Qpi)∨(f=48∧g=Qxw)∨(f=30∧g=Qew Qpk Qaq)∨(f=67∧g=Qew Qvo Qfu)∨(f=130∧g=puOv)∨(f=108∧g=Ja1)∨(f=118∧g=Qx6)∨(f=131∧g=ibOv):=by
 rw [ovs,Qkz,Option.map_eq_some_iff] at h
 obtain⟨⟨k,g'⟩,h1,rfl⟩:=h
 have h2:=List.find?_some h1
 have h3:=List.mem_of_find?_eq_some h1
 simp only [decide_eq_true_eq] at h2
 subst h2
 simp only [ovL,List.mem_cons,Kpj,List.not_mem_nil,or_false] at h3
 exact h3
theorem Jai {P:Program} {N:Nat} {w0 w:World} {E:Env} {m:Mem} (HM:MR P N w0 E m w) {k:Nat} (hk:k<w.heap.size):MR P N w0 (E.add m.next ⟨k,0,0⟩) (Qah m .dead) w:=by
 have hn:=(HM.dom m.next (Knr _)).2
 refine⟨fun b i o hb ho hl=>?_,fun b i hb=>?_,fun b hb=>?_,fun b b' i i' o o' hne hb hb' ho ho' hl hl'=>?_,fun b i o hb ho hown=>?_,HM.base,HM.size⟩
 ·rw [Qan] at ho
  by_cases e:b=m.next
  ·rw [if_pos e] at ho;cases ho;cases hl
  ·rw [if_neg e] at ho
   simp only [Env.add,if_neg e] at hb
   obtain⟨ob,h1,h2⟩:=HM.objs b i o hb ho hl
   exact⟨ob,h1,h2.mono (Env.add_le hn)⟩
 ·by_cases e:b=m.next
  ·subst e;obtain rfl:=Kai (Env.add_at.symm.trans hb);exact hk
  ·simp only [Env.add,if_neg e] at hb;exact HM.ub b i hb
 ·rw [Qaf] at hb
  obtain⟨h1,h2⟩:=HM.dom b (by omega)
  exact⟨by rw [Qan,if_neg (by omega)];exact h1,by simp only [Env.add];rw [if_neg (by omega)];exact h2⟩
 ·rw [Qan] at ho ho'
  by_cases e:b=m.next
  ·rw [if_pos e] at ho;cases ho;cases hl
  by_cases e':b'=m.next
  ·rw [if_pos e'] at ho';cases ho';cases hl'
  rw [if_neg e] at ho;rw [if_neg e'] at ho'
  simp only [Env.add,if_neg e] at hb
  simp only [Env.add,if_neg e'] at hb'
  exact HM.inj b b' i i' o o' hne hb hb' ho ho' hl hl'
 ·rw [Qan] at ho
  by_cases e:b=m.next
  ·rw [if_pos e] at ho;cases ho;cases hown
  ·rw [if_neg e] at ho
   simp only [Env.add,if_neg e] at hb
   exact HM.own b i o hb ho hown
theorem Qv7 {N:Nat} {w0 w:World} {E:Env} {m:Mem} (HM:MR Tryz.prog N w0 E m w) (HG:Qhc 8 E) {b:Nat} (hb:b<8) (h:∃ e t a,vw m b=some ⟨false,e,false,[.iface t (.pointer (some a))]⟩) :
  ∃ ev,w.cell? ⟨b,0,none⟩=some ev∧(ev=.nilIface∨∃ te pe,ev=.iface te pe):=by
 obtain⟨e,t,a,hv⟩:=h
 obtain⟨r,h1,h2,h3,h4,h5,h6,_⟩:=Qc8 hv
 have hE:=HG b hb
 obtain⟨cells,elem,fr,g1,g2⟩:=HM.row hE h1
 obtain⟨v',k1,k2⟩:=g2.cell 0 _ (h6 0)
 simp only [Nat.zero_add] at k1 g1
 refine⟨v',?_,?_⟩
 ·unfold World.cell?
  simp only [g1]
  exact k1
 ·cases k2 with
  |iface t h=>exact .inr ⟨_,_,rfl⟩
theorem Qki {V:Value} {rows:List CRow} {args:List Value} {m m':Mem} {v:Value} (h:Qew V rows args m=some (v,m')):args=[]∧8≤m.next∧v=renV 8 m.next V∧m'=Qdr m (rows.map (CRow.ren 8 m.next)):=by
 unfold Qew at h
 split at h
 ·split at h
  ·rename_i hb
   simp only [Kaj,Kpj] at h
   exact⟨rfl,by simpa using hb,h.1.symm,h.2.symm⟩
  ·cases h
 ·cases h
theorem Quo {args:List Value} {m m':Mem} {v:Value} (h:Qpi args m=some (v,m')):∃ n,args=[.int .i64 n]∧(-9223372036854775808≤n∧n≤9223372036854775807∧Qb4 m)∧v=.string ⟨⟨Lib.itoa n⟩⟩∧m'=m:=by
 unfold Qpi at h
 split at h
 ·split at h
  ·simp only [Kaj,Kpj] at h
   exact⟨_,rfl,‹_›,h.1.symm,h.2.symm⟩
  ·cases h
 ·cases h
theorem Qxv {args:List Value} {m m':Mem} {v:Value} (h:Qxw args m=some (v,m')):∃ n z,args=[.int .u64 n,.int .i64 z]∧(0≤n∧n≤18446744073709551615∧z=10∧Qb4 m)∧v=.string ⟨⟨Lib.decDigits n.toNat⟩⟩∧m'=m:=by
 unfold Qxw at h
 split at h
 ·split at h
  ·simp only [Kaj,Kpj] at h
   exact⟨_,_,rfl,‹_›,h.1.symm,h.2.symm⟩
  ·cases h
 ·cases h
theorem Qz1 {args:List Value} {m m':Mem} {v:Value} (h:puOv args m=some (v,m')):∃ s,args=[.string s,.int .i64 10,.int .i64 64]∧s.data.toList.length≤281474976710656∧Qcv m ∧
  ((∃ u,Lib.parseUintB 64 s.data.toList=.ok u∧v=.tuple ⟨[.int .u64 (u:Int),.nilIface]⟩∧m'=m)∨(Lib.parseUintB 64 s.data.toList=Lib.parseUintB 64 []∧v=.tuple ⟨[.int .u64 0,.iface 195 (.pointer (some ⟨m.next,0,none⟩))]⟩∧m'=Qah m .dead) ∨
    (Lib.parseUintB 64 s.data.toList=.range∧v=.tuple ⟨[.int .u64 18446744073709551615,.iface 195 (.pointer (some ⟨m.next,0,none⟩))]⟩∧m'=Qah m .dead)):=by
 unfold puOv at h
 split at h
 ·rename_i s b z
  split at h
  ·rename_i hc
   obtain⟨rfl,rfl,h1,h2⟩:=hc
   refine⟨s,rfl,h1,h2,?_⟩
   split at h
   ·rename_i u hu
    simp only [Kaj,Kpj] at h
    exact .inl ⟨u,hu,h.1.symm,h.2.symm⟩
   ·rename_i hu
    simp only [Kaj,Kpj] at h
    exact .inr (.inr ⟨hu,h.1.symm,h.2.symm⟩)
   ·rename_i hu1 hu2
    simp only [Kaj,Kpj] at h
    refine .inr (.inl ⟨?_,h.1.symm,h.2.symm⟩)
    cases hx:Lib.parseUintB 64 s.data.toList
    ·exact absurd hx (hu1 _)
    ·rfl
    ·exact absurd hx hu2
  ·cases h
 ·cases h
theorem pkTb (N:Nat) (w0:World):ProgOk tb N 8 w0:=by
 have pk:∀ N' w0',ProgOk (Qdo Tryz.prog 8 .lf) N' 8 w0':=fun N' w0'=>Qz4 good
 refine Qz3 (pk N w0) fun f g hg=>?_
 rcases ov_cases hg with ⟨rfl,rfl⟩|⟨rfl,rfl⟩|⟨rfl,rfl⟩|⟨rfl,rfl⟩|⟨rfl,rfl⟩|⟨rfl,rfl⟩|⟨rfl,rfl⟩|⟨rfl,rfl⟩
 ·refine⟨⟨_,_,Tryz.func31,rfl⟩,fun args m v m' hr E args' w HM HG ha=>?_⟩
  obtain⟨n,rfl,hc,rfl,rfl⟩:=Quo hr
  cases ha with
  |cons h1 t =>
   cases t;cases h1
   refine (Tryz.strconv_Itoa n hc.1 hc.2.1 w (tab_of HM HG hc.2.2)).mono ?_
   rintro e w' ⟨rfl,k,os,rfl⟩
   exact⟨_,E,rfl,.string _,Qj7 HM (Lib.below_grow _ w (Knr _) k os),.refl _ _ _⟩
 ·refine⟨⟨_,_,Tryz.func48,rfl⟩,fun args m v m' hr E args' w HM HG ha=>?_⟩
  obtain⟨n,z,rfl,⟨h0,h1,rfl,h3⟩,rfl,rfl⟩:=Qxv hr
  obtain⟨u,rfl⟩:∃ u:Nat,n=u:=⟨n.toNat,by omega⟩
  cases ha with
  |cons h1' t =>
   cases h1'
   cases t with
   |cons h2' t =>
    cases h2';cases t
    refine (Tryz.formatUint48 u (by omega) w (tab_of HM HG h3)).mono ?_
    rintro e w' ⟨rfl,k,os,rfl⟩
    exact⟨_,E,rfl,.string _,Qj7 HM (Lib.below_grow _ w (Knr _) k os),.refl _ _ _⟩
 ·refine⟨⟨_,_,Tryz.func30,rfl⟩,fun args m v m' hr E args' w HM HG ha=>?_⟩
  obtain⟨rfl,hn,rfl,rfl⟩:=Qki hr
  cases ha
  exact Qlu pk Ja7 HM HG hn
 ·refine⟨⟨_,_,Tryz.func67,rfl⟩,fun args m v m' hr E args' w HM HG ha=>?_⟩
  obtain⟨rfl,hn,rfl,rfl⟩:=Qki hr
  cases ha
  exact Qlu pk Qzm HM HG hn
 ·refine⟨⟨_,_,Tryz.func130,rfl⟩,fun args m v m' hr E args' w HM HG ha=>?_⟩
  obtain⟨s,rfl,hl,⟨h7,e6,e7⟩,hcase⟩:=Qz1 hr
  have hsz:s.size≤281474976710656:=hl
  cases ha with|cons a1 t=>cases a1;cases t with|cons a2 t=>cases a2;cases t with|cons a3 t =>
  cases a3;cases t
  rcases hcase with ⟨u,hu,rfl,rfl⟩|⟨hu,rfl,rfl⟩|⟨hu,rfl,rfl⟩
  ·refine (Tryz.strconv_ParseUint_10_at64_ok s (by omega) u hu w).mono ?_
   rintro e w' ⟨rfl,hw⟩
   refine⟨_,E,rfl,.tuple (.cons (.int _ _) (.cons .nilIface .nil)),?_,.refl _ _ _⟩
   rcases hw with rfl|rfl
   ·exact HM
   ·exact Qj7 HM (Lib.bytesWorld_below w 5 s)
  ·obtain⟨ev,c1,c2⟩:=Qv7 HM HG (b:=6) (by omega) e6
   refine (Tryz.strconv_ParseUint_10_at64_syntax s hsz hu ev w c1 c2).mono ?_
   rintro e w' ⟨k,rfl,hk,hcell,hb⟩
   have HM2:=Jai (Qj7 HM hb) (k:=k) (Array.getElem?_eq_some_iff.1 hcell).1
   have hn:=(HM.dom m.next (Knr _)).2
   refine⟨_,_,rfl,.tuple (.cons (.int _ _) (.cons (.iface _ ?_) .nil)),HM2,(MExt.lay HM .dead).trans (MExt.mat hn (Knr _))⟩
   exact .ptr (o:=0) (i:=⟨k,0,0⟩) Env.add_at
  ·obtain⟨ev,c1,c2⟩:=Qv7 HM HG (b:=7) (by omega) e7
   refine (Tryz.strconv_ParseUint_10_at64_range s hsz hu ev w c1 c2).mono ?_
   rintro e w' ⟨k,rfl,hk,hcell,hb⟩
   have HM2:=Jai (Qj7 HM hb) (k:=k) (Array.getElem?_eq_some_iff.1 hcell).1
   have hn:=(HM.dom m.next (Knr _)).2
   refine⟨_,_,rfl,.tuple (.cons (.int _ _) (.cons (.iface _ ?_) .nil)),HM2,(MExt.lay HM .dead).trans (MExt.mat hn (Knr _))⟩
   exact .ptr (o:=0) (i:=⟨k,0,0⟩) Env.add_at
 ·refine⟨⟨_,_,Tryz.func108,rfl⟩,fun args m v m' hr E args' w HM HG ha=>?_⟩
  unfold Ja1 at hr
  split at hr<;>first|(cases hr;done)|skip
  rename_i s c
  simp only [Kaj,Kpj] at hr
  obtain⟨rfl,rfl⟩:=hr
  cases ha with|cons a1 t=>cases a1;cases t with|cons a2 t =>
  cases a2;cases t
  refine (Tryz.strings_Index_one s c w).mono ?_
  rintro e w' ⟨rfl,rfl⟩
  exact⟨_,E,rfl,.int _ _,HM,.refl _ _ _⟩
 ·refine⟨⟨_,_,Tryz.func118,rfl⟩,fun args m v m' hr E args' w HM HG ha=>?_⟩
  unfold Qx6 at hr
  split at hr<;>first|(cases hr;done)|skip
  rename_i s p
  simp only [Kaj,Kpj] at hr
  obtain⟨rfl,rfl⟩:=hr
  cases ha with|cons a1 t=>cases a1;cases t with|cons a2 t =>
  cases a2;cases t
  refine (Tryz.strings_CutPrefix s p w).mono ?_
  rintro e w' ⟨rfl,rfl⟩
  exact⟨_,E,rfl,.tuple (.cons (.string _) (.cons (.bool _) .nil)),HM,.refl _ _ _⟩
 ·refine⟨⟨_,_,Tryz.func131,rfl⟩,fun args m v m' hr E args' w HM HG ha=>?_⟩
  unfold ibOv at hr
  split at hr<;>first|(cases hr;done)|skip
  rename_i s c
  simp only [Kaj,Kpj] at hr
  obtain⟨rfl,rfl⟩:=hr
  cases ha with|cons a1 t=>cases a1;cases t with|cons a2 t =>
  cases a2;cases t
  refine (Tryz.strings_IndexByte s c w).mono ?_
  rintro e w' ⟨rfl,rfl⟩
  exact⟨_,E,rfl,.int _ _,HM,.refl _ _ _⟩
end Go.Proofs.YtgmkbdmgifdfeaaGreatDoor

set_option maxRecDepth 4000
namespace Go.Proofs.YtgmkbdmgifdfeaaGreatDoor
open Go Go.Ev Go.Deep
def absC (N:Nat):Value→Option Value
 | .int k n=>some (.int k n)
 | .slice none l c=>some (.slice none l c)
 | .slice (some a) l c=>if l=0∧c=0 then some (.slice (some ⟨0,0,none⟩) 0 0) else if a.spot=none∧a.block<N then some (.slice (some a) l c) else none
 | .iface t (.pointer (some a))=>if a.spot=none∧a.block<N then some (.iface t (.pointer (some a))) else none
 |_=>none
theorem Qmj {N b:Nat} (h:b<N):Env.globs N b=some ⟨b,0,0⟩:=by unfold Env.globs;rw [if_pos h]
theorem Jcb {N:Nat} (hN:0<N) {v v':Value} (h:absC N v=some v'):VR (Env.globs N) v' v:=by
 unfold absC at h
 split at h
 ·cases h;exact .int _ _
 ·cases h;exact .slNil _ _
 ·rename_i a l c
  split at h
  ·rename_i h0
   obtain⟨rfl,rfl⟩:=h0
   cases h
   exact .slD _ (Qmj hN)
  ·split at h
   ·rename_i h1
    obtain⟨b,o,s⟩:=a
    obtain⟨h1,h2⟩:=h1
    simp only at h1 h2;subst h1
    cases h
    have:=VR.sl (E:=Env.globs N) (o:=o) l c (Qmj h2)
    simpa using this
   ·cases h
 ·rename_i t a
  split at h
  ·rename_i h1
   obtain⟨b,o,s⟩:=a
   obtain⟨h1,h2⟩:=h1
   simp only at h1 h2;subst h1
   cases h
   have:=VR.ptr (E:=Env.globs N) (o:=o) (Qmj h2)
   exact .iface t (by simpa using this)
  ·cases h
 ·cases h
noncomputable def absT (N:Nat):List Value→Nat→T Value
 | [],_=>.lf
 |v::l,i=>match absC N v with|some v'=>T.set (absT N l (i+1)) i v'|none=>absT N l (i+1)
theorem Qu5 (N:Nat):∀ (l:List Value) (i j:Nat),j<i→(absT N l i).get j=none
 | [],i,j,h=>rfl
 |v::l,i,j,h=>by
  unfold absT
  split
  ·rw [T.get_set,if_neg (by omega)];exact Qu5 N l (i+1) j (by omega)
  ·exact Qu5 N l (i+1) j (by omega)
theorem Qrf (N:Nat):∀ (l:List Value) (i j:Nat),i≤j→(absT N l i).get j=(l[j-i]?).bind (absC N)
 | [],i,j,h=>rfl
 |v::l,i,j,h=>by
  unfold absT
  by_cases e:j=i
  ·subst e
   simp only [Nat.sub_self,List.getElem?_cons_zero,Option.bind_some]
   split
   ·rename_i v' hv;rw [T.get_set,if_pos rfl,hv]
   ·rename_i hv;rw [Qu5 N l (j+1) j (by omega),hv]
  ·have e2:j-i=(j-(i+1))+1:=by omega
   rw [e2,List.getElem?_cons_succ]
   split
   ·rw [T.get_set,if_neg e];exact Qrf N l (i+1) j (by omega)
   ·exact Qrf N l (i+1) j (by omega)
noncomputable def Qhw (N:Nat) (c:Array Value) (t:TypeId) (fr:Nat × Nat):Row:=⟨absT N c.toList 0,c.size,[],t,if fr.1=fr.2 then .none else .rng fr.1 fr.2,false⟩
theorem Qhp (N:Nat) (c:Array Value) (t:TypeId) (fr:Nat × Nat) (j:Nat):Qci (Qhw N c t fr) j=(c[j]?).bind (absC N):=by
 unfold Qci Qhw
 simp only
 cases hb:Nat.blt j c.size with
 |false =>
  have:¬ j<c.size:=by rw [← Nat.blt_eq,hb];simp
  rw [Array.getElem?_eq_none (by omega)];rfl
 |true =>
  have:j<c.size:=by rw [← Nat.blt_eq,hb]
  simp only [Qrf N c.toList 0 j (Nat.zero_le _),Nat.sub_zero,Array.getElem?_toList]
  cases h:(c[j]?).bind (absC N)<;>simp
noncomputable def absO (N:Nat):List Obj→Nat→T AObj
 | [],_=>.lf
 | .cells c t fr::l,i=>T.set (absO N l (i+1)) i (.glob (Qhw N c t fr))
 |_::l,i=>absO N l (i+1)
theorem Qu6 (N:Nat):∀ (l:List Obj) (i j:Nat),j<i→(absO N l i).get j=none
 | [],i,j,h=>rfl
 |o::l,i,j,h=>by
  cases o<;>unfold absO<;>first|(rw [T.get_set,if_neg (by omega)];exact Qu6 N l (i+1) j (by omega))|exact Qu6 N l (i+1) j (by omega)
noncomputable def Qmc (N:Nat):Obj→Option AObj
 | .cells c t fr=>some (.glob (Qhw N c t fr))
 |_=>none
theorem Qwh (N:Nat):∀ (l:List Obj) (i j:Nat),i≤j→(absO N l i).get j=(l[j-i]?).bind (Qmc N)
 | [],i,j,h=>rfl
 |o::l,i,j,h=>by
  by_cases e:j=i
  ·subst e
   simp only [Nat.sub_self,List.getElem?_cons_zero,Option.bind_some]
   cases o<;>unfold absO Qmc<;>first|(rw [T.get_set,if_pos rfl])|exact Qu6 N l (j+1) j (by omega)
  ·have e2:j-i=(j-(i+1))+1:=by omega
   rw [e2,List.getElem?_cons_succ,← Qwh N l (i+1) j (by omega)]
   cases o<;>simp only [absO]<;>rw [T.get_set,if_neg e]
noncomputable def absM (W:World):Mem:=⟨absO W.heap.size W.heap.toList 0,W.heap.size⟩
theorem Qko (W:World) (b:Nat):(absM W).objs.get b=(W.heap[b]?).bind (Qmc W.heap.size):=by
 show (absO W.heap.size W.heap.toList 0).get b=_
 rw [Qwh _ _ 0 b (Nat.zero_le _),Nat.sub_zero,Array.getElem?_toList]
theorem Qtf {W:World} {b:Nat} {o:AObj} (h:(absM W).objs.get b=some o):∃ c t fr,W.heap[b]? = some (.cells c t fr)∧o=.glob (Qhw W.heap.size c t fr):=by
 rw [Qko] at h
 obtain⟨ob,h1,h2⟩:=Option.bind_eq_some_iff.1 h
 cases ob with
 |cells c t fr=>simp only [Qmc,Kaj] at h2;exact⟨_,_,_,h1,h2.symm⟩
 |_=>cases h2
theorem absM_met (W:World) (h0:0<W.heap.size):MR Tryz.prog W.heap.size W (Env.globs W.heap.size) (absM W) W:=by
 have hE:∀ {b i},Env.globs W.heap.size b=some i→b<W.heap.size∧i=⟨b,0,0⟩:=by
  intro b i h
  unfold Env.globs at h
  split at h
  ·rename_i hb;simp only [Kaj] at h;exact⟨hb,h.symm⟩
  ·simp at h
 refine⟨fun b i o hb ho _=>?_,fun b i hb=>?_,fun b hb=>?_,fun b b' i i' o o' hne hb hb' ho ho' _ _=>?_,fun b i o hb ho hown=>?_,.refl _ _,Knr _⟩
 ·obtain⟨c,t,fr,h1,rfl⟩:=Qtf ho
  obtain⟨_,rfl⟩:=hE hb
  refine⟨_,h1,.glob ⟨rfl,fun j v hv=>?_,?_,fun _=>⟨rfl,rfl⟩,?_⟩ rfl⟩
  ·rw [Qhp] at hv
   obtain⟨u,k1,k2⟩:=Option.bind_eq_some_iff.1 hv
   exact⟨u,by simpa using k1,Jcb h0 k2⟩
  ·simp [Qhw]
  ·show FzR (if fr.1=fr.2 then Fz.none else Fz.rng fr.1 fr.2) 0 c.size fr
   by_cases e:fr.1=fr.2
   ·rw [if_pos e];exact e
   ·rw [if_neg e];show fr=(0+fr.1,0+fr.2);simp
 ·exact (hE hb).2▸(hE hb).1
 ·refine⟨?_,by unfold Env.globs;rw [if_neg (by exact Nat.not_lt.2 hb)]⟩
  have hb':W.heap.size≤b:=hb
  rw [Qko,Array.getElem?_eq_none hb'];rfl
 ·obtain⟨_,rfl⟩:=hE hb
  obtain⟨_,rfl⟩:=hE hb'
  exact hne
 ·obtain⟨_,_,_,_,rfl⟩:=Qtf ho
  simp [AObj.own] at hown
theorem Qtg {W:World} {b j:Nat} {v v':Value} (h:W.cell? ⟨b,j,none⟩=some v) (hv:absC W.heap.size v=some v'):∃ c t fr,W.heap[b]? = some (.cells c t fr)∧Qdm (absM W) b=some (Qhw W.heap.size c t fr)∧Qci (Qhw W.heap.size c t fr) j=some v':=by
 unfold World.cell? at h
 split at h
 ·rename_i c t fr hb
  simp only [Option.isSome_none,Bool.false_eq_true,if_false] at h
  refine⟨c,t,fr,hb,?_,?_⟩
  ·unfold Qdm;rw [Qko,hb];rfl
  ·rw [Qhp,h];exact hv
 ·cases h
theorem Jca {W:World} {b o:Nat} {l:List Value} (hl:l≠[]) (h:∀ i v',l[i]? = some v'→∃ v,W.cell? ⟨b,o+i,none⟩=some v∧absC W.heap.size v=some v'):rd (absM W) b o l.length=some l∧b<W.heap.size:=by
 cases l with
 |nil=>exact absurd rfl hl
 |cons x l =>
  obtain⟨v,h1,h2⟩:=h 0 x rfl
  obtain⟨c,t,fr,g1,g2,g3⟩:=Qtg h1 h2
  refine⟨rd_of g2 fun k v' hk=>?_,(Array.getElem?_eq_some_iff.1 g1).1⟩
  obtain⟨u,h3,h4⟩:=h k v' hk
  obtain⟨c',t',fr',k1,k2,k3⟩:=Qtg h3 h4
  rw [g1] at k1;cases k1
  exact k3
end Go.Proofs.YtgmkbdmgifdfeaaGreatDoor

set_option maxRecDepth 100000
namespace Go.Proofs.YtgmkbdmgifdfeaaGreatDoor
open Go Go.Ev Go.ChangeShapes Go.WideShapes Go.ChangeAt Go.RowKit
abbrev Qxp:List (String × DataW Unit):=Rows.scriptParsesRow.laid
theorem gES:Tryz.prog.globalNamed "strconv.ErrSyntax" = some 6:=by kernel_rfl
theorem gER:Tryz.prog.globalNamed "strconv.ErrRange" = some 7:=by kernel_rfl
theorem tES:(Tryz.prog.globals[6]?).map (·.type)=some 69:=by kernel_rfl
theorem tER:(Tryz.prog.globals[7]?).map (·.type)=some 69:=by kernel_rfl
theorem starE : "*" ++ "errors.errorString" = "*errors.errorString" := by decide
theorem rowES (u:TypeId) (h:Tryz.prog.typeName? 3 u=some "*errors.errorString"):u=202 :=
 typeName_ptr_named (nm := "errors.errorString") (by rw [starE];kernel_rfl) (by kernel_rfl) (by decide) u (by rw [starE];exact h)
theorem c204:Tryz.prog.cellsOf 204=1:=by kernel_rfl
theorem c9':Tryz.prog.cellsOf 9=1:=by kernel_rfl
theorem cell_lt {W:World} {a:Addr} {v:Value} (h:W.cell? a=some v):a.spot=none∧a.block<W.heap.size:=by
 obtain⟨b,o,s⟩:=a
 unfold World.cell? at h
 split at h
 ·rename_i c t fr hb
  simp only at hb h
  refine⟨?_,(Array.getElem?_eq_some_iff.1 hb).1⟩
  cases s with
  |none=>rfl
  |some s=>simp at h
 ·cases h
theorem Jbi {W:World} {g:Nat} {nm:String} {a:Addr} {v:Value} (hg:Tryz.prog.globalNamed nm=some g) (hv:W.var? Tryz.prog nm=some #[.iface 202 (.pointer (some a))]) (hc:W.cell? a=some v) (hf:∃ c t,W.heap[g]? = some (.cells c t (0,0))) :
  g<W.heap.size∧∃ e t a,vw (absM W) g=some ⟨false,e,false,[.iface t (.pointer (some a))]⟩:=by
 obtain⟨c,t,hc2⟩:=hf
 have hsz:=(Array.getElem?_eq_some_iff.1 hc2).1
 refine⟨hsz,t,202,a,?_⟩
 simp only [World.var?,hg,Option.bind_some,hc2,Kaj] at hv
 subst hv
 obtain⟨h1,h2⟩:=cell_lt hc
 unfold vw
 rw [Qko,hc2]
 show Qjc false (Qhw W.heap.size _ t (0,0))=_
 refine Qir (cs:=[.iface 202 (.pointer (some a))]) (by rfl) (by simp [Qhw]) fun i=>?_
 rw [Qhp]
 match i with
 |0=>simp [absC,h1,h2]
 |i+1=>simp
theorem err_abs {W:World} (h:laidMet Tryz.prog Qxp W):8≤W.heap.size∧Qcv (absM W):=by
 have hR:=h.tail.tail.tail.tail
 have hS:=hR.tail
 obtain⟨a,s,v1,c1,-,-⟩:=laid_sentinel hR gER tER Tryz.underlying69 rowES Tryz.underlying202 Tryz.underlying204 rfl rfl Tryz.underlying9 c204 c9'
 obtain⟨a',s',v2,c2,-,-⟩:=laid_sentinel hS gES tES Tryz.underlying69 rowES Tryz.underlying202 Tryz.underlying204 rfl rfl Tryz.underlying9 c204 c9'
 have fr:∀ {n:String} {d:DataW Unit} {r:List (String × DataW Unit)} {g:Nat} {x:Value},laidMet Tryz.prog ((n,d)::r) W→Tryz.prog.globalNamed n=some g→W.var? Tryz.prog n=some #[x]→∃ c t,W.heap[g]? = some (.cells c t (0,0)):=by
  rintro n d r g x ⟨ps,⟨g',t',cs,fuel,p,q,k1,k2,k3,k4,_,k5⟩,_,hr⟩ hg hv
  obtain rfl:=Kai (hg.symm.trans k1)
  obtain rfl:=Kai (hv.symm.trans k3)
  subst k5
  exact (hr g 0 (by simp [MemPlace.row])).1
 obtain⟨q1,q2⟩:=Jbi gER v1 c1 (fr hR gER v1)
 obtain⟨q3,q4⟩:=Jbi gES v2 c2 (fr hS gES v2)
 exact⟨by omega,by show 7<W.heap.size;exact q1,q4,q2⟩
end Go.Proofs.YtgmkbdmgifdfeaaGreatDoor

set_option maxRecDepth 8000
namespace Go.Proofs.YtgmkbdmgifdfeaaGreatDoor
open Go Go.Ev
def Frsh (m:Mem) (v:Value) (e:TypeId) (n:Nat) (cells:List Value):Prop:=∃ b,v=.slice (some ⟨b,0,none⟩) n n∧(n=0∧cells=[]∨b<m.next∧vw m b=some ⟨true,e,true,cells⟩)
theorem Frsh.ex {m m':Mem} {v:Value} {e:TypeId} {n:Nat} {cells:List Value} (h:Frsh m v e n cells) (hn:m.next≤m'.next) (k:∀ x V,x<m.next→vw m x=some V→V.elem=e→m'.objs.get x=m.objs.get x):Frsh m' v e n cells:=by
 obtain⟨b,rfl,h|⟨h1,h2⟩⟩:=h
 ·exact⟨b,rfl,.inl h⟩
 ·refine⟨b,rfl,.inr ⟨by omega,?_⟩⟩
  unfold vw at h2 ⊢
  rw [k b _ h1 (by unfold vw;exact h2) rfl];exact h2
theorem Frsh.sl {m:Mem} {v:Value} {e:TypeId} {n:Nat} {cells:List Value} (h:Frsh m v e n cells):SlOld m.next m v n cells:=by
 obtain⟨b,rfl,⟨rfl,rfl⟩|⟨h1,h2⟩⟩:=h
 ·exact .inr ⟨b,0,0,rfl,Knr _,.inl rfl⟩
 ·refine .inr ⟨b,0,n,rfl,Knr _,.inr ⟨?_,h1⟩⟩
  have:=rd_vw h2 (o:=0) (k:=cells.length) (by simp)
  rw [this];simp [Qbv]
theorem Jb6 {m:Mem} {b:Nat} {e:TypeId} (sz n:Nat) (new:List Value) (hv:vw m b=some ⟨true,e,false,[]⟩) (h0:n=0→new=[]) :
  ∃ a c m',Qbq m e sz (.slice (some ⟨b,0,none⟩) 0 0) n new=some (.slice a n c,m')∧Old m.next m m'∧Frsh m' (.slice a n c) e n new:=by
 cases n with
 |zero=>rw [h0 rfl];exact⟨_,_,_,Qu4 _ _ (Knr _),.refl _ _,b,rfl,.inl ⟨rfl,rfl⟩⟩
 |succ n =>
  have e1:=ap_fix (b:=b) (o:=0) (sl:=0) (sc:=0) e sz (n+1) new none hv rfl (by omega) (.inl (by omega))
  rw [Nat.zero_add] at e1
  refine⟨_,_,_,e1,(Old.refl _ _).new (Knr _) _,m.next,rfl,.inr ⟨by rw [Qaf];omega,?_⟩⟩
  rw [Qcs,if_pos rfl,Qcj];simp [Qbv]
def Qri (m:Mem) (cells:List Value) (ss:List Stp):Prop:=cells.length=ss.length*17∧∀ k s,ss[k]? = some s→∃ d c,Qbv cells (k*17) 17=Qaa s d c∧Frsh m d 5 s.data.length (u8s s.data)∧Frsh m c 3 s.choices.length (i64s s.choices)
theorem Qri.ex {m m':Mem} {cells:List Value} {ss:List Stp} (h:Qri m cells ss) (hn:m.next≤m'.next) (k:∀ x V,x<m.next→vw m x=some V→V.elem≠36→m'.objs.get x=m.objs.get x):Qri m' cells ss:=by
 obtain⟨h1,h2⟩:=h
 refine⟨h1,fun j s hj=>?_⟩
 obtain⟨d,c,h3,h4,h5⟩:=h2 j s hj
 exact⟨d,c,h3,h4.ex hn fun x V hx hV e=>k x V hx hV (by rw [e];decide),h5.ex hn fun x V hx hV e=>k x V hx hV (by rw [e];decide)⟩
theorem Qri.snoc {m:Mem} {cells:List Value} {ss:List Stp} {s:Stp} {d c:Value} (h:Qri m cells ss) (hd:Frsh m d 5 s.data.length (u8s s.data)) (hc:Frsh m c 3 s.choices.length (i64s s.choices)):Qri m (cells++Qaa s d c) (ss++[s]):=by
 obtain⟨h1,h2⟩:=h
 refine⟨by simp [h1,Qd5];omega,fun k t hk=>?_⟩
 by_cases hlt:k<ss.length
 ·rw [List.getElem?_append_left hlt] at hk
  obtain⟨d',c',h3,h4,h5⟩:=h2 k t hk
  refine⟨d',c',?_,h4,h5⟩
  rw [← h3];unfold Qbv
  rw [List.drop_append_of_le_length (by omega),List.take_append_of_le_length (by simp;omega)]
 ·rw [List.getElem?_append_right (by omega)] at hk
  have hk2:=(Kgs.1 hk).1
  simp only [Klc,Kln] at hk2
  obtain rfl:k=ss.length:=by omega
  simp only [Nat.sub_self,List.getElem?_cons_zero,Kaj] at hk
  subst hk
  refine⟨d,c,?_,hd,hc⟩
  unfold Qbv
  rw [← h1,List.drop_left,List.take_of_length_le (by rw [Qd5];omega)]
theorem spl_full {Z l:List Value} (h:Z.length=l.length):spl Z 0 l=l:=by
 rw [Qvj (by omega)];simp [← h]
theorem stp_one (s:Stp) {d c:Value} (hd:oneC d=true) (hc:oneC c=true):(Qaa s d c).all oneC=true:=by
 have hi:∀ k n,oneC (.int k n)=true:=fun _ _=>rfl
 simp only [Qaa,List.all_cons,hd,hc,List.all_nil,hi,Bool.and_true]
theorem stx {m:Mem} {b i e:Nat} {l:List Value} {V:Vw} (hv:vw m b=some V) (he:V.elem≠e):∀ x W,x<m.next→vw m x=some W→W.elem=e→(stM m b i l).objs.get x=m.objs.get x:=by
 intro x W _ hW h
 refine Qcu ?_
 rintro rfl
 rw [hv] at hW;cases hW;exact he h
theorem Qx7 {m:Mem} {v:Value} {ss:List Stp} (hv:Qbx m.next m v ss) (hb:Qbg ss≤500000000) :
  Qaw tb 10 [v] m (retR fun r m'=>Old m.next m m'∧Qbx m'.next m' r ss):=by
 have hlen:=Qhe ss
 have hRR:∀ s∈ss,s.R:=fun s hs=>by
  obtain⟨k,hk⟩:=List.getElem?_of_mem hs
  obtain⟨_,_,_,h3⟩:=hv
  exact (h3 k s hk).1
 obtain⟨av,cv,rfl⟩:=hv.shape
 refine Qa5 Tryz.func10 e10 rfl rfl ?_
 simp only [s10,List.replicate,Klc,Kln,Kca,Kna,Nat.reduceAdd,Nat.reduceSub]
 refine xsr fun Q' hQ=>?_
 simp
 subst hQ
 refine xsr fun Q' hQ=>?_
 simp
 subst hQ
 refine xseq (xseq (Qal fun Q' hQ=>?_))
 simp
 subst hQ
 refine Qax (Qem (N:=ss.length) (I:=fun n l ds m2=>∃ k w cells,n=ss.length-k∧k≤ss.length∧ds=[]∧Old m.next m m2∧Own m.next m2 w 36 k cells∧Qri m2 cells (ss.take k)∧Sl [.slice av ss.length cv,undef,.slice none 0 0,w,.int .i64 (k:Nat)] 26 l) ?_ ?_)
 ·exact⟨0,_,[],rfl,by omega,rfl,.refl _ _,.inl ⟨rfl,rfl,rfl⟩,⟨by simp,by simp⟩,Sl.mk rfl rfl⟩
 rintro n l ds m2 ⟨k,w,cells,rfl,hk,rfl,hO,hw,hcs,⟨us,hus,rfl⟩⟩
 refine xseq (xseq (Qal fun Q' hQ=>?_))
 simp [hus]
 subst hQ
 refine xif (v:=decide ((k:Int)<(ss.length:Int))) (by simp [hus]) (fun h=>Qbd ?_) (fun h=>Qdy ?_)
 ·simp only [decide_eq_true_eq] at h
  have hk2:k<ss.length:=by omega
  have hks:ss[k]? = some ss[k]:=Kge hk2
  generalize ss[k]=s at hks
  obtain⟨b1,o1,c1,h1,hR,ad,dc,ac,cc,h2,h3,h4,h5,-,-⟩:=(hv.old hO).load hO.1 hks
  simp only [Value.slice.injEq] at h1
  obtain⟨rfl,-,rfl⟩:=h1
  have hwt:=Qhz ss hks
  have hcl:s.choices.length≤5000000:=by unfold Qfe at hwt;omega
  have hdl:s.data.length≤25000000:=by unfold Qfe at hwt;omega
  refine xseq (Qax (Qb0 (PS:=fun l' ds' m'=>ds'=[]∧m'.next=m2.next+1∧vw m' m2.next=some ⟨true,36,false,Qaa s (.slice ad s.data.length dc) (.slice ac s.choices.length cc)⟩∧(∀ x,x<m2.next→m'.objs.get x=m2.objs.get x) ∧
    Sl [.slice (some ⟨b1,o1,none⟩) ss.length cv,undef,.slice none 0 0,w,.int .i64 (k:Nat),.pointer (some ⟨m2.next,0,none⟩)] 25 l') ?_ ?_))
  ·refine Qal fun Q' hQ=>?_
   obtain⟨x5,ts',rfl,hts'⟩:=Qdw (n:=25) hus
   simp [hts',h2,hk2,h]
   rw [if_pos ⟨Qd5 _ _ _,by rw [Qd5];exact Knr _,fun x hx=>List.all_eq_true.1 h5 x hx⟩]
   obtain⟨m3,e3,f1,f2,f3⟩:=Qgh m2 36 17 (tv 36).zc (Qaa s (.slice ad s.data.length dc) (.slice ac s.choices.length cc)) (by rw [Ty.z36];rfl) (by rw [Ty.z36];rfl) h5
   rw [Ty.z36] at e3
   rw [← e3]
   simp [hts']
   subst hQ
   exact⟨rfl,rfl,f1,f2,f3,Sl.mk rfl (by simp [hts'])⟩
  rintro l ds m3 ⟨rfl,hn3,hv3,hx3,⟨ts,hts,rfl⟩⟩
  have hO3:Old m2.next m2 m3:=⟨by omega,hx3⟩
  refine Qb0 (PS:=fun l' ds' m'=>ds'=[]∧∃ d,oneC d=true∧Frsh m' d 5 s.data.length (u8s s.data)∧Old m2.next m2 m'∧m2.next<m'.next∧vw m' m2.next=some ⟨true,36,false,Qaa s d (.slice ac s.choices.length cc)⟩ ∧
    Sl [.slice (some ⟨b1,o1,none⟩) ss.length cv,undef,.slice none 0 0,w,.int .i64 (k:Nat),.pointer (some ⟨m2.next,0,none⟩)] 25 l') ?_ ?_
  ·refine Qal fun Q' hQ=>?_
   have hne:¬ m2.next=m3.next:=by omega
   have hA:vw (Qah m3 (.row ⟨.lf,0,[.int .u8 0],5,.none,false⟩)) m3.next=some ⟨true,5,false,[]⟩:=by
    rw [Qcs,if_pos rfl];exact Qjd 5 [.int .u8 0] 0
   have hO4:Old m2.next m2 (Qah m3 (.row ⟨.lf,0,[.int .u8 0],5,.none,false⟩)):=hO3.new (by omega) _
   have hO5:Old m.next m (Qah m3 (.row ⟨.lf,0,[.int .u8 0],5,.none,false⟩)):=hO.trans (hO4.le hO.1)
   have h3':SlOld m.next (Qah m3 (.row ⟨.lf,0,[.int .u8 0],5,.none,false⟩)) (.slice ad s.data.length dc) s.data.length (u8s s.data):=h3.old (hO4.le hO.1)
   have hfi:=(h3'.at hO5.1).first (Qfl s.data) s.data.length
   obtain⟨a2,c2,m5,g1,g2,g3⟩:=Jb6 1 s.data.length (u8s s.data) hA (fun h0=>by rw [List.length_eq_zero_iff.1 h0];rfl)
   have hw5:vw m5 m2.next=some ⟨true,36,false,Qaa s (.slice ad s.data.length dc) (.slice ac s.choices.length cc)⟩:=by
    rw [g2.vw (by rw [Qaf];omega),Qcs,if_neg hne];exact hv3
   have zd:∀ d c:Value,(Qaa s d c)[5]? = some d:=fun _ _=>rfl
   simp [-at_W,hts,hv3,hne,zd,hfi,Qce _ 0 0 s.data.length 1 (by omega),g1,hw5]
   rw [if_pos (by rw [Qd5];omega)]
   simp [hts]
   subst hQ
   refine⟨rfl,rfl,.slice a2 s.data.length c2,rfl,g3.ex (by rw [Qav];exact Knr _) (stx hw5 (by simp)),?_,?_,?_,Sl.mk rfl (by simp [hts])⟩
   ·exact (hO4.trans (g2.le (by rw [Qaf];omega))).trans ((Old.refl _ _).st (Knr _) _ _)
   ·rw [Qav];have:=g2.1;rw [Qaf] at this;omega
   ·rw [Qau hw5 (by simp [stOk,Qd5,oneC])];rfl
  rintro l ds m4 ⟨rfl,d,hd1,hd2,hO4,hn4,hv4,⟨ts,hts,rfl⟩⟩
  refine Qb0 (PS:=fun l' ds' m'=>ds'=[]∧∃ c,oneC c=true∧Frsh m' d 5 s.data.length (u8s s.data)∧Frsh m' c 3 s.choices.length (i64s s.choices)∧Old m2.next m2 m'∧m2.next<m'.next∧vw m' m2.next=some ⟨true,36,false,Qaa s d c⟩ ∧
    Sl [.slice (some ⟨b1,o1,none⟩) ss.length cv,undef,.slice none 0 0,w,.int .i64 (k:Nat),.pointer (some ⟨m2.next,0,none⟩)] 25 l') ?_ ?_
  ·refine Qal fun Q' hQ=>?_
   have hne:¬ m2.next=m4.next:=by omega
   have hA:vw (Qah m4 (.row ⟨.lf,0,[.int .i64 0],3,.none,false⟩)) m4.next=some ⟨true,3,false,[]⟩:=by
    rw [Qcs,if_pos rfl];exact Qjd 3 [.int .i64 0] 0
   have hO6:Old m2.next m2 (Qah m4 (.row ⟨.lf,0,[.int .i64 0],3,.none,false⟩)):=hO4.new (by omega) _
   have hO5:Old m.next m (Qah m4 (.row ⟨.lf,0,[.int .i64 0],3,.none,false⟩)):=hO.trans (hO6.le hO.1)
   have h3':SlOld m.next (Qah m4 (.row ⟨.lf,0,[.int .i64 0],3,.none,false⟩)) (.slice ac s.choices.length cc) s.choices.length (i64s s.choices):=h4.old (hO6.le hO.1)
   have hfi:=(h3'.at hO5.1).first (Qnn s.choices) s.choices.length
   obtain⟨a2,c2,m5,g1,g2,g3⟩:=Jb6 1 s.choices.length (i64s s.choices) hA (fun h0=>by rw [List.length_eq_zero_iff.1 h0];rfl)
   have hw5:vw m5 m2.next=some ⟨true,36,false,Qaa s d (.slice ac s.choices.length cc)⟩:=by
    rw [g2.vw (by rw [Qaf];omega),Qcs,if_neg hne];exact hv4
   have zd:∀ d c:Value,(Qaa s d c)[14]? = some c:=fun _ _=>rfl
   simp [-at_W,hts,hv4,hne,zd,hfi,Qce _ 0 0 s.choices.length 8 (by omega),g1,hw5]
   rw [if_pos (by rw [Qd5];omega)]
   simp [hts]
   subst hQ
   refine⟨rfl,rfl,.slice a2 s.choices.length c2,rfl,?_,g3.ex (by rw [Qav];exact Knr _) (stx hw5 (by simp)),?_,?_,?_,Sl.mk rfl (by simp [hts])⟩
   ·refine Frsh.ex (m:=m5) ?_ (by rw [Qav];exact Knr _) (stx hw5 (by simp))
    refine hd2.ex (by have:=g2.1;rw [Qaf] at this;omega) fun x V hx _ _=>?_
    rw [g2.2 x (by rw [Qaf];omega),Qan,if_neg (by omega)]
   ·exact (hO6.trans (g2.le (by rw [Qaf];omega))).trans ((Old.refl _ _).st (Knr _) _ _)
   ·rw [Qav];have:=g2.1;rw [Qaf] at this;omega
   ·rw [Qau hw5 (by simp [stOk,Qd5,oneC])];rfl
  rintro l ds m5 ⟨rfl,c,hc1,hd5,hc5,hO5,hn5,hv5,⟨ts,hts,rfl⟩⟩
  refine Qal fun Q' hQ=>?_
  have hone:(Qaa s d c).all oneC=true:=stp_one s hd1 hc1
  have ht17:Qbv (Qaa s d c) 0 17=Qaa s d c:=rfl
  have hsp:spl [.int .i64 0,.int .i64 0,.int .i64 0,.int .u64 0,.int .u64 0,.slice none 0 0,.int .u64 0,.int .i64 0,.int .i64 0,.int .i64 0,.int .i64 0,.int .i64 0,.int .u32 0,.int .u64 0,.slice none 0 0,.int .i64 0,.int .u64 0] 0 (Qaa s d c)=Qaa s d c:=spl_full rfl
  have hO7:Old m2.next m2 (Qah m5 (.row ⟨T.setL (Qaa s d c) 0 .lf,17,[.int .i64 0,.int .i64 0,.int .i64 0,.int .u64 0,.int .u64 0,.slice none 0 0,.int .u64 0,.int .i64 0,.int .i64 0,.int .i64 0,.int .i64 0,.int .i64 0,.int .u32 0,.int .u64 0,.slice none 0 0,.int .i64 0,.int .u64 0],36,.none,false⟩)):=hO5.new (by omega) _
  obtain⟨w',m6,f1,f2,f3,f4,f5⟩:=hw.append (k:=0) (sz:=17) (new:=Qaa s d c) hO7 hO.1 (by rw [hcs.1,List.length_take,Nat.min_eq_left hk]) (by rw [Qd5]) hone
  obtain⟨aw,rfl⟩:=hw.shape
  simp [-at_W,hts,hv5,Qd5,ht17,hsp,Qce _ k k 1 168 (by omega),f1]
  subst hQ
  refine (Qal fun Q' hQ=>?_)
  simp [hts]
  rw [wr64 _ (by omega) (by omega)]
  subst hQ
  refine⟨ss.length-(k+1),by omega,k+1,w',_,rfl,by omega,rfl,hO.trans ((hO7.le hO.1).trans f4),f2,?_,Sl.mk rfl (by simp [hts])⟩
  rw [List.take_add_one,hks]
  have hn6:m5.next≤m6.next:=by have:=f4.1;rw [Qaf] at this;omega
  have hk6:∀ x V,x<m5.next→vw m5 x=some V→V.elem≠36→m6.objs.get x=m5.objs.get x:=fun x V hx hV hne=>by
   rw [f3.2 x (by rw [Qaf];omega) ?_,Qan,if_neg (by omega)]
   intro e
   rcases hw with ⟨e2,_⟩|⟨b,e2,g1,g2,g3⟩
   ·rw [e2] at e;cases e
   ·rw [e2] at e
    obtain rfl:b=x:=Kai e
    have:=hO5.vw (show b<m2.next from g2)▸g3
    rw [this] at hV;cases hV;exact hne rfl
  refine Qri.snoc (Qri.ex hcs (by have:=hO5.1;omega) fun x V hx hV hne=>?_) (hd5.ex hn6 fun x V hx hV e=>hk6 x V hx hV (by rw [e];decide)) (hc5.ex hn6 fun x V hx hV e=>hk6 x V hx hV (by rw [e];decide))
  rw [hk6 x V (by have:=hO5.1;omega) (by rw [hO5.vw hx];exact hV) hne]
  exact hO5.2 x hx
 ·simp only [decide_eq_false_iff_not] at h
  obtain rfl:k=ss.length:=by omega
  rw [List.take_length] at hcs
  refine xsr fun Q' hQ=>?_
  simp [hus]
  subst hQ
  refine xret ?_
  exact⟨rfl,_,Qat _,by simp [hus];exact⟨hO,cells,Qqg hw,hcs.1,fun j s hs=>⟨hRR s (List.mem_of_getElem? hs),by
   obtain⟨d,c,k1,k2,k3⟩:=hcs.2 j s hs
   exact⟨d,c,k1,k2.sl,k3.sl⟩⟩⟩⟩
end Go.Proofs.YtgmkbdmgifdfeaaGreatDoor

