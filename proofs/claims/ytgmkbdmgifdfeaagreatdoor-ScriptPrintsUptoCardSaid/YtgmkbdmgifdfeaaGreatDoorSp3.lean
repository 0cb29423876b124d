/- The code of the functions that are reached, without edges and places. -/
import Derived.Test.YtgmkbdmgifdfeaaGreatDoorSp0
set_option linter.unusedSimpArgs false
set_option linter.unusedVariables false
set_option maxRecDepth 10000
namespace Go.Proofs.YtgmkbdmgifdfeaaGreatDoor
open Go Go.Ev
theorem callsS {f : FuncId} {fd : Func} {s : SCode} {n : Nat} {rs : List ResultVar} {args : List Value} {m : Mem} {R : OutA → Mem → Prop} (hf : Tryz.prog.funcs[f]? = some fd) (he : fd.body.map strip = some s) (hn : fd.ntmps = n) (hr : fd.results.toList = rs)
    (h : wpX tb ⟨f, .normal, none⟩ s (args ++ List.replicate (n - args.length) undef) [] m (endX tb rs R)) : CallsA tb f args m R := by
  cases hb : fd.body with
  | none => rw [hb] at he; cases he
  | some c =>
    rw [hb] at he
    exact callsZ (fget hf) hb (Option.some.inj he) hn hr h
noncomputable def s3 : SCode := (.seq (.reg [⟨(some 2), .box 26 (.tmp 0), 0, .no⟩,
  ⟨(some 4), .assign (.const (.bool false)), 4, .no⟩])
  (.seq (.reg [⟨(some 14), .move (.tmp 1), 27, .no⟩,
  ⟨(some 15), .call ⟨.value (.func 10), #[(.tmp 14)], #[27]⟩, 27, .no⟩,
  ⟨(some 5), .assign (.tmp 15), 27, .no⟩])
  (.seq (.seq (.reg [⟨(some 6), .assign (.const (.int .i64 0)), 3, .no⟩])
  (.block 0 (.loop (.seq (.seq (.reg [⟨(some 16), .move (.tmp 6), 3, .no⟩,
  ⟨(some 17), .move (.tmp 5), 27, .no⟩,
  ⟨(some 18), .call ⟨.builtin .len, #[(.tmp 17)], #[27]⟩, 3, .no⟩,
  ⟨(some 19), .binOp .lss 3 (.tmp 16) (.tmp 18) 3, 4, .no⟩])
  (.cond (.tmp 19) .skip
  (.exit 0)))
  (.seq (.block 1 (.seq (.reg [⟨(some 22), .move (.tmp 5), 27, .no⟩,
  ⟨(some 23), .move (.tmp 6), 3, .no⟩,
  ⟨(some 24), .move (.tmp 1), 27, .no⟩,
  ⟨(some 25), .move (.tmp 6), 3, .no⟩,
  ⟨(some 26), .indexAddr 27 (.tmp 24) (.tmp 25), 0, .no⟩,
  ⟨(some 27), .fieldAddr 36 (.tmp 26) 5, 0, .no⟩,
  ⟨(some 28), .load 29 (.tmp 27), 29, .no⟩,
  ⟨(some 29), .call ⟨.value (.func 11), #[(.tmp 28), (.const (.int .u8 81))], #[29, 5]⟩, 29, .no⟩,
  ⟨(some 30), .indexAddr 27 (.tmp 22) (.tmp 23), 0, .no⟩,
  ⟨(some 31), .fieldAddr 36 (.tmp 30) 5, 0, .no⟩,
  ⟨none, .store 29 (.tmp 31) (.tmp 29), 0, .no⟩])
  (.reg [⟨(some 32), .move (.tmp 5), 27, .no⟩,
  ⟨(some 33), .move (.tmp 6), 3, .no⟩,
  ⟨(some 34), .move (.tmp 1), 27, .no⟩,
  ⟨(some 35), .move (.tmp 6), 3, .no⟩,
  ⟨(some 36), .indexAddr 27 (.tmp 34) (.tmp 35), 0, .no⟩,
  ⟨(some 37), .fieldAddr 36 (.tmp 36) 13, 0, .no⟩,
  ⟨(some 38), .load 34 (.tmp 37), 34, .no⟩,
  ⟨(some 39), .call ⟨.value (.func 12), #[(.tmp 38), (.const (.int .i64 82))], #[34, 3]⟩, 34, .no⟩,
  ⟨(some 40), .indexAddr 27 (.tmp 32) (.tmp 33), 0, .no⟩,
  ⟨(some 41), .fieldAddr 36 (.tmp 40) 13, 0, .no⟩,
  ⟨none, .store 34 (.tmp 41) (.tmp 39), 0, .no⟩])))
  (.reg [⟨(some 20), .move (.tmp 6), 3, .no⟩,
  ⟨(some 21), .binOp .add 3 (.tmp 20) (.const (.int .i64 1)) 3, 3, .no⟩,
  ⟨(some 6), .assign (.tmp 21), 3, .no⟩]))))))
  (.seq (.reg [⟨(some 42), .move (.tmp 1), 27, .no⟩,
  ⟨(some 43), .call ⟨.value (.func 10), #[(.tmp 42)], #[27]⟩, 27, .no⟩,
  ⟨(some 7), .assign (.tmp 43), 27, .no⟩])
  (.seq (.seq (.reg [⟨(some 8), .assign (.const (.int .i64 0)), 3, .no⟩])
  (.block 2 (.loop (.seq (.seq (.reg [⟨(some 44), .move (.tmp 8), 3, .no⟩,
  ⟨(some 45), .move (.tmp 7), 27, .no⟩,
  ⟨(some 46), .call ⟨.builtin .len, #[(.tmp 45)], #[27]⟩, 3, .no⟩,
  ⟨(some 47), .binOp .lss 3 (.tmp 44) (.tmp 46) 3, 4, .no⟩])
  (.cond (.tmp 47) .skip
  (.exit 2)))
  (.seq (.block 3 (.reg [⟨(some 50), .move (.tmp 7), 27, .no⟩,
  ⟨(some 51), .move (.tmp 8), 3, .no⟩,
  ⟨(some 52), .move (.tmp 5), 27, .no⟩,
  ⟨(some 53), .move (.tmp 8), 3, .no⟩,
  ⟨(some 54), .indexAddr 27 (.tmp 52) (.tmp 53), 0, .no⟩,
  ⟨(some 55), .load 36 (.tmp 54), 36, .no⟩,
  ⟨(some 56), .indexAddr 27 (.tmp 50) (.tmp 51), 0, .no⟩,
  ⟨none, .store 36 (.tmp 56) (.tmp 55), 0, .no⟩]))
  (.reg [⟨(some 48), .move (.tmp 8), 3, .no⟩,
  ⟨(some 49), .binOp .add 3 (.tmp 48) (.const (.int .i64 1)) 3, 3, .no⟩,
  ⟨(some 8), .assign (.tmp 49), 3, .no⟩]))))))
  (.seq (.reg [⟨(some 57), .move (.tmp 7), 27, .no⟩,
  ⟨(some 58), .build 36 #[(0, (.const (.int .i64 77)))], 36, .no⟩,
  ⟨(some 59), .buildSlice 27 1 #[(0, (.tmp 58))], 27, .no⟩,
  ⟨(some 60), .call ⟨.builtin .append, #[(.tmp 57), (.tmp 59)], #[27, 27]⟩, 27, .no⟩,
  ⟨(some 7), .assign (.tmp 60), 27, .no⟩])
  (.seq (.drw [⟨0, (some 62), .load 26 (.tmp 2), 26, .no, [], [2]⟩,
  ⟨1, (some 63), .move (.tmp 7), 27, .no, [], [7]⟩,
  ⟨2, (some 64), .move (.tmp 1), 27, .no, [], [1]⟩,
  ⟨3, (some 65), .call ⟨.builtin .len, #[(.tmp 64)], #[27]⟩, 3, .no, [2], [64]⟩,
  ⟨4, (some 66), .slice 27 (.tmp 63) none (some (.tmp 65)) none, 27, .no, [1, 3], [63, 65]⟩,
  ⟨5, (some 67), .call ⟨.value (.func 13), #[(.tmp 62), (.tmp 66)], #[26, 27]⟩, 39, .no, [0, 4], [62, 66]⟩,
  ⟨6, (some 61), .move (.tmp 67), 39, .no, [5], [67]⟩,
  ⟨7, (some 68), .extract (.tmp 61) 0, 9, .no, [6], [61]⟩,
  ⟨8, (some 69), .extract (.tmp 61) 1, 38, .no, [6], [61]⟩,
  ⟨9, (some 9), .assign (.tmp 68), 9, .no, [7, 5, 0, 1, 2, 3, 4, 5, 6, 7], [68]⟩,
  ⟨10, (some 10), .assign (.tmp 69), 38, .no, [8, 9, 0, 1, 2, 3, 4, 5, 6, 7, 8, 9], [69]⟩])
  (.seq (.reg [⟨(some 71), .load 26 (.tmp 2), 26, .no⟩,
  ⟨(some 72), .move (.tmp 1), 27, .no⟩,
  ⟨(some 73), .call ⟨.value (.func 14), #[(.tmp 71), (.tmp 72)], #[26, 27]⟩, 41, .no⟩,
  ⟨(some 70), .move (.tmp 73), 41, .no⟩,
  ⟨(some 74), .extract (.tmp 70) 0, 9, .no⟩,
  ⟨(some 75), .extract (.tmp 70) 1, 3, .no⟩,
  ⟨(some 11), .assign (.tmp 74), 9, .no⟩,
  ⟨(some 12), .assign (.tmp 75), 3, .no⟩])
  (.seq (.seq (.reg [⟨(some 76), .move (.tmp 10), 38, .no⟩,
  ⟨(some 77), .call ⟨.value (.func 15), #[(.tmp 76)], #[38]⟩, 3, .no⟩,
  ⟨(some 78), .move (.tmp 12), 3, .no⟩,
  ⟨(some 79), .binOp .neq 3 (.tmp 77) (.tmp 78) 3, 4, .no⟩,
  ⟨(some 80), .move (.tmp 79), 4, .no⟩,
  ⟨(some 81), .move (.tmp 9), 9, (.on 80 false)⟩,
  ⟨(some 82), .move (.tmp 11), 9, (.on 80 false)⟩,
  ⟨(some 83), .binOp .neq 9 (.tmp 81) (.tmp 82) 9, 4, (.on 80 false)⟩,
  ⟨(some 84), .pick (.tmp 80) (.const (.bool true)) (.tmp 83), 4, .no⟩,
  ⟨(some 85), .move (.tmp 84), 4, .no⟩,
  ⟨(some 86), .move (.tmp 7), 27, (.on 85 false)⟩,
  ⟨(some 87), .move (.tmp 1), 27, (.on 85 false)⟩,
  ⟨(some 88), .call ⟨.builtin .len, #[(.tmp 87)], #[27]⟩, 3, (.on 85 false)⟩,
  ⟨(some 89), .slice 27 (.tmp 86) none (some (.tmp 88)) none, 27, (.on 85 false)⟩,
  ⟨(some 90), .move (.tmp 1), 27, (.on 85 false)⟩,
  ⟨(some 91), .call ⟨.value (.func 16), #[(.tmp 89), (.tmp 90)], #[27, 27]⟩, 4, (.on 85 false)⟩,
  ⟨(some 92), .unOp .not 4 (.tmp 91), 4, (.on 85 false)⟩,
  ⟨(some 93), .pick (.tmp 85) (.const (.bool true)) (.tmp 92), 4, .no⟩,
  ⟨(some 94), .move (.tmp 93), 4, .no⟩,
  ⟨(some 95), .move (.tmp 7), 27, (.on 94 false)⟩,
  ⟨(some 96), .move (.tmp 1), 27, (.on 94 false)⟩,
  ⟨(some 97), .call ⟨.builtin .len, #[(.tmp 96)], #[27]⟩, 3, (.on 94 false)⟩,
  ⟨(some 98), .indexAddr 27 (.tmp 95) (.tmp 97), 0, (.on 94 false)⟩,
  ⟨(some 99), .fieldAddr 36 (.tmp 98) 0, 0, (.on 94 false)⟩,
  ⟨(some 100), .load 3 (.tmp 99), 3, (.on 94 false)⟩,
  ⟨(some 101), .binOp .neq 3 (.tmp 100) (.const (.int .i64 77)) 3, 4, (.on 94 false)⟩,
  ⟨(some 102), .pick (.tmp 94) (.const (.bool true)) (.tmp 101), 4, .no⟩])
  (.cond (.tmp 102) (.seq (.reg [⟨(some 4), .assign (.const (.bool false)), 4, .no⟩])
  .ret)
  .skip))
  (.seq (.seq (.reg [⟨(some 13), .assign (.const (.int .i64 0)), 3, .no⟩])
  (.block 4 (.loop (.seq (.seq (.reg [⟨(some 103), .move (.tmp 13), 3, .no⟩,
  ⟨(some 104), .move (.tmp 1), 27, .no⟩,
  ⟨(some 105), .call ⟨.builtin .len, #[(.tmp 104)], #[27]⟩, 3, .no⟩,
  ⟨(some 106), .binOp .lss 3 (.tmp 103) (.tmp 105) 3, 4, .no⟩])
  (.cond (.tmp 106) .skip
  (.exit 4)))
  (.seq (.block 5 (.seq (.drw [⟨0, (some 109), .move (.tmp 7), 27, .no, [], [7]⟩,
  ⟨1, (some 110), .move (.tmp 13), 3, .no, [], [13]⟩,
  ⟨2, (some 111), .indexAddr 27 (.tmp 109) (.tmp 110), 0, .no, [0, 1], [109, 110]⟩,
  ⟨3, (some 112), .fieldAddr 36 (.tmp 111) 5, 0, .no, [2], [111]⟩,
  ⟨4, (some 113), .load 29 (.tmp 112), 29, .no, [3], [112]⟩,
  ⟨5, (some 114), .move (.tmp 1), 27, .no, [], [1]⟩,
  ⟨6, (some 115), .move (.tmp 13), 3, .no, [], [13]⟩,
  ⟨7, (some 116), .indexAddr 27 (.tmp 114) (.tmp 115), 0, .no, [5, 6], [114, 115]⟩,
  ⟨8, (some 117), .fieldAddr 36 (.tmp 116) 5, 0, .no, [7], [116]⟩,
  ⟨9, (some 118), .load 29 (.tmp 117), 29, .no, [8], [117]⟩,
  ⟨10, (some 119), .call ⟨.value (.func 17), #[(.tmp 113), (.tmp 118), (.const (.int .u8 81))], #[29, 29, 5]⟩, 4, .no, [4, 9], [113, 118]⟩,
  ⟨11, (some 120), .unOp .not 4 (.tmp 119), 4, .no, [10], [119]⟩,
  ⟨12, (some 121), .move (.tmp 120), 4, .no, [11, 10], [120]⟩,
  ⟨13, (some 122), .move (.tmp 7), 27, (.on 121 false), [12], [121, 7]⟩,
  ⟨14, (some 123), .move (.tmp 13), 3, (.on 121 false), [12], [121, 13]⟩,
  ⟨15, (some 124), .indexAddr 27 (.tmp 122) (.tmp 123), 0, (.on 121 false), [13, 14, 12], [121, 122, 123]⟩,
  ⟨16, (some 125), .fieldAddr 36 (.tmp 124) 13, 0, (.on 121 false), [15, 12], [121, 124]⟩,
  ⟨17, (some 126), .load 34 (.tmp 125), 34, (.on 121 false), [16, 12], [121, 125]⟩,
  ⟨18, (some 127), .move (.tmp 1), 27, (.on 121 false), [12], [121, 1]⟩,
  ⟨19, (some 128), .move (.tmp 13), 3, (.on 121 false), [12], [121, 13]⟩,
  ⟨20, (some 129), .indexAddr 27 (.tmp 127) (.tmp 128), 0, (.on 121 false), [18, 19, 12], [121, 127, 128]⟩,
  ⟨21, (some 130), .fieldAddr 36 (.tmp 129) 13, 0, (.on 121 false), [20, 12], [121, 129]⟩,
  ⟨22, (some 131), .load 34 (.tmp 130), 34, (.on 121 false), [21, 12], [121, 130]⟩,
  ⟨23, (some 132), .call ⟨.value (.func 18), #[(.tmp 126), (.tmp 131), (.const (.int .i64 82))], #[34, 34, 3]⟩, 4, (.on 121 false), [17, 22, 12, 12], [121, 126, 131]⟩,
  ⟨24, (some 133), .unOp .not 4 (.tmp 132), 4, (.on 121 false), [23, 12], [121, 132]⟩,
  ⟨25, (some 134), .pick (.tmp 121) (.const (.bool true)) (.tmp 133), 4, .no, [12, 24], [121, 133]⟩])
  (.cond (.tmp 134) (.seq (.reg [⟨(some 4), .assign (.const (.bool false)), 4, .no⟩])
  .ret)
  .skip)))
  (.reg [⟨(some 107), .move (.tmp 13), 3, .no⟩,
  ⟨(some 108), .binOp .add 3 (.tmp 107) (.const (.int .i64 1)) 3, 3, .no⟩,
  ⟨(some 13), .assign (.tmp 108), 3, .no⟩]))))))
  (.seq (.reg [⟨(some 4), .assign (.const (.bool true)), 4, .no⟩])
  .ret)))))))))))
theorem e3 : (Tryz.f3.body.map strip) = some s3 := by kernel_rfl
noncomputable def s10 : SCode := (.seq (.reg [⟨(some 2), .assign (.const (.slice none 0 0)), 27, .no⟩])
  (.seq (.reg [⟨(some 3), .assign (.const (.slice none 0 0)), 27, .no⟩])
  (.seq (.seq (.reg [⟨(some 4), .assign (.const (.int .i64 0)), 3, .no⟩])
  (.block 0 (.loop (.seq (.seq (.reg [⟨(some 6), .move (.tmp 4), 3, .no⟩,
  ⟨(some 7), .move (.tmp 0), 27, .no⟩,
  ⟨(some 8), .call ⟨.builtin .len, #[(.tmp 7)], #[27]⟩, 3, .no⟩,
  ⟨(some 9), .binOp .lss 3 (.tmp 6) (.tmp 8) 3, 4, .no⟩])
  (.cond (.tmp 9) .skip
  (.exit 0)))
  (.seq (.block 1 (.seq (.reg [⟨(some 12), .move (.tmp 0), 27, .no⟩,
  ⟨(some 13), .move (.tmp 4), 3, .no⟩,
  ⟨(some 14), .indexAddr 27 (.tmp 12) (.tmp 13), 0, .no⟩,
  ⟨(some 15), .load 36 (.tmp 14), 36, .no⟩,
  ⟨(some 5), .alloc 36, 0, .no⟩,
  ⟨none, .store 36 (.tmp 5) (.tmp 15), 0, .no⟩])
  (.seq (.reg [⟨(some 16), .buildSlice 29 0 #[], 29, .no⟩,
  ⟨(some 17), .fieldAddr 36 (.tmp 5) 5, 0, .no⟩,
  ⟨(some 18), .load 29 (.tmp 17), 29, .no⟩,
  ⟨(some 19), .call ⟨.builtin .append, #[(.tmp 16), (.tmp 18)], #[29, 29]⟩, 29, .no⟩,
  ⟨(some 20), .fieldAddr 36 (.tmp 5) 5, 0, .no⟩,
  ⟨none, .store 29 (.tmp 20) (.tmp 19), 0, .no⟩])
  (.seq (.reg [⟨(some 21), .buildSlice 34 0 #[], 34, .no⟩,
  ⟨(some 22), .fieldAddr 36 (.tmp 5) 13, 0, .no⟩,
  ⟨(some 23), .load 34 (.tmp 22), 34, .no⟩,
  ⟨(some 24), .call ⟨.builtin .append, #[(.tmp 21), (.tmp 23)], #[34, 34]⟩, 34, .no⟩,
  ⟨(some 25), .fieldAddr 36 (.tmp 5) 13, 0, .no⟩,
  ⟨none, .store 34 (.tmp 25) (.tmp 24), 0, .no⟩])
  (.reg [⟨(some 26), .move (.tmp 3), 27, .no⟩,
  ⟨(some 27), .load 36 (.tmp 5), 36, .no⟩,
  ⟨(some 28), .buildSlice 27 1 #[(0, (.tmp 27))], 27, .no⟩,
  ⟨(some 29), .call ⟨.builtin .append, #[(.tmp 26), (.tmp 28)], #[27, 27]⟩, 27, .no⟩,
  ⟨(some 3), .assign (.tmp 29), 27, .no⟩])))))
  (.reg [⟨(some 10), .move (.tmp 4), 3, .no⟩,
  ⟨(some 11), .binOp .add 3 (.tmp 10) (.const (.int .i64 1)) 3, 3, .no⟩,
  ⟨(some 4), .assign (.tmp 11), 3, .no⟩]))))))
  (.seq (.reg [⟨(some 30), .move (.tmp 3), 27, .no⟩,
  ⟨(some 2), .assign (.tmp 30), 27, .no⟩])
  .ret))))
theorem e10 : (Tryz.f10.body.map strip) = some s10 := by kernel_rfl
noncomputable def s11 : SCode := (.seq (.reg [⟨(some 4), .assign (.const (.slice none 0 0)), 29, .no⟩])
  (.seq (.reg [⟨(some 5), .assign (.const (.slice none 0 0)), 29, .no⟩])
  (.seq (.reg [⟨(some 7), .move (.tmp 5), 29, .no⟩,
  ⟨(some 8), .move (.tmp 0), 29, .no⟩,
  ⟨(some 9), .call ⟨.builtin .append, #[(.tmp 7), (.tmp 8)], #[29, 29]⟩, 29, .no⟩,
  ⟨(some 5), .assign (.tmp 9), 29, .no⟩])
  (.seq (.seq (.reg [⟨(some 6), .assign (.const (.int .i64 0)), 3, .no⟩])
  (.block 0 (.loop (.seq (.seq (.reg [⟨(some 10), .move (.tmp 6), 3, .no⟩,
  ⟨(some 11), .binOp .lss 3 (.tmp 10) (.const (.int .i64 4)) 3, 4, .no⟩])
  (.cond (.tmp 11) .skip
  (.exit 0)))
  (.seq (.block 1 (.reg [⟨(some 14), .move (.tmp 5), 29, .no⟩,
  ⟨(some 15), .move (.tmp 1), 5, .no⟩,
  ⟨(some 16), .buildSlice 29 1 #[(0, (.tmp 15))], 29, .no⟩,
  ⟨(some 17), .call ⟨.builtin .append, #[(.tmp 14), (.tmp 16)], #[29, 29]⟩, 29, .no⟩,
  ⟨(some 5), .assign (.tmp 17), 29, .no⟩]))
  (.reg [⟨(some 12), .move (.tmp 6), 3, .no⟩,
  ⟨(some 13), .binOp .add 3 (.tmp 12) (.const (.int .i64 1)) 3, 3, .no⟩,
  ⟨(some 6), .assign (.tmp 13), 3, .no⟩]))))))
  (.seq (.reg [⟨(some 18), .move (.tmp 5), 29, .no⟩,
  ⟨(some 19), .move (.tmp 0), 29, .no⟩,
  ⟨(some 20), .call ⟨.builtin .len, #[(.tmp 19)], #[29]⟩, 3, .no⟩,
  ⟨(some 21), .slice 29 (.tmp 18) none (some (.tmp 20)) none, 29, .no⟩,
  ⟨(some 4), .assign (.tmp 21), 29, .no⟩])
  .ret)))))
theorem e11 : (Tryz.f11.body.map strip) = some s11 := by kernel_rfl
noncomputable def s12 : SCode := (.seq (.reg [⟨(some 4), .assign (.const (.slice none 0 0)), 34, .no⟩])
  (.seq (.reg [⟨(some 5), .assign (.const (.slice none 0 0)), 34, .no⟩])
  (.seq (.reg [⟨(some 7), .move (.tmp 5), 34, .no⟩,
  ⟨(some 8), .move (.tmp 0), 34, .no⟩,
  ⟨(some 9), .call ⟨.builtin .append, #[(.tmp 7), (.tmp 8)], #[34, 34]⟩, 34, .no⟩,
  ⟨(some 5), .assign (.tmp 9), 34, .no⟩])
  (.seq (.seq (.reg [⟨(some 6), .assign (.const (.int .i64 0)), 3, .no⟩])
  (.block 0 (.loop (.seq (.seq (.reg [⟨(some 10), .move (.tmp 6), 3, .no⟩,
  ⟨(some 11), .binOp .lss 3 (.tmp 10) (.const (.int .i64 4)) 3, 4, .no⟩])
  (.cond (.tmp 11) .skip
  (.exit 0)))
  (.seq (.block 1 (.reg [⟨(some 14), .move (.tmp 5), 34, .no⟩,
  ⟨(some 15), .move (.tmp 1), 3, .no⟩,
  ⟨(some 16), .buildSlice 34 1 #[(0, (.tmp 15))], 34, .no⟩,
  ⟨(some 17), .call ⟨.builtin .append, #[(.tmp 14), (.tmp 16)], #[34, 34]⟩, 34, .no⟩,
  ⟨(some 5), .assign (.tmp 17), 34, .no⟩]))
  (.reg [⟨(some 12), .move (.tmp 6), 3, .no⟩,
  ⟨(some 13), .binOp .add 3 (.tmp 12) (.const (.int .i64 1)) 3, 3, .no⟩,
  ⟨(some 6), .assign (.tmp 13), 3, .no⟩]))))))
  (.seq (.reg [⟨(some 18), .move (.tmp 5), 34, .no⟩,
  ⟨(some 19), .move (.tmp 0), 34, .no⟩,
  ⟨(some 20), .call ⟨.builtin .len, #[(.tmp 19)], #[34]⟩, 3, .no⟩,
  ⟨(some 21), .slice 34 (.tmp 18) none (some (.tmp 20)) none, 34, .no⟩,
  ⟨(some 4), .assign (.tmp 21), 34, .no⟩])
  .ret)))))
theorem e12 : (Tryz.f12.body.map strip) = some s12 := by kernel_rfl
noncomputable def s13 : SCode := (.seq (.reg [⟨(some 2), .box 26 (.tmp 0), 0, .no⟩,
  ⟨(some 4), .assign (.const (.string ⟨⟨[]⟩⟩)), 9, .no⟩,
  ⟨(some 5), .assign (.const (.int .i64 0)), 38, .no⟩])
  (.seq (.seq (.reg [⟨(some 15), .move (.tmp 1), 27, .no⟩,
  ⟨(some 16), .call ⟨.builtin .len, #[(.tmp 15)], #[27]⟩, 3, .no⟩,
  ⟨(some 17), .move (.const (.int .i64 0)), 3, .no⟩])
  (.block 0 (.loop (.seq (.reg [⟨(some 18), .binOp .lss 3 (.tmp 17) (.tmp 16) 3, 0, .no⟩])
  (.seq (.cond (.tmp 18) .skip
  (.exit 0))
  (.seq (.block 1 (.seq (.reg [⟨(some 19), .indexAddr 27 (.tmp 15) (.tmp 17), 0, .no⟩,
  ⟨(some 20), .load 36 (.tmp 19), 36, .no⟩,
  ⟨(some 7), .alloc 36, 0, .no⟩,
  ⟨none, .store 36 (.tmp 7) (.tmp 20), 0, .no⟩])
  (.seq (.reg [⟨(some 21), .load 36 (.tmp 7), 36, .no⟩,
  ⟨(some 22), .call ⟨.value (.func 25), #[(.tmp 21)], #[36]⟩, 4, .no⟩,
  ⟨(some 23), .unOp .not 4 (.tmp 22), 4, .no⟩])
  (.cond (.tmp 23) (.seq (.reg [⟨(some 4), .assign (.const (.string ⟨⟨[]⟩⟩)), 9, .no⟩,
  ⟨(some 5), .assign (.const (.int .i64 202)), 38, .no⟩])
  .ret)
  .skip))))
  (.reg [⟨(some 24), .binOp .add 3 (.tmp 17) (.const (.int .i64 1)) 3, 3, .no⟩,
  ⟨(some 17), .move (.tmp 24), 3, .no⟩])))))))
  (.seq (.reg [⟨(some 25), .build 67 #[], 67, .no⟩,
  ⟨(some 26), .box 67 (.tmp 25), 62, .no⟩,
  ⟨(some 8), .assign (.tmp 26), 62, .no⟩])
  (.seq (.reg [⟨(some 27), .move (.tmp 8), 62, .no⟩,
  ⟨(some 28), .nilCheck (.tmp 27), 0, .no⟩,
  ⟨(some 29), .fieldAddr 67 (.tmp 28) 0, 0, .no⟩,
  ⟨(some 30), .call ⟨.value (.func 26), #[(.tmp 29), (.const (.string ⟨⟨[119, 111, 114, 108, 100]⟩⟩))], #[65, 9]⟩, 70, .no⟩])
  (.seq (.reg [⟨(some 31), .move (.tmp 8), 62, .no⟩,
  ⟨(some 32), .fieldAddr 26 (.tmp 2) 1, 0, .no⟩,
  ⟨(some 33), .load 3 (.tmp 32), 3, .no⟩,
  ⟨(some 34), .call ⟨.value (.func 27), #[(.tmp 31), (.tmp 33)], #[62, 3]⟩, 0, .no⟩])
  (.seq (.reg [⟨(some 35), .move (.tmp 8), 62, .no⟩,
  ⟨(some 36), .fieldAddr 26 (.tmp 2) 2, 0, .no⟩,
  ⟨(some 37), .load 3 (.tmp 36), 3, .no⟩,
  ⟨(some 38), .call ⟨.value (.func 27), #[(.tmp 35), (.tmp 37)], #[62, 3]⟩, 0, .no⟩])
  (.seq (.reg [⟨(some 39), .move (.tmp 8), 62, .no⟩,
  ⟨(some 40), .fieldAddr 26 (.tmp 2) 3, 0, .no⟩,
  ⟨(some 41), .load 22 (.tmp 40), 22, .no⟩,
  ⟨(some 42), .call ⟨.value (.func 28), #[(.tmp 39), (.tmp 41)], #[62, 22]⟩, 0, .no⟩])
  (.seq (.reg [⟨(some 43), .move (.tmp 8), 62, .no⟩,
  ⟨(some 44), .fieldAddr 26 (.tmp 2) 0, 0, .no⟩,
  ⟨(some 45), .fieldAddr 24 (.tmp 44) 0, 0, .no⟩,
  ⟨(some 46), .load 3 (.tmp 45), 3, .no⟩,
  ⟨(some 47), .call ⟨.value (.func 27), #[(.tmp 43), (.tmp 46)], #[62, 3]⟩, 0, .no⟩])
  (.seq (.reg [⟨(some 48), .move (.tmp 8), 62, .no⟩,
  ⟨(some 49), .fieldAddr 26 (.tmp 2) 0, 0, .no⟩,
  ⟨(some 50), .fieldAddr 24 (.tmp 49) 1, 0, .no⟩,
  ⟨(some 51), .load 22 (.tmp 50), 22, .no⟩,
  ⟨(some 52), .call ⟨.value (.func 28), #[(.tmp 48), (.tmp 51)], #[62, 22]⟩, 0, .no⟩])
  (.seq (.reg [⟨(some 53), .move (.tmp 8), 62, .no⟩,
  ⟨(some 54), .fieldAddr 26 (.tmp 2) 0, 0, .no⟩,
  ⟨(some 55), .fieldAddr 24 (.tmp 54) 2, 0, .no⟩,
  ⟨(some 56), .load 22 (.tmp 55), 22, .no⟩,
  ⟨(some 57), .call ⟨.value (.func 28), #[(.tmp 53), (.tmp 56)], #[62, 22]⟩, 0, .no⟩])
  (.seq (.reg [⟨(some 58), .move (.tmp 8), 62, .no⟩,
  ⟨(some 59), .fieldAddr 26 (.tmp 2) 0, 0, .no⟩,
  ⟨(some 60), .fieldAddr 24 (.tmp 59) 3, 0, .no⟩,
  ⟨(some 61), .load 3 (.tmp 60), 3, .no⟩,
  ⟨(some 62), .call ⟨.value (.func 27), #[(.tmp 58), (.tmp 61)], #[62, 3]⟩, 0, .no⟩])
  (.seq (.reg [⟨(some 63), .move (.tmp 8), 62, .no⟩,
  ⟨(some 64), .fieldAddr 26 (.tmp 2) 0, 0, .no⟩,
  ⟨(some 65), .fieldAddr 24 (.tmp 64) 4, 0, .no⟩,
  ⟨(some 66), .load 3 (.tmp 65), 3, .no⟩,
  ⟨(some 67), .call ⟨.value (.func 27), #[(.tmp 63), (.tmp 66)], #[62, 3]⟩, 0, .no⟩])
  (.seq (.reg [⟨(some 68), .move (.tmp 8), 62, .no⟩,
  ⟨(some 69), .fieldAddr 26 (.tmp 2) 0, 0, .no⟩,
  ⟨(some 70), .fieldAddr 24 (.tmp 69) 5, 0, .no⟩,
  ⟨(some 71), .load 3 (.tmp 70), 3, .no⟩,
  ⟨(some 72), .call ⟨.value (.func 27), #[(.tmp 68), (.tmp 71)], #[62, 3]⟩, 0, .no⟩])
  (.seq (.reg [⟨(some 73), .move (.tmp 8), 62, .no⟩,
  ⟨(some 74), .nilCheck (.tmp 73), 0, .no⟩,
  ⟨(some 75), .fieldAddr 67 (.tmp 74) 0, 0, .no⟩,
  ⟨(some 76), .call ⟨.value (.func 29), #[(.tmp 75), (.const (.int .u8 10))], #[65, 5]⟩, 69, .no⟩])
  (.seq (.reg [⟨(some 77), .call ⟨.value (.func 30), #[], #[]⟩, 75, .no⟩,
  ⟨(some 9), .assign (.tmp 77), 75, .no⟩])
  (.seq (.seq (.reg [⟨(some 78), .move (.tmp 1), 27, .no⟩,
  ⟨(some 79), .call ⟨.builtin .len, #[(.tmp 78)], #[27]⟩, 3, .no⟩,
  ⟨(some 80), .move (.const (.int .i64 0)), 3, .no⟩])
  (.block 2 (.loop (.seq (.reg [⟨(some 81), .binOp .lss 3 (.tmp 80) (.tmp 79) 3, 0, .no⟩])
  (.seq (.cond (.tmp 81) .skip
  (.exit 2))
  (.seq (.block 3 (.seq (.reg [⟨(some 82), .indexAddr 27 (.tmp 78) (.tmp 80), 0, .no⟩,
  ⟨(some 83), .load 36 (.tmp 82), 36, .no⟩,
  ⟨(some 11), .alloc 36, 0, .no⟩,
  ⟨none, .store 36 (.tmp 11) (.tmp 83), 0, .no⟩])
  (.seq (.seq (.reg [⟨(some 84), .fieldAddr 36 (.tmp 11) 0, 0, .no⟩,
  ⟨(some 85), .load 3 (.tmp 84), 3, .no⟩,
  ⟨(some 86), .binOp .neq 3 (.tmp 85) (.const (.int .i64 1)) 3, 4, .no⟩])
  (.cond (.tmp 86) (.drw [⟨0, (some 87), .move (.tmp 8), 62, .no, [], [8]⟩,
  ⟨1, (some 88), .nilCheck (.tmp 87), 0, .no, [0], [87]⟩,
  ⟨2, (some 89), .fieldAddr 67 (.tmp 88) 0, 0, .no, [1], [88]⟩,
  ⟨3, (some 90), .fieldAddr 36 (.tmp 11) 1, 0, .no, [], [11]⟩,
  ⟨4, (some 91), .load 3 (.tmp 90), 3, .no, [3], [90]⟩,
  ⟨5, (some 92), .call ⟨.value (.func 31), #[(.tmp 91)], #[3]⟩, 9, .no, [4], [91]⟩,
  ⟨6, (some 93), .binOp .add 9 (.tmp 92) (.const (.string ⟨⟨[32]⟩⟩)) 9, 9, .no, [5], [92]⟩,
  ⟨7, (some 94), .call ⟨.value (.func 26), #[(.tmp 89), (.tmp 93)], #[65, 9]⟩, 70, .no, [2, 6, 5], [89, 93]⟩])
  .skip))
  (.seq (.reg [⟨(some 95), .move (.tmp 9), 75, .no⟩,
  ⟨(some 96), .fieldAddr 36 (.tmp 11) 0, 0, .no⟩,
  ⟨(some 97), .load 3 (.tmp 96), 3, .no⟩,
  ⟨(some 98), .indexAddr 75 (.tmp 95) (.tmp 97), 0, .no⟩,
  ⟨(some 99), .load 80 (.tmp 98), 80, .no⟩,
  ⟨(some 12), .alloc 80, 0, .no⟩,
  ⟨none, .store 80 (.tmp 12) (.tmp 99), 0, .no⟩])
  (.seq (.drw [⟨0, (some 100), .move (.tmp 8), 62, .no, [], [8]⟩,
  ⟨1, (some 101), .nilCheck (.tmp 100), 0, .no, [0], [100]⟩,
  ⟨2, (some 102), .fieldAddr 67 (.tmp 101) 0, 0, .no, [1], [101]⟩,
  ⟨3, (some 103), .fieldAddr 80 (.tmp 12) 0, 0, .no, [], [12]⟩,
  ⟨4, (some 104), .load 9 (.tmp 103), 9, .no, [3], [103]⟩,
  ⟨5, (some 105), .call ⟨.value (.func 26), #[(.tmp 102), (.tmp 104)], #[65, 9]⟩, 70, .no, [2, 4], [102, 104]⟩])
  (.seq (.seq (.reg [⟨(some 106), .fieldAddr 80 (.tmp 12) 1, 0, .no⟩,
  ⟨(some 107), .load 78 (.tmp 106), 78, .no⟩,
  ⟨(some 108), .call ⟨.builtin .len, #[(.tmp 107)], #[78]⟩, 3, .no⟩,
  ⟨(some 109), .move (.const (.int .i64 0)), 3, .no⟩])
  (.block 4 (.loop (.seq (.reg [⟨(some 110), .binOp .lss 3 (.tmp 109) (.tmp 108) 3, 0, .no⟩])
  (.seq (.cond (.tmp 110) .skip
  (.exit 4))
  (.seq (.block 5 (.seq (.reg [⟨(some 111), .indexAddr 78 (.tmp 107) (.tmp 109), 0, .no⟩,
  ⟨(some 112), .load 84 (.tmp 111), 84, .no⟩,
  ⟨(some 14), .alloc 84, 0, .no⟩,
  ⟨none, .store 84 (.tmp 14) (.tmp 112), 0, .no⟩])
  (.reg [⟨(some 113), .fieldAddr 84 (.tmp 14) 1, 0, .no⟩,
  ⟨(some 114), .load 82 (.tmp 113), 82, .no⟩,
  ⟨(some 115), .move (.tmp 8), 62, .no⟩,
  ⟨(some 116), .load 36 (.tmp 11), 36, .no⟩,
  ⟨(some 117), .call ⟨.value (.tmp 114), #[(.tmp 115), (.tmp 116)], #[62, 36]⟩, 0, .no⟩])))
  (.reg [⟨(some 118), .binOp .add 3 (.tmp 109) (.const (.int .i64 1)) 3, 3, .no⟩,
  ⟨(some 109), .move (.tmp 118), 3, .no⟩])))))))
  (.reg [⟨(some 119), .move (.tmp 8), 62, .no⟩,
  ⟨(some 120), .nilCheck (.tmp 119), 0, .no⟩,
  ⟨(some 121), .fieldAddr 67 (.tmp 120) 0, 0, .no⟩,
  ⟨(some 122), .call ⟨.value (.func 29), #[(.tmp 121), (.const (.int .u8 10))], #[65, 5]⟩, 69, .no⟩])))))))
  (.reg [⟨(some 123), .binOp .add 3 (.tmp 80) (.const (.int .i64 1)) 3, 3, .no⟩,
  ⟨(some 80), .move (.tmp 123), 3, .no⟩])))))))
  (.seq (.block 6 (.seq (.reg [⟨(some 125), .move (.tmp 8), 62, .no⟩,
  ⟨(some 126), .nilCheck (.tmp 125), 0, .no⟩,
  ⟨(some 127), .fieldAddr 67 (.tmp 126) 1, 0, .no⟩,
  ⟨(some 128), .load 4 (.tmp 127), 4, .no⟩,
  ⟨(some 124), .assign (.tmp 128), 4, .no⟩])
  (.cond (.tmp 124) (.seq (.reg [⟨(some 4), .assign (.const (.string ⟨⟨[]⟩⟩)), 9, .no⟩,
  ⟨(some 5), .assign (.const (.int .i64 12)), 38, .no⟩])
  .ret)
  (.seq (.reg [⟨(some 130), .move (.tmp 8), 62, .no⟩,
  ⟨(some 131), .nilCheck (.tmp 130), 0, .no⟩,
  ⟨(some 132), .fieldAddr 67 (.tmp 131) 0, 0, .no⟩,
  ⟨(some 133), .call ⟨.value (.func 32), #[(.tmp 132)], #[65]⟩, 3, .no⟩,
  ⟨(some 134), .binOp .gtr 3 (.tmp 133) (.const (.int .i64 1048576)) 3, 4, .no⟩,
  ⟨(some 129), .assign (.tmp 134), 4, .no⟩])
  (.cond (.tmp 129) (.seq (.reg [⟨(some 4), .assign (.const (.string ⟨⟨[]⟩⟩)), 9, .no⟩,
  ⟨(some 5), .assign (.const (.int .i64 81)), 38, .no⟩])
  .ret)
  .skip)))))
  (.seq (.reg [⟨(some 135), .move (.tmp 8), 62, .no⟩,
  ⟨(some 136), .nilCheck (.tmp 135), 0, .no⟩,
  ⟨(some 137), .fieldAddr 67 (.tmp 136) 0, 0, .no⟩,
  ⟨(some 138), .call ⟨.value (.func 33), #[(.tmp 137)], #[65]⟩, 9, .no⟩,
  ⟨(some 4), .assign (.tmp 138), 9, .no⟩,
  ⟨(some 5), .assign (.const (.int .i64 0)), 38, .no⟩])
  .ret))))))))))))))))))
theorem e13 : (Tryz.f13.body.map strip) = some s13 := by kernel_rfl
noncomputable def s14 : SCode := (.seq (.reg [⟨(some 2), .box 26 (.tmp 0), 0, .no⟩,
  ⟨(some 4), .assign (.const (.string ⟨⟨[]⟩⟩)), 9, .no⟩,
  ⟨(some 5), .assign (.const (.int .i64 0)), 3, .no⟩])
  (.seq (.seq (.reg [⟨(some 6), .assign (.const (.int .i64 0)), 3, .no⟩])
  (.block 0 (.loop (.seq (.seq (.reg [⟨(some 14), .move (.tmp 6), 3, .no⟩,
  ⟨(some 15), .move (.tmp 1), 27, .no⟩,
  ⟨(some 16), .call ⟨.builtin .len, #[(.tmp 15)], #[27]⟩, 3, .no⟩,
  ⟨(some 17), .binOp .lss 3 (.tmp 14) (.tmp 16) 3, 4, .no⟩])
  (.cond (.tmp 17) .skip
  (.exit 0)))
  (.seq (.block 1 (.seq (.reg [⟨(some 21), .move (.tmp 1), 27, .no⟩,
  ⟨(some 22), .move (.tmp 6), 3, .no⟩,
  ⟨(some 23), .indexAddr 27 (.tmp 21) (.tmp 22), 0, .no⟩,
  ⟨(some 24), .fieldAddr 36 (.tmp 23) 0, 0, .no⟩,
  ⟨(some 25), .load 3 (.tmp 24), 3, .no⟩,
  ⟨(some 26), .call ⟨.value (.func 34), #[(.tmp 25)], #[3]⟩, 89, .no⟩,
  ⟨(some 20), .move (.tmp 26), 89, .no⟩,
  ⟨(some 27), .extract (.tmp 20) 0, 88, .no⟩,
  ⟨(some 28), .extract (.tmp 20) 1, 4, .no⟩,
  ⟨(some 7), .alloc 88, 0, .no⟩,
  ⟨none, .store 88 (.tmp 7) (.tmp 27), 0, .no⟩,
  ⟨(some 8), .assign (.tmp 28), 4, .no⟩])
  (.seq (.seq (.reg [⟨(some 29), .move (.tmp 8), 4, .no⟩,
  ⟨(some 30), .unOp .not 4 (.tmp 29), 4, .no⟩,
  ⟨(some 31), .move (.tmp 30), 4, .no⟩,
  ⟨(some 32), .fieldAddr 88 (.tmp 7) 1, 0, (.on 31 false)⟩,
  ⟨(some 33), .load 4 (.tmp 32), 4, (.on 31 false)⟩,
  ⟨(some 34), .move (.tmp 33), 4, (.on 31 false)⟩,
  ⟨(some 35), .move (.tmp 1), 27, (.on 34 true)⟩,
  ⟨(some 36), .move (.tmp 6), 3, (.on 34 true)⟩,
  ⟨(some 37), .indexAddr 27 (.tmp 35) (.tmp 36), 0, (.on 34 true)⟩,
  ⟨(some 38), .fieldAddr 36 (.tmp 37) 1, 0, (.on 34 true)⟩,
  ⟨(some 39), .load 3 (.tmp 38), 3, (.on 34 true)⟩,
  ⟨(some 40), .binOp .neq 3 (.tmp 39) (.const (.int .i64 1)) 3, 4, (.on 34 true)⟩,
  ⟨(some 41), .pick (.tmp 34) (.tmp 40) (.const (.bool false)), 4, (.on 31 false)⟩,
  ⟨(some 42), .move (.tmp 41), 4, (.on 31 false)⟩,
  ⟨(some 43), .move (.tmp 1), 27, (.on 42 true)⟩,
  ⟨(some 44), .move (.tmp 6), 3, (.on 42 true)⟩,
  ⟨(some 45), .indexAddr 27 (.tmp 43) (.tmp 44), 0, (.on 42 true)⟩,
  ⟨(some 46), .fieldAddr 36 (.tmp 45) 1, 0, (.on 42 true)⟩,
  ⟨(some 47), .load 3 (.tmp 46), 3, (.on 42 true)⟩,
  ⟨(some 48), .binOp .neq 3 (.tmp 47) (.const (.int .i64 2)) 3, 4, (.on 42 true)⟩,
  ⟨(some 49), .pick (.tmp 42) (.tmp 48) (.const (.bool false)), 4, (.on 31 false)⟩,
  ⟨(some 50), .pick (.tmp 31) (.const (.bool true)) (.tmp 49), 4, .no⟩])
  (.cond (.tmp 50) (.seq (.reg [⟨(some 4), .assign (.const (.string ⟨⟨[]⟩⟩)), 9, .no⟩,
  ⟨(some 5), .assign (.const (.int .i64 202)), 3, .no⟩])
  .ret)
  .skip))
  (.seq (.reg [⟨(some 51), .fieldAddr 88 (.tmp 7) 3, 0, .no⟩,
  ⟨(some 52), .load 9 (.tmp 51), 9, .no⟩,
  ⟨(some 53), .call ⟨.builtin .len, #[(.tmp 52)], #[9]⟩, 3, .no⟩,
  ⟨(some 54), .binOp .gtr 3 (.tmp 53) (.const (.int .i64 0)) 3, 4, .no⟩,
  ⟨(some 55), .move (.tmp 54), 4, .no⟩,
  ⟨(some 56), .fieldAddr 88 (.tmp 7) 3, 0, (.on 55 true)⟩,
  ⟨(some 57), .load 9 (.tmp 56), 9, (.on 55 true)⟩,
  ⟨(some 58), .index 9 (.tmp 57) (.const (.int .i64 0)), 5, (.on 55 true)⟩,
  ⟨(some 59), .binOp .eql 5 (.tmp 58) (.const (.int .u8 119)) 5, 4, (.on 55 true)⟩,
  ⟨(some 60), .pick (.tmp 55) (.tmp 59) (.const (.bool false)), 4, .no⟩,
  ⟨(some 61), .move (.tmp 60), 4, .no⟩,
  ⟨(some 62), .move (.tmp 1), 27, (.on 61 true)⟩,
  ⟨(some 63), .move (.tmp 6), 3, (.on 61 true)⟩,
  ⟨(some 64), .indexAddr 27 (.tmp 62) (.tmp 63), 0, (.on 61 true)⟩,
  ⟨(some 65), .fieldAddr 36 (.tmp 64) 8, 0, (.on 61 true)⟩,
  ⟨(some 66), .load 3 (.tmp 65), 3, (.on 61 true)⟩,
  ⟨(some 67), .binOp .neq 3 (.tmp 66) (.const (.int .i64 1)) 3, 4, (.on 61 true)⟩,
  ⟨(some 68), .pick (.tmp 61) (.tmp 67) (.const (.bool false)), 4, .no⟩,
  ⟨(some 69), .move (.tmp 68), 4, .no⟩,
  ⟨(some 70), .move (.tmp 1), 27, (.on 69 true)⟩,
  ⟨(some 71), .move (.tmp 6), 3, (.on 69 true)⟩,
  ⟨(some 72), .indexAddr 27 (.tmp 70) (.tmp 71), 0, (.on 69 true)⟩,
  ⟨(some 73), .fieldAddr 36 (.tmp 72) 8, 0, (.on 69 true)⟩,
  ⟨(some 74), .load 3 (.tmp 73), 3, (.on 69 true)⟩,
  ⟨(some 75), .binOp .neq 3 (.tmp 74) (.const (.int .i64 2)) 3, 4, (.on 69 true)⟩,
  ⟨(some 76), .pick (.tmp 69) (.tmp 75) (.const (.bool false)), 4, .no⟩])
  (.cond (.tmp 76) (.seq (.reg [⟨(some 4), .assign (.const (.string ⟨⟨[]⟩⟩)), 9, .no⟩,
  ⟨(some 5), .assign (.const (.int .i64 202)), 3, .no⟩])
  .ret)
  .skip)))))
  (.reg [⟨(some 18), .move (.tmp 6), 3, .no⟩,
  ⟨(some 19), .binOp .add 3 (.tmp 18) (.const (.int .i64 1)) 3, 3, .no⟩,
  ⟨(some 6), .assign (.tmp 19), 3, .no⟩]))))))
  (.seq (.reg [⟨(some 77), .build 93 #[(0, (.const (.string ⟨⟨[119, 111, 114, 108, 100]⟩⟩)))], 93, .no⟩,
  ⟨(some 78), .box 93 (.tmp 77), 91, .no⟩,
  ⟨(some 9), .assign (.tmp 78), 91, .no⟩])
  (.seq (.reg [⟨(some 79), .fieldAddr 26 (.tmp 2) 0, 0, .no⟩,
  ⟨(some 80), .load 24 (.tmp 79), 24, .no⟩,
  ⟨(some 10), .alloc 24, 0, .no⟩,
  ⟨none, .store 24 (.tmp 10) (.tmp 80), 0, .no⟩])
  (.seq (.reg [⟨(some 81), .move (.tmp 9), 91, .no⟩,
  ⟨(some 82), .fieldAddr 26 (.tmp 2) 1, 0, .no⟩,
  ⟨(some 83), .load 3 (.tmp 82), 3, .no⟩,
  ⟨(some 84), .call ⟨.value (.func 35), #[(.tmp 81), (.tmp 83)], #[91, 3]⟩, 0, .no⟩])
  (.seq (.reg [⟨(some 85), .move (.tmp 9), 91, .no⟩,
  ⟨(some 86), .fieldAddr 26 (.tmp 2) 2, 0, .no⟩,
  ⟨(some 87), .load 3 (.tmp 86), 3, .no⟩,
  ⟨(some 88), .call ⟨.value (.func 35), #[(.tmp 85), (.tmp 87)], #[91, 3]⟩, 0, .no⟩])
  (.seq (.drw [⟨0, (some 89), .move (.tmp 9), 91, .no, [], [9]⟩,
  ⟨1, (some 90), .move (.tmp 9), 91, .no, [], [9]⟩,
  ⟨2, (some 91), .nilCheck (.tmp 90), 0, .no, [1], [90]⟩,
  ⟨3, (some 92), .fieldAddr 93 (.tmp 91) 0, 0, .no, [2], [91]⟩,
  ⟨4, (some 93), .load 9 (.tmp 92), 9, .no, [3], [92]⟩,
  ⟨5, (some 94), .fieldAddr 26 (.tmp 2) 3, 0, .no, [], [2]⟩,
  ⟨6, (some 95), .load 22 (.tmp 94), 22, .no, [5], [94]⟩,
  ⟨7, (some 96), .call ⟨.value (.func 36), #[(.tmp 95)], #[22]⟩, 9, .no, [6], [95]⟩,
  ⟨8, (some 97), .binOp .add 9 (.tmp 93) (.tmp 96) 9, 9, .no, [4, 7], [93, 96]⟩,
  ⟨9, (some 98), .nilCheck (.tmp 89), 0, .no, [0, 0, 1, 2, 3, 4, 5, 6, 7, 8], [89]⟩,
  ⟨10, (some 99), .fieldAddr 93 (.tmp 98) 0, 0, .no, [9, 0, 1, 2, 3, 4, 5, 6, 7, 8], [98]⟩,
  ⟨11, none, .store 9 (.tmp 99) (.tmp 97), 0, .no, [10, 8, 7, 0, 1, 2, 3, 4, 5, 6, 7, 8], [99, 97]⟩])
  (.seq (.reg [⟨(some 100), .move (.tmp 9), 91, .no⟩,
  ⟨(some 101), .fieldAddr 24 (.tmp 10) 0, 0, .no⟩,
  ⟨(some 102), .load 3 (.tmp 101), 3, .no⟩,
  ⟨(some 103), .call ⟨.value (.func 35), #[(.tmp 100), (.tmp 102)], #[91, 3]⟩, 0, .no⟩])
  (.seq (.drw [⟨0, (some 104), .move (.tmp 9), 91, .no, [], [9]⟩,
  ⟨1, (some 105), .move (.tmp 9), 91, .no, [], [9]⟩,
  ⟨2, (some 106), .nilCheck (.tmp 105), 0, .no, [1], [105]⟩,
  ⟨3, (some 107), .fieldAddr 93 (.tmp 106) 0, 0, .no, [2], [106]⟩,
  ⟨4, (some 108), .load 9 (.tmp 107), 9, .no, [3], [107]⟩,
  ⟨5, (some 109), .fieldAddr 24 (.tmp 10) 1, 0, .no, [], [10]⟩,
  ⟨6, (some 110), .load 22 (.tmp 109), 22, .no, [5], [109]⟩,
  ⟨7, (some 111), .call ⟨.value (.func 36), #[(.tmp 110)], #[22]⟩, 9, .no, [6], [110]⟩,
  ⟨8, (some 112), .binOp .add 9 (.tmp 108) (.tmp 111) 9, 9, .no, [4, 7], [108, 111]⟩,
  ⟨9, (some 113), .fieldAddr 24 (.tmp 10) 2, 0, .no, [], [10]⟩,
  ⟨10, (some 114), .load 22 (.tmp 113), 22, .no, [9], [113]⟩,
  ⟨11, (some 115), .call ⟨.value (.func 36), #[(.tmp 114)], #[22]⟩, 9, .no, [10, 7], [114]⟩,
  ⟨12, (some 116), .binOp .add 9 (.tmp 112) (.tmp 115) 9, 9, .no, [8, 11], [112, 115]⟩,
  ⟨13, (some 117), .nilCheck (.tmp 104), 0, .no, [0, 0, 1, 2, 3, 4, 5, 6, 7, 8, 9, 10, 11, 12], [104]⟩,
  ⟨14, (some 118), .fieldAddr 93 (.tmp 117) 0, 0, .no, [13, 0, 1, 2, 3, 4, 5, 6, 7, 8, 9, 10, 11, 12], [117]⟩,
  ⟨15, none, .store 9 (.tmp 118) (.tmp 116), 0, .no, [14, 12, 11, 0, 1, 2, 3, 4, 5, 6, 7, 8, 9, 10, 11, 12], [118, 116]⟩])
  (.seq (.reg [⟨(some 119), .move (.tmp 9), 91, .no⟩,
  ⟨(some 120), .fieldAddr 24 (.tmp 10) 3, 0, .no⟩,
  ⟨(some 121), .load 3 (.tmp 120), 3, .no⟩,
  ⟨(some 122), .call ⟨.value (.func 35), #[(.tmp 119), (.tmp 121)], #[91, 3]⟩, 0, .no⟩])
  (.seq (.reg [⟨(some 123), .move (.tmp 9), 91, .no⟩,
  ⟨(some 124), .fieldAddr 24 (.tmp 10) 4, 0, .no⟩,
  ⟨(some 125), .load 3 (.tmp 124), 3, .no⟩,
  ⟨(some 126), .call ⟨.value (.func 35), #[(.tmp 123), (.tmp 125)], #[91, 3]⟩, 0, .no⟩])
  (.seq (.reg [⟨(some 127), .move (.tmp 9), 91, .no⟩,
  ⟨(some 128), .fieldAddr 24 (.tmp 10) 5, 0, .no⟩,
  ⟨(some 129), .load 3 (.tmp 128), 3, .no⟩,
  ⟨(some 130), .call ⟨.value (.func 35), #[(.tmp 127), (.tmp 129)], #[91, 3]⟩, 0, .no⟩])
  (.seq (.reg [⟨(some 131), .move (.tmp 9), 91, .no⟩,
  ⟨(some 132), .move (.tmp 9), 91, .no⟩,
  ⟨(some 133), .nilCheck (.tmp 132), 0, .no⟩,
  ⟨(some 134), .fieldAddr 93 (.tmp 133) 0, 0, .no⟩,
  ⟨(some 135), .load 9 (.tmp 134), 9, .no⟩,
  ⟨(some 136), .binOp .add 9 (.tmp 135) (.const (.string ⟨⟨[10]⟩⟩)) 9, 9, .no⟩,
  ⟨(some 137), .nilCheck (.tmp 131), 0, .no⟩,
  ⟨(some 138), .fieldAddr 93 (.tmp 137) 0, 0, .no⟩,
  ⟨none, .store 9 (.tmp 138) (.tmp 136), 0, .no⟩])
  (.seq (.seq (.reg [⟨(some 11), .assign (.const (.int .i64 0)), 3, .no⟩])
  (.block 2 (.loop (.seq (.seq (.reg [⟨(some 139), .move (.tmp 11), 3, .no⟩,
  ⟨(some 140), .move (.tmp 1), 27, .no⟩,
  ⟨(some 141), .call ⟨.builtin .len, #[(.tmp 140)], #[27]⟩, 3, .no⟩,
  ⟨(some 142), .binOp .lss 3 (.tmp 139) (.tmp 141) 3, 4, .no⟩])
  (.cond (.tmp 142) .skip
  (.exit 2)))
  (.seq (.block 3 (.seq (.reg [⟨(some 146), .move (.tmp 1), 27, .no⟩,
  ⟨(some 147), .move (.tmp 11), 3, .no⟩,
  ⟨(some 148), .indexAddr 27 (.tmp 146) (.tmp 147), 0, .no⟩,
  ⟨(some 149), .fieldAddr 36 (.tmp 148) 0, 0, .no⟩,
  ⟨(some 150), .load 3 (.tmp 149), 3, .no⟩,
  ⟨(some 151), .call ⟨.value (.func 34), #[(.tmp 150)], #[3]⟩, 89, .no⟩,
  ⟨(some 145), .move (.tmp 151), 89, .no⟩,
  ⟨(some 152), .extract (.tmp 145) 0, 88, .no⟩,
  ⟨(some 153), .extract (.tmp 145) 1, 4, .no⟩,
  ⟨(some 12), .alloc 88, 0, .no⟩,
  ⟨none, .store 88 (.tmp 12) (.tmp 152), 0, .no⟩,
  ⟨(some 13), .assign (.tmp 153), 4, .no⟩])
  (.drw [⟨0, (some 154), .move (.tmp 9), 91, .no, [], [9]⟩,
  ⟨1, (some 155), .load 88 (.tmp 12), 88, .no, [], [12]⟩,
  ⟨2, (some 156), .move (.tmp 1), 27, .no, [], [1]⟩,
  ⟨3, (some 157), .move (.tmp 11), 3, .no, [], [11]⟩,
  ⟨4, (some 158), .indexAddr 27 (.tmp 156) (.tmp 157), 0, .no, [2, 3], [156, 157]⟩,
  ⟨5, (some 159), .load 36 (.tmp 158), 36, .no, [4], [158]⟩,
  ⟨6, (some 160), .call ⟨.value (.func 37), #[(.tmp 154), (.tmp 155), (.tmp 159)], #[91, 88, 36]⟩, 0, .no, [0, 1, 5], [154, 155, 159]⟩])))
  (.reg [⟨(some 143), .move (.tmp 11), 3, .no⟩,
  ⟨(some 144), .binOp .add 3 (.tmp 143) (.const (.int .i64 1)) 3, 3, .no⟩,
  ⟨(some 11), .assign (.tmp 144), 3, .no⟩]))))))
  (.seq (.seq (.reg [⟨(some 161), .move (.tmp 9), 91, .no⟩,
  ⟨(some 162), .nilCheck (.tmp 161), 0, .no⟩,
  ⟨(some 163), .fieldAddr 93 (.tmp 162) 1, 0, .no⟩,
  ⟨(some 164), .load 4 (.tmp 163), 4, .no⟩])
  (.cond (.tmp 164) (.seq (.reg [⟨(some 4), .assign (.const (.string ⟨⟨[]⟩⟩)), 9, .no⟩,
  ⟨(some 5), .assign (.const (.int .i64 12)), 3, .no⟩])
  .ret)
  .skip))
  (.seq (.seq (.reg [⟨(some 165), .move (.tmp 9), 91, .no⟩,
  ⟨(some 166), .nilCheck (.tmp 165), 0, .no⟩,
  ⟨(some 167), .fieldAddr 93 (.tmp 166) 0, 0, .no⟩,
  ⟨(some 168), .load 9 (.tmp 167), 9, .no⟩,
  ⟨(some 169), .call ⟨.builtin .len, #[(.tmp 168)], #[9]⟩, 3, .no⟩,
  ⟨(some 170), .binOp .gtr 3 (.tmp 169) (.const (.int .i64 1048576)) 3, 4, .no⟩])
  (.cond (.tmp 170) (.seq (.reg [⟨(some 4), .assign (.const (.string ⟨⟨[]⟩⟩)), 9, .no⟩,
  ⟨(some 5), .assign (.const (.int .i64 81)), 3, .no⟩])
  .ret)
  .skip))
  (.seq (.reg [⟨(some 171), .move (.tmp 9), 91, .no⟩,
  ⟨(some 172), .nilCheck (.tmp 171), 0, .no⟩,
  ⟨(some 173), .fieldAddr 93 (.tmp 172) 0, 0, .no⟩,
  ⟨(some 174), .load 9 (.tmp 173), 9, .no⟩,
  ⟨(some 4), .assign (.tmp 174), 9, .no⟩,
  ⟨(some 5), .assign (.const (.int .i64 0)), 3, .no⟩])
  .ret)))))))))))))))))
theorem e14 : (Tryz.f14.body.map strip) = some s14 := by kernel_rfl
noncomputable def s15 : SCode := (.seq (.reg [⟨(some 2), .assign (.const (.int .i64 0)), 3, .no⟩])
  (.seq (.reg [⟨(some 3), .move (.tmp 0), 38, .no⟩,
  ⟨(some 2), .assign (.tmp 3), 3, .no⟩])
  .ret))
theorem e15 : (Tryz.f15.body.map strip) = some s15 := by kernel_rfl
noncomputable def s16 : SCode := (.seq (.reg [⟨(some 4), .assign (.const (.bool false)), 4, .no⟩])
  (.seq (.seq (.reg [⟨(some 6), .move (.tmp 0), 27, .no⟩,
  ⟨(some 7), .call ⟨.builtin .len, #[(.tmp 6)], #[27]⟩, 3, .no⟩,
  ⟨(some 8), .move (.tmp 1), 27, .no⟩,
  ⟨(some 9), .call ⟨.builtin .len, #[(.tmp 8)], #[27]⟩, 3, .no⟩,
  ⟨(some 10), .binOp .neq 3 (.tmp 7) (.tmp 9) 3, 4, .no⟩])
  (.cond (.tmp 10) (.seq (.reg [⟨(some 4), .assign (.const (.bool false)), 4, .no⟩])
  .ret)
  .skip))
  (.seq (.seq (.reg [⟨(some 5), .assign (.const (.int .i64 0)), 3, .no⟩])
  (.block 0 (.loop (.seq (.seq (.reg [⟨(some 11), .move (.tmp 5), 3, .no⟩,
  ⟨(some 12), .move (.tmp 0), 27, .no⟩,
  ⟨(some 13), .call ⟨.builtin .len, #[(.tmp 12)], #[27]⟩, 3, .no⟩,
  ⟨(some 14), .binOp .lss 3 (.tmp 11) (.tmp 13) 3, 4, .no⟩])
  (.cond (.tmp 14) .skip
  (.exit 0)))
  (.seq (.block 1 (.seq (.drw [⟨0, (some 17), .move (.tmp 0), 27, .no, [], [0]⟩,
  ⟨1, (some 18), .move (.tmp 5), 3, .no, [], [5]⟩,
  ⟨2, (some 19), .indexAddr 27 (.tmp 17) (.tmp 18), 0, .no, [0, 1], [17, 18]⟩,
  ⟨3, (some 20), .load 36 (.tmp 19), 36, .no, [2], [19]⟩,
  ⟨4, (some 21), .move (.tmp 1), 27, .no, [], [1]⟩,
  ⟨5, (some 22), .move (.tmp 5), 3, .no, [], [5]⟩,
  ⟨6, (some 23), .indexAddr 27 (.tmp 21) (.tmp 22), 0, .no, [4, 5], [21, 22]⟩,
  ⟨7, (some 24), .load 36 (.tmp 23), 36, .no, [6], [23]⟩,
  ⟨8, (some 25), .call ⟨.value (.func 38), #[(.tmp 20), (.tmp 24)], #[36, 36]⟩, 4, .no, [3, 7], [20, 24]⟩,
  ⟨9, (some 26), .unOp .not 4 (.tmp 25), 4, .no, [8], [25]⟩])
  (.cond (.tmp 26) (.seq (.reg [⟨(some 4), .assign (.const (.bool false)), 4, .no⟩])
  .ret)
  .skip)))
  (.reg [⟨(some 15), .move (.tmp 5), 3, .no⟩,
  ⟨(some 16), .binOp .add 3 (.tmp 15) (.const (.int .i64 1)) 3, 3, .no⟩,
  ⟨(some 5), .assign (.tmp 16), 3, .no⟩]))))))
  (.seq (.reg [⟨(some 4), .assign (.const (.bool true)), 4, .no⟩])
  .ret))))
theorem e16 : (Tryz.f16.body.map strip) = some s16 := by kernel_rfl
noncomputable def s17 : SCode := (.seq (.reg [⟨(some 6), .assign (.const (.bool false)), 4, .no⟩])
  (.seq (.reg [⟨(some 9), .move (.tmp 0), 29, .no⟩,
  ⟨(some 10), .move (.tmp 1), 29, .no⟩,
  ⟨(some 11), .call ⟨.builtin .len, #[(.tmp 10)], #[29]⟩, 3, .no⟩,
  ⟨(some 12), .binOp .add 3 (.tmp 11) (.const (.int .i64 4)) 3, 3, .no⟩,
  ⟨(some 13), .slice 29 (.tmp 9) none (some (.tmp 12)) none, 29, .no⟩,
  ⟨(some 7), .assign (.tmp 13), 29, .no⟩])
  (.seq (.seq (.reg [⟨(some 8), .assign (.const (.int .i64 0)), 3, .no⟩])
  (.block 0 (.loop (.seq (.seq (.reg [⟨(some 14), .move (.tmp 8), 3, .no⟩,
  ⟨(some 15), .move (.tmp 7), 29, .no⟩,
  ⟨(some 16), .call ⟨.builtin .len, #[(.tmp 15)], #[29]⟩, 3, .no⟩,
  ⟨(some 17), .binOp .lss 3 (.tmp 14) (.tmp 16) 3, 4, .no⟩])
  (.cond (.tmp 17) .skip
  (.exit 0)))
  (.seq (.block 1 (.seq (.drw [⟨0, (some 20), .move (.tmp 8), 3, .no, [], [8]⟩,
  ⟨1, (some 21), .move (.tmp 1), 29, .no, [], [1]⟩,
  ⟨2, (some 22), .call ⟨.builtin .len, #[(.tmp 21)], #[29]⟩, 3, .no, [1], [21]⟩,
  ⟨3, (some 23), .binOp .lss 3 (.tmp 20) (.tmp 22) 3, 4, .no, [0, 2], [20, 22]⟩,
  ⟨4, (some 24), .move (.tmp 23), 4, .no, [3], [23]⟩,
  ⟨5, (some 25), .move (.tmp 7), 29, (.on 24 true), [4], [24, 7]⟩,
  ⟨6, (some 26), .move (.tmp 8), 3, (.on 24 true), [4], [24, 8]⟩,
  ⟨7, (some 27), .indexAddr 29 (.tmp 25) (.tmp 26), 0, (.on 24 true), [5, 6, 4], [24, 25, 26]⟩,
  ⟨8, (some 28), .load 5 (.tmp 27), 5, (.on 24 true), [7, 4], [24, 27]⟩,
  ⟨9, (some 29), .move (.tmp 1), 29, (.on 24 true), [4], [24, 1]⟩,
  ⟨10, (some 30), .move (.tmp 8), 3, (.on 24 true), [4], [24, 8]⟩,
  ⟨11, (some 31), .indexAddr 29 (.tmp 29) (.tmp 30), 0, (.on 24 true), [9, 10, 4], [24, 29, 30]⟩,
  ⟨12, (some 32), .load 5 (.tmp 31), 5, (.on 24 true), [11, 4], [24, 31]⟩,
  ⟨13, (some 33), .binOp .neq 5 (.tmp 28) (.tmp 32) 5, 4, (.on 24 true), [8, 12, 4], [24, 28, 32]⟩,
  ⟨14, (some 34), .pick (.tmp 24) (.tmp 33) (.const (.bool false)), 4, .no, [4, 13], [24, 33]⟩,
  ⟨15, (some 35), .move (.tmp 34), 4, .no, [14, 4], [34]⟩,
  ⟨16, (some 36), .move (.tmp 8), 3, (.on 35 false), [15], [35, 8]⟩,
  ⟨17, (some 37), .move (.tmp 1), 29, (.on 35 false), [15], [35, 1]⟩,
  ⟨18, (some 38), .call ⟨.builtin .len, #[(.tmp 37)], #[29]⟩, 3, (.on 35 false), [17, 15], [35, 37]⟩,
  ⟨19, (some 39), .binOp .geq 3 (.tmp 36) (.tmp 38) 3, 4, (.on 35 false), [16, 18, 15], [35, 36, 38]⟩,
  ⟨20, (some 40), .move (.tmp 39), 4, (.on 35 false), [19, 15, 15], [35, 39]⟩,
  ⟨21, (some 41), .move (.tmp 7), 29, (.on 40 true), [20], [40, 7]⟩,
  ⟨22, (some 42), .move (.tmp 8), 3, (.on 40 true), [20], [40, 8]⟩,
  ⟨23, (some 43), .indexAddr 29 (.tmp 41) (.tmp 42), 0, (.on 40 true), [21, 22, 20], [40, 41, 42]⟩,
  ⟨24, (some 44), .load 5 (.tmp 43), 5, (.on 40 true), [23, 20], [40, 43]⟩,
  ⟨25, (some 45), .move (.tmp 2), 5, (.on 40 true), [20], [40, 2]⟩,
  ⟨26, (some 46), .binOp .neq 5 (.tmp 44) (.tmp 45) 5, 4, (.on 40 true), [24, 25, 20], [40, 44, 45]⟩,
  ⟨27, (some 47), .pick (.tmp 40) (.tmp 46) (.const (.bool false)), 4, (.on 35 false), [20, 26, 15], [35, 40, 46]⟩,
  ⟨28, (some 48), .pick (.tmp 35) (.const (.bool true)) (.tmp 47), 4, .no, [15, 27], [35, 47]⟩])
  (.cond (.tmp 48) (.seq (.reg [⟨(some 6), .assign (.const (.bool false)), 4, .no⟩])
  .ret)
  .skip)))
  (.reg [⟨(some 18), .move (.tmp 8), 3, .no⟩,
  ⟨(some 19), .binOp .add 3 (.tmp 18) (.const (.int .i64 1)) 3, 3, .no⟩,
  ⟨(some 8), .assign (.tmp 19), 3, .no⟩]))))))
  (.seq (.reg [⟨(some 6), .assign (.const (.bool true)), 4, .no⟩])
  .ret))))
theorem e17 : (Tryz.f17.body.map strip) = some s17 := by kernel_rfl
noncomputable def s18 : SCode := (.seq (.reg [⟨(some 6), .assign (.const (.bool false)), 4, .no⟩])
  (.seq (.reg [⟨(some 9), .move (.tmp 0), 34, .no⟩,
  ⟨(some 10), .move (.tmp 1), 34, .no⟩,
  ⟨(some 11), .call ⟨.builtin .len, #[(.tmp 10)], #[34]⟩, 3, .no⟩,
  ⟨(some 12), .binOp .add 3 (.tmp 11) (.const (.int .i64 4)) 3, 3, .no⟩,
  ⟨(some 13), .slice 34 (.tmp 9) none (some (.tmp 12)) none, 34, .no⟩,
  ⟨(some 7), .assign (.tmp 13), 34, .no⟩])
  (.seq (.seq (.reg [⟨(some 8), .assign (.const (.int .i64 0)), 3, .no⟩])
  (.block 0 (.loop (.seq (.seq (.reg [⟨(some 14), .move (.tmp 8), 3, .no⟩,
  ⟨(some 15), .move (.tmp 7), 34, .no⟩,
  ⟨(some 16), .call ⟨.builtin .len, #[(.tmp 15)], #[34]⟩, 3, .no⟩,
  ⟨(some 17), .binOp .lss 3 (.tmp 14) (.tmp 16) 3, 4, .no⟩])
  (.cond (.tmp 17) .skip
  (.exit 0)))
  (.seq (.block 1 (.seq (.drw [⟨0, (some 20), .move (.tmp 8), 3, .no, [], [8]⟩,
  ⟨1, (some 21), .move (.tmp 1), 34, .no, [], [1]⟩,
  ⟨2, (some 22), .call ⟨.builtin .len, #[(.tmp 21)], #[34]⟩, 3, .no, [1], [21]⟩,
  ⟨3, (some 23), .binOp .lss 3 (.tmp 20) (.tmp 22) 3, 4, .no, [0, 2], [20, 22]⟩,
  ⟨4, (some 24), .move (.tmp 23), 4, .no, [3], [23]⟩,
  ⟨5, (some 25), .move (.tmp 7), 34, (.on 24 true), [4], [24, 7]⟩,
  ⟨6, (some 26), .move (.tmp 8), 3, (.on 24 true), [4], [24, 8]⟩,
  ⟨7, (some 27), .indexAddr 34 (.tmp 25) (.tmp 26), 0, (.on 24 true), [5, 6, 4], [24, 25, 26]⟩,
  ⟨8, (some 28), .load 3 (.tmp 27), 3, (.on 24 true), [7, 4], [24, 27]⟩,
  ⟨9, (some 29), .move (.tmp 1), 34, (.on 24 true), [4], [24, 1]⟩,
  ⟨10, (some 30), .move (.tmp 8), 3, (.on 24 true), [4], [24, 8]⟩,
  ⟨11, (some 31), .indexAddr 34 (.tmp 29) (.tmp 30), 0, (.on 24 true), [9, 10, 4], [24, 29, 30]⟩,
  ⟨12, (some 32), .load 3 (.tmp 31), 3, (.on 24 true), [11, 4], [24, 31]⟩,
  ⟨13, (some 33), .binOp .neq 3 (.tmp 28) (.tmp 32) 3, 4, (.on 24 true), [8, 12, 4], [24, 28, 32]⟩,
  ⟨14, (some 34), .pick (.tmp 24) (.tmp 33) (.const (.bool false)), 4, .no, [4, 13], [24, 33]⟩,
  ⟨15, (some 35), .move (.tmp 34), 4, .no, [14, 4], [34]⟩,
  ⟨16, (some 36), .move (.tmp 8), 3, (.on 35 false), [15], [35, 8]⟩,
  ⟨17, (some 37), .move (.tmp 1), 34, (.on 35 false), [15], [35, 1]⟩,
  ⟨18, (some 38), .call ⟨.builtin .len, #[(.tmp 37)], #[34]⟩, 3, (.on 35 false), [17, 15], [35, 37]⟩,
  ⟨19, (some 39), .binOp .geq 3 (.tmp 36) (.tmp 38) 3, 4, (.on 35 false), [16, 18, 15], [35, 36, 38]⟩,
  ⟨20, (some 40), .move (.tmp 39), 4, (.on 35 false), [19, 15, 15], [35, 39]⟩,
  ⟨21, (some 41), .move (.tmp 7), 34, (.on 40 true), [20], [40, 7]⟩,
  ⟨22, (some 42), .move (.tmp 8), 3, (.on 40 true), [20], [40, 8]⟩,
  ⟨23, (some 43), .indexAddr 34 (.tmp 41) (.tmp 42), 0, (.on 40 true), [21, 22, 20], [40, 41, 42]⟩,
  ⟨24, (some 44), .load 3 (.tmp 43), 3, (.on 40 true), [23, 20], [40, 43]⟩,
  ⟨25, (some 45), .move (.tmp 2), 3, (.on 40 true), [20], [40, 2]⟩,
  ⟨26, (some 46), .binOp .neq 3 (.tmp 44) (.tmp 45) 3, 4, (.on 40 true), [24, 25, 20], [40, 44, 45]⟩,
  ⟨27, (some 47), .pick (.tmp 40) (.tmp 46) (.const (.bool false)), 4, (.on 35 false), [20, 26, 15], [35, 40, 46]⟩,
  ⟨28, (some 48), .pick (.tmp 35) (.const (.bool true)) (.tmp 47), 4, .no, [15, 27], [35, 47]⟩])
  (.cond (.tmp 48) (.seq (.reg [⟨(some 6), .assign (.const (.bool false)), 4, .no⟩])
  .ret)
  .skip)))
  (.reg [⟨(some 18), .move (.tmp 8), 3, .no⟩,
  ⟨(some 19), .binOp .add 3 (.tmp 18) (.const (.int .i64 1)) 3, 3, .no⟩,
  ⟨(some 8), .assign (.tmp 19), 3, .no⟩]))))))
  (.seq (.reg [⟨(some 6), .assign (.const (.bool true)), 4, .no⟩])
  .ret))))
theorem e18 : (Tryz.f18.body.map strip) = some s18 := by kernel_rfl
noncomputable def s25 : SCode := (.seq (.reg [⟨(some 1), .box 36 (.tmp 0), 0, .no⟩,
  ⟨(some 2), .assign (.const (.bool false)), 4, .no⟩])
  (.seq (.seq (.reg [⟨(some 3), .fieldAddr 36 (.tmp 1) 0, 0, .no⟩,
  ⟨(some 4), .load 3 (.tmp 3), 3, .no⟩,
  ⟨(some 5), .binOp .lss 3 (.tmp 4) (.const (.int .i64 1)) 3, 4, .no⟩,
  ⟨(some 6), .move (.tmp 5), 4, .no⟩,
  ⟨(some 7), .fieldAddr 36 (.tmp 1) 0, 0, (.on 6 false)⟩,
  ⟨(some 8), .load 3 (.tmp 7), 3, (.on 6 false)⟩,
  ⟨(some 9), .binOp .gtr 3 (.tmp 8) (.const (.int .i64 22)) 3, 4, (.on 6 false)⟩,
  ⟨(some 10), .pick (.tmp 6) (.const (.bool true)) (.tmp 9), 4, .no⟩])
  (.cond (.tmp 10) (.seq (.reg [⟨(some 2), .assign (.const (.bool false)), 4, .no⟩])
  .ret)
  .skip))
  (.seq (.seq (.reg [⟨(some 11), .fieldAddr 36 (.tmp 1) 0, 0, .no⟩,
  ⟨(some 12), .load 3 (.tmp 11), 3, .no⟩,
  ⟨(some 13), .binOp .neq 3 (.tmp 12) (.const (.int .i64 1)) 3, 4, .no⟩,
  ⟨(some 14), .move (.tmp 13), 4, .no⟩,
  ⟨(some 15), .fieldAddr 36 (.tmp 1) 1, 0, (.on 14 true)⟩,
  ⟨(some 16), .load 3 (.tmp 15), 3, (.on 14 true)⟩,
  ⟨(some 17), .binOp .neq 3 (.tmp 16) (.const (.int .i64 1)) 3, 4, (.on 14 true)⟩,
  ⟨(some 18), .pick (.tmp 14) (.tmp 17) (.const (.bool false)), 4, .no⟩,
  ⟨(some 19), .move (.tmp 18), 4, .no⟩,
  ⟨(some 20), .fieldAddr 36 (.tmp 1) 1, 0, (.on 19 true)⟩,
  ⟨(some 21), .load 3 (.tmp 20), 3, (.on 19 true)⟩,
  ⟨(some 22), .binOp .neq 3 (.tmp 21) (.const (.int .i64 2)) 3, 4, (.on 19 true)⟩,
  ⟨(some 23), .pick (.tmp 19) (.tmp 22) (.const (.bool false)), 4, .no⟩])
  (.cond (.tmp 23) (.seq (.reg [⟨(some 2), .assign (.const (.bool false)), 4, .no⟩])
  .ret)
  .skip))
  (.seq (.reg [⟨(some 24), .fieldAddr 36 (.tmp 1) 0, 0, .no⟩,
  ⟨(some 25), .load 3 (.tmp 24), 3, .no⟩,
  ⟨(some 26), .call ⟨.value (.func 45), #[(.tmp 25)], #[3]⟩, 4, .no⟩,
  ⟨(some 27), .unOp .not 4 (.tmp 26), 4, .no⟩,
  ⟨(some 28), .move (.tmp 27), 4, .no⟩,
  ⟨(some 29), .fieldAddr 36 (.tmp 1) 8, 0, (.on 28 false)⟩,
  ⟨(some 30), .load 3 (.tmp 29), 3, (.on 28 false)⟩,
  ⟨(some 31), .binOp .eql 3 (.tmp 30) (.const (.int .i64 1)) 3, 4, (.on 28 false)⟩,
  ⟨(some 32), .pick (.tmp 28) (.const (.bool true)) (.tmp 31), 4, .no⟩,
  ⟨(some 33), .move (.tmp 32), 4, .no⟩,
  ⟨(some 34), .fieldAddr 36 (.tmp 1) 8, 0, (.on 33 false)⟩,
  ⟨(some 35), .load 3 (.tmp 34), 3, (.on 33 false)⟩,
  ⟨(some 36), .binOp .eql 3 (.tmp 35) (.const (.int .i64 2)) 3, 4, (.on 33 false)⟩,
  ⟨(some 37), .pick (.tmp 33) (.const (.bool true)) (.tmp 36), 4, .no⟩,
  ⟨(some 2), .assign (.tmp 37), 4, .no⟩])
  .ret))))
theorem e25 : (Tryz.f25.body.map strip) = some s25 := by kernel_rfl
noncomputable def s26 : SCode := (.seq (.reg [⟨(some 4), .assign (.const (.int .i64 0)), 3, .no⟩,
  ⟨(some 5), .assign (.const .nilIface), 69, .no⟩])
  (.seq (.reg [⟨(some 6), .move (.tmp 0), 63, .no⟩,
  ⟨(some 7), .call ⟨.value (.func 46), #[(.tmp 6)], #[63]⟩, 0, .no⟩])
  (.seq (.reg [⟨(some 8), .move (.tmp 0), 63, .no⟩,
  ⟨(some 9), .move (.tmp 0), 63, .no⟩,
  ⟨(some 10), .nilCheck (.tmp 9), 0, .no⟩,
  ⟨(some 11), .fieldAddr 65 (.tmp 10) 1, 0, .no⟩,
  ⟨(some 12), .load 29 (.tmp 11), 29, .no⟩,
  ⟨(some 13), .move (.tmp 1), 9, .no⟩,
  ⟨(some 14), .call ⟨.builtin .append, #[(.tmp 12), (.tmp 13)], #[29, 9]⟩, 29, .no⟩,
  ⟨(some 15), .nilCheck (.tmp 8), 0, .no⟩,
  ⟨(some 16), .fieldAddr 65 (.tmp 15) 1, 0, .no⟩,
  ⟨none, .store 29 (.tmp 16) (.tmp 14), 0, .no⟩])
  (.seq (.reg [⟨(some 17), .move (.tmp 1), 9, .no⟩,
  ⟨(some 18), .call ⟨.builtin .len, #[(.tmp 17)], #[9]⟩, 3, .no⟩,
  ⟨(some 4), .assign (.tmp 18), 3, .no⟩,
  ⟨(some 5), .assign (.const .nilIface), 69, .no⟩])
  .ret))))
theorem e26 : (Tryz.f26.body.map strip) = some s26 := by kernel_rfl
noncomputable def s27 : SCode := (.seq (.reg [⟨(some 4), .move (.tmp 0), 62, .no⟩,
  ⟨(some 5), .move (.tmp 0), 62, .no⟩,
  ⟨(some 6), .nilCheck (.tmp 5), 0, .no⟩,
  ⟨(some 7), .fieldAddr 67 (.tmp 6) 1, 0, .no⟩,
  ⟨(some 8), .load 4 (.tmp 7), 4, .no⟩,
  ⟨(some 9), .move (.tmp 8), 4, .no⟩,
  ⟨(some 10), .move (.tmp 1), 3, (.on 9 false)⟩,
  ⟨(some 11), .binOp .gtr 3 (.tmp 10) (.const (.int .i64 2147483647)) 3, 4, (.on 9 false)⟩,
  ⟨(some 12), .pick (.tmp 9) (.const (.bool true)) (.tmp 11), 4, .no⟩,
  ⟨(some 13), .move (.tmp 12), 4, .no⟩,
  ⟨(some 14), .move (.tmp 1), 3, (.on 13 false)⟩,
  ⟨(some 15), .binOp .lss 3 (.tmp 14) (.const (.int .i64 (-2147483648))) 3, 4, (.on 13 false)⟩,
  ⟨(some 16), .pick (.tmp 13) (.const (.bool true)) (.tmp 15), 4, .no⟩,
  ⟨(some 17), .nilCheck (.tmp 4), 0, .no⟩,
  ⟨(some 18), .fieldAddr 67 (.tmp 17) 1, 0, .no⟩,
  ⟨none, .store 4 (.tmp 18) (.tmp 16), 0, .no⟩])
  (.reg [⟨(some 19), .move (.tmp 0), 62, .no⟩,
  ⟨(some 20), .move (.tmp 1), 3, .no⟩,
  ⟨(some 21), .call ⟨.value (.func 31), #[(.tmp 20)], #[3]⟩, 9, .no⟩,
  ⟨(some 22), .call ⟨.value (.func 47), #[(.tmp 19), (.tmp 21)], #[62, 9]⟩, 0, .no⟩]))
theorem e27 : (Tryz.f27.body.map strip) = some s27 := by kernel_rfl
noncomputable def s28 : SCode := (.reg [⟨(some 4), .move (.tmp 0), 62, .no⟩,
  ⟨(some 5), .move (.tmp 1), 22, .no⟩,
  ⟨(some 6), .call ⟨.value (.func 48), #[(.tmp 5), (.const (.int .i64 10))], #[22, 3]⟩, 9, .no⟩,
  ⟨(some 7), .call ⟨.value (.func 47), #[(.tmp 4), (.tmp 6)], #[62, 9]⟩, 0, .no⟩])
theorem e28 : (Tryz.f28.body.map strip) = some s28 := by kernel_rfl
noncomputable def s29 : SCode := (.seq (.reg [⟨(some 4), .assign (.const .nilIface), 69, .no⟩])
  (.seq (.reg [⟨(some 5), .move (.tmp 0), 63, .no⟩,
  ⟨(some 6), .call ⟨.value (.func 46), #[(.tmp 5)], #[63]⟩, 0, .no⟩])
  (.seq (.reg [⟨(some 7), .move (.tmp 0), 63, .no⟩,
  ⟨(some 8), .move (.tmp 0), 63, .no⟩,
  ⟨(some 9), .nilCheck (.tmp 8), 0, .no⟩,
  ⟨(some 10), .fieldAddr 65 (.tmp 9) 1, 0, .no⟩,
  ⟨(some 11), .load 29 (.tmp 10), 29, .no⟩,
  ⟨(some 12), .move (.tmp 1), 5, .no⟩,
  ⟨(some 13), .buildSlice 29 1 #[(0, (.tmp 12))], 29, .no⟩,
  ⟨(some 14), .call ⟨.builtin .append, #[(.tmp 11), (.tmp 13)], #[29, 29]⟩, 29, .no⟩,
  ⟨(some 15), .nilCheck (.tmp 7), 0, .no⟩,
  ⟨(some 16), .fieldAddr 65 (.tmp 15) 1, 0, .no⟩,
  ⟨none, .store 29 (.tmp 16) (.tmp 14), 0, .no⟩])
  (.seq (.reg [⟨(some 4), .assign (.const .nilIface), 69, .no⟩])
  .ret))))
theorem e29 : (Tryz.f29.body.map strip) = some s29 := by kernel_rfl
noncomputable def s32 : SCode := (.seq (.reg [⟨(some 2), .assign (.const (.int .i64 0)), 3, .no⟩])
  (.seq (.reg [⟨(some 3), .move (.tmp 0), 63, .no⟩,
  ⟨(some 4), .nilCheck (.tmp 3), 0, .no⟩,
  ⟨(some 5), .fieldAddr 65 (.tmp 4) 1, 0, .no⟩,
  ⟨(some 6), .load 29 (.tmp 5), 29, .no⟩,
  ⟨(some 7), .call ⟨.builtin .len, #[(.tmp 6)], #[29]⟩, 3, .no⟩,
  ⟨(some 2), .assign (.tmp 7), 3, .no⟩])
  .ret))
theorem e32 : (Tryz.f32.body.map strip) = some s32 := by kernel_rfl
noncomputable def s33 : SCode := (.seq (.reg [⟨(some 2), .assign (.const (.string ⟨⟨[]⟩⟩)), 9, .no⟩])
  (.seq (.drw [⟨0, (some 3), .move (.tmp 0), 63, .no, [], [0]⟩,
  ⟨1, (some 4), .nilCheck (.tmp 3), 0, .no, [0], [3]⟩,
  ⟨2, (some 5), .fieldAddr 65 (.tmp 4) 1, 0, .no, [1], [4]⟩,
  ⟨3, (some 6), .load 29 (.tmp 5), 29, .no, [2], [5]⟩,
  ⟨4, (some 7), .call ⟨.builtin .unsafeSliceData, #[(.tmp 6)], #[29]⟩, 122, .no, [3], [6]⟩,
  ⟨5, (some 8), .move (.tmp 0), 63, .no, [], [0]⟩,
  ⟨6, (some 9), .nilCheck (.tmp 8), 0, .no, [5], [8]⟩,
  ⟨7, (some 10), .fieldAddr 65 (.tmp 9) 1, 0, .no, [6], [9]⟩,
  ⟨8, (some 11), .load 29 (.tmp 10), 29, .no, [7], [10]⟩,
  ⟨9, (some 12), .call ⟨.builtin .len, #[(.tmp 11)], #[29]⟩, 3, .no, [8], [11]⟩,
  ⟨10, (some 13), .call ⟨.builtin .unsafeString, #[(.tmp 7), (.tmp 12)], #[122, 3]⟩, 9, .no, [4, 9], [7, 12]⟩,
  ⟨11, (some 2), .assign (.tmp 13), 9, .no, [10, 0, 1, 2, 3, 4, 5, 6, 7, 8, 9, 10], [13]⟩])
  .ret))
theorem e33 : (Tryz.f33.body.map strip) = some s33 := by kernel_rfl
noncomputable def s34 : SCode := (.seq (.reg [⟨(some 2), .alloc 88, 0, .no⟩,
  ⟨(some 3), .assign (.const (.bool false)), 4, .no⟩])
  (.seq (.reg [⟨(some 6), .call ⟨.value (.func 67), #[], #[]⟩, 123, .no⟩,
  ⟨(some 4), .assign (.tmp 6), 123, .no⟩])
  (.seq (.seq (.reg [⟨(some 5), .assign (.const (.int .i64 0)), 3, .no⟩])
  (.block 0 (.loop (.seq (.seq (.reg [⟨(some 7), .move (.tmp 5), 3, .no⟩,
  ⟨(some 8), .move (.tmp 4), 123, .no⟩,
  ⟨(some 9), .call ⟨.builtin .len, #[(.tmp 8)], #[123]⟩, 3, .no⟩,
  ⟨(some 10), .binOp .lss 3 (.tmp 7) (.tmp 9) 3, 4, .no⟩])
  (.cond (.tmp 10) .skip
  (.exit 0)))
  (.seq (.block 1 (.seq (.reg [⟨(some 13), .move (.tmp 4), 123, .no⟩,
  ⟨(some 14), .move (.tmp 5), 3, .no⟩,
  ⟨(some 15), .indexAddr 123 (.tmp 13) (.tmp 14), 0, .no⟩,
  ⟨(some 16), .fieldAddr 88 (.tmp 15) 2, 0, .no⟩,
  ⟨(some 17), .load 3 (.tmp 16), 3, .no⟩,
  ⟨(some 18), .move (.tmp 0), 3, .no⟩,
  ⟨(some 19), .binOp .eql 3 (.tmp 17) (.tmp 18) 3, 4, .no⟩])
  (.cond (.tmp 19) (.seq (.reg [⟨(some 20), .move (.tmp 4), 123, .no⟩,
  ⟨(some 21), .move (.tmp 5), 3, .no⟩,
  ⟨(some 22), .indexAddr 123 (.tmp 20) (.tmp 21), 0, .no⟩,
  ⟨(some 23), .load 88 (.tmp 22), 88, .no⟩,
  ⟨none, .store 88 (.tmp 2) (.tmp 23), 0, .no⟩,
  ⟨(some 3), .assign (.const (.bool true)), 4, .no⟩])
  .ret)
  .skip)))
  (.reg [⟨(some 11), .move (.tmp 5), 3, .no⟩,
  ⟨(some 12), .binOp .add 3 (.tmp 11) (.const (.int .i64 1)) 3, 3, .no⟩,
  ⟨(some 5), .assign (.tmp 12), 3, .no⟩]))))))
  (.seq (.reg [⟨(some 24), .build 88 #[], 88, .no⟩,
  ⟨none, .store 88 (.tmp 2) (.tmp 24), 0, .no⟩,
  ⟨(some 3), .assign (.const (.bool false)), 4, .no⟩])
  .ret))))
theorem e34 : (Tryz.f34.body.map strip) = some s34 := by kernel_rfl
noncomputable def s35 : SCode := (.seq (.reg [⟨(some 4), .move (.tmp 0), 91, .no⟩,
  ⟨(some 5), .move (.tmp 0), 91, .no⟩,
  ⟨(some 6), .nilCheck (.tmp 5), 0, .no⟩,
  ⟨(some 7), .fieldAddr 93 (.tmp 6) 1, 0, .no⟩,
  ⟨(some 8), .load 4 (.tmp 7), 4, .no⟩,
  ⟨(some 9), .move (.tmp 8), 4, .no⟩,
  ⟨(some 10), .move (.tmp 1), 3, (.on 9 false)⟩,
  ⟨(some 11), .binOp .gtr 3 (.tmp 10) (.const (.int .i64 2147483647)) 3, 4, (.on 9 false)⟩,
  ⟨(some 12), .pick (.tmp 9) (.const (.bool true)) (.tmp 11), 4, .no⟩,
  ⟨(some 13), .move (.tmp 12), 4, .no⟩,
  ⟨(some 14), .move (.tmp 1), 3, (.on 13 false)⟩,
  ⟨(some 15), .binOp .lss 3 (.tmp 14) (.const (.int .i64 (-2147483648))) 3, 4, (.on 13 false)⟩,
  ⟨(some 16), .pick (.tmp 13) (.const (.bool true)) (.tmp 15), 4, .no⟩,
  ⟨(some 17), .nilCheck (.tmp 4), 0, .no⟩,
  ⟨(some 18), .fieldAddr 93 (.tmp 17) 1, 0, .no⟩,
  ⟨none, .store 4 (.tmp 18) (.tmp 16), 0, .no⟩])
  (.drw [⟨0, (some 19), .move (.tmp 0), 91, .no, [], [0]⟩,
  ⟨1, (some 20), .move (.tmp 0), 91, .no, [], [0]⟩,
  ⟨2, (some 21), .nilCheck (.tmp 20), 0, .no, [1], [20]⟩,
  ⟨3, (some 22), .fieldAddr 93 (.tmp 21) 0, 0, .no, [2], [21]⟩,
  ⟨4, (some 23), .load 9 (.tmp 22), 9, .no, [3], [22]⟩,
  ⟨5, (some 24), .binOp .add 9 (.tmp 23) (.const (.string ⟨⟨[32]⟩⟩)) 9, 9, .no, [4], [23]⟩,
  ⟨6, (some 25), .move (.tmp 1), 3, .no, [], [1]⟩,
  ⟨7, (some 26), .call ⟨.value (.func 31), #[(.tmp 25)], #[3]⟩, 9, .no, [6], [25]⟩,
  ⟨8, (some 27), .binOp .add 9 (.tmp 24) (.tmp 26) 9, 9, .no, [5, 7], [24, 26]⟩,
  ⟨9, (some 28), .nilCheck (.tmp 19), 0, .no, [0, 0, 1, 2, 3, 4, 5, 6, 7, 8], [19]⟩,
  ⟨10, (some 29), .fieldAddr 93 (.tmp 28) 0, 0, .no, [9, 0, 1, 2, 3, 4, 5, 6, 7, 8], [28]⟩,
  ⟨11, none, .store 9 (.tmp 29) (.tmp 27), 0, .no, [10, 8, 7, 0, 1, 2, 3, 4, 5, 6, 7, 8], [29, 27]⟩]))
theorem e35 : (Tryz.f35.body.map strip) = some s35 := by kernel_rfl
noncomputable def s36 : SCode := (.seq (.reg [⟨(some 2), .assign (.const (.string ⟨⟨[]⟩⟩)), 9, .no⟩])
  (.seq (.reg [⟨(some 3), .move (.tmp 0), 22, .no⟩,
  ⟨(some 4), .call ⟨.value (.func 48), #[(.tmp 3), (.const (.int .i64 10))], #[22, 3]⟩, 9, .no⟩,
  ⟨(some 5), .binOp .add 9 (.const (.string ⟨⟨[32]⟩⟩)) (.tmp 4) 9, 9, .no⟩,
  ⟨(some 2), .assign (.tmp 5), 9, .no⟩])
  .ret))
theorem e36 : (Tryz.f36.body.map strip) = some s36 := by kernel_rfl
noncomputable def s37 : SCode := (.seq (.reg [⟨(some 4), .box 88 (.tmp 1), 0, .no⟩,
  ⟨(some 5), .box 36 (.tmp 2), 0, .no⟩])
  (.seq (.seq (.reg [⟨(some 7), .fieldAddr 88 (.tmp 4) 1, 0, .no⟩,
  ⟨(some 8), .load 4 (.tmp 7), 4, .no⟩])
  (.cond (.tmp 8) (.drw [⟨0, (some 9), .move (.tmp 0), 91, .no, [], [0]⟩,
  ⟨1, (some 10), .move (.tmp 0), 91, .no, [], [0]⟩,
  ⟨2, (some 11), .nilCheck (.tmp 10), 0, .no, [1], [10]⟩,
  ⟨3, (some 12), .fieldAddr 93 (.tmp 11) 0, 0, .no, [2], [11]⟩,
  ⟨4, (some 13), .load 9 (.tmp 12), 9, .no, [3], [12]⟩,
  ⟨5, (some 14), .fieldAddr 36 (.tmp 5) 1, 0, .no, [], [5]⟩,
  ⟨6, (some 15), .load 3 (.tmp 14), 3, .no, [5], [14]⟩,
  ⟨7, (some 16), .call ⟨.value (.func 31), #[(.tmp 15)], #[3]⟩, 9, .no, [6], [15]⟩,
  ⟨8, (some 17), .binOp .add 9 (.tmp 13) (.tmp 16) 9, 9, .no, [4, 7], [13, 16]⟩,
  ⟨9, (some 18), .binOp .add 9 (.tmp 17) (.const (.string ⟨⟨[32]⟩⟩)) 9, 9, .no, [8], [17]⟩,
  ⟨10, (some 19), .nilCheck (.tmp 9), 0, .no, [0, 0, 1, 2, 3, 4, 5, 6, 7, 8, 9], [9]⟩,
  ⟨11, (some 20), .fieldAddr 93 (.tmp 19) 0, 0, .no, [10, 0, 1, 2, 3, 4, 5, 6, 7, 8, 9], [19]⟩,
  ⟨12, none, .store 9 (.tmp 20) (.tmp 18), 0, .no, [11, 9, 7, 0, 1, 2, 3, 4, 5, 6, 7, 8, 9], [20, 18]⟩])
  .skip))
  (.seq (.drw [⟨0, (some 21), .move (.tmp 0), 91, .no, [], [0]⟩,
  ⟨1, (some 22), .move (.tmp 0), 91, .no, [], [0]⟩,
  ⟨2, (some 23), .nilCheck (.tmp 22), 0, .no, [1], [22]⟩,
  ⟨3, (some 24), .fieldAddr 93 (.tmp 23) 0, 0, .no, [2], [23]⟩,
  ⟨4, (some 25), .load 9 (.tmp 24), 9, .no, [3], [24]⟩,
  ⟨5, (some 26), .fieldAddr 88 (.tmp 4) 0, 0, .no, [], [4]⟩,
  ⟨6, (some 27), .load 9 (.tmp 26), 9, .no, [5], [26]⟩,
  ⟨7, (some 28), .binOp .add 9 (.tmp 25) (.tmp 27) 9, 9, .no, [4, 6], [25, 27]⟩,
  ⟨8, (some 29), .nilCheck (.tmp 21), 0, .no, [0, 0, 1, 2, 3, 4, 5, 6, 7], [21]⟩,
  ⟨9, (some 30), .fieldAddr 93 (.tmp 29) 0, 0, .no, [8, 0, 1, 2, 3, 4, 5, 6, 7], [29]⟩,
  ⟨10, none, .store 9 (.tmp 30) (.tmp 28), 0, .no, [9, 7, 0, 1, 2, 3, 4, 5, 6, 7], [30, 28]⟩])
  (.seq (.seq (.reg [⟨(some 31), .fieldAddr 88 (.tmp 4) 0, 0, .no⟩,
  ⟨(some 32), .load 9 (.tmp 31), 9, .no⟩])
  (.block 0 (.seq (.reg [⟨(some 34), .binOp .eql 9 (.tmp 32) (.const (.string ⟨⟨[116, 105, 99, 107]⟩⟩)) 9, 4, .no⟩,
  ⟨(some 33), .assign (.tmp 34), 4, .no⟩])
  (.cond (.tmp 33) (.drw [⟨0, (some 35), .move (.tmp 0), 91, .no, [], [0]⟩,
  ⟨1, (some 36), .move (.tmp 0), 91, .no, [], [0]⟩,
  ⟨2, (some 37), .nilCheck (.tmp 36), 0, .no, [1], [36]⟩,
  ⟨3, (some 38), .fieldAddr 93 (.tmp 37) 0, 0, .no, [2], [37]⟩,
  ⟨4, (some 39), .load 9 (.tmp 38), 9, .no, [3], [38]⟩,
  ⟨5, (some 40), .fieldAddr 36 (.tmp 5) 12, 0, .no, [], [5]⟩,
  ⟨6, (some 41), .load 22 (.tmp 40), 22, .no, [5], [40]⟩,
  ⟨7, (some 42), .call ⟨.value (.func 36), #[(.tmp 41)], #[22]⟩, 9, .no, [6], [41]⟩,
  ⟨8, (some 43), .binOp .add 9 (.tmp 39) (.tmp 42) 9, 9, .no, [4, 7], [39, 42]⟩,
  ⟨9, (some 44), .nilCheck (.tmp 35), 0, .no, [0, 0, 1, 2, 3, 4, 5, 6, 7, 8], [35]⟩,
  ⟨10, (some 45), .fieldAddr 93 (.tmp 44) 0, 0, .no, [9, 0, 1, 2, 3, 4, 5, 6, 7, 8], [44]⟩,
  ⟨11, none, .store 9 (.tmp 45) (.tmp 43), 0, .no, [10, 8, 7, 0, 1, 2, 3, 4, 5, 6, 7, 8], [45, 43]⟩])
  (.seq (.reg [⟨(some 47), .binOp .eql 9 (.tmp 32) (.const (.string ⟨⟨[108, 105, 115, 116, 101, 110]⟩⟩)) 9, 4, .no⟩,
  ⟨(some 46), .assign (.tmp 47), 4, .no⟩])
  (.cond (.tmp 46) (.seq (.reg [⟨(some 48), .move (.tmp 0), 91, .no⟩,
  ⟨(some 49), .fieldAddr 36 (.tmp 5) 2, 0, .no⟩,
  ⟨(some 50), .load 3 (.tmp 49), 3, .no⟩,
  ⟨(some 51), .call ⟨.value (.func 35), #[(.tmp 48), (.tmp 50)], #[91, 3]⟩, 0, .no⟩])
  (.seq (.reg [⟨(some 52), .move (.tmp 0), 91, .no⟩,
  ⟨(some 53), .fieldAddr 36 (.tmp 5) 7, 0, .no⟩,
  ⟨(some 54), .fieldAddr 32 (.tmp 53) 0, 0, .no⟩,
  ⟨(some 55), .load 3 (.tmp 54), 3, .no⟩,
  ⟨(some 56), .call ⟨.value (.func 35), #[(.tmp 52), (.tmp 55)], #[91, 3]⟩, 0, .no⟩])
  (.reg [⟨(some 57), .move (.tmp 0), 91, .no⟩,
  ⟨(some 58), .fieldAddr 36 (.tmp 5) 7, 0, .no⟩,
  ⟨(some 59), .fieldAddr 32 (.tmp 58) 1, 0, .no⟩,
  ⟨(some 60), .load 3 (.tmp 59), 3, .no⟩,
  ⟨(some 61), .call ⟨.value (.func 35), #[(.tmp 57), (.tmp 60)], #[91, 3]⟩, 0, .no⟩])))
  (.seq (.seq (.reg [⟨(some 63), .binOp .eql 9 (.tmp 32) (.const (.string ⟨⟨[117, 110, 108, 105, 115, 116, 101, 110]⟩⟩)) 9, 4, .no⟩,
  ⟨(some 62), .assign (.tmp 63), 4, .no⟩])
  (.cond (.tmp 62) .skip
  (.seq (.reg [⟨(some 64), .binOp .eql 9 (.tmp 32) (.const (.string ⟨⟨[98, 101, 103, 105, 110]⟩⟩)) 9, 4, .no⟩,
  ⟨(some 62), .assign (.tmp 64), 4, .no⟩])
  (.cond (.tmp 62) .skip
  (.seq (.reg [⟨(some 65), .binOp .eql 9 (.tmp 32) (.const (.string ⟨⟨[99, 101, 97, 115, 101]⟩⟩)) 9, 4, .no⟩,
  ⟨(some 62), .assign (.tmp 65), 4, .no⟩])
  (.cond (.tmp 62) .skip
  (.reg [⟨(some 66), .binOp .eql 9 (.tmp 32) (.const (.string ⟨⟨[99, 117, 114, 115, 111, 114]⟩⟩)) 9, 4, .no⟩,
  ⟨(some 62), .assign (.tmp 66), 4, .no⟩])))))))
  (.cond (.tmp 62) (.reg [⟨(some 67), .move (.tmp 0), 91, .no⟩,
  ⟨(some 68), .fieldAddr 36 (.tmp 5) 2, 0, .no⟩,
  ⟨(some 69), .load 3 (.tmp 68), 3, .no⟩,
  ⟨(some 70), .call ⟨.value (.func 35), #[(.tmp 67), (.tmp 69)], #[91, 3]⟩, 0, .no⟩])
  (.seq (.reg [⟨(some 72), .binOp .eql 9 (.tmp 32) (.const (.string ⟨⟨[115, 101, 110, 100]⟩⟩)) 9, 4, .no⟩,
  ⟨(some 71), .assign (.tmp 72), 4, .no⟩])
  (.cond (.tmp 71) (.seq (.reg [⟨(some 73), .move (.tmp 0), 91, .no⟩,
  ⟨(some 74), .fieldAddr 36 (.tmp 5) 2, 0, .no⟩,
  ⟨(some 75), .load 3 (.tmp 74), 3, .no⟩,
  ⟨(some 76), .call ⟨.value (.func 35), #[(.tmp 73), (.tmp 75)], #[91, 3]⟩, 0, .no⟩])
  (.drw [⟨0, (some 77), .move (.tmp 0), 91, .no, [], [0]⟩,
  ⟨1, (some 78), .move (.tmp 0), 91, .no, [], [0]⟩,
  ⟨2, (some 79), .nilCheck (.tmp 78), 0, .no, [1], [78]⟩,
  ⟨3, (some 80), .fieldAddr 93 (.tmp 79) 0, 0, .no, [2], [79]⟩,
  ⟨4, (some 81), .load 9 (.tmp 80), 9, .no, [3], [80]⟩,
  ⟨5, (some 82), .fieldAddr 36 (.tmp 5) 3, 0, .no, [], [5]⟩,
  ⟨6, (some 83), .load 22 (.tmp 82), 22, .no, [5], [82]⟩,
  ⟨7, (some 84), .call ⟨.value (.func 36), #[(.tmp 83)], #[22]⟩, 9, .no, [6], [83]⟩,
  ⟨8, (some 85), .binOp .add 9 (.tmp 81) (.tmp 84) 9, 9, .no, [4, 7], [81, 84]⟩,
  ⟨9, (some 86), .fieldAddr 36 (.tmp 5) 4, 0, .no, [], [5]⟩,
  ⟨10, (some 87), .load 22 (.tmp 86), 22, .no, [9], [86]⟩,
  ⟨11, (some 88), .call ⟨.value (.func 36), #[(.tmp 87)], #[22]⟩, 9, .no, [10, 7], [87]⟩,
  ⟨12, (some 89), .binOp .add 9 (.tmp 85) (.tmp 88) 9, 9, .no, [8, 11], [85, 88]⟩,
  ⟨13, (some 90), .binOp .add 9 (.tmp 89) (.const (.string ⟨⟨[32]⟩⟩)) 9, 9, .no, [12], [89]⟩,
  ⟨14, (some 91), .fieldAddr 36 (.tmp 5) 5, 0, .no, [], [5]⟩,
  ⟨15, (some 92), .load 29 (.tmp 91), 29, .no, [14], [91]⟩,
  ⟨16, (some 93), .call ⟨.value (.func 68), #[(.tmp 92)], #[29]⟩, 9, .no, [15, 11], [92]⟩,
  ⟨17, (some 94), .binOp .add 9 (.tmp 90) (.tmp 93) 9, 9, .no, [13, 16], [90, 93]⟩,
  ⟨18, (some 95), .nilCheck (.tmp 77), 0, .no, [0, 0, 1, 2, 3, 4, 5, 6, 7, 8, 9, 10, 11, 12, 13, 14, 15, 16, 17], [77]⟩,
  ⟨19, (some 96), .fieldAddr 93 (.tmp 95) 0, 0, .no, [18, 0, 1, 2, 3, 4, 5, 6, 7, 8, 9, 10, 11, 12, 13, 14, 15, 16, 17], [95]⟩,
  ⟨20, none, .store 9 (.tmp 96) (.tmp 94), 0, .no, [19, 17, 16, 0, 1, 2, 3, 4, 5, 6, 7, 8, 9, 10, 11, 12, 13, 14, 15, 16, 17], [96, 94]⟩]))
  (.seq (.reg [⟨(some 98), .binOp .eql 9 (.tmp 32) (.const (.string ⟨⟨[99, 97, 110, 99, 101, 108]⟩⟩)) 9, 4, .no⟩,
  ⟨(some 97), .assign (.tmp 98), 4, .no⟩])
  (.cond (.tmp 97) (.seq (.reg [⟨(some 99), .move (.tmp 0), 91, .no⟩,
  ⟨(some 100), .fieldAddr 36 (.tmp 5) 2, 0, .no⟩,
  ⟨(some 101), .load 3 (.tmp 100), 3, .no⟩,
  ⟨(some 102), .call ⟨.value (.func 35), #[(.tmp 99), (.tmp 101)], #[91, 3]⟩, 0, .no⟩])
  (.drw [⟨0, (some 103), .move (.tmp 0), 91, .no, [], [0]⟩,
  ⟨1, (some 104), .move (.tmp 0), 91, .no, [], [0]⟩,
  ⟨2, (some 105), .nilCheck (.tmp 104), 0, .no, [1], [104]⟩,
  ⟨3, (some 106), .fieldAddr 93 (.tmp 105) 0, 0, .no, [2], [105]⟩,
  ⟨4, (some 107), .load 9 (.tmp 106), 9, .no, [3], [106]⟩,
  ⟨5, (some 108), .fieldAddr 36 (.tmp 5) 6, 0, .no, [], [5]⟩,
  ⟨6, (some 109), .load 22 (.tmp 108), 22, .no, [5], [108]⟩,
  ⟨7, (some 110), .call ⟨.value (.func 36), #[(.tmp 109)], #[22]⟩, 9, .no, [6], [109]⟩,
  ⟨8, (some 111), .binOp .add 9 (.tmp 107) (.tmp 110) 9, 9, .no, [4, 7], [107, 110]⟩,
  ⟨9, (some 112), .nilCheck (.tmp 103), 0, .no, [0, 0, 1, 2, 3, 4, 5, 6, 7, 8], [103]⟩,
  ⟨10, (some 113), .fieldAddr 93 (.tmp 112) 0, 0, .no, [9, 0, 1, 2, 3, 4, 5, 6, 7, 8], [112]⟩,
  ⟨11, none, .store 9 (.tmp 113) (.tmp 111), 0, .no, [10, 8, 7, 0, 1, 2, 3, 4, 5, 6, 7, 8], [113, 111]⟩]))
  (.seq (.seq (.reg [⟨(some 115), .binOp .eql 9 (.tmp 32) (.const (.string ⟨⟨[100, 101, 108, 105, 118, 101, 114]⟩⟩)) 9, 4, .no⟩,
  ⟨(some 114), .assign (.tmp 115), 4, .no⟩])
  (.cond (.tmp 114) .skip
  (.seq (.reg [⟨(some 116), .binOp .eql 9 (.tmp 32) (.const (.string ⟨⟨[100, 114, 111, 112]⟩⟩)) 9, 4, .no⟩,
  ⟨(some 114), .assign (.tmp 116), 4, .no⟩])
  (.cond (.tmp 114) .skip
  (.reg [⟨(some 117), .binOp .eql 9 (.tmp 32) (.const (.string ⟨⟨[100, 111, 117, 98, 108, 101]⟩⟩)) 9, 4, .no⟩,
  ⟨(some 114), .assign (.tmp 117), 4, .no⟩])))))
  (.cond (.tmp 114) (.seq (.reg [⟨(some 118), .move (.tmp 0), 91, .no⟩,
  ⟨(some 119), .fieldAddr 36 (.tmp 5) 8, 0, .no⟩,
  ⟨(some 120), .load 3 (.tmp 119), 3, .no⟩,
  ⟨(some 121), .call ⟨.value (.func 69), #[(.tmp 118), (.tmp 120)], #[91, 3]⟩, 0, .no⟩])
  (.reg [⟨(some 122), .move (.tmp 0), 91, .no⟩,
  ⟨(some 123), .fieldAddr 36 (.tmp 5) 9, 0, .no⟩,
  ⟨(some 124), .load 3 (.tmp 123), 3, .no⟩,
  ⟨(some 125), .call ⟨.value (.func 35), #[(.tmp 122), (.tmp 124)], #[91, 3]⟩, 0, .no⟩]))
  (.seq (.reg [⟨(some 127), .binOp .eql 9 (.tmp 32) (.const (.string ⟨⟨[116, 117, 114, 110]⟩⟩)) 9, 4, .no⟩,
  ⟨(some 126), .assign (.tmp 127), 4, .no⟩])
  (.cond (.tmp 126) (.seq (.reg [⟨(some 128), .move (.tmp 0), 91, .no⟩,
  ⟨(some 129), .fieldAddr 36 (.tmp 5) 8, 0, .no⟩,
  ⟨(some 130), .load 3 (.tmp 129), 3, .no⟩,
  ⟨(some 131), .call ⟨.value (.func 69), #[(.tmp 128), (.tmp 130)], #[91, 3]⟩, 0, .no⟩])
  (.seq (.reg [⟨(some 132), .move (.tmp 0), 91, .no⟩,
  ⟨(some 133), .fieldAddr 36 (.tmp 5) 9, 0, .no⟩,
  ⟨(some 134), .load 3 (.tmp 133), 3, .no⟩,
  ⟨(some 135), .call ⟨.value (.func 35), #[(.tmp 132), (.tmp 134)], #[91, 3]⟩, 0, .no⟩])
  (.seq (.reg [⟨(some 136), .move (.tmp 0), 91, .no⟩,
  ⟨(some 137), .fieldAddr 36 (.tmp 5) 10, 0, .no⟩,
  ⟨(some 138), .load 3 (.tmp 137), 3, .no⟩,
  ⟨(some 139), .call ⟨.value (.func 35), #[(.tmp 136), (.tmp 138)], #[91, 3]⟩, 0, .no⟩])
  (.drw [⟨0, (some 140), .move (.tmp 0), 91, .no, [], [0]⟩,
  ⟨1, (some 141), .move (.tmp 0), 91, .no, [], [0]⟩,
  ⟨2, (some 142), .nilCheck (.tmp 141), 0, .no, [1], [141]⟩,
  ⟨3, (some 143), .fieldAddr 93 (.tmp 142) 0, 0, .no, [2], [142]⟩,
  ⟨4, (some 144), .load 9 (.tmp 143), 9, .no, [3], [143]⟩,
  ⟨5, (some 145), .fieldAddr 36 (.tmp 5) 11, 0, .no, [], [5]⟩,
  ⟨6, (some 146), .load 33 (.tmp 145), 33, .no, [5], [145]⟩,
  ⟨7, (some 147), .convert 33 22 (.tmp 146), 22, .no, [6], [146]⟩,
  ⟨8, (some 148), .call ⟨.value (.func 36), #[(.tmp 147)], #[22]⟩, 9, .no, [7], [147]⟩,
  ⟨9, (some 149), .binOp .add 9 (.tmp 144) (.tmp 148) 9, 9, .no, [4, 8], [144, 148]⟩,
  ⟨10, (some 150), .nilCheck (.tmp 140), 0, .no, [0, 0, 1, 2, 3, 4, 5, 6, 7, 8, 9], [140]⟩,
  ⟨11, (some 151), .fieldAddr 93 (.tmp 150) 0, 0, .no, [10, 0, 1, 2, 3, 4, 5, 6, 7, 8, 9], [150]⟩,
  ⟨12, none, .store 9 (.tmp 151) (.tmp 149), 0, .no, [11, 9, 8, 0, 1, 2, 3, 4, 5, 6, 7, 8, 9], [151, 149]⟩]))))
  (.seq (.reg [⟨(some 153), .binOp .eql 9 (.tmp 32) (.const (.string ⟨⟨[99, 117, 116]⟩⟩)) 9, 4, .no⟩,
  ⟨(some 152), .assign (.tmp 153), 4, .no⟩])
  (.cond (.tmp 152) (.reg [⟨(some 154), .move (.tmp 0), 91, .no⟩,
  ⟨(some 155), .fieldAddr 36 (.tmp 5) 10, 0, .no⟩,
  ⟨(some 156), .load 3 (.tmp 155), 3, .no⟩,
  ⟨(some 157), .call ⟨.value (.func 35), #[(.tmp 154), (.tmp 156)], #[91, 3]⟩, 0, .no⟩])
  (.seq (.reg [⟨(some 159), .binOp .eql 9 (.tmp 32) (.const (.string ⟨⟨[99, 114, 97, 115, 104]⟩⟩)) 9, 4, .no⟩,
  ⟨(some 158), .assign (.tmp 159), 4, .no⟩])
  (.cond (.tmp 158) (.seq (.reg [⟨(some 6), .assign (.const (.int .i64 0)), 3, .no⟩])
  (.block 1 (.loop (.seq (.seq (.reg [⟨(some 160), .move (.tmp 6), 3, .no⟩,
  ⟨(some 161), .fieldAddr 36 (.tmp 5) 13, 0, .no⟩,
  ⟨(some 162), .load 34 (.tmp 161), 34, .no⟩,
  ⟨(some 163), .call ⟨.builtin .len, #[(.tmp 162)], #[34]⟩, 3, .no⟩,
  ⟨(some 164), .binOp .lss 3 (.tmp 160) (.tmp 163) 3, 4, .no⟩])
  (.cond (.tmp 164) .skip
  (.exit 1)))
  (.seq (.block 2 (.reg [⟨(some 167), .move (.tmp 0), 91, .no⟩,
  ⟨(some 168), .fieldAddr 36 (.tmp 5) 13, 0, .no⟩,
  ⟨(some 169), .load 34 (.tmp 168), 34, .no⟩,
  ⟨(some 170), .move (.tmp 6), 3, .no⟩,
  ⟨(some 171), .indexAddr 34 (.tmp 169) (.tmp 170), 0, .no⟩,
  ⟨(some 172), .load 3 (.tmp 171), 3, .no⟩,
  ⟨(some 173), .call ⟨.value (.func 35), #[(.tmp 167), (.tmp 172)], #[91, 3]⟩, 0, .no⟩]))
  (.reg [⟨(some 165), .move (.tmp 6), 3, .no⟩,
  ⟨(some 166), .binOp .add 3 (.tmp 165) (.const (.int .i64 1)) 3, 3, .no⟩,
  ⟨(some 6), .assign (.tmp 166), 3, .no⟩]))))))
  (.seq (.seq (.reg [⟨(some 175), .binOp .eql 9 (.tmp 32) (.const (.string ⟨⟨[99, 108, 111, 115, 101]⟩⟩)) 9, 4, .no⟩,
  ⟨(some 174), .assign (.tmp 175), 4, .no⟩])
  (.cond (.tmp 174) .skip
  (.seq (.reg [⟨(some 176), .binOp .eql 9 (.tmp 32) (.const (.string ⟨⟨[110, 101, 120, 116]⟩⟩)) 9, 4, .no⟩,
  ⟨(some 174), .assign (.tmp 176), 4, .no⟩])
  (.cond (.tmp 174) .skip
  (.seq (.reg [⟨(some 177), .binOp .eql 9 (.tmp 32) (.const (.string ⟨⟨[112, 114, 101, 118]⟩⟩)) 9, 4, .no⟩,
  ⟨(some 174), .assign (.tmp 177), 4, .no⟩])
  (.cond (.tmp 174) .skip
  (.reg [⟨(some 178), .binOp .eql 9 (.tmp 32) (.const (.string ⟨⟨[114, 101, 119, 105, 110, 100]⟩⟩)) 9, 4, .no⟩,
  ⟨(some 174), .assign (.tmp 178), 4, .no⟩])))))))
  (.cond (.tmp 174) (.reg [⟨(some 179), .move (.tmp 0), 91, .no⟩,
  ⟨(some 180), .fieldAddr 36 (.tmp 5) 14, 0, .no⟩,
  ⟨(some 181), .load 3 (.tmp 180), 3, .no⟩,
  ⟨(some 182), .call ⟨.value (.func 35), #[(.tmp 179), (.tmp 181)], #[91, 3]⟩, 0, .no⟩])
  (.seq (.reg [⟨(some 184), .binOp .eql 9 (.tmp 32) (.const (.string ⟨⟨[115, 101, 101, 107]⟩⟩)) 9, 4, .no⟩,
  ⟨(some 183), .assign (.tmp 184), 4, .no⟩])
  (.cond (.tmp 183) (.seq (.reg [⟨(some 185), .move (.tmp 0), 91, .no⟩,
  ⟨(some 186), .fieldAddr 36 (.tmp 5) 14, 0, .no⟩,
  ⟨(some 187), .load 3 (.tmp 186), 3, .no⟩,
  ⟨(some 188), .call ⟨.value (.func 35), #[(.tmp 185), (.tmp 187)], #[91, 3]⟩, 0, .no⟩])
  (.drw [⟨0, (some 189), .move (.tmp 0), 91, .no, [], [0]⟩,
  ⟨1, (some 190), .move (.tmp 0), 91, .no, [], [0]⟩,
  ⟨2, (some 191), .nilCheck (.tmp 190), 0, .no, [1], [190]⟩,
  ⟨3, (some 192), .fieldAddr 93 (.tmp 191) 0, 0, .no, [2], [191]⟩,
  ⟨4, (some 193), .load 9 (.tmp 192), 9, .no, [3], [192]⟩,
  ⟨5, (some 194), .fieldAddr 36 (.tmp 5) 3, 0, .no, [], [5]⟩,
  ⟨6, (some 195), .load 22 (.tmp 194), 22, .no, [5], [194]⟩,
  ⟨7, (some 196), .call ⟨.value (.func 36), #[(.tmp 195)], #[22]⟩, 9, .no, [6], [195]⟩,
  ⟨8, (some 197), .binOp .add 9 (.tmp 193) (.tmp 196) 9, 9, .no, [4, 7], [193, 196]⟩,
  ⟨9, (some 198), .nilCheck (.tmp 189), 0, .no, [0, 0, 1, 2, 3, 4, 5, 6, 7, 8], [189]⟩,
  ⟨10, (some 199), .fieldAddr 93 (.tmp 198) 0, 0, .no, [9, 0, 1, 2, 3, 4, 5, 6, 7, 8], [198]⟩,
  ⟨11, none, .store 9 (.tmp 199) (.tmp 197), 0, .no, [10, 8, 7, 0, 1, 2, 3, 4, 5, 6, 7, 8], [199, 197]⟩]))
  (.seq (.reg [⟨(some 201), .binOp .eql 9 (.tmp 32) (.const (.string ⟨⟨[103, 97, 112, 115]⟩⟩)) 9, 4, .no⟩,
  ⟨(some 200), .assign (.tmp 201), 4, .no⟩])
  (.cond (.tmp 200) (.seq (.reg [⟨(some 202), .move (.tmp 0), 91, .no⟩,
  ⟨(some 203), .fieldAddr 36 (.tmp 5) 2, 0, .no⟩,
  ⟨(some 204), .load 3 (.tmp 203), 3, .no⟩,
  ⟨(some 205), .call ⟨.value (.func 35), #[(.tmp 202), (.tmp 204)], #[91, 3]⟩, 0, .no⟩])
  (.drw [⟨0, (some 206), .move (.tmp 0), 91, .no, [], [0]⟩,
  ⟨1, (some 207), .move (.tmp 0), 91, .no, [], [0]⟩,
  ⟨2, (some 208), .nilCheck (.tmp 207), 0, .no, [1], [207]⟩,
  ⟨3, (some 209), .fieldAddr 93 (.tmp 208) 0, 0, .no, [2], [208]⟩,
  ⟨4, (some 210), .load 9 (.tmp 209), 9, .no, [3], [209]⟩,
  ⟨5, (some 211), .fieldAddr 36 (.tmp 5) 3, 0, .no, [], [5]⟩,
  ⟨6, (some 212), .load 22 (.tmp 211), 22, .no, [5], [211]⟩,
  ⟨7, (some 213), .call ⟨.value (.func 36), #[(.tmp 212)], #[22]⟩, 9, .no, [6], [212]⟩,
  ⟨8, (some 214), .binOp .add 9 (.tmp 210) (.tmp 213) 9, 9, .no, [4, 7], [210, 213]⟩,
  ⟨9, (some 215), .fieldAddr 36 (.tmp 5) 15, 0, .no, [], [5]⟩,
  ⟨10, (some 216), .load 22 (.tmp 215), 22, .no, [9], [215]⟩,
  ⟨11, (some 217), .call ⟨.value (.func 36), #[(.tmp 216)], #[22]⟩, 9, .no, [10, 7], [216]⟩,
  ⟨12, (some 218), .binOp .add 9 (.tmp 214) (.tmp 217) 9, 9, .no, [8, 11], [214, 217]⟩,
  ⟨13, (some 219), .nilCheck (.tmp 206), 0, .no, [0, 0, 1, 2, 3, 4, 5, 6, 7, 8, 9, 10, 11, 12], [206]⟩,
  ⟨14, (some 220), .fieldAddr 93 (.tmp 219) 0, 0, .no, [13, 0, 1, 2, 3, 4, 5, 6, 7, 8, 9, 10, 11, 12], [219]⟩,
  ⟨15, none, .store 9 (.tmp 220) (.tmp 218), 0, .no, [14, 12, 11, 0, 1, 2, 3, 4, 5, 6, 7, 8, 9, 10, 11, 12], [220, 218]⟩]))
  .skip))))))))))))))))))))))))))
  (.reg [⟨(some 221), .move (.tmp 0), 91, .no⟩,
  ⟨(some 222), .move (.tmp 0), 91, .no⟩,
  ⟨(some 223), .nilCheck (.tmp 222), 0, .no⟩,
  ⟨(some 224), .fieldAddr 93 (.tmp 223) 0, 0, .no⟩,
  ⟨(some 225), .load 9 (.tmp 224), 9, .no⟩,
  ⟨(some 226), .binOp .add 9 (.tmp 225) (.const (.string ⟨⟨[10]⟩⟩)) 9, 9, .no⟩,
  ⟨(some 227), .nilCheck (.tmp 221), 0, .no⟩,
  ⟨(some 228), .fieldAddr 93 (.tmp 227) 0, 0, .no⟩,
  ⟨none, .store 9 (.tmp 228) (.tmp 226), 0, .no⟩])))))
theorem e37 : (Tryz.f37.body.map strip) = some s37 := by kernel_rfl
noncomputable def s38 : SCode := (.seq (.reg [⟨(some 2), .box 36 (.tmp 0), 0, .no⟩,
  ⟨(some 3), .box 36 (.tmp 1), 0, .no⟩,
  ⟨(some 4), .assign (.const (.bool false)), 4, .no⟩])
  (.seq (.seq (.reg [⟨(some 6), .fieldAddr 36 (.tmp 2) 0, 0, .no⟩,
  ⟨(some 7), .load 3 (.tmp 6), 3, .no⟩,
  ⟨(some 8), .fieldAddr 36 (.tmp 3) 0, 0, .no⟩,
  ⟨(some 9), .load 3 (.tmp 8), 3, .no⟩,
  ⟨(some 10), .binOp .neq 3 (.tmp 7) (.tmp 9) 3, 4, .no⟩,
  ⟨(some 11), .move (.tmp 10), 4, .no⟩,
  ⟨(some 12), .fieldAddr 36 (.tmp 2) 1, 0, (.on 11 false)⟩,
  ⟨(some 13), .load 3 (.tmp 12), 3, (.on 11 false)⟩,
  ⟨(some 14), .fieldAddr 36 (.tmp 3) 1, 0, (.on 11 false)⟩,
  ⟨(some 15), .load 3 (.tmp 14), 3, (.on 11 false)⟩,
  ⟨(some 16), .binOp .neq 3 (.tmp 13) (.tmp 15) 3, 4, (.on 11 false)⟩,
  ⟨(some 17), .pick (.tmp 11) (.const (.bool true)) (.tmp 16), 4, .no⟩,
  ⟨(some 18), .move (.tmp 17), 4, .no⟩,
  ⟨(some 19), .fieldAddr 36 (.tmp 2) 2, 0, (.on 18 false)⟩,
  ⟨(some 20), .load 3 (.tmp 19), 3, (.on 18 false)⟩,
  ⟨(some 21), .fieldAddr 36 (.tmp 3) 2, 0, (.on 18 false)⟩,
  ⟨(some 22), .load 3 (.tmp 21), 3, (.on 18 false)⟩,
  ⟨(some 23), .binOp .neq 3 (.tmp 20) (.tmp 22) 3, 4, (.on 18 false)⟩,
  ⟨(some 24), .pick (.tmp 18) (.const (.bool true)) (.tmp 23), 4, .no⟩,
  ⟨(some 25), .move (.tmp 24), 4, .no⟩,
  ⟨(some 26), .fieldAddr 36 (.tmp 2) 3, 0, (.on 25 false)⟩,
  ⟨(some 27), .load 22 (.tmp 26), 22, (.on 25 false)⟩,
  ⟨(some 28), .fieldAddr 36 (.tmp 3) 3, 0, (.on 25 false)⟩,
  ⟨(some 29), .load 22 (.tmp 28), 22, (.on 25 false)⟩,
  ⟨(some 30), .binOp .neq 22 (.tmp 27) (.tmp 29) 22, 4, (.on 25 false)⟩,
  ⟨(some 31), .pick (.tmp 25) (.const (.bool true)) (.tmp 30), 4, .no⟩,
  ⟨(some 32), .move (.tmp 31), 4, .no⟩,
  ⟨(some 33), .fieldAddr 36 (.tmp 2) 4, 0, (.on 32 false)⟩,
  ⟨(some 34), .load 22 (.tmp 33), 22, (.on 32 false)⟩,
  ⟨(some 35), .fieldAddr 36 (.tmp 3) 4, 0, (.on 32 false)⟩,
  ⟨(some 36), .load 22 (.tmp 35), 22, (.on 32 false)⟩,
  ⟨(some 37), .binOp .neq 22 (.tmp 34) (.tmp 36) 22, 4, (.on 32 false)⟩,
  ⟨(some 38), .pick (.tmp 32) (.const (.bool true)) (.tmp 37), 4, .no⟩,
  ⟨(some 39), .move (.tmp 38), 4, .no⟩,
  ⟨(some 40), .fieldAddr 36 (.tmp 2) 5, 0, (.on 39 false)⟩,
  ⟨(some 41), .load 29 (.tmp 40), 29, (.on 39 false)⟩,
  ⟨(some 42), .convert 29 9 (.tmp 41), 9, (.on 39 false)⟩,
  ⟨(some 43), .fieldAddr 36 (.tmp 3) 5, 0, (.on 39 false)⟩,
  ⟨(some 44), .load 29 (.tmp 43), 29, (.on 39 false)⟩,
  ⟨(some 45), .convert 29 9 (.tmp 44), 9, (.on 39 false)⟩,
  ⟨(some 46), .binOp .neq 9 (.tmp 42) (.tmp 45) 9, 4, (.on 39 false)⟩,
  ⟨(some 47), .pick (.tmp 39) (.const (.bool true)) (.tmp 46), 4, .no⟩,
  ⟨(some 48), .move (.tmp 47), 4, .no⟩,
  ⟨(some 49), .fieldAddr 36 (.tmp 2) 6, 0, (.on 48 false)⟩,
  ⟨(some 50), .load 22 (.tmp 49), 22, (.on 48 false)⟩,
  ⟨(some 51), .fieldAddr 36 (.tmp 3) 6, 0, (.on 48 false)⟩,
  ⟨(some 52), .load 22 (.tmp 51), 22, (.on 48 false)⟩,
  ⟨(some 53), .binOp .neq 22 (.tmp 50) (.tmp 52) 22, 4, (.on 48 false)⟩,
  ⟨(some 54), .pick (.tmp 48) (.const (.bool true)) (.tmp 53), 4, .no⟩,
  ⟨(some 55), .move (.tmp 54), 4, .no⟩,
  ⟨(some 56), .fieldAddr 36 (.tmp 2) 7, 0, (.on 55 false)⟩,
  ⟨(some 57), .load 32 (.tmp 56), 32, (.on 55 false)⟩,
  ⟨(some 58), .fieldAddr 36 (.tmp 3) 7, 0, (.on 55 false)⟩,
  ⟨(some 59), .load 32 (.tmp 58), 32, (.on 55 false)⟩,
  ⟨(some 60), .binOp .neq 32 (.tmp 57) (.tmp 59) 32, 4, (.on 55 false)⟩,
  ⟨(some 61), .pick (.tmp 55) (.const (.bool true)) (.tmp 60), 4, .no⟩])
  (.cond (.tmp 61) (.seq (.reg [⟨(some 4), .assign (.const (.bool false)), 4, .no⟩])
  .ret)
  .skip))
  (.seq (.seq (.reg [⟨(some 62), .fieldAddr 36 (.tmp 2) 8, 0, .no⟩,
  ⟨(some 63), .load 3 (.tmp 62), 3, .no⟩,
  ⟨(some 64), .fieldAddr 36 (.tmp 3) 8, 0, .no⟩,
  ⟨(some 65), .load 3 (.tmp 64), 3, .no⟩,
  ⟨(some 66), .binOp .neq 3 (.tmp 63) (.tmp 65) 3, 4, .no⟩,
  ⟨(some 67), .move (.tmp 66), 4, .no⟩,
  ⟨(some 68), .fieldAddr 36 (.tmp 2) 9, 0, (.on 67 false)⟩,
  ⟨(some 69), .load 3 (.tmp 68), 3, (.on 67 false)⟩,
  ⟨(some 70), .fieldAddr 36 (.tmp 3) 9, 0, (.on 67 false)⟩,
  ⟨(some 71), .load 3 (.tmp 70), 3, (.on 67 false)⟩,
  ⟨(some 72), .binOp .neq 3 (.tmp 69) (.tmp 71) 3, 4, (.on 67 false)⟩,
  ⟨(some 73), .pick (.tmp 67) (.const (.bool true)) (.tmp 72), 4, .no⟩,
  ⟨(some 74), .move (.tmp 73), 4, .no⟩,
  ⟨(some 75), .fieldAddr 36 (.tmp 2) 10, 0, (.on 74 false)⟩,
  ⟨(some 76), .load 3 (.tmp 75), 3, (.on 74 false)⟩,
  ⟨(some 77), .fieldAddr 36 (.tmp 3) 10, 0, (.on 74 false)⟩,
  ⟨(some 78), .load 3 (.tmp 77), 3, (.on 74 false)⟩,
  ⟨(some 79), .binOp .neq 3 (.tmp 76) (.tmp 78) 3, 4, (.on 74 false)⟩,
  ⟨(some 80), .pick (.tmp 74) (.const (.bool true)) (.tmp 79), 4, .no⟩,
  ⟨(some 81), .move (.tmp 80), 4, .no⟩,
  ⟨(some 82), .fieldAddr 36 (.tmp 2) 11, 0, (.on 81 false)⟩,
  ⟨(some 83), .load 33 (.tmp 82), 33, (.on 81 false)⟩,
  ⟨(some 84), .fieldAddr 36 (.tmp 3) 11, 0, (.on 81 false)⟩,
  ⟨(some 85), .load 33 (.tmp 84), 33, (.on 81 false)⟩,
  ⟨(some 86), .binOp .neq 33 (.tmp 83) (.tmp 85) 33, 4, (.on 81 false)⟩,
  ⟨(some 87), .pick (.tmp 81) (.const (.bool true)) (.tmp 86), 4, .no⟩,
  ⟨(some 88), .move (.tmp 87), 4, .no⟩,
  ⟨(some 89), .fieldAddr 36 (.tmp 2) 12, 0, (.on 88 false)⟩,
  ⟨(some 90), .load 22 (.tmp 89), 22, (.on 88 false)⟩,
  ⟨(some 91), .fieldAddr 36 (.tmp 3) 12, 0, (.on 88 false)⟩,
  ⟨(some 92), .load 22 (.tmp 91), 22, (.on 88 false)⟩,
  ⟨(some 93), .binOp .neq 22 (.tmp 90) (.tmp 92) 22, 4, (.on 88 false)⟩,
  ⟨(some 94), .pick (.tmp 88) (.const (.bool true)) (.tmp 93), 4, .no⟩,
  ⟨(some 95), .move (.tmp 94), 4, .no⟩,
  ⟨(some 96), .fieldAddr 36 (.tmp 2) 14, 0, (.on 95 false)⟩,
  ⟨(some 97), .load 3 (.tmp 96), 3, (.on 95 false)⟩,
  ⟨(some 98), .fieldAddr 36 (.tmp 3) 14, 0, (.on 95 false)⟩,
  ⟨(some 99), .load 3 (.tmp 98), 3, (.on 95 false)⟩,
  ⟨(some 100), .binOp .neq 3 (.tmp 97) (.tmp 99) 3, 4, (.on 95 false)⟩,
  ⟨(some 101), .pick (.tmp 95) (.const (.bool true)) (.tmp 100), 4, .no⟩,
  ⟨(some 102), .move (.tmp 101), 4, .no⟩,
  ⟨(some 103), .fieldAddr 36 (.tmp 2) 15, 0, (.on 102 false)⟩,
  ⟨(some 104), .load 22 (.tmp 103), 22, (.on 102 false)⟩,
  ⟨(some 105), .fieldAddr 36 (.tmp 3) 15, 0, (.on 102 false)⟩,
  ⟨(some 106), .load 22 (.tmp 105), 22, (.on 102 false)⟩,
  ⟨(some 107), .binOp .neq 22 (.tmp 104) (.tmp 106) 22, 4, (.on 102 false)⟩,
  ⟨(some 108), .pick (.tmp 102) (.const (.bool true)) (.tmp 107), 4, .no⟩,
  ⟨(some 109), .move (.tmp 108), 4, .no⟩,
  ⟨(some 110), .fieldAddr 36 (.tmp 2) 13, 0, (.on 109 false)⟩,
  ⟨(some 111), .load 34 (.tmp 110), 34, (.on 109 false)⟩,
  ⟨(some 112), .call ⟨.builtin .len, #[(.tmp 111)], #[34]⟩, 3, (.on 109 false)⟩,
  ⟨(some 113), .fieldAddr 36 (.tmp 3) 13, 0, (.on 109 false)⟩,
  ⟨(some 114), .load 34 (.tmp 113), 34, (.on 109 false)⟩,
  ⟨(some 115), .call ⟨.builtin .len, #[(.tmp 114)], #[34]⟩, 3, (.on 109 false)⟩,
  ⟨(some 116), .binOp .neq 3 (.tmp 112) (.tmp 115) 3, 4, (.on 109 false)⟩,
  ⟨(some 117), .pick (.tmp 109) (.const (.bool true)) (.tmp 116), 4, .no⟩])
  (.cond (.tmp 117) (.seq (.reg [⟨(some 4), .assign (.const (.bool false)), 4, .no⟩])
  .ret)
  .skip))
  (.seq (.seq (.reg [⟨(some 5), .assign (.const (.int .i64 0)), 3, .no⟩])
  (.block 0 (.loop (.seq (.seq (.reg [⟨(some 118), .move (.tmp 5), 3, .no⟩,
  ⟨(some 119), .fieldAddr 36 (.tmp 2) 13, 0, .no⟩,
  ⟨(some 120), .load 34 (.tmp 119), 34, .no⟩,
  ⟨(some 121), .call ⟨.builtin .len, #[(.tmp 120)], #[34]⟩, 3, .no⟩,
  ⟨(some 122), .binOp .lss 3 (.tmp 118) (.tmp 121) 3, 4, .no⟩])
  (.cond (.tmp 122) .skip
  (.exit 0)))
  (.seq (.block 1 (.seq (.drw [⟨0, (some 125), .fieldAddr 36 (.tmp 2) 13, 0, .no, [], [2]⟩,
  ⟨1, (some 126), .load 34 (.tmp 125), 34, .no, [0], [125]⟩,
  ⟨2, (some 127), .move (.tmp 5), 3, .no, [], [5]⟩,
  ⟨3, (some 128), .indexAddr 34 (.tmp 126) (.tmp 127), 0, .no, [1, 2], [126, 127]⟩,
  ⟨4, (some 129), .load 3 (.tmp 128), 3, .no, [3], [128]⟩,
  ⟨5, (some 130), .fieldAddr 36 (.tmp 3) 13, 0, .no, [], [3]⟩,
  ⟨6, (some 131), .load 34 (.tmp 130), 34, .no, [5], [130]⟩,
  ⟨7, (some 132), .move (.tmp 5), 3, .no, [], [5]⟩,
  ⟨8, (some 133), .indexAddr 34 (.tmp 131) (.tmp 132), 0, .no, [6, 7], [131, 132]⟩,
  ⟨9, (some 134), .load 3 (.tmp 133), 3, .no, [8], [133]⟩,
  ⟨10, (some 135), .binOp .neq 3 (.tmp 129) (.tmp 134) 3, 4, .no, [4, 9], [129, 134]⟩])
  (.cond (.tmp 135) (.seq (.reg [⟨(some 4), .assign (.const (.bool false)), 4, .no⟩])
  .ret)
  .skip)))
  (.reg [⟨(some 123), .move (.tmp 5), 3, .no⟩,
  ⟨(some 124), .binOp .add 3 (.tmp 123) (.const (.int .i64 1)) 3, 3, .no⟩,
  ⟨(some 5), .assign (.tmp 124), 3, .no⟩]))))))
  (.seq (.reg [⟨(some 4), .assign (.const (.bool true)), 4, .no⟩])
  .ret)))))
theorem e38 : (Tryz.f38.body.map strip) = some s38 := by kernel_rfl
noncomputable def s45 : SCode := (.seq (.reg [⟨(some 2), .assign (.const (.bool false)), 4, .no⟩])
  (.seq (.reg [⟨(some 3), .move (.tmp 0), 3, .no⟩,
  ⟨(some 4), .binOp .geq 3 (.tmp 3) (.const (.int .i64 9)) 3, 4, .no⟩,
  ⟨(some 5), .move (.tmp 4), 4, .no⟩,
  ⟨(some 6), .move (.tmp 0), 3, (.on 5 true)⟩,
  ⟨(some 7), .binOp .leq 3 (.tmp 6) (.const (.int .i64 12)) 3, 4, (.on 5 true)⟩,
  ⟨(some 8), .pick (.tmp 5) (.tmp 7) (.const (.bool false)), 4, .no⟩,
  ⟨(some 2), .assign (.tmp 8), 4, .no⟩])
  .ret))
theorem e45 : (Tryz.f45.body.map strip) = some s45 := by kernel_rfl
noncomputable def s46 : SCode := (.seq (.reg [⟨(some 2), .move (.tmp 0), 63, .no⟩,
  ⟨(some 3), .nilCheck (.tmp 2), 0, .no⟩,
  ⟨(some 4), .fieldAddr 65 (.tmp 3) 0, 0, .no⟩,
  ⟨(some 5), .load 63 (.tmp 4), 63, .no⟩,
  ⟨(some 6), .binOp .eql 63 (.tmp 5) (.const (.pointer none)) 63, 4, .no⟩])
  (.cond (.tmp 6) (.reg [⟨(some 7), .move (.tmp 0), 63, .no⟩,
  ⟨(some 8), .move (.tmp 0), 63, .no⟩,
  ⟨(some 9), .convert 63 145 (.tmp 8), 145, .no⟩,
  ⟨(some 10), .call ⟨.value (.func 80), #[(.tmp 9)], #[145]⟩, 145, .no⟩,
  ⟨(some 11), .convert 145 63 (.tmp 10), 63, .no⟩,
  ⟨(some 12), .nilCheck (.tmp 7), 0, .no⟩,
  ⟨(some 13), .fieldAddr 65 (.tmp 12) 0, 0, .no⟩,
  ⟨none, .store 63 (.tmp 13) (.tmp 11), 0, .no⟩])
  (.seq (.reg [⟨(some 14), .move (.tmp 0), 63, .no⟩,
  ⟨(some 15), .nilCheck (.tmp 14), 0, .no⟩,
  ⟨(some 16), .fieldAddr 65 (.tmp 15) 0, 0, .no⟩,
  ⟨(some 17), .load 63 (.tmp 16), 63, .no⟩,
  ⟨(some 18), .move (.tmp 0), 63, .no⟩,
  ⟨(some 19), .binOp .neq 63 (.tmp 17) (.tmp 18) 63, 4, .no⟩])
  (.cond (.tmp 19) (.other (.refuse "(*strings.Builder).copyCheck builder.go:41: unsupported: a written strings.Builder's value in another place: whether the library's copy check passes hangs on where the compiler lays the two"))
  .skip))))
theorem e46 : (Tryz.f46.body.map strip) = some s46 := by kernel_rfl
noncomputable def s47 : SCode := (.seq (.reg [⟨(some 4), .move (.tmp 0), 62, .no⟩,
  ⟨(some 5), .nilCheck (.tmp 4), 0, .no⟩,
  ⟨(some 6), .fieldAddr 67 (.tmp 5) 0, 0, .no⟩,
  ⟨(some 7), .call ⟨.value (.func 29), #[(.tmp 6), (.const (.int .u8 32))], #[65, 5]⟩, 69, .no⟩])
  (.reg [⟨(some 8), .move (.tmp 0), 62, .no⟩,
  ⟨(some 9), .nilCheck (.tmp 8), 0, .no⟩,
  ⟨(some 10), .fieldAddr 67 (.tmp 9) 0, 0, .no⟩,
  ⟨(some 11), .move (.tmp 1), 9, .no⟩,
  ⟨(some 12), .call ⟨.value (.func 26), #[(.tmp 10), (.tmp 11)], #[65, 9]⟩, 70, .no⟩]))
theorem e47 : (Tryz.f47.body.map strip) = some s47 := by kernel_rfl
noncomputable def s51 : SCode := (.seq (.reg [⟨(some 2), .assign (.const (.pointer none)), 117, .no⟩])
  (.seq (.reg [⟨(some 3), .move (.tmp 0), 116, .no⟩,
  ⟨(some 4), .nilCheck (.tmp 3), 0, .no⟩,
  ⟨(some 5), .fieldAddr 36 (.tmp 4) 7, 0, .no⟩,
  ⟨(some 6), .fieldAddr 32 (.tmp 5) 0, 0, .no⟩,
  ⟨(some 2), .assign (.tmp 6), 117, .no⟩])
  .ret))
theorem e51 : (Tryz.f51.body.map strip) = some s51 := by kernel_rfl
noncomputable def s52 : SCode := (.seq (.reg [⟨(some 2), .assign (.const (.pointer none)), 117, .no⟩])
  (.seq (.reg [⟨(some 3), .move (.tmp 0), 116, .no⟩,
  ⟨(some 4), .nilCheck (.tmp 3), 0, .no⟩,
  ⟨(some 5), .fieldAddr 36 (.tmp 4) 7, 0, .no⟩,
  ⟨(some 6), .fieldAddr 32 (.tmp 5) 1, 0, .no⟩,
  ⟨(some 2), .assign (.tmp 6), 117, .no⟩])
  .ret))
theorem e52 : (Tryz.f52.body.map strip) = some s52 := by kernel_rfl
noncomputable def s54 : SCode := (.seq (.reg [⟨(some 2), .assign (.const (.pointer none)), 120, .no⟩])
  (.seq (.reg [⟨(some 3), .move (.tmp 0), 116, .no⟩,
  ⟨(some 4), .nilCheck (.tmp 3), 0, .no⟩,
  ⟨(some 5), .fieldAddr 36 (.tmp 4) 6, 0, .no⟩,
  ⟨(some 2), .assign (.tmp 5), 120, .no⟩])
  .ret))
theorem e54 : (Tryz.f54.body.map strip) = some s54 := by kernel_rfl
noncomputable def s55 : SCode := (.seq (.reg [⟨(some 2), .assign (.const (.pointer none)), 120, .no⟩])
  (.seq (.reg [⟨(some 3), .move (.tmp 0), 116, .no⟩,
  ⟨(some 4), .nilCheck (.tmp 3), 0, .no⟩,
  ⟨(some 5), .fieldAddr 36 (.tmp 4) 4, 0, .no⟩,
  ⟨(some 2), .assign (.tmp 5), 120, .no⟩])
  .ret))
theorem e55 : (Tryz.f55.body.map strip) = some s55 := by kernel_rfl
noncomputable def s56 : SCode := (.seq (.reg [⟨(some 2), .assign (.const (.pointer none)), 120, .no⟩])
  (.seq (.reg [⟨(some 3), .move (.tmp 0), 116, .no⟩,
  ⟨(some 4), .nilCheck (.tmp 3), 0, .no⟩,
  ⟨(some 5), .fieldAddr 36 (.tmp 4) 15, 0, .no⟩,
  ⟨(some 2), .assign (.tmp 5), 120, .no⟩])
  .ret))
theorem e56 : (Tryz.f56.body.map strip) = some s56 := by kernel_rfl
noncomputable def s57 : SCode := (.seq (.reg [⟨(some 2), .assign (.const (.pointer none)), 120, .no⟩])
  (.seq (.reg [⟨(some 3), .move (.tmp 0), 116, .no⟩,
  ⟨(some 4), .nilCheck (.tmp 3), 0, .no⟩,
  ⟨(some 5), .fieldAddr 36 (.tmp 4) 12, 0, .no⟩,
  ⟨(some 2), .assign (.tmp 5), 120, .no⟩])
  .ret))
theorem e57 : (Tryz.f57.body.map strip) = some s57 := by kernel_rfl
noncomputable def s68 : SCode := (.seq (.reg [⟨(some 2), .assign (.const (.string ⟨⟨[]⟩⟩)), 9, .no⟩])
  (.seq (.reg [⟨(some 6), .buildSlice 29 1 #[(0, (.const (.int .u8 34)))], 29, .no⟩,
  ⟨(some 3), .assign (.tmp 6), 29, .no⟩])
  (.seq (.seq (.reg [⟨(some 4), .assign (.const (.int .i64 0)), 3, .no⟩])
  (.block 0 (.loop (.seq (.seq (.reg [⟨(some 7), .move (.tmp 4), 3, .no⟩,
  ⟨(some 8), .move (.tmp 0), 29, .no⟩,
  ⟨(some 9), .call ⟨.builtin .len, #[(.tmp 8)], #[29]⟩, 3, .no⟩,
  ⟨(some 10), .binOp .lss 3 (.tmp 7) (.tmp 9) 3, 4, .no⟩])
  (.cond (.tmp 10) .skip
  (.exit 0)))
  (.seq (.block 1 (.seq (.reg [⟨(some 13), .move (.tmp 0), 29, .no⟩,
  ⟨(some 14), .move (.tmp 4), 3, .no⟩,
  ⟨(some 15), .indexAddr 29 (.tmp 13) (.tmp 14), 0, .no⟩,
  ⟨(some 16), .load 5 (.tmp 15), 5, .no⟩,
  ⟨(some 5), .assign (.tmp 16), 5, .no⟩])
  (.block 2 (.seq (.reg [⟨(some 22), .move (.tmp 5), 5, .no⟩,
  ⟨(some 23), .binOp .eql 5 (.tmp 22) (.const (.int .u8 34)) 5, 4, .no⟩,
  ⟨(some 24), .move (.tmp 23), 4, .no⟩,
  ⟨(some 25), .move (.tmp 5), 5, (.on 24 false)⟩,
  ⟨(some 26), .binOp .eql 5 (.tmp 25) (.const (.int .u8 92)) 5, 4, (.on 24 false)⟩,
  ⟨(some 27), .pick (.tmp 24) (.const (.bool true)) (.tmp 26), 4, .no⟩,
  ⟨(some 21), .assign (.tmp 27), 4, .no⟩])
  (.cond (.tmp 21) (.reg [⟨(some 28), .move (.tmp 3), 29, .no⟩,
  ⟨(some 29), .move (.tmp 5), 5, .no⟩,
  ⟨(some 30), .buildSlice 29 2 #[(0, (.const (.int .u8 92))), (1, (.tmp 29))], 29, .no⟩,
  ⟨(some 31), .call ⟨.builtin .append, #[(.tmp 28), (.tmp 30)], #[29, 29]⟩, 29, .no⟩,
  ⟨(some 3), .assign (.tmp 31), 29, .no⟩])
  (.seq (.reg [⟨(some 33), .move (.tmp 5), 5, .no⟩,
  ⟨(some 34), .binOp .eql 5 (.tmp 33) (.const (.int .u8 10)) 5, 4, .no⟩,
  ⟨(some 32), .assign (.tmp 34), 4, .no⟩])
  (.cond (.tmp 32) (.reg [⟨(some 35), .move (.tmp 3), 29, .no⟩,
  ⟨(some 36), .buildSlice 29 2 #[(0, (.const (.int .u8 92))), (1, (.const (.int .u8 110)))], 29, .no⟩,
  ⟨(some 37), .call ⟨.builtin .append, #[(.tmp 35), (.tmp 36)], #[29, 29]⟩, 29, .no⟩,
  ⟨(some 3), .assign (.tmp 37), 29, .no⟩])
  (.seq (.reg [⟨(some 39), .move (.tmp 5), 5, .no⟩,
  ⟨(some 40), .binOp .eql 5 (.tmp 39) (.const (.int .u8 9)) 5, 4, .no⟩,
  ⟨(some 38), .assign (.tmp 40), 4, .no⟩])
  (.cond (.tmp 38) (.reg [⟨(some 41), .move (.tmp 3), 29, .no⟩,
  ⟨(some 42), .buildSlice 29 2 #[(0, (.const (.int .u8 92))), (1, (.const (.int .u8 116)))], 29, .no⟩,
  ⟨(some 43), .call ⟨.builtin .append, #[(.tmp 41), (.tmp 42)], #[29, 29]⟩, 29, .no⟩,
  ⟨(some 3), .assign (.tmp 43), 29, .no⟩])
  (.seq (.reg [⟨(some 45), .move (.tmp 5), 5, .no⟩,
  ⟨(some 46), .binOp .lss 5 (.tmp 45) (.const (.int .u8 32)) 5, 4, .no⟩,
  ⟨(some 47), .move (.tmp 46), 4, .no⟩,
  ⟨(some 48), .move (.tmp 5), 5, (.on 47 false)⟩,
  ⟨(some 49), .binOp .gtr 5 (.tmp 48) (.const (.int .u8 126)) 5, 4, (.on 47 false)⟩,
  ⟨(some 50), .pick (.tmp 47) (.const (.bool true)) (.tmp 49), 4, .no⟩,
  ⟨(some 44), .assign (.tmp 50), 4, .no⟩])
  (.cond (.tmp 44) (.drw [⟨0, (some 51), .move (.tmp 3), 29, .no, [], [3]⟩,
  ⟨1, (some 52), .move (.tmp 5), 5, .no, [], [5]⟩,
  ⟨2, (some 53), .binOp .quo 5 (.tmp 52) (.const (.int .u8 16)) 5, 5, .no, [1], [52]⟩,
  ⟨3, (some 54), .index 9 (.const (.string ⟨⟨[48, 49, 50, 51, 52, 53, 54, 55, 56, 57, 97, 98, 99, 100, 101, 102]⟩⟩)) (.tmp 53), 5, .no, [2], [53]⟩,
  ⟨4, (some 55), .move (.tmp 5), 5, .no, [], [5]⟩,
  ⟨5, (some 56), .binOp .rem 5 (.tmp 55) (.const (.int .u8 16)) 5, 5, .no, [4], [55]⟩,
  ⟨6, (some 57), .index 9 (.const (.string ⟨⟨[48, 49, 50, 51, 52, 53, 54, 55, 56, 57, 97, 98, 99, 100, 101, 102]⟩⟩)) (.tmp 56), 5, .no, [5], [56]⟩,
  ⟨7, (some 58), .buildSlice 29 4 #[(0, (.const (.int .u8 92))), (1, (.const (.int .u8 120))), (2, (.tmp 54)), (3, (.tmp 57))], 29, .no, [3, 6], [54, 57]⟩,
  ⟨8, (some 59), .call ⟨.builtin .append, #[(.tmp 51), (.tmp 58)], #[29, 29]⟩, 29, .no, [0, 7], [51, 58]⟩,
  ⟨9, (some 3), .assign (.tmp 59), 29, .no, [8, 8, 0, 1, 2, 3, 4, 5, 6, 7, 8], [59]⟩])
  (.reg [⟨(some 17), .move (.tmp 3), 29, .no⟩,
  ⟨(some 18), .move (.tmp 5), 5, .no⟩,
  ⟨(some 19), .buildSlice 29 1 #[(0, (.tmp 18))], 29, .no⟩,
  ⟨(some 20), .call ⟨.builtin .append, #[(.tmp 17), (.tmp 19)], #[29, 29]⟩, 29, .no⟩,
  ⟨(some 3), .assign (.tmp 20), 29, .no⟩]))))))))))))
  (.reg [⟨(some 11), .move (.tmp 4), 3, .no⟩,
  ⟨(some 12), .binOp .add 3 (.tmp 11) (.const (.int .i64 1)) 3, 3, .no⟩,
  ⟨(some 4), .assign (.tmp 12), 3, .no⟩]))))))
  (.seq (.reg [⟨(some 60), .move (.tmp 3), 29, .no⟩,
  ⟨(some 61), .buildSlice 29 1 #[(0, (.const (.int .u8 34)))], 29, .no⟩,
  ⟨(some 62), .call ⟨.builtin .append, #[(.tmp 60), (.tmp 61)], #[29, 29]⟩, 29, .no⟩,
  ⟨(some 3), .assign (.tmp 62), 29, .no⟩])
  (.seq (.reg [⟨(some 63), .move (.tmp 3), 29, .no⟩,
  ⟨(some 64), .convert 29 9 (.tmp 63), 9, .no⟩,
  ⟨(some 2), .assign (.tmp 64), 9, .no⟩])
  .ret)))))
theorem e68 : (Tryz.f68.body.map strip) = some s68 := by kernel_rfl
noncomputable def s69 : SCode := (.seq (.reg [⟨(some 4), .move (.tmp 1), 3, .no⟩,
  ⟨(some 5), .binOp .eql 3 (.tmp 4) (.const (.int .i64 1)) 3, 4, .no⟩])
  (.cond (.tmp 5) (.reg [⟨(some 6), .move (.tmp 0), 91, .no⟩,
  ⟨(some 7), .move (.tmp 0), 91, .no⟩,
  ⟨(some 8), .nilCheck (.tmp 7), 0, .no⟩,
  ⟨(some 9), .fieldAddr 93 (.tmp 8) 0, 0, .no⟩,
  ⟨(some 10), .load 9 (.tmp 9), 9, .no⟩,
  ⟨(some 11), .binOp .add 9 (.tmp 10) (.const (.string ⟨⟨[32, 101, 120, 112, 114, 101, 115, 115]⟩⟩)) 9, 9, .no⟩,
  ⟨(some 12), .nilCheck (.tmp 6), 0, .no⟩,
  ⟨(some 13), .fieldAddr 93 (.tmp 12) 0, 0, .no⟩,
  ⟨none, .store 9 (.tmp 13) (.tmp 11), 0, .no⟩])
  (.reg [⟨(some 14), .move (.tmp 0), 91, .no⟩,
  ⟨(some 15), .move (.tmp 0), 91, .no⟩,
  ⟨(some 16), .nilCheck (.tmp 15), 0, .no⟩,
  ⟨(some 17), .fieldAddr 93 (.tmp 16) 0, 0, .no⟩,
  ⟨(some 18), .load 9 (.tmp 17), 9, .no⟩,
  ⟨(some 19), .binOp .add 9 (.tmp 18) (.const (.string ⟨⟨[32, 102, 114, 101, 105, 103, 104, 116]⟩⟩)) 9, 9, .no⟩,
  ⟨(some 20), .nilCheck (.tmp 14), 0, .no⟩,
  ⟨(some 21), .fieldAddr 93 (.tmp 20) 0, 0, .no⟩,
  ⟨none, .store 9 (.tmp 21) (.tmp 19), 0, .no⟩])))
theorem e69 : (Tryz.f69.body.map strip) = some s69 := by kernel_rfl
noncomputable def s75 : SCode := (.seq (.reg [⟨(some 2), .move (.tmp 0), 4, .no⟩,
  ⟨(some 3), .unOp .not 4 (.tmp 2), 4, .no⟩])
  (.cond (.tmp 3) (.reg [⟨(some 4), .build 128 #[], 128, .no⟩,
  ⟨(some 5), .makeInterface 128 (.tmp 4), 20, .no⟩,
  ⟨none, .panic (.tmp 5), 0, .no⟩])
  .skip))
theorem e75 : (Tryz.f75.body.map strip) = some s75 := by kernel_rfl
noncomputable def s82 : SCode := (.seq (.reg [⟨(some 2), .assign (.const (.pointer none)), 117, .no⟩])
  (.seq (.reg [⟨(some 3), .move (.tmp 0), 116, .no⟩,
  ⟨(some 4), .nilCheck (.tmp 3), 0, .no⟩,
  ⟨(some 5), .fieldAddr 36 (.tmp 4) 2, 0, .no⟩,
  ⟨(some 2), .assign (.tmp 5), 117, .no⟩])
  .ret))
theorem e82 : (Tryz.f82.body.map strip) = some s82 := by kernel_rfl
noncomputable def s85 : SCode := (.seq (.reg [⟨(some 4), .box 36 (.tmp 1), 0, .no⟩])
  (.reg [⟨(some 5), .move (.tmp 0), 62, .no⟩,
  ⟨(some 6), .load 118 (.tmp 2), 118, .no⟩,
  ⟨(some 7), .call ⟨.value (.tmp 6), #[(.tmp 4)], #[116]⟩, 117, .no⟩,
  ⟨(some 8), .nilCheck (.tmp 7), 0, .no⟩,
  ⟨(some 9), .load 3 (.tmp 8), 3, .no⟩,
  ⟨(some 10), .call ⟨.value (.func 27), #[(.tmp 5), (.tmp 9)], #[62, 3]⟩, 0, .no⟩]))
theorem e85 : (Tryz.f85.body.map strip) = some s85 := by kernel_rfl
noncomputable def s88 : SCode := (.seq (.reg [⟨(some 4), .box 36 (.tmp 1), 0, .no⟩])
  (.reg [⟨(some 5), .move (.tmp 0), 62, .no⟩,
  ⟨(some 6), .load 121 (.tmp 2), 121, .no⟩,
  ⟨(some 7), .call ⟨.value (.tmp 6), #[(.tmp 4)], #[116]⟩, 120, .no⟩,
  ⟨(some 8), .nilCheck (.tmp 7), 0, .no⟩,
  ⟨(some 9), .load 22 (.tmp 8), 22, .no⟩,
  ⟨(some 10), .call ⟨.value (.func 28), #[(.tmp 5), (.tmp 9)], #[62, 22]⟩, 0, .no⟩]))
theorem e88 : (Tryz.f88.body.map strip) = some s88 := by kernel_rfl
noncomputable def s89 : SCode := (.seq (.reg [⟨(some 2), .assign (.const (.pointer none)), 120, .no⟩])
  (.seq (.reg [⟨(some 3), .move (.tmp 0), 116, .no⟩,
  ⟨(some 4), .nilCheck (.tmp 3), 0, .no⟩,
  ⟨(some 5), .fieldAddr 36 (.tmp 4) 3, 0, .no⟩,
  ⟨(some 2), .assign (.tmp 5), 120, .no⟩])
  .ret))
theorem e89 : (Tryz.f89.body.map strip) = some s89 := by kernel_rfl
noncomputable def s92 : SCode := (.seq (.reg [⟨(some 3), .box 36 (.tmp 1), 0, .no⟩])
  (.reg [⟨(some 4), .move (.tmp 0), 62, .no⟩,
  ⟨(some 5), .fieldAddr 36 (.tmp 3) 5, 0, .no⟩,
  ⟨(some 6), .load 29 (.tmp 5), 29, .no⟩,
  ⟨(some 7), .call ⟨.value (.func 93), #[(.tmp 6)], #[29]⟩, 9, .no⟩,
  ⟨(some 8), .call ⟨.value (.func 47), #[(.tmp 4), (.tmp 7)], #[62, 9]⟩, 0, .no⟩]))
theorem e92 : (Tryz.f92.body.map strip) = some s92 := by kernel_rfl
noncomputable def s93 : SCode := (.seq (.reg [⟨(some 2), .assign (.const (.string ⟨⟨[]⟩⟩)), 9, .no⟩])
  (.seq (.reg [⟨(some 3), .alloc 65, 0, .no⟩])
  (.seq (.reg [⟨(some 6), .call ⟨.value (.func 29), #[(.tmp 3), (.const (.int .u8 34))], #[65, 5]⟩, 69, .no⟩])
  (.seq (.seq (.reg [⟨(some 7), .move (.tmp 0), 29, .no⟩,
  ⟨(some 8), .call ⟨.builtin .len, #[(.tmp 7)], #[29]⟩, 3, .no⟩,
  ⟨(some 9), .move (.const (.int .i64 0)), 3, .no⟩])
  (.block 0 (.loop (.seq (.reg [⟨(some 10), .binOp .lss 3 (.tmp 9) (.tmp 8) 3, 0, .no⟩])
  (.seq (.cond (.tmp 10) .skip
  (.exit 0))
  (.seq (.block 1 (.seq (.reg [⟨(some 11), .indexAddr 29 (.tmp 7) (.tmp 9), 0, .no⟩,
  ⟨(some 12), .load 5 (.tmp 11), 5, .no⟩,
  ⟨(some 5), .assign (.tmp 12), 5, .no⟩])
  (.block 2 (.seq (.block 7 (.seq (.block 6 (.seq (.block 5 (.seq (.block 4 (.seq (.block 3 (.seq (.seq (.seq (.reg [⟨(some 14), .move (.tmp 5), 5, .no⟩,
  ⟨(some 15), .binOp .eql 5 (.tmp 14) (.const (.int .u8 34)) 5, 4, .no⟩,
  ⟨(some 16), .move (.tmp 15), 4, .no⟩,
  ⟨(some 17), .move (.tmp 5), 5, (.on 16 false)⟩,
  ⟨(some 18), .binOp .eql 5 (.tmp 17) (.const (.int .u8 92)) 5, 4, (.on 16 false)⟩,
  ⟨(some 19), .pick (.tmp 16) (.const (.bool true)) (.tmp 18), 4, .no⟩,
  ⟨(some 13), .assign (.tmp 19), 4, .no⟩])
  (.cond (.tmp 13) (.exit 3)
  .skip))
  (.seq (.seq (.reg [⟨(some 21), .move (.tmp 5), 5, .no⟩,
  ⟨(some 22), .binOp .geq 5 (.tmp 21) (.const (.int .u8 32)) 5, 4, .no⟩,
  ⟨(some 23), .move (.tmp 22), 4, .no⟩,
  ⟨(some 24), .move (.tmp 5), 5, (.on 23 true)⟩,
  ⟨(some 25), .binOp .leq 5 (.tmp 24) (.const (.int .u8 126)) 5, 4, (.on 23 true)⟩,
  ⟨(some 26), .pick (.tmp 23) (.tmp 25) (.const (.bool false)), 4, .no⟩,
  ⟨(some 20), .assign (.tmp 26), 4, .no⟩])
  (.cond (.tmp 20) (.exit 4)
  .skip))
  (.seq (.seq (.reg [⟨(some 28), .move (.tmp 5), 5, .no⟩,
  ⟨(some 29), .binOp .eql 5 (.tmp 28) (.const (.int .u8 10)) 5, 4, .no⟩,
  ⟨(some 27), .assign (.tmp 29), 4, .no⟩])
  (.cond (.tmp 27) (.exit 5)
  .skip))
  (.seq (.reg [⟨(some 31), .move (.tmp 5), 5, .no⟩,
  ⟨(some 32), .binOp .eql 5 (.tmp 31) (.const (.int .u8 9)) 5, 4, .no⟩,
  ⟨(some 30), .assign (.tmp 32), 4, .no⟩])
  (.cond (.tmp 30) (.exit 6)
  .skip)))))
  (.exit 7)))
  (.reg [⟨(some 33), .call ⟨.value (.func 29), #[(.tmp 3), (.const (.int .u8 92))], #[65, 5]⟩, 69, .no⟩])))
  (.seq (.reg [⟨(some 34), .move (.tmp 5), 5, .no⟩,
  ⟨(some 35), .call ⟨.value (.func 29), #[(.tmp 3), (.tmp 34)], #[65, 5]⟩, 69, .no⟩])
  (.exit 2))))
  (.seq (.reg [⟨(some 36), .call ⟨.value (.func 26), #[(.tmp 3), (.const (.string ⟨⟨[92, 110]⟩⟩))], #[65, 9]⟩, 70, .no⟩])
  (.exit 2))))
  (.seq (.reg [⟨(some 37), .call ⟨.value (.func 26), #[(.tmp 3), (.const (.string ⟨⟨[92, 116]⟩⟩))], #[65, 9]⟩, 70, .no⟩])
  (.exit 2))))
  (.seq (.seq (.reg [⟨(some 38), .call ⟨.value (.func 26), #[(.tmp 3), (.const (.string ⟨⟨[92, 120]⟩⟩))], #[65, 9]⟩, 70, .no⟩])
  (.seq (.reg [⟨(some 39), .move (.tmp 5), 5, .no⟩,
  ⟨(some 40), .binOp .shr 5 (.tmp 39) (.const (.int .u64 4)) 174, 5, .no⟩,
  ⟨(some 41), .index 9 (.const (.string ⟨⟨[48, 49, 50, 51, 52, 53, 54, 55, 56, 57, 97, 98, 99, 100, 101, 102]⟩⟩)) (.tmp 40), 5, .no⟩,
  ⟨(some 42), .call ⟨.value (.func 29), #[(.tmp 3), (.tmp 41)], #[65, 5]⟩, 69, .no⟩])
  (.reg [⟨(some 43), .move (.tmp 5), 5, .no⟩,
  ⟨(some 44), .binOp .and 5 (.tmp 43) (.const (.int .u8 15)) 5, 5, .no⟩,
  ⟨(some 45), .index 9 (.const (.string ⟨⟨[48, 49, 50, 51, 52, 53, 54, 55, 56, 57, 97, 98, 99, 100, 101, 102]⟩⟩)) (.tmp 44), 5, .no⟩,
  ⟨(some 46), .call ⟨.value (.func 29), #[(.tmp 3), (.tmp 45)], #[65, 5]⟩, 69, .no⟩])))
  (.exit 2))))))
  (.reg [⟨(some 47), .binOp .add 3 (.tmp 9) (.const (.int .i64 1)) 3, 3, .no⟩,
  ⟨(some 9), .move (.tmp 47), 3, .no⟩])))))))
  (.seq (.reg [⟨(some 48), .call ⟨.value (.func 29), #[(.tmp 3), (.const (.int .u8 34))], #[65, 5]⟩, 69, .no⟩])
  (.seq (.reg [⟨(some 49), .call ⟨.value (.func 33), #[(.tmp 3)], #[65]⟩, 9, .no⟩,
  ⟨(some 2), .assign (.tmp 49), 9, .no⟩])
  .ret))))))
theorem e93 : (Tryz.f93.body.map strip) = some s93 := by kernel_rfl
noncomputable def s96 : SCode := (.seq (.reg [⟨(some 3), .box 36 (.tmp 1), 0, .no⟩])
  (.reg [⟨(some 4), .move (.tmp 0), 62, .no⟩,
  ⟨(some 5), .build 149 #[(1, (.const (.string ⟨⟨[101, 120, 112, 114, 101, 115, 115]⟩⟩))), (2, (.const (.string ⟨⟨[102, 114, 101, 105, 103, 104, 116]⟩⟩)))], 149, .no⟩,
  ⟨(some 6), .fieldAddr 36 (.tmp 3) 8, 0, .no⟩,
  ⟨(some 7), .load 3 (.tmp 6), 3, .no⟩,
  ⟨(some 8), .index 149 (.tmp 5) (.tmp 7), 9, .no⟩,
  ⟨(some 9), .call ⟨.value (.func 47), #[(.tmp 4), (.tmp 8)], #[62, 9]⟩, 0, .no⟩]))
theorem e96 : (Tryz.f96.body.map strip) = some s96 := by kernel_rfl
noncomputable def s97 : SCode := (.seq (.reg [⟨(some 2), .assign (.const (.pointer none)), 117, .no⟩])
  (.seq (.reg [⟨(some 3), .move (.tmp 0), 116, .no⟩,
  ⟨(some 4), .nilCheck (.tmp 3), 0, .no⟩,
  ⟨(some 5), .fieldAddr 36 (.tmp 4) 9, 0, .no⟩,
  ⟨(some 2), .assign (.tmp 5), 117, .no⟩])
  .ret))
theorem e97 : (Tryz.f97.body.map strip) = some s97 := by kernel_rfl
noncomputable def s98 : SCode := (.seq (.reg [⟨(some 2), .assign (.const (.pointer none)), 117, .no⟩])
  (.seq (.reg [⟨(some 3), .move (.tmp 0), 116, .no⟩,
  ⟨(some 4), .nilCheck (.tmp 3), 0, .no⟩,
  ⟨(some 5), .fieldAddr 36 (.tmp 4) 10, 0, .no⟩,
  ⟨(some 2), .assign (.tmp 5), 117, .no⟩])
  .ret))
theorem e98 : (Tryz.f98.body.map strip) = some s98 := by kernel_rfl
noncomputable def s101 : SCode := (.seq (.reg [⟨(some 3), .box 36 (.tmp 1), 0, .no⟩])
  (.reg [⟨(some 4), .move (.tmp 0), 62, .no⟩,
  ⟨(some 5), .fieldAddr 36 (.tmp 3) 11, 0, .no⟩,
  ⟨(some 6), .load 33 (.tmp 5), 33, .no⟩,
  ⟨(some 7), .convert 33 22 (.tmp 6), 22, .no⟩,
  ⟨(some 8), .call ⟨.value (.func 28), #[(.tmp 4), (.tmp 7)], #[62, 22]⟩, 0, .no⟩]))
theorem e101 : (Tryz.f101.body.map strip) = some s101 := by kernel_rfl
noncomputable def s103 : SCode := (.seq (.reg [⟨(some 3), .box 36 (.tmp 1), 0, .no⟩])
  (.seq (.reg [⟨(some 6), .fieldAddr 36 (.tmp 3) 13, 0, .no⟩,
  ⟨(some 7), .load 34 (.tmp 6), 34, .no⟩,
  ⟨(some 8), .call ⟨.builtin .len, #[(.tmp 7)], #[34]⟩, 3, .no⟩,
  ⟨(some 9), .move (.const (.int .i64 0)), 3, .no⟩])
  (.block 0 (.loop (.seq (.reg [⟨(some 10), .binOp .lss 3 (.tmp 9) (.tmp 8) 3, 0, .no⟩])
  (.seq (.cond (.tmp 10) .skip
  (.exit 0))
  (.seq (.block 1 (.seq (.reg [⟨(some 11), .indexAddr 34 (.tmp 7) (.tmp 9), 0, .no⟩,
  ⟨(some 12), .load 3 (.tmp 11), 3, .no⟩,
  ⟨(some 5), .assign (.tmp 12), 3, .no⟩])
  (.reg [⟨(some 13), .move (.tmp 0), 62, .no⟩,
  ⟨(some 14), .move (.tmp 5), 3, .no⟩,
  ⟨(some 15), .call ⟨.value (.func 27), #[(.tmp 13), (.tmp 14)], #[62, 3]⟩, 0, .no⟩])))
  (.reg [⟨(some 16), .binOp .add 3 (.tmp 9) (.const (.int .i64 1)) 3, 3, .no⟩,
  ⟨(some 9), .move (.tmp 16), 3, .no⟩]))))))))
theorem e103 : (Tryz.f103.body.map strip) = some s103 := by kernel_rfl
noncomputable def s104 : SCode := (.seq (.reg [⟨(some 2), .assign (.const (.pointer none)), 117, .no⟩])
  (.seq (.reg [⟨(some 3), .move (.tmp 0), 116, .no⟩,
  ⟨(some 4), .nilCheck (.tmp 3), 0, .no⟩,
  ⟨(some 5), .fieldAddr 36 (.tmp 4) 14, 0, .no⟩,
  ⟨(some 2), .assign (.tmp 5), 117, .no⟩])
  .ret))
theorem e104 : (Tryz.f104.body.map strip) = some s104 := by kernel_rfl
end Go.Proofs.YtgmkbdmgifdfeaaGreatDoor
