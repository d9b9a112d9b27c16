import Derived.Test.YtfbondeldbnmbaaEngS
import Derived.Test.YtfbondeldbnmbaaProg
set_option linter.unusedVariables false
set_option linter.unusedSimpArgs false
namespace Go.Proofs.Bits
open Go.RowKit Go.Lib Go.Eng Go.Proofs
set_option maxRecDepth 100000
abbrev l3r0 : LC := .reg false [(⟨(some 4), none, .mv (.c (.bool false))⟩, [])] (some ([0, 1], []))
abbrev l3r1 : LC := .reg false [(⟨(some 14), none, .mv (.t 0)⟩, []),
  (⟨(some 15), none, .len (.t 14)⟩, []),
  (⟨(some 16), none, .bin .gtr (.t 15) (.c (.int .i64 40))⟩, []),
  (⟨(some 17), none, .mv (.t 16)⟩, []),
  (⟨(some 18), (some (17, false)), .mv (.t 1)⟩, []),
  (⟨(some 19), (some (17, false)), .len (.t 18)⟩, []),
  (⟨(some 20), (some (17, false)), .bin .gtr (.t 19) (.c (.int .i64 40))⟩, []),
  (⟨(some 21), none, .pick (.t 17) (.c (.bool true)) (.t 20)⟩, [])] (some ([0, 1, 21], []))
abbrev l3r2 : LC := .reg false [(⟨(some 22), none, .call 11 []⟩, []),
  (⟨(some 4), none, .mv (.t 22)⟩, [])] (some ([4], []))
abbrev l3r3 : LC := .reg false [(⟨(some 5), none, .alloc [(.slice none 0 0), (.int .i64 0)]⟩, [])] (some ([0, 5, 1], [.cell 5 0 505 1]))
abbrev l3r4 : LC := .reg false [(⟨(some 23), none, .build [(.slice none 0 0)] []⟩, []),
  (⟨(some 24), none, .box 1 (.t 23)⟩, []),
  (⟨(some 6), none, .mv (.t 24)⟩, [])] (some ([0, 6, 5, 1], [.cell 24 0 524 1]))
abbrev l3r5 : LC := .reg true [(⟨(some 25), none, .mv (.t 1)⟩, []),
  (⟨(some 26), none, .call 12 [(.t 25)]⟩, []),
  (⟨(some 27), none, .mv (.t 1)⟩, [1]),
  (⟨(some 28), none, .toStr (.t 27)⟩, [1]),
  (⟨(some 29), none, .build [(.string ⟨#[]⟩), (.int .i64 0)] [(0, 1, (.t 28))]⟩, [1]),
  (⟨(some 30), none, .box 2 (.t 29)⟩, [0, 1]),
  (⟨(some 7), none, .mv (.t 26)⟩, [5]),
  (⟨(some 8), none, .mv (.t 30)⟩, [])] (some ([8, 7, 0, 6, 5], []))
abbrev l3r6 : LC := .reg false [(⟨(some 31), none, .mv (.t 7)⟩, []),
  (⟨(some 32), none, .eqp false (.t 31) (.c (.pointer none))⟩, [])] (some ([8, 7, 0, 6, 5, 32], []))
abbrev l3r7 : LC := .reg false [(⟨(some 4), none, .mv (.c (.bool false))⟩, [])] (some ([4], []))
abbrev l3r8 : LC := .reg false [(⟨(some 9), none, .mv (.c (.int .i64 0))⟩, [])] (some ([9, 8, 7, 0, 6, 5], []))
abbrev l3r9 : LC := .reg false [(⟨(some 33), none, .mv (.t 9)⟩, []),
  (⟨(some 34), none, .mv (.t 0)⟩, []),
  (⟨(some 35), none, .len (.t 34)⟩, []),
  (⟨(some 36), none, .bin .lss (.t 33) (.t 35)⟩, [])] (some ([8, 7, 0, 6, 5, 9, 36], []))
abbrev l3r10 : LC := .reg true [(⟨(some 39), none, .mv (.t 0)⟩, []),
  (⟨(some 40), none, .mv (.t 9)⟩, []),
  (⟨(some 41), none, .iad 2 (.t 39) (.t 40)⟩, []),
  (⟨(some 42), none, .fad 0 (.t 41)⟩, []),
  (⟨(some 43), none, .load 1 false (.t 42)⟩, []),
  (⟨(some 44), none, .mv (.t 0)⟩, []),
  (⟨(some 45), none, .mv (.t 9)⟩, []),
  (⟨(some 46), none, .iad 2 (.t 44) (.t 45)⟩, []),
  (⟨(some 47), none, .fad 1 (.t 46)⟩, []),
  (⟨(some 48), none, .load 1 false (.t 47)⟩, []),
  (⟨(some 49), none, .call 13 [(.t 5), (.t 43), (.t 48)]⟩, []),
  (⟨(some 50), none, .mv (.t 6)⟩, [10]),
  (⟨(some 51), none, .mv (.t 0)⟩, [10]),
  (⟨(some 52), none, .mv (.t 9)⟩, [10]),
  (⟨(some 53), none, .iad 2 (.t 51) (.t 52)⟩, [10]),
  (⟨(some 54), none, .fad 0 (.t 53)⟩, [10]),
  (⟨(some 55), none, .load 1 false (.t 54)⟩, [10]),
  (⟨(some 56), none, .mv (.t 0)⟩, [10]),
  (⟨(some 57), none, .mv (.t 9)⟩, [10]),
  (⟨(some 58), none, .iad 2 (.t 56) (.t 57)⟩, [10]),
  (⟨(some 59), none, .fad 1 (.t 58)⟩, [10]),
  (⟨(some 60), none, .load 1 false (.t 59)⟩, [10]),
  (⟨(some 61), none, .call 14 [(.t 50), (.t 55), (.t 60)]⟩, []),
  (⟨(some 62), none, .bin .neq (.t 49) (.t 61)⟩, []),
  (⟨(some 63), none, .mv (.t 62)⟩, []),
  (⟨(some 64), (some (63, false)), .call 15 [(.t 5)]⟩, []),
  (⟨(some 65), (some (63, false)), .toStr (.t 64)⟩, []),
  (⟨(some 66), (some (63, false)), .mv (.t 6)⟩, [25]),
  (⟨(some 67), (some (63, false)), .call 16 [(.t 66)]⟩, [26]),
  (⟨(some 68), (some (63, false)), .bin .neq (.t 65) (.t 67)⟩, []),
  (⟨(some 69), none, .pick (.t 63) (.c (.bool true)) (.t 68)⟩, []),
  (⟨(some 70), none, .mv (.t 69)⟩, []),
  (⟨(some 71), (some (70, false)), .call 17 [(.t 5)]⟩, []),
  (⟨(some 72), (some (70, false)), .mv (.t 6)⟩, [32]),
  (⟨(some 73), (some (70, false)), .nilck (.t 72)⟩, [32]),
  (⟨(some 74), (some (70, false)), .fad 0 (.t 73)⟩, [32]),
  (⟨(some 75), (some (70, false)), .load 1 false (.t 74)⟩, [32]),
  (⟨(some 76), (some (70, false)), .len (.t 75)⟩, [32]),
  (⟨(some 77), (some (70, false)), .bin .neq (.t 71) (.t 76)⟩, []),
  (⟨(some 78), none, .pick (.t 70) (.c (.bool true)) (.t 77)⟩, [])] (some ([8, 7, 0, 6, 5, 9, 78], []))
abbrev l3r11 : LC := .reg false [(⟨(some 80), none, .mv (.t 7)⟩, []),
  (⟨(some 81), none, .mv (.t 0)⟩, []),
  (⟨(some 82), none, .mv (.t 9)⟩, []),
  (⟨(some 83), none, .iad 2 (.t 81) (.t 82)⟩, []),
  (⟨(some 84), none, .fad 1 (.t 83)⟩, []),
  (⟨(some 85), none, .load 1 false (.t 84)⟩, []),
  (⟨(some 86), none, .call 18 [(.t 80), (.t 85)]⟩, []),
  (⟨(some 79), none, .mv (.t 86)⟩, []),
  (⟨(some 87), none, .ext 0 (.t 79)⟩, []),
  (⟨(some 88), none, .ext 1 (.t 79)⟩, []),
  (⟨(some 10), none, .mv (.t 87)⟩, []),
  (⟨(some 11), none, .mv (.t 88)⟩, [])] (some ([8, 7, 0, 6, 5, 9, 11, 10], []))
abbrev l3r12 : LC := .reg false [(⟨(some 90), none, .mv (.t 8)⟩, []),
  (⟨(some 91), none, .mv (.t 0)⟩, []),
  (⟨(some 92), none, .mv (.t 9)⟩, []),
  (⟨(some 93), none, .iad 2 (.t 91) (.t 92)⟩, []),
  (⟨(some 94), none, .fad 1 (.t 93)⟩, []),
  (⟨(some 95), none, .load 1 false (.t 94)⟩, []),
  (⟨(some 96), none, .call 19 [(.t 90), (.t 95)]⟩, []),
  (⟨(some 89), none, .mv (.t 96)⟩, []),
  (⟨(some 97), none, .ext 0 (.t 89)⟩, []),
  (⟨(some 98), none, .ext 1 (.t 89)⟩, []),
  (⟨(some 12), none, .mv (.t 97)⟩, []),
  (⟨(some 13), none, .mv (.t 98)⟩, [])] (some ([8, 7, 0, 6, 5, 9, 13, 11, 12, 10], []))
abbrev l3r13 : LC := .reg false [(⟨(some 99), none, .mv (.t 10)⟩, []),
  (⟨(some 100), none, .mv (.t 12)⟩, []),
  (⟨(some 101), none, .bin .neq (.t 99) (.t 100)⟩, []),
  (⟨(some 102), none, .mv (.t 101)⟩, []),
  (⟨(some 103), (some (102, false)), .mv (.t 11)⟩, []),
  (⟨(some 104), (some (102, false)), .mv (.t 13)⟩, []),
  (⟨(some 105), (some (102, false)), .bin .neq (.t 103) (.t 104)⟩, []),
  (⟨(some 106), none, .pick (.t 102) (.c (.bool true)) (.t 105)⟩, []),
  (⟨(some 107), none, .mv (.t 106)⟩, []),
  (⟨(some 108), (some (107, false)), .mv (.t 7)⟩, []),
  (⟨(some 109), (some (107, false)), .call 20 [(.t 108)]⟩, []),
  (⟨(some 110), (some (107, false)), .mv (.t 8)⟩, []),
  (⟨(some 111), (some (107, false)), .call 21 [(.t 110)]⟩, []),
  (⟨(some 112), (some (107, false)), .bin .neq (.t 109) (.t 111)⟩, []),
  (⟨(some 113), none, .pick (.t 107) (.c (.bool true)) (.t 112)⟩, []),
  (⟨(some 114), none, .mv (.t 113)⟩, []),
  (⟨(some 115), (some (114, false)), .mv (.t 7)⟩, []),
  (⟨(some 116), (some (114, false)), .call 22 [(.t 115)]⟩, []),
  (⟨(some 117), (some (114, false)), .mv (.t 8)⟩, []),
  (⟨(some 118), (some (114, false)), .call 23 [(.t 117)]⟩, []),
  (⟨(some 119), (some (114, false)), .eqb true (.t 116) (.t 118)⟩, []),
  (⟨(some 120), none, .pick (.t 114) (.c (.bool true)) (.t 119)⟩, [])] (some ([8, 7, 0, 6, 5, 9, 120], []))
abbrev l3r14 : LC := .reg false [(⟨(some 37), none, .mv (.t 9)⟩, []),
  (⟨(some 38), none, .bin .add (.t 37) (.c (.int .i64 1))⟩, []),
  (⟨(some 9), none, .mv (.t 38)⟩, [])] (some ([9, 8, 7, 0, 6, 5], []))
abbrev l3r15 : LC := (.seq (.seq l3r9 (.cond (.t 36) .skip (.exit 0))) (.seq (.block 1 (.seq (.seq l3r10 (.cond (.t 78) (.seq l3r7 .ret) .skip)) (.seq l3r11 (.seq l3r12 (.seq l3r13 (.cond (.t 120) (.seq l3r7 .ret) .skip)))))) l3r14))
abbrev l3r16 : LC := .reg false [(⟨(some 121), none, .call 11 []⟩, []),
  (⟨(some 4), none, .mv (.t 121)⟩, [])] (some ([4], []))
/-- steamer/steamerlaw10.BitsPlays : 2 parameters, results in [4] of 122 slots -/
abbrev l3 : LC := (.seq l3r0 (.seq (.seq l3r1 (.cond (.t 21) (.seq l3r2 .ret) .skip)) (.seq l3r3 (.seq l3r4 (.seq l3r5 (.seq (.seq l3r6 (.cond (.t 32) (.seq l3r7 .ret) .skip)) (.seq (.seq l3r8 (.block 0 (.loop l3r15))) (.seq l3r16 .ret))))))))
def k3 (i : Nat) : Option Kp := match i with
  | 0 => (some ([0, 1], []))
  | 1 => (some ([0, 1, 21], []))
  | 2 => (some ([4], []))
  | 3 => (some ([0, 5, 1], [.cell 5 0 505 1]))
  | 4 => (some ([0, 6, 5, 1], [.cell 24 0 524 1]))
  | 5 => (some ([8, 7, 0, 6, 5], []))
  | 6 => (some ([8, 7, 0, 6, 5, 32], []))
  | 7 => (some ([4], []))
  | 8 => (some ([9, 8, 7, 0, 6, 5], []))
  | 9 => (some ([8, 7, 0, 6, 5, 9, 36], []))
  | 10 => (some ([9, 8, 7, 0, 6, 5], []))
  | 11 => (some ([8, 7, 0, 6, 5, 9, 78], []))
  | 12 => (some ([4], []))
  | 13 => (some ([8, 7, 0, 6, 5, 9, 11, 10], []))
  | 14 => (some ([8, 7, 0, 6, 5, 9, 13, 11, 12, 10], []))
  | 15 => (some ([8, 7, 0, 6, 5, 9, 120], []))
  | 16 => (some ([4], []))
  | 17 => (some ([4], []))
  | _ => none
theorem f3_told : Try.prog.funcs[3]? = some Try.f3 := by kernel_rfl
theorem f3_results : resTmps Try.f3 = some [4] := by kernel_rfl
theorem f3_text : (Try.f3.body.bind (trC Try.prog 122 k3 1000)) = some l3 := by kernel_rfl

abbrev l4r0 : LC := .reg false [(⟨(some 2), none, .mv (.c (.bool false))⟩, [])] (some ([0], []))
abbrev l4r1 : LC := .reg false [(⟨(some 12), none, .mv (.t 0)⟩, []),
  (⟨(some 13), none, .len (.t 12)⟩, []),
  (⟨(some 14), none, .bin .gtr (.t 13) (.c (.int .i64 40))⟩, [])] (some ([0, 14], []))
abbrev l4r2 : LC := .reg false [(⟨(some 15), none, .call 11 []⟩, []),
  (⟨(some 2), none, .mv (.t 15)⟩, [])] (some ([2], []))
abbrev l4r3 : LC := .reg false [(⟨(some 3), none, .alloc [(.slice none 0 0), (.int .i64 0)]⟩, [])] (some ([3, 0], [.cell 3 0 503 1]))
abbrev l4r4 : LC := .reg false [(⟨(some 4), none, .mv (.c (.int .i64 0))⟩, [])] (some ([4, 3, 0], []))
abbrev l4r5 : LC := .reg false [(⟨(some 5), none, .mv (.c (.int .i64 0))⟩, [])] (some ([5, 4, 3, 0], []))
abbrev l4r6 : LC := .reg false [(⟨(some 16), none, .mv (.t 5)⟩, []),
  (⟨(some 17), none, .mv (.t 0)⟩, []),
  (⟨(some 18), none, .len (.t 17)⟩, []),
  (⟨(some 19), none, .bin .lss (.t 16) (.t 18)⟩, [])] (some ([3, 0, 5, 4, 19], []))
abbrev l4r7 : LC := .reg false [(⟨(some 22), none, .mv (.t 0)⟩, []),
  (⟨(some 23), none, .mv (.t 5)⟩, []),
  (⟨(some 24), none, .iad 2 (.t 22) (.t 23)⟩, []),
  (⟨(some 25), none, .fad 1 (.t 24)⟩, []),
  (⟨(some 26), none, .load 1 false (.t 25)⟩, []),
  (⟨(some 27), none, .toInt .u64 (.t 26)⟩, []),
  (⟨(some 28), none, .bin .rem (.t 27) (.c (.int .u64 33))⟩, []),
  (⟨(some 29), none, .toInt .i64 (.t 28)⟩, []),
  (⟨(some 6), none, .mv (.t 29)⟩, [])] (some ([3, 0, 5, 6, 4], []))
abbrev l4r8 : LC := .reg false [(⟨(some 30), none, .mv (.t 0)⟩, []),
  (⟨(some 31), none, .mv (.t 5)⟩, []),
  (⟨(some 32), none, .iad 2 (.t 30) (.t 31)⟩, []),
  (⟨(some 33), none, .fad 0 (.t 32)⟩, []),
  (⟨(some 34), none, .load 1 false (.t 33)⟩, []),
  (⟨(some 35), none, .mv (.t 6)⟩, []),
  (⟨(some 36), none, .call 13 [(.t 3), (.t 34), (.t 35)]⟩, []),
  (⟨(some 37), none, .bin .neq (.t 36) (.c (.int .i64 0))⟩, [])] (some ([3, 0, 5, 6, 4, 37], []))
abbrev l4r9 : LC := .reg false [(⟨(some 2), none, .mv (.c (.bool false))⟩, [])] (some ([2], []))
abbrev l4r10 : LC := .reg false [(⟨(some 38), none, .mv (.t 4)⟩, []),
  (⟨(some 39), none, .mv (.t 6)⟩, []),
  (⟨(some 40), none, .bin .add (.t 38) (.t 39)⟩, []),
  (⟨(some 4), none, .mv (.t 40)⟩, [])] (some ([4, 3, 0, 5], []))
abbrev l4r11 : LC := .reg false [(⟨(some 20), none, .mv (.t 5)⟩, []),
  (⟨(some 21), none, .bin .add (.t 20) (.c (.int .i64 1))⟩, []),
  (⟨(some 5), none, .mv (.t 21)⟩, [])] (some ([5, 4, 3, 0], []))
abbrev l4r12 : LC := (.seq (.seq l4r6 (.cond (.t 19) .skip (.exit 0))) (.seq (.block 1 (.seq l4r7 (.seq (.seq l4r8 (.cond (.t 37) (.seq l4r9 .ret) .skip)) l4r10))) l4r11))
abbrev l4r13 : LC := .reg false [(⟨(some 41), none, .call 15 [(.t 3)]⟩, []),
  (⟨(some 42), none, .call 12 [(.t 41)]⟩, []),
  (⟨(some 7), none, .mv (.t 42)⟩, [])] (some ([0, 7, 4, 3], []))
abbrev l4r14 : LC := .reg false [(⟨(some 43), none, .mv (.t 7)⟩, []),
  (⟨(some 44), none, .eqp false (.t 43) (.c (.pointer none))⟩, []),
  (⟨(some 45), none, .mv (.t 44)⟩, []),
  (⟨(some 46), (some (45, false)), .call 17 [(.t 3)]⟩, []),
  (⟨(some 47), (some (45, false)), .mv (.t 4)⟩, []),
  (⟨(some 48), (some (45, false)), .bin .neq (.t 46) (.t 47)⟩, []),
  (⟨(some 49), none, .pick (.t 45) (.c (.bool true)) (.t 48)⟩, []),
  (⟨(some 50), none, .mv (.t 49)⟩, []),
  (⟨(some 51), (some (50, false)), .call 15 [(.t 3)]⟩, []),
  (⟨(some 52), (some (50, false)), .len (.t 51)⟩, []),
  (⟨(some 53), (some (50, false)), .mv (.t 4)⟩, []),
  (⟨(some 54), (some (50, false)), .bin .add (.t 53) (.c (.int .i64 7))⟩, []),
  (⟨(some 55), (some (50, false)), .bin .quo (.t 54) (.c (.int .i64 8))⟩, []),
  (⟨(some 56), (some (50, false)), .bin .neq (.t 52) (.t 55)⟩, []),
  (⟨(some 57), none, .pick (.t 50) (.c (.bool true)) (.t 56)⟩, [])] (some ([0, 7, 4, 3, 57], []))
abbrev l4r15 : LC := .reg false [(⟨(some 8), none, .mv (.c (.int .i64 0))⟩, [])] (some ([8, 0, 7, 4, 3], []))
abbrev l4r16 : LC := .reg false [(⟨(some 58), none, .mv (.t 8)⟩, []),
  (⟨(some 59), none, .mv (.t 0)⟩, []),
  (⟨(some 60), none, .len (.t 59)⟩, []),
  (⟨(some 61), none, .bin .lss (.t 58) (.t 60)⟩, [])] (some ([0, 7, 4, 3, 8, 61], []))
abbrev l4r17 : LC := .reg false [(⟨(some 64), none, .mv (.t 0)⟩, []),
  (⟨(some 65), none, .mv (.t 8)⟩, []),
  (⟨(some 66), none, .iad 2 (.t 64) (.t 65)⟩, []),
  (⟨(some 67), none, .fad 1 (.t 66)⟩, []),
  (⟨(some 68), none, .load 1 false (.t 67)⟩, []),
  (⟨(some 69), none, .toInt .u64 (.t 68)⟩, []),
  (⟨(some 70), none, .bin .rem (.t 69) (.c (.int .u64 33))⟩, []),
  (⟨(some 71), none, .toInt .i64 (.t 70)⟩, []),
  (⟨(some 9), none, .mv (.t 71)⟩, [])] (some ([0, 7, 4, 3, 8, 9], []))
abbrev l4r18 : LC := .reg false [(⟨(some 73), none, .mv (.t 7)⟩, []),
  (⟨(some 74), none, .mv (.t 9)⟩, []),
  (⟨(some 75), none, .call 18 [(.t 73), (.t 74)]⟩, []),
  (⟨(some 72), none, .mv (.t 75)⟩, []),
  (⟨(some 76), none, .ext 0 (.t 72)⟩, []),
  (⟨(some 77), none, .ext 1 (.t 72)⟩, []),
  (⟨(some 10), none, .mv (.t 76)⟩, []),
  (⟨(some 11), none, .mv (.t 77)⟩, [])] (some ([0, 7, 4, 3, 8, 9, 10, 11], []))
abbrev l4r19 : LC := .reg false [(⟨(some 78), none, .mv (.t 11)⟩, []),
  (⟨(some 79), none, .bin .neq (.t 78) (.c (.int .i64 0))⟩, []),
  (⟨(some 80), none, .mv (.t 79)⟩, []),
  (⟨(some 81), (some (80, false)), .mv (.t 10)⟩, []),
  (⟨(some 82), (some (80, false)), .mv (.t 0)⟩, []),
  (⟨(some 83), (some (80, false)), .mv (.t 8)⟩, []),
  (⟨(some 84), (some (80, false)), .iad 2 (.t 82) (.t 83)⟩, []),
  (⟨(some 85), (some (80, false)), .fad 0 (.t 84)⟩, []),
  (⟨(some 86), (some (80, false)), .load 1 false (.t 85)⟩, []),
  (⟨(some 87), (some (80, false)), .mv (.t 9)⟩, []),
  (⟨(some 88), (some (80, false)), .toInt .u64 (.t 87)⟩, []),
  (⟨(some 89), (some (80, false)), .bin .shl (.c (.int .u64 1)) (.t 88)⟩, []),
  (⟨(some 90), (some (80, false)), .bin .sub (.t 89) (.c (.int .u64 1))⟩, []),
  (⟨(some 91), (some (80, false)), .bin .and (.t 86) (.t 90)⟩, []),
  (⟨(some 92), (some (80, false)), .bin .neq (.t 81) (.t 91)⟩, []),
  (⟨(some 93), none, .pick (.t 80) (.c (.bool true)) (.t 92)⟩, [])] (some ([0, 7, 4, 3, 8, 93], []))
abbrev l4r20 : LC := .reg false [(⟨(some 62), none, .mv (.t 8)⟩, []),
  (⟨(some 63), none, .bin .add (.t 62) (.c (.int .i64 1))⟩, []),
  (⟨(some 8), none, .mv (.t 63)⟩, [])] (some ([8, 0, 7, 4, 3], []))
abbrev l4r21 : LC := (.seq (.seq l4r16 (.cond (.t 61) .skip (.exit 2))) (.seq (.block 3 (.seq l4r17 (.seq l4r18 (.seq l4r19 (.cond (.t 93) (.seq l4r9 .ret) .skip))))) l4r20))
abbrev l4r22 : LC := .reg false [(⟨(some 94), none, .call 11 []⟩, []),
  (⟨(some 95), none, .mv (.t 94)⟩, []),
  (⟨(some 96), (some (95, true)), .mv (.t 7)⟩, []),
  (⟨(some 97), (some (95, true)), .call 22 [(.t 96)]⟩, []),
  (⟨(some 98), none, .pick (.t 95) (.t 97) (.c (.bool false))⟩, []),
  (⟨(some 99), none, .mv (.t 98)⟩, []),
  (⟨(some 100), (some (99, true)), .mv (.t 7)⟩, []),
  (⟨(some 101), (some (99, true)), .call 20 [(.t 100)]⟩, []),
  (⟨(some 102), (some (99, true)), .call 15 [(.t 3)]⟩, []),
  (⟨(some 103), (some (99, true)), .len (.t 102)⟩, []),
  (⟨(some 104), (some (99, true)), .bin .mul (.t 103) (.c (.int .i64 8))⟩, []),
  (⟨(some 105), (some (99, true)), .mv (.t 4)⟩, []),
  (⟨(some 106), (some (99, true)), .bin .sub (.t 104) (.t 105)⟩, []),
  (⟨(some 107), (some (99, true)), .bin .eql (.t 101) (.t 106)⟩, []),
  (⟨(some 108), none, .pick (.t 99) (.t 107) (.c (.bool false))⟩, []),
  (⟨(some 2), none, .mv (.t 108)⟩, [])] (some ([2], []))
/-- steamer/steamerlaw10.BitsBack : 1 parameters, results in [2] of 109 slots -/
abbrev l4 : LC := (.seq l4r0 (.seq (.seq l4r1 (.cond (.t 14) (.seq l4r2 .ret) .skip)) (.seq l4r3 (.seq l4r4 (.seq (.seq l4r5 (.block 0 (.loop l4r12))) (.seq l4r13 (.seq (.seq l4r14 (.cond (.t 57) (.seq l4r9 .ret) .skip)) (.seq (.seq l4r15 (.block 2 (.loop l4r21))) (.seq l4r22 .ret)))))))))
def k4 (i : Nat) : Option Kp := match i with
  | 0 => (some ([0], []))
  | 1 => (some ([0, 14], []))
  | 2 => (some ([2], []))
  | 3 => (some ([3, 0], [.cell 3 0 503 1]))
  | 4 => (some ([4, 3, 0], []))
  | 5 => (some ([5, 4, 3, 0], []))
  | 6 => (some ([3, 0, 5, 4, 19], []))
  | 7 => (some ([5, 4, 3, 0], []))
  | 8 => (some ([3, 0, 5, 6, 4], []))
  | 9 => (some ([3, 0, 5, 6, 4, 37], []))
  | 10 => (some ([2], []))
  | 11 => (some ([4, 3, 0, 5], []))
  | 12 => (some ([0, 7, 4, 3], []))
  | 13 => (some ([0, 7, 4, 3, 57], []))
  | 14 => (some ([2], []))
  | 15 => (some ([8, 0, 7, 4, 3], []))
  | 16 => (some ([0, 7, 4, 3, 8, 61], []))
  | 17 => (some ([8, 0, 7, 4, 3], []))
  | 18 => (some ([0, 7, 4, 3, 8, 9], []))
  | 19 => (some ([0, 7, 4, 3, 8, 9, 10, 11], []))
  | 20 => (some ([0, 7, 4, 3, 8, 93], []))
  | 21 => (some ([2], []))
  | 22 => (some ([2], []))
  | _ => none
theorem f4_told : Try.prog.funcs[4]? = some Try.f4 := by kernel_rfl
theorem f4_results : resTmps Try.f4 = some [2] := by kernel_rfl
theorem f4_text : (Try.f4.body.bind (trC Try.prog 109 k4 1000)) = some l4 := by kernel_rfl

abbrev l5r0 : LC := .reg false [(⟨(some 4), none, .mv (.c (.bool false))⟩, [])] (some ([0, 1], []))
abbrev l5r1 : LC := .reg false [(⟨(some 9), none, .mv (.t 1)⟩, []),
  (⟨(some 10), none, .toInt .u64 (.t 9)⟩, []),
  (⟨(some 11), none, .bin .rem (.t 10) (.c (.int .u64 33))⟩, []),
  (⟨(some 12), none, .toInt .i64 (.t 11)⟩, []),
  (⟨(some 5), none, .mv (.t 12)⟩, [])] (some ([0, 5], []))
abbrev l5r2 : LC := .reg false [(⟨(some 6), none, .alloc [(.slice none 0 0), (.int .i64 0)]⟩, []),
  (⟨(some 7), none, .alloc [(.slice none 0 0), (.int .i64 0)]⟩, [])] (some ([7, 0, 5, 6], [.cell 6 0 506 1, .cell 7 0 507 1]))
abbrev l5r3 : LC := .reg false [(⟨(some 13), none, .mv (.t 0)⟩, []),
  (⟨(some 14), none, .mv (.t 5)⟩, []),
  (⟨(some 15), none, .call 13 [(.t 6), (.t 13), (.t 14)]⟩, []),
  (⟨(some 16), none, .bin .neq (.t 15) (.c (.int .i64 0))⟩, [])] (some ([7, 0, 5, 6, 16], []))
abbrev l5r4 : LC := .reg false [(⟨(some 4), none, .mv (.c (.bool false))⟩, [])] (some ([4], []))
abbrev l5r5 : LC := .reg false [(⟨(some 17), none, .mv (.t 5)⟩, []),
  (⟨(some 18), none, .bin .sub (.t 17) (.c (.int .i64 1))⟩, []),
  (⟨(some 8), none, .mv (.t 18)⟩, [])] (some ([8, 7, 0, 5, 6], []))
abbrev l5r6 : LC := .reg false [(⟨(some 19), none, .mv (.t 8)⟩, []),
  (⟨(some 20), none, .bin .geq (.t 19) (.c (.int .i64 0))⟩, [])] (some ([7, 0, 5, 6, 8, 20], []))
abbrev l5r7 : LC := .reg false [(⟨(some 23), none, .mv (.t 0)⟩, []),
  (⟨(some 24), none, .mv (.t 8)⟩, []),
  (⟨(some 25), none, .toInt .u64 (.t 24)⟩, []),
  (⟨(some 26), none, .bin .shr (.t 23) (.t 25)⟩, []),
  (⟨(some 27), none, .call 13 [(.t 7), (.t 26), (.c (.int .i64 1))]⟩, []),
  (⟨(some 28), none, .bin .neq (.t 27) (.c (.int .i64 0))⟩, [])] (some ([7, 0, 5, 6, 8, 28], []))
abbrev l5r8 : LC := .reg false [(⟨(some 21), none, .mv (.t 8)⟩, []),
  (⟨(some 22), none, .bin .sub (.t 21) (.c (.int .i64 1))⟩, []),
  (⟨(some 8), none, .mv (.t 22)⟩, [])] (some ([8, 7, 0, 5, 6], []))
abbrev l5r9 : LC := (.seq (.seq l5r6 (.cond (.t 20) .skip (.exit 0))) (.seq (.block 1 (.seq l5r7 (.cond (.t 28) (.seq l5r4 .ret) .skip))) l5r8))
abbrev l5r10 : LC := .reg true [(⟨(some 29), none, .call 11 []⟩, []),
  (⟨(some 30), none, .mv (.t 29)⟩, []),
  (⟨(some 31), (some (30, true)), .call 15 [(.t 6)]⟩, []),
  (⟨(some 32), (some (30, true)), .toStr (.t 31)⟩, []),
  (⟨(some 33), (some (30, true)), .call 15 [(.t 7)]⟩, [3]),
  (⟨(some 34), (some (30, true)), .toStr (.t 33)⟩, []),
  (⟨(some 35), (some (30, true)), .bin .eql (.t 32) (.t 34)⟩, []),
  (⟨(some 36), none, .pick (.t 30) (.t 35) (.c (.bool false))⟩, []),
  (⟨(some 37), none, .mv (.t 36)⟩, []),
  (⟨(some 38), (some (37, true)), .call 17 [(.t 6)]⟩, []),
  (⟨(some 39), (some (37, true)), .mv (.t 5)⟩, [9]),
  (⟨(some 40), (some (37, true)), .bin .eql (.t 38) (.t 39)⟩, []),
  (⟨(some 41), none, .pick (.t 37) (.t 40) (.c (.bool false))⟩, []),
  (⟨(some 42), none, .mv (.t 41)⟩, []),
  (⟨(some 43), (some (42, true)), .call 17 [(.t 7)]⟩, []),
  (⟨(some 44), (some (42, true)), .mv (.t 5)⟩, [14]),
  (⟨(some 45), (some (42, true)), .bin .eql (.t 43) (.t 44)⟩, []),
  (⟨(some 46), none, .pick (.t 42) (.t 45) (.c (.bool false))⟩, []),
  (⟨(some 4), none, .mv (.t 46)⟩, [])] (some ([4], []))
/-- steamer/steamerlaw10.BitsOne : 2 parameters, results in [4] of 47 slots -/
abbrev l5 : LC := (.seq l5r0 (.seq l5r1 (.seq l5r2 (.seq (.seq l5r3 (.cond (.t 16) (.seq l5r4 .ret) .skip)) (.seq (.seq l5r5 (.block 0 (.loop l5r9))) (.seq l5r10 .ret))))))
def k5 (i : Nat) : Option Kp := match i with
  | 0 => (some ([0, 1], []))
  | 1 => (some ([0, 5], []))
  | 2 => (some ([7, 0, 5, 6], [.cell 6 0 506 1, .cell 7 0 507 1]))
  | 3 => (some ([7, 0, 5, 6, 16], []))
  | 4 => (some ([4], []))
  | 5 => (some ([8, 7, 0, 5, 6], []))
  | 6 => (some ([7, 0, 5, 6, 8, 20], []))
  | 7 => (some ([8, 7, 0, 5, 6], []))
  | 8 => (some ([7, 0, 5, 6, 8, 28], []))
  | 9 => (some ([4], []))
  | 10 => (some ([4], []))
  | _ => none
theorem f5_told : Try.prog.funcs[5]? = some Try.f5 := by kernel_rfl
theorem f5_results : resTmps Try.f5 = some [4] := by kernel_rfl
theorem f5_text : (Try.f5.body.bind (trC Try.prog 47 k5 1000)) = some l5 := by kernel_rfl

abbrev l6r0 : LC := .reg false [(⟨(some 10), none, .mv (.c (.bool false))⟩, [])] (some ([1, 2, 3, 0, 4], []))
abbrev l6r1 : LC := .reg false [(⟨(some 26), none, .mv (.t 1)⟩, []),
  (⟨(some 27), none, .len (.t 26)⟩, []),
  (⟨(some 28), none, .bin .gtr (.t 27) (.c (.int .i64 200))⟩, []),
  (⟨(some 29), none, .mv (.t 28)⟩, []),
  (⟨(some 30), (some (29, false)), .mv (.t 3)⟩, []),
  (⟨(some 31), (some (29, false)), .len (.t 30)⟩, []),
  (⟨(some 32), (some (29, false)), .bin .gtr (.t 31) (.c (.int .i64 30))⟩, []),
  (⟨(some 33), none, .pick (.t 29) (.c (.bool true)) (.t 32)⟩, [])] (some ([1, 2, 3, 0, 4, 33], []))
abbrev l6r2 : LC := .reg false [(⟨(some 34), none, .call 24 []⟩, []),
  (⟨(some 10), none, .mv (.t 34)⟩, [])] (some ([10], []))
abbrev l6r3 : LC := .reg false [(⟨(some 35), none, .mv (.t 4)⟩, []),
  (⟨(some 36), none, .mm false (.t 35) (.c (.int .i64 5000))⟩, []),
  (⟨(some 11), none, .mv (.t 36)⟩, [])] (some ([1, 2, 3, 11, 0], []))
abbrev l6r4 : LC := .reg false [(⟨(some 37), none, .mv (.t 0)⟩, []),
  (⟨(some 38), none, .call 25 [(.t 37), (.c (.int .i64 1500))]⟩, []),
  (⟨(some 12), none, .mv (.t 38)⟩, [])] (some ([1, 12, 2, 3, 11], []))
abbrev l6r5 : LC := .reg false [(⟨(some 13), none, .mv (.c (.int .i64 0))⟩, [])] (some ([13, 1, 12, 2, 3, 11], []))
abbrev l6r6 : LC := .reg false [(⟨(some 39), none, .mv (.t 13)⟩, []),
  (⟨(some 40), none, .bin .lss (.t 39) (.c (.int .i64 2))⟩, [])] (some ([1, 2, 3, 11, 13, 12, 40], []))
abbrev l6r7 : LC := .reg false [(⟨(some 44), none, .mv (.t 12)⟩, []),
  (⟨(some 45), none, .mv (.t 2)⟩, []),
  (⟨(some 46), none, .call 26 [(.t 44), (.t 45)]⟩, []),
  (⟨(some 43), none, .mv (.t 46)⟩, []),
  (⟨(some 47), none, .ext 0 (.t 43)⟩, []),
  (⟨(some 48), none, .ext 1 (.t 43)⟩, []),
  (⟨(some 14), none, .mv (.t 47)⟩, []),
  (⟨(some 15), none, .mv (.t 48)⟩, [])] (some ([1, 2, 3, 11, 13, 15, 14, 12], []))
abbrev l6r8 : LC := .reg false [(⟨(some 16), none, .mv (.c (.int .i64 0))⟩, []),
  (⟨(some 17), none, .mv (.c (.int .i64 0))⟩, [])] (some ([1, 2, 3, 11, 13, 15, 14, 12, 17, 16], []))
abbrev l6r9 : LC := .reg false [(⟨(some 49), none, .mv (.t 2)⟩, []),
  (⟨(some 50), none, .bin .geq (.t 49) (.c (.int .i64 0))⟩, [])] (some ([1, 2, 3, 11, 13, 15, 14, 12, 17, 16, 50], []))
abbrev l6r10 : LC := .reg false [(⟨(some 52), none, .mv (.t 12)⟩, []),
  (⟨(some 53), none, .toStr (.t 52)⟩, []),
  (⟨(some 54), none, .mv (.t 2)⟩, []),
  (⟨(some 55), none, .call 27 [(.t 53), (.t 54)]⟩, []),
  (⟨(some 51), none, .mv (.t 55)⟩, []),
  (⟨(some 56), none, .ext 0 (.t 51)⟩, []),
  (⟨(some 57), none, .ext 1 (.t 51)⟩, []),
  (⟨(some 16), none, .mv (.t 56)⟩, []),
  (⟨(some 17), none, .mv (.t 57)⟩, [])] (some ([1, 2, 3, 11, 13, 17, 15, 16, 14, 12], []))
abbrev l6r11 : LC := .reg true [(⟨(some 58), none, .mv (.t 12)⟩, []),
  (⟨(some 59), none, .call 28 [(.t 58)]⟩, []),
  (⟨(some 60), none, .mv (.t 12)⟩, [1]),
  (⟨(some 61), none, .toStr (.t 60)⟩, [1]),
  (⟨(some 62), none, .call 29 [(.t 61)]⟩, []),
  (⟨(some 18), none, .mv (.t 59)⟩, []),
  (⟨(some 19), none, .mv (.t 62)⟩, [])] (some ([19, 18, 1, 2, 3, 11, 13, 17, 15, 16, 14], []))
abbrev l6r12 : LC := .reg false [(⟨(some 63), none, .mv (.t 14)⟩, []),
  (⟨(some 64), none, .mv (.t 16)⟩, []),
  (⟨(some 65), none, .bin .neq (.t 63) (.t 64)⟩, []),
  (⟨(some 66), none, .mv (.t 65)⟩, []),
  (⟨(some 67), (some (66, false)), .mv (.t 15)⟩, []),
  (⟨(some 68), (some (66, false)), .mv (.t 17)⟩, []),
  (⟨(some 69), (some (66, false)), .bin .neq (.t 67) (.t 68)⟩, []),
  (⟨(some 70), none, .pick (.t 66) (.c (.bool true)) (.t 69)⟩, []),
  (⟨(some 71), none, .mv (.t 70)⟩, []),
  (⟨(some 72), (some (71, false)), .mv (.t 18)⟩, []),
  (⟨(some 73), (some (71, false)), .len (.t 72)⟩, []),
  (⟨(some 74), (some (71, false)), .mv (.t 19)⟩, []),
  (⟨(some 75), (some (71, false)), .len (.t 74)⟩, []),
  (⟨(some 76), (some (71, false)), .bin .neq (.t 73) (.t 75)⟩, []),
  (⟨(some 77), none, .pick (.t 71) (.c (.bool true)) (.t 76)⟩, [])] (some ([19, 18, 1, 2, 3, 11, 13, 77], []))
abbrev l6r13 : LC := .reg false [(⟨(some 10), none, .mv (.c (.bool false))⟩, [])] (some ([10], []))
abbrev l6r14 : LC := .reg false [(⟨(some 20), none, .mv (.c (.int .i64 0))⟩, [])] (some ([20, 19, 18, 1, 2, 3, 11, 13], []))
abbrev l6r15 : LC := .reg false [(⟨(some 78), none, .mv (.t 20)⟩, []),
  (⟨(some 79), none, .mv (.t 18)⟩, []),
  (⟨(some 80), none, .len (.t 79)⟩, []),
  (⟨(some 81), none, .bin .lss (.t 78) (.t 80)⟩, [])] (some ([19, 18, 1, 2, 3, 11, 13, 20, 81], []))
abbrev l6r16 : LC := .reg false [(⟨(some 84), none, .mv (.t 18)⟩, []),
  (⟨(some 85), none, .mv (.t 20)⟩, []),
  (⟨(some 86), none, .iad 3 (.t 84) (.t 85)⟩, []),
  (⟨(some 87), none, .fad 0 (.t 86)⟩, []),
  (⟨(some 88), none, .load 1 false (.t 87)⟩, []),
  (⟨(some 89), none, .mv (.t 19)⟩, []),
  (⟨(some 90), none, .mv (.t 20)⟩, []),
  (⟨(some 91), none, .iad 3 (.t 89) (.t 90)⟩, []),
  (⟨(some 92), none, .fad 0 (.t 91)⟩, []),
  (⟨(some 93), none, .load 1 false (.t 92)⟩, []),
  (⟨(some 94), none, .bin .neq (.t 88) (.t 93)⟩, []),
  (⟨(some 95), none, .mv (.t 94)⟩, []),
  (⟨(some 96), (some (95, false)), .mv (.t 18)⟩, []),
  (⟨(some 97), (some (95, false)), .mv (.t 20)⟩, []),
  (⟨(some 98), (some (95, false)), .iad 3 (.t 96) (.t 97)⟩, []),
  (⟨(some 99), (some (95, false)), .fad 1 (.t 98)⟩, []),
  (⟨(some 100), (some (95, false)), .load 1 false (.t 99)⟩, []),
  (⟨(some 101), (some (95, false)), .mv (.t 19)⟩, []),
  (⟨(some 102), (some (95, false)), .mv (.t 20)⟩, []),
  (⟨(some 103), (some (95, false)), .iad 3 (.t 101) (.t 102)⟩, []),
  (⟨(some 104), (some (95, false)), .fad 1 (.t 103)⟩, []),
  (⟨(some 105), (some (95, false)), .load 1 false (.t 104)⟩, []),
  (⟨(some 106), (some (95, false)), .bin .neq (.t 100) (.t 105)⟩, []),
  (⟨(some 107), none, .pick (.t 95) (.c (.bool true)) (.t 106)⟩, []),
  (⟨(some 108), none, .mv (.t 107)⟩, []),
  (⟨(some 109), (some (108, false)), .mv (.t 18)⟩, []),
  (⟨(some 110), (some (108, false)), .mv (.t 20)⟩, []),
  (⟨(some 111), (some (108, false)), .iad 3 (.t 109) (.t 110)⟩, []),
  (⟨(some 112), (some (108, false)), .fad 2 (.t 111)⟩, []),
  (⟨(some 113), (some (108, false)), .load 1 false (.t 112)⟩, []),
  (⟨(some 114), (some (108, false)), .mv (.t 19)⟩, []),
  (⟨(some 115), (some (108, false)), .mv (.t 20)⟩, []),
  (⟨(some 116), (some (108, false)), .iad 3 (.t 114) (.t 115)⟩, []),
  (⟨(some 117), (some (108, false)), .fad 2 (.t 116)⟩, []),
  (⟨(some 118), (some (108, false)), .load 1 false (.t 117)⟩, []),
  (⟨(some 119), (some (108, false)), .bin .neq (.t 113) (.t 118)⟩, []),
  (⟨(some 120), none, .pick (.t 108) (.c (.bool true)) (.t 119)⟩, [])] (some ([19, 18, 1, 2, 3, 11, 13, 20, 120], []))
abbrev l6r17 : LC := .reg false [(⟨(some 82), none, .mv (.t 20)⟩, []),
  (⟨(some 83), none, .bin .add (.t 82) (.c (.int .i64 1))⟩, []),
  (⟨(some 20), none, .mv (.t 83)⟩, [])] (some ([20, 19, 18, 1, 2, 3, 11, 13], []))
abbrev l6r18 : LC := (.seq (.seq l6r15 (.cond (.t 81) .skip (.exit 2))) (.seq (.block 3 (.seq l6r16 (.cond (.t 120) (.seq l6r13 .ret) .skip))) l6r17))
abbrev l6r19 : LC := .reg false [(⟨(some 121), none, .mv (.t 1)⟩, []),
  (⟨(some 12), none, .mv (.t 121)⟩, [])] (some ([1, 12, 2, 3, 11, 13], []))
abbrev l6r20 : LC := .reg false [(⟨(some 41), none, .mv (.t 13)⟩, []),
  (⟨(some 42), none, .bin .add (.t 41) (.c (.int .i64 1))⟩, []),
  (⟨(some 13), none, .mv (.t 42)⟩, [])] (some ([13, 1, 12, 2, 3, 11], []))
abbrev l6r21 : LC := (.seq (.seq l6r6 (.cond (.t 40) .skip (.exit 0))) (.seq (.block 1 (.seq l6r7 (.seq l6r8 (.seq (.seq l6r9 (.cond (.t 50) l6r10 .skip)) (.seq l6r11 (.seq (.seq l6r12 (.cond (.t 77) (.seq l6r13 .ret) .skip)) (.seq (.seq l6r14 (.block 2 (.loop l6r18))) l6r19))))))) l6r20))
abbrev l6r22 : LC := .reg false [(⟨(some 21), none, .mv (.c (.int .i64 0))⟩, [])] (some ([21, 3, 11], []))
abbrev l6r23 : LC := .reg false [(⟨(some 122), none, .mv (.t 21)⟩, []),
  (⟨(some 123), none, .mv (.t 3)⟩, []),
  (⟨(some 124), none, .len (.t 123)⟩, []),
  (⟨(some 125), none, .bin .lss (.t 122) (.t 124)⟩, [])] (some ([3, 11, 21, 125], []))
abbrev l6r24 : LC := .reg true [(⟨(some 128), none, .mv (.t 3)⟩, []),
  (⟨(some 129), none, .mv (.t 21)⟩, []),
  (⟨(some 130), none, .iad 3 (.t 128) (.t 129)⟩, []),
  (⟨(some 131), none, .load 3 true (.t 130)⟩, []),
  (⟨(some 132), none, .call 30 [(.t 131)]⟩, []),
  (⟨(some 133), none, .mv (.t 3)⟩, [4]),
  (⟨(some 134), none, .mv (.t 21)⟩, [4]),
  (⟨(some 135), none, .iad 3 (.t 133) (.t 134)⟩, [4]),
  (⟨(some 136), none, .fad 0 (.t 135)⟩, [4]),
  (⟨(some 137), none, .load 1 false (.t 136)⟩, [4]),
  (⟨(some 138), none, .mv (.t 3)⟩, [4]),
  (⟨(some 139), none, .mv (.t 21)⟩, [4]),
  (⟨(some 140), none, .iad 3 (.t 138) (.t 139)⟩, [4]),
  (⟨(some 141), none, .fad 1 (.t 140)⟩, [4]),
  (⟨(some 142), none, .load 1 false (.t 141)⟩, [4]),
  (⟨(some 143), none, .mv (.t 3)⟩, [4]),
  (⟨(some 144), none, .mv (.t 21)⟩, [4]),
  (⟨(some 145), none, .iad 3 (.t 143) (.t 144)⟩, [4]),
  (⟨(some 146), none, .fad 2 (.t 145)⟩, [4]),
  (⟨(some 147), none, .load 1 false (.t 146)⟩, [4]),
  (⟨(some 148), none, .build [(.int .i64 0), (.int .i64 0), (.int .i64 0)] [(0, 1, (.t 137)), (1, 1, (.t 142)), (2, 1, (.t 147))]⟩, [4]),
  (⟨(some 149), none, .call 31 [(.t 148)]⟩, []),
  (⟨(some 150), none, .eqb true (.t 132) (.t 149)⟩, [])] (some ([3, 11, 21, 150], []))
abbrev l6r25 : LC := .reg false [(⟨(some 126), none, .mv (.t 21)⟩, []),
  (⟨(some 127), none, .bin .add (.t 126) (.c (.int .i64 1))⟩, []),
  (⟨(some 21), none, .mv (.t 127)⟩, [])] (some ([21, 3, 11], []))
abbrev l6r26 : LC := (.seq (.seq l6r23 (.cond (.t 125) .skip (.exit 4))) (.seq (.block 5 (.seq l6r24 (.cond (.t 150) (.seq l6r13 .ret) .skip))) l6r25))
abbrev l6r27 : LC := .reg false [(⟨(some 152), none, .mv (.t 3)⟩, []),
  (⟨(some 153), none, .mv (.t 11)⟩, []),
  (⟨(some 154), none, .call 32 [(.t 152), (.t 153)]⟩, []),
  (⟨(some 151), none, .mv (.t 154)⟩, []),
  (⟨(some 155), none, .ext 0 (.t 151)⟩, []),
  (⟨(some 156), none, .ext 1 (.t 151)⟩, []),
  (⟨(some 22), none, .mv (.t 155)⟩, []),
  (⟨(some 23), none, .mv (.t 156)⟩, [])] (some ([22, 23, 11, 3], []))
abbrev l6r28 : LC := .reg false [(⟨(some 158), none, .mv (.t 3)⟩, []),
  (⟨(some 159), none, .call 34 [(.t 158)]⟩, []),
  (⟨(some 160), none, .mv (.t 11)⟩, []),
  (⟨(some 161), none, .call 33 [(.t 159), (.t 160)]⟩, []),
  (⟨(some 157), none, .mv (.t 161)⟩, []),
  (⟨(some 162), none, .ext 0 (.t 157)⟩, []),
  (⟨(some 163), none, .ext 1 (.t 157)⟩, []),
  (⟨(some 24), none, .mv (.t 162)⟩, []),
  (⟨(some 25), none, .mv (.t 163)⟩, [])] (some ([24, 22, 25, 23], []))
abbrev l6r29 : LC := .reg false [(⟨(some 164), none, .call 24 []⟩, []),
  (⟨(some 165), none, .mv (.t 164)⟩, []),
  (⟨(some 166), (some (165, true)), .mv (.t 23)⟩, []),
  (⟨(some 167), (some (165, true)), .mv (.t 25)⟩, []),
  (⟨(some 168), (some (165, true)), .bin .eql (.t 166) (.t 167)⟩, []),
  (⟨(some 169), none, .pick (.t 165) (.t 168) (.c (.bool false))⟩, []),
  (⟨(some 170), none, .mv (.t 169)⟩, []),
  (⟨(some 171), (some (170, true)), .mv (.t 22)⟩, []),
  (⟨(some 172), (some (170, true)), .toStr (.t 171)⟩, []),
  (⟨(some 173), (some (170, true)), .mv (.t 24)⟩, []),
  (⟨(some 174), (some (170, true)), .bin .eql (.t 172) (.t 173)⟩, []),
  (⟨(some 175), none, .pick (.t 170) (.t 174) (.c (.bool false))⟩, []),
  (⟨(some 10), none, .mv (.t 175)⟩, [])] (some ([10], []))
/-- steamer/steamerlaw11.MatchAsks : 5 parameters, results in [10] of 176 slots -/
abbrev l6 : LC := (.seq l6r0 (.seq (.seq l6r1 (.cond (.t 33) (.seq l6r2 .ret) .skip)) (.seq l6r3 (.seq l6r4 (.seq (.seq l6r5 (.block 0 (.loop l6r21))) (.seq (.seq l6r22 (.block 4 (.loop l6r26))) (.seq l6r27 (.seq l6r28 (.seq l6r29 .ret)))))))))
def k6 (i : Nat) : Option Kp := match i with
  | 0 => (some ([1, 2, 3, 0, 4], []))
  | 1 => (some ([1, 2, 3, 0, 4, 33], []))
  | 2 => (some ([10], []))
  | 3 => (some ([1, 2, 3, 11, 0], []))
  | 4 => (some ([1, 12, 2, 3, 11], []))
  | 5 => (some ([13, 1, 12, 2, 3, 11], []))
  | 6 => (some ([1, 2, 3, 11, 13, 12, 40], []))
  | 7 => (some ([13, 1, 12, 2, 3, 11], []))
  | 8 => (some ([1, 2, 3, 11, 13, 15, 14, 12], []))
  | 9 => (some ([1, 2, 3, 11, 13, 15, 14, 12, 17, 16], []))
  | 10 => (some ([1, 2, 3, 11, 13, 15, 14, 12, 17, 16, 50], []))
  | 11 => (some ([1, 2, 3, 11, 13, 17, 15, 16, 14, 12], []))
  | 12 => (some ([19, 18, 1, 2, 3, 11, 13, 17, 15, 16, 14], []))
  | 13 => (some ([19, 18, 1, 2, 3, 11, 13, 77], []))
  | 14 => (some ([10], []))
  | 15 => (some ([20, 19, 18, 1, 2, 3, 11, 13], []))
  | 16 => (some ([19, 18, 1, 2, 3, 11, 13, 20, 81], []))
  | 17 => (some ([20, 19, 18, 1, 2, 3, 11, 13], []))
  | 18 => (some ([19, 18, 1, 2, 3, 11, 13, 20, 120], []))
  | 19 => (some ([10], []))
  | 20 => (some ([1, 12, 2, 3, 11, 13], []))
  | 21 => (some ([21, 3, 11], []))
  | 22 => (some ([3, 11, 21, 125], []))
  | 23 => (some ([21, 3, 11], []))
  | 24 => (some ([3, 11, 21, 150], []))
  | 25 => (some ([10], []))
  | 26 => (some ([22, 23, 11, 3], []))
  | 27 => (some ([24, 22, 25, 23], []))
  | 28 => (some ([10], []))
  | _ => none
theorem f6_told : Try.prog.funcs[6]? = some Try.f6 := by kernel_rfl
theorem f6_results : resTmps Try.f6 = some [10] := by kernel_rfl
theorem f6_text : (Try.f6.body.bind (trC Try.prog 176 k6 1000)) = some l6 := by kernel_rfl

abbrev l7r0 : LC := .reg false [(⟨(some 2), none, .mv (.c (.bool false))⟩, [])] (some ([0], []))
abbrev l7r1 : LC := .reg false [(⟨(some 11), none, .mv (.t 0)⟩, []),
  (⟨(some 12), none, .call 25 [(.t 11), (.c (.int .i64 1500))]⟩, []),
  (⟨(some 3), none, .mv (.t 12)⟩, [])] (some ([3], []))
abbrev l7r2 : LC := .reg false [(⟨(some 13), none, .mv (.t 3)⟩, []),
  (⟨(some 14), none, .len (.t 13)⟩, []),
  (⟨(some 15), none, .bin .eql (.t 14) (.c (.int .i64 0))⟩, [])] (some ([3, 15], []))
abbrev l7r3 : LC := .reg false [(⟨(some 16), none, .call 24 []⟩, []),
  (⟨(some 2), none, .mv (.t 16)⟩, [])] (some ([2], []))
abbrev l7r4 : LC := .reg false [(⟨(some 17), none, .mv (.t 3)⟩, []),
  (⟨(some 18), none, .call 28 [(.t 17)]⟩, []),
  (⟨(some 4), none, .mv (.t 18)⟩, [])] (some ([4, 3], []))
abbrev l7r5 : LC := .reg false [(⟨(some 5), none, .mv (.c (.int .i64 0))⟩, [])] (some ([4, 5, 3], []))
abbrev l7r6 : LC := .reg false [(⟨(some 6), none, .mv (.c (.int .i64 0))⟩, [])] (some ([6, 4, 5, 3], []))
abbrev l7r7 : LC := .reg false [(⟨(some 19), none, .mv (.t 6)⟩, []),
  (⟨(some 20), none, .mv (.t 4)⟩, []),
  (⟨(some 21), none, .len (.t 20)⟩, []),
  (⟨(some 22), none, .bin .lss (.t 19) (.t 21)⟩, [])] (some ([4, 3, 6, 5, 22], []))
abbrev l7r8 : LC := .reg false [(⟨(some 25), none, .mv (.t 4)⟩, []),
  (⟨(some 26), none, .mv (.t 6)⟩, []),
  (⟨(some 27), none, .iad 3 (.t 25) (.t 26)⟩, []),
  (⟨(some 28), none, .load 3 true (.t 27)⟩, []),
  (⟨(some 29), none, .call 30 [(.t 28)]⟩, []),
  (⟨(some 30), none, .un .not (.t 29)⟩, []),
  (⟨(some 31), none, .mv (.t 30)⟩, []),
  (⟨(some 32), (some (31, false)), .mv (.t 4)⟩, []),
  (⟨(some 33), (some (31, false)), .mv (.t 6)⟩, []),
  (⟨(some 34), (some (31, false)), .iad 3 (.t 32) (.t 33)⟩, []),
  (⟨(some 35), (some (31, false)), .fad 1 (.t 34)⟩, []),
  (⟨(some 36), (some (31, false)), .load 1 false (.t 35)⟩, []),
  (⟨(some 37), (some (31, false)), .mv (.t 5)⟩, []),
  (⟨(some 38), (some (31, false)), .bin .gtr (.t 36) (.t 37)⟩, []),
  (⟨(some 39), none, .pick (.t 31) (.c (.bool true)) (.t 38)⟩, [])] (some ([4, 3, 6, 5, 39], []))
abbrev l7r9 : LC := .reg false [(⟨(some 2), none, .mv (.c (.bool false))⟩, [])] (some ([2], []))
abbrev l7r10 : LC := .reg false [(⟨(some 40), none, .mv (.t 5)⟩, []),
  (⟨(some 41), none, .mv (.t 4)⟩, []),
  (⟨(some 42), none, .mv (.t 6)⟩, []),
  (⟨(some 43), none, .iad 3 (.t 41) (.t 42)⟩, []),
  (⟨(some 44), none, .fad 2 (.t 43)⟩, []),
  (⟨(some 45), none, .load 1 false (.t 44)⟩, []),
  (⟨(some 46), none, .mm true (.t 45) (.c (.int .i64 1))⟩, []),
  (⟨(some 47), none, .bin .add (.t 40) (.t 46)⟩, []),
  (⟨(some 5), none, .mv (.t 47)⟩, [])] (some ([4, 5, 3, 6], []))
abbrev l7r11 : LC := .reg false [(⟨(some 23), none, .mv (.t 6)⟩, []),
  (⟨(some 24), none, .bin .add (.t 23) (.c (.int .i64 1))⟩, []),
  (⟨(some 6), none, .mv (.t 24)⟩, [])] (some ([6, 4, 5, 3], []))
abbrev l7r12 : LC := (.seq (.seq l7r7 (.cond (.t 22) .skip (.exit 0))) (.seq (.block 1 (.seq (.seq l7r8 (.cond (.t 39) (.seq l7r9 .ret) .skip)) l7r10)) l7r11))
abbrev l7r13 : LC := .reg false [(⟨(some 49), none, .mv (.t 4)⟩, []),
  (⟨(some 50), none, .mv (.t 3)⟩, []),
  (⟨(some 51), none, .len (.t 50)⟩, []),
  (⟨(some 52), none, .call 32 [(.t 49), (.t 51)]⟩, []),
  (⟨(some 48), none, .mv (.t 52)⟩, []),
  (⟨(some 53), none, .ext 0 (.t 48)⟩, []),
  (⟨(some 54), none, .ext 1 (.t 48)⟩, []),
  (⟨(some 7), none, .mv (.t 53)⟩, []),
  (⟨(some 8), none, .mv (.t 54)⟩, [])] (some ([3, 5, 7, 8, 4], []))
abbrev l7r14 : LC := .reg false [(⟨(some 56), none, .mv (.t 4)⟩, []),
  (⟨(some 57), none, .mv (.t 3)⟩, []),
  (⟨(some 58), none, .len (.t 57)⟩, []),
  (⟨(some 59), none, .bin .sub (.t 58) (.c (.int .i64 1))⟩, []),
  (⟨(some 60), none, .call 32 [(.t 56), (.t 59)]⟩, []),
  (⟨(some 55), none, .mv (.t 60)⟩, []),
  (⟨(some 61), none, .ext 0 (.t 55)⟩, []),
  (⟨(some 62), none, .ext 1 (.t 55)⟩, []),
  (⟨(some 9), none, .mv (.t 61)⟩, []),
  (⟨(some 10), none, .mv (.t 62)⟩, [])] (some ([3, 5, 10, 7, 8], []))
abbrev l7r15 : LC := .reg false [(⟨(some 63), none, .call 24 []⟩, []),
  (⟨(some 64), none, .mv (.t 63)⟩, []),
  (⟨(some 65), (some (64, true)), .mv (.t 8)⟩, []),
  (⟨(some 66), (some (64, true)), .bin .eql (.t 65) (.c (.int .i64 0))⟩, []),
  (⟨(some 67), none, .pick (.t 64) (.t 66) (.c (.bool false))⟩, []),
  (⟨(some 68), none, .mv (.t 67)⟩, []),
  (⟨(some 69), (some (68, true)), .mv (.t 7)⟩, []),
  (⟨(some 70), (some (68, true)), .toStr (.t 69)⟩, []),
  (⟨(some 71), (some (68, true)), .mv (.t 3)⟩, []),
  (⟨(some 72), (some (68, true)), .toStr (.t 71)⟩, []),
  (⟨(some 73), (some (68, true)), .bin .eql (.t 70) (.t 72)⟩, []),
  (⟨(some 74), none, .pick (.t 68) (.t 73) (.c (.bool false))⟩, []),
  (⟨(some 75), none, .mv (.t 74)⟩, []),
  (⟨(some 76), (some (75, true)), .mv (.t 10)⟩, []),
  (⟨(some 77), (some (75, true)), .bin .eql (.t 76) (.c (.int .i64 13))⟩, []),
  (⟨(some 78), none, .pick (.t 75) (.t 77) (.c (.bool false))⟩, []),
  (⟨(some 79), none, .mv (.t 78)⟩, []),
  (⟨(some 80), (some (79, true)), .mv (.t 5)⟩, []),
  (⟨(some 81), (some (79, true)), .mv (.t 3)⟩, []),
  (⟨(some 82), (some (79, true)), .len (.t 81)⟩, []),
  (⟨(some 83), (some (79, true)), .bin .eql (.t 80) (.t 82)⟩, []),
  (⟨(some 84), none, .pick (.t 79) (.t 83) (.c (.bool false))⟩, []),
  (⟨(some 2), none, .mv (.t 84)⟩, [])] (some ([2], []))
/-- steamer/steamerlaw11.MatchBack : 1 parameters, results in [2] of 85 slots -/
abbrev l7 : LC := (.seq l7r0 (.seq l7r1 (.seq (.seq l7r2 (.cond (.t 15) (.seq l7r3 .ret) .skip)) (.seq l7r4 (.seq l7r5 (.seq (.seq l7r6 (.block 0 (.loop l7r12))) (.seq l7r13 (.seq l7r14 (.seq l7r15 .ret)))))))))
def k7 (i : Nat) : Option Kp := match i with
  | 0 => (some ([0], []))
  | 1 => (some ([3], []))
  | 2 => (some ([3, 15], []))
  | 3 => (some ([2], []))
  | 4 => (some ([4, 3], []))
  | 5 => (some ([4, 5, 3], []))
  | 6 => (some ([6, 4, 5, 3], []))
  | 7 => (some ([4, 3, 6, 5, 22], []))
  | 8 => (some ([6, 4, 5, 3], []))
  | 9 => (some ([4, 3, 6, 5, 39], []))
  | 10 => (some ([2], []))
  | 11 => (some ([4, 5, 3, 6], []))
  | 12 => (some ([3, 5, 7, 8, 4], []))
  | 13 => (some ([3, 5, 10, 7, 8], []))
  | 14 => (some ([2], []))
  | _ => none
theorem f7_told : Try.prog.funcs[7]? = some Try.f7 := by kernel_rfl
theorem f7_results : resTmps Try.f7 = some [2] := by kernel_rfl
theorem f7_text : (Try.f7.body.bind (trC Try.prog 85 k7 1000)) = some l7 := by kernel_rfl

abbrev l8r0 : LC := .reg false [(⟨(some 4), none, .mv (.c (.bool false))⟩, [])] (some ([1, 0], []))
abbrev l8r1 : LC := .reg false [(⟨(some 11), none, .mv (.t 0)⟩, []),
  (⟨(some 12), none, .call 25 [(.t 11), (.c (.int .i64 400))]⟩, []),
  (⟨(some 5), none, .mv (.t 12)⟩, [])] (some ([5, 1], []))
abbrev l8r2 : LC := .reg false [(⟨(some 13), none, .mv (.t 5)⟩, []),
  (⟨(some 14), none, .len (.t 13)⟩, []),
  (⟨(some 15), none, .bin .eql (.t 14) (.c (.int .i64 0))⟩, [])] (some ([5, 1, 15], []))
abbrev l8r3 : LC := .reg false [(⟨(some 16), none, .call 24 []⟩, []),
  (⟨(some 4), none, .mv (.t 16)⟩, [])] (some ([4], []))
abbrev l8r4 : LC := .reg false [(⟨(some 17), none, .mv (.t 1)⟩, []),
  (⟨(some 18), none, .toInt .u64 (.t 17)⟩, []),
  (⟨(some 19), none, .mv (.t 5)⟩, []),
  (⟨(some 20), none, .len (.t 19)⟩, []),
  (⟨(some 21), none, .toInt .u64 (.t 20)⟩, []),
  (⟨(some 22), none, .bin .rem (.t 18) (.t 21)⟩, []),
  (⟨(some 23), none, .toInt .i64 (.t 22)⟩, []),
  (⟨(some 6), none, .mv (.t 23)⟩, [])] (some ([6, 5], []))
abbrev l8r5 : LC := .reg false [(⟨(some 25), none, .mv (.t 5)⟩, []),
  (⟨(some 26), none, .mv (.t 6)⟩, []),
  (⟨(some 27), none, .call 26 [(.t 25), (.t 26)]⟩, []),
  (⟨(some 24), none, .mv (.t 27)⟩, []),
  (⟨(some 28), none, .ext 0 (.t 24)⟩, []),
  (⟨(some 29), none, .ext 1 (.t 24)⟩, []),
  (⟨(some 7), none, .mv (.t 28)⟩, []),
  (⟨(some 8), none, .mv (.t 29)⟩, [])] (some ([8, 7, 6, 5], []))
abbrev l8r6 : LC := .reg false [(⟨(some 30), none, .mv (.t 8)⟩, []),
  (⟨(some 31), none, .bin .lss (.t 30) (.c (.int .i64 0))⟩, []),
  (⟨(some 32), none, .mv (.t 31)⟩, []),
  (⟨(some 33), (some (32, false)), .mv (.t 8)⟩, []),
  (⟨(some 34), (some (32, false)), .bin .gtr (.t 33) (.c (.int .i64 66))⟩, []),
  (⟨(some 35), none, .pick (.t 32) (.c (.bool true)) (.t 34)⟩, []),
  (⟨(some 36), none, .mv (.t 35)⟩, []),
  (⟨(some 37), (some (36, false)), .mv (.t 6)⟩, []),
  (⟨(some 38), (some (36, false)), .mv (.t 8)⟩, []),
  (⟨(some 39), (some (36, false)), .bin .add (.t 37) (.t 38)⟩, []),
  (⟨(some 40), (some (36, false)), .mv (.t 5)⟩, []),
  (⟨(some 41), (some (36, false)), .len (.t 40)⟩, []),
  (⟨(some 42), (some (36, false)), .bin .gtr (.t 39) (.t 41)⟩, []),
  (⟨(some 43), none, .pick (.t 36) (.c (.bool true)) (.t 42)⟩, []),
  (⟨(some 44), none, .mv (.t 43)⟩, []),
  (⟨(some 45), (some (44, false)), .mv (.t 7)⟩, []),
  (⟨(some 46), (some (44, false)), .bin .lss (.t 45) (.c (.int .i64 0))⟩, []),
  (⟨(some 47), none, .pick (.t 44) (.c (.bool true)) (.t 46)⟩, []),
  (⟨(some 48), none, .mv (.t 47)⟩, []),
  (⟨(some 49), (some (48, false)), .mv (.t 7)⟩, []),
  (⟨(some 50), (some (48, false)), .mv (.t 6)⟩, []),
  (⟨(some 51), (some (48, false)), .bin .gtr (.t 49) (.t 50)⟩, []),
  (⟨(some 52), none, .pick (.t 48) (.c (.bool true)) (.t 51)⟩, [])] (some ([8, 7, 6, 5, 52], []))
abbrev l8r7 : LC := .reg false [(⟨(some 4), none, .mv (.c (.bool false))⟩, [])] (some ([4], []))
abbrev l8r8 : LC := .reg false [(⟨(some 9), none, .mv (.c (.int .i64 1))⟩, [])] (some ([9, 8, 7, 6, 5], []))
abbrev l8r9 : LC := .reg false [(⟨(some 53), none, .mv (.t 9)⟩, []),
  (⟨(some 54), none, .mv (.t 6)⟩, []),
  (⟨(some 55), none, .bin .leq (.t 53) (.t 54)⟩, [])] (some ([8, 7, 6, 5, 9, 55], []))
abbrev l8r10 : LC := .reg false [(⟨(some 10), none, .mv (.c (.int .i64 0))⟩, [])] (some ([10, 8, 7, 6, 5, 9], []))
abbrev l8r11 : LC := .reg false [(⟨(some 58), none, .mv (.t 10)⟩, []),
  (⟨(some 59), none, .bin .lss (.t 58) (.c (.int .i64 66))⟩, []),
  (⟨(some 60), none, .mv (.t 59)⟩, []),
  (⟨(some 61), (some (60, true)), .mv (.t 6)⟩, []),
  (⟨(some 62), (some (60, true)), .mv (.t 10)⟩, []),
  (⟨(some 63), (some (60, true)), .bin .add (.t 61) (.t 62)⟩, []),
  (⟨(some 64), (some (60, true)), .mv (.t 5)⟩, []),
  (⟨(some 65), (some (60, true)), .len (.t 64)⟩, []),
  (⟨(some 66), (some (60, true)), .bin .lss (.t 63) (.t 65)⟩, []),
  (⟨(some 67), none, .pick (.t 60) (.t 66) (.c (.bool false))⟩, []),
  (⟨(some 68), none, .mv (.t 67)⟩, []),
  (⟨(some 69), (some (68, true)), .mv (.t 5)⟩, []),
  (⟨(some 70), (some (68, true)), .mv (.t 6)⟩, []),
  (⟨(some 71), (some (68, true)), .mv (.t 10)⟩, []),
  (⟨(some 72), (some (68, true)), .bin .add (.t 70) (.t 71)⟩, []),
  (⟨(some 73), (some (68, true)), .iad 1 (.t 69) (.t 72)⟩, []),
  (⟨(some 74), (some (68, true)), .load 1 false (.t 73)⟩, []),
  (⟨(some 75), (some (68, true)), .mv (.t 5)⟩, []),
  (⟨(some 76), (some (68, true)), .mv (.t 6)⟩, []),
  (⟨(some 77), (some (68, true)), .mv (.t 10)⟩, []),
  (⟨(some 78), (some (68, true)), .bin .add (.t 76) (.t 77)⟩, []),
  (⟨(some 79), (some (68, true)), .mv (.t 9)⟩, []),
  (⟨(some 80), (some (68, true)), .bin .sub (.t 78) (.t 79)⟩, []),
  (⟨(some 81), (some (68, true)), .iad 1 (.t 75) (.t 80)⟩, []),
  (⟨(some 82), (some (68, true)), .load 1 false (.t 81)⟩, []),
  (⟨(some 83), (some (68, true)), .bin .eql (.t 74) (.t 82)⟩, []),
  (⟨(some 84), none, .pick (.t 68) (.t 83) (.c (.bool false))⟩, [])] (some ([8, 7, 6, 5, 9, 10, 84], []))
abbrev l8r12 : LC := .reg false [(⟨(some 85), none, .mv (.t 10)⟩, []),
  (⟨(some 86), none, .bin .add (.t 85) (.c (.int .i64 1))⟩, []),
  (⟨(some 10), none, .mv (.t 86)⟩, [])] (some ([10, 8, 7, 6, 5, 9], []))
abbrev l8r13 : LC := (.seq (.seq l8r11 (.cond (.t 84) .skip (.exit 2))) (.block 3 l8r12))
abbrev l8r14 : LC := .reg false [(⟨(some 87), none, .mv (.t 10)⟩, []),
  (⟨(some 88), none, .mv (.t 8)⟩, []),
  (⟨(some 89), none, .bin .gtr (.t 87) (.t 88)⟩, []),
  (⟨(some 90), none, .mv (.t 89)⟩, []),
  (⟨(some 91), (some (90, true)), .mv (.t 10)⟩, []),
  (⟨(some 92), (some (90, true)), .bin .geq (.t 91) (.c (.int .i64 3))⟩, []),
  (⟨(some 93), none, .pick (.t 90) (.t 92) (.c (.bool false))⟩, []),
  (⟨(some 94), none, .mv (.t 93)⟩, []),
  (⟨(some 95), (some (94, false)), .mv (.t 10)⟩, []),
  (⟨(some 96), (some (94, false)), .bin .geq (.t 95) (.c (.int .i64 3))⟩, []),
  (⟨(some 97), (some (94, false)), .mv (.t 96)⟩, []),
  (⟨(some 98), (some (97, true)), .mv (.t 10)⟩, []),
  (⟨(some 99), (some (97, true)), .mv (.t 8)⟩, []),
  (⟨(some 100), (some (97, true)), .bin .eql (.t 98) (.t 99)⟩, []),
  (⟨(some 101), (some (94, false)), .pick (.t 97) (.t 100) (.c (.bool false))⟩, []),
  (⟨(some 102), (some (94, false)), .mv (.t 101)⟩, []),
  (⟨(some 103), (some (102, true)), .mv (.t 9)⟩, []),
  (⟨(some 104), (some (102, true)), .mv (.t 7)⟩, []),
  (⟨(some 105), (some (102, true)), .bin .lss (.t 103) (.t 104)⟩, []),
  (⟨(some 106), (some (94, false)), .pick (.t 102) (.t 105) (.c (.bool false))⟩, []),
  (⟨(some 107), none, .pick (.t 94) (.c (.bool true)) (.t 106)⟩, []),
  (⟨(some 108), none, .mv (.t 107)⟩, []),
  (⟨(some 109), (some (108, false)), .mv (.t 9)⟩, []),
  (⟨(some 110), (some (108, false)), .mv (.t 7)⟩, []),
  (⟨(some 111), (some (108, false)), .bin .eql (.t 109) (.t 110)⟩, []),
  (⟨(some 112), (some (108, false)), .mv (.t 111)⟩, []),
  (⟨(some 113), (some (112, true)), .mv (.t 10)⟩, []),
  (⟨(some 114), (some (112, true)), .mv (.t 8)⟩, []),
  (⟨(some 115), (some (112, true)), .bin .neq (.t 113) (.t 114)⟩, []),
  (⟨(some 116), (some (108, false)), .pick (.t 112) (.t 115) (.c (.bool false))⟩, []),
  (⟨(some 117), none, .pick (.t 108) (.c (.bool true)) (.t 116)⟩, [])] (some ([8, 7, 6, 5, 9, 117], []))
abbrev l8r15 : LC := .reg false [(⟨(some 56), none, .mv (.t 9)⟩, []),
  (⟨(some 57), none, .bin .add (.t 56) (.c (.int .i64 1))⟩, []),
  (⟨(some 9), none, .mv (.t 57)⟩, [])] (some ([9, 8, 7, 6, 5], []))
abbrev l8r16 : LC := (.seq (.seq l8r9 (.cond (.t 55) .skip (.exit 0))) (.seq (.block 1 (.seq l8r10 (.seq (.block 2 (.loop l8r13)) (.seq l8r14 (.cond (.t 117) (.seq l8r7 .ret) .skip))))) l8r15))
abbrev l8r17 : LC := .reg false [(⟨(some 118), none, .call 24 []⟩, []),
  (⟨(some 119), none, .mv (.t 118)⟩, []),
  (⟨(some 120), (some (119, true)), .mv (.t 8)⟩, []),
  (⟨(some 121), (some (119, true)), .bin .eql (.t 120) (.c (.int .i64 0))⟩, []),
  (⟨(some 122), (some (119, true)), .mv (.t 7)⟩, []),
  (⟨(some 123), (some (119, true)), .bin .eql (.t 122) (.c (.int .i64 0))⟩, []),
  (⟨(some 124), (some (119, true)), .eqb false (.t 121) (.t 123)⟩, []),
  (⟨(some 125), none, .pick (.t 119) (.t 124) (.c (.bool false))⟩, []),
  (⟨(some 4), none, .mv (.t 125)⟩, [])] (some ([4], []))
/-- steamer/steamerlaw11.MatchLongest : 2 parameters, results in [4] of 126 slots -/
abbrev l8 : LC := (.seq l8r0 (.seq l8r1 (.seq (.seq l8r2 (.cond (.t 15) (.seq l8r3 .ret) .skip)) (.seq l8r4 (.seq l8r5 (.seq (.seq l8r6 (.cond (.t 52) (.seq l8r7 .ret) .skip)) (.seq (.seq l8r8 (.block 0 (.loop l8r16))) (.seq l8r17 .ret))))))))
def k8 (i : Nat) : Option Kp := match i with
  | 0 => (some ([1, 0], []))
  | 1 => (some ([5, 1], []))
  | 2 => (some ([5, 1, 15], []))
  | 3 => (some ([4], []))
  | 4 => (some ([6, 5], []))
  | 5 => (some ([8, 7, 6, 5], []))
  | 6 => (some ([8, 7, 6, 5, 52], []))
  | 7 => (some ([4], []))
  | 8 => (some ([9, 8, 7, 6, 5], []))
  | 9 => (some ([8, 7, 6, 5, 9, 55], []))
  | 10 => (some ([9, 8, 7, 6, 5], []))
  | 11 => (some ([10, 8, 7, 6, 5, 9], []))
  | 12 => (some ([8, 7, 6, 5, 9, 10, 84], []))
  | 13 => (some ([10, 8, 7, 6, 5, 9], []))
  | 14 => (some ([8, 7, 6, 5, 9, 117], []))
  | 15 => (some ([4], []))
  | 16 => (some ([4], []))
  | _ => none
theorem f8_told : Try.prog.funcs[8]? = some Try.f8 := by kernel_rfl
theorem f8_results : resTmps Try.f8 = some [4] := by kernel_rfl
theorem f8_text : (Try.f8.body.bind (trC Try.prog 126 k8 1000)) = some l8 := by kernel_rfl

abbrev l9r0 : LC := .reg false [(⟨(some 4), none, .mv (.c (.bool false))⟩, [])] (some ([0, 1], []))
abbrev l9r1 : LC := .reg false [(⟨(some 12), none, .mv (.t 1)⟩, []),
  (⟨(some 13), none, .toInt .u64 (.t 12)⟩, []),
  (⟨(some 14), none, .bin .rem (.t 13) (.c (.int .u64 500))⟩, []),
  (⟨(some 15), none, .toInt .i64 (.t 14)⟩, []),
  (⟨(some 16), none, .bin .add (.c (.int .i64 1)) (.t 15)⟩, []),
  (⟨(some 5), none, .mv (.t 16)⟩, [])] (some ([0, 5], []))
abbrev l9r2 : LC := .reg false [(⟨(some 17), none, .mv (.t 5)⟩, []),
  (⟨(some 18), none, .mksl 1 1 [(.int .u8 0)] (.t 17) (.t 17)⟩, []),
  (⟨(some 6), none, .mv (.t 18)⟩, [])] (some ([0, 6, 5], []))
abbrev l9r3 : LC := .reg false [(⟨(some 7), none, .mv (.c (.int .i64 0))⟩, [])] (some ([7, 0, 6, 5], []))
abbrev l9r4 : LC := .reg false [(⟨(some 19), none, .mv (.t 7)⟩, []),
  (⟨(some 20), none, .mv (.t 5)⟩, []),
  (⟨(some 21), none, .bin .lss (.t 19) (.t 20)⟩, [])] (some ([0, 6, 5, 7, 21], []))
abbrev l9r5 : LC := .reg false [(⟨(some 24), none, .mv (.t 6)⟩, []),
  (⟨(some 25), none, .mv (.t 7)⟩, []),
  (⟨(some 26), none, .mv (.t 0)⟩, []),
  (⟨(some 27), none, .iad 1 (.t 24) (.t 25)⟩, []),
  (⟨none, none, .store 1 (.t 27) (.t 26)⟩, [])] (some ([0, 6, 5, 7], []))
abbrev l9r6 : LC := .reg false [(⟨(some 22), none, .mv (.t 7)⟩, []),
  (⟨(some 23), none, .bin .add (.t 22) (.c (.int .i64 1))⟩, []),
  (⟨(some 7), none, .mv (.t 23)⟩, [])] (some ([7, 0, 6, 5], []))
abbrev l9r7 : LC := (.seq (.seq l9r4 (.cond (.t 21) .skip (.exit 0))) (.seq (.block 1 l9r5) l9r6))
abbrev l9r8 : LC := .reg false [(⟨(some 28), none, .mv (.t 6)⟩, []),
  (⟨(some 29), none, .call 28 [(.t 28)]⟩, []),
  (⟨(some 8), none, .mv (.t 29)⟩, [])] (some ([0, 8, 5], []))
abbrev l9r9 : LC := .reg false [(⟨(some 30), none, .mv (.t 5)⟩, []),
  (⟨(some 31), none, .bin .sub (.t 30) (.c (.int .i64 1))⟩, []),
  (⟨(some 9), none, .mv (.t 31)⟩, [])] (some ([9, 0, 8], []))
abbrev l9r10 : LC := .reg false [(⟨(some 32), none, .mv (.t 8)⟩, []),
  (⟨(some 33), none, .len (.t 32)⟩, []),
  (⟨(some 34), none, .bin .eql (.t 33) (.c (.int .i64 0))⟩, []),
  (⟨(some 35), none, .mv (.t 34)⟩, []),
  (⟨(some 36), (some (35, false)), .mv (.t 8)⟩, []),
  (⟨(some 37), (some (35, false)), .iad 3 (.t 36) (.c (.int .i64 0))⟩, []),
  (⟨(some 38), (some (35, false)), .load 3 true (.t 37)⟩, []),
  (⟨(some 39), (some (35, false)), .mv (.t 0)⟩, []),
  (⟨(some 40), (some (35, false)), .toInt .i64 (.t 39)⟩, []),
  (⟨(some 41), (some (35, false)), .build [(.int .i64 0), (.int .i64 0), (.int .i64 0)] [(0, 1, (.t 40))]⟩, []),
  (⟨(some 42), (some (35, false)), .eqs true [0, 0, 0] (.t 38) (.t 41)⟩, []),
  (⟨(some 43), none, .pick (.t 35) (.c (.bool true)) (.t 42)⟩, [])] (some ([9, 0, 8, 43], []))
abbrev l9r11 : LC := .reg false [(⟨(some 4), none, .mv (.c (.bool false))⟩, [])] (some ([4], []))
abbrev l9r12 : LC := .reg false [(⟨(some 10), none, .mv (.c (.int .i64 1))⟩, [])] (some ([10, 9, 0, 8], []))
abbrev l9r13 : LC := .reg false [(⟨(some 44), none, .mv (.t 10)⟩, []),
  (⟨(some 45), none, .mv (.t 8)⟩, []),
  (⟨(some 46), none, .len (.t 45)⟩, []),
  (⟨(some 47), none, .bin .lss (.t 44) (.t 46)⟩, [])] (some ([0, 8, 10, 9, 47], []))
abbrev l9r14 : LC := .reg false [(⟨(some 50), none, .mv (.t 9)⟩, []),
  (⟨(some 51), none, .mm false (.t 50) (.c (.int .i64 66))⟩, []),
  (⟨(some 11), none, .mv (.t 51)⟩, [])] (some ([0, 8, 10, 9, 11], []))
abbrev l9r15 : LC := .reg false [(⟨(some 52), none, .mv (.t 11)⟩, []),
  (⟨(some 53), none, .bin .geq (.t 52) (.c (.int .i64 3))⟩, []),
  (⟨(some 54), none, .mv (.t 53)⟩, []),
  (⟨(some 55), (some (54, true)), .mv (.t 8)⟩, []),
  (⟨(some 56), (some (54, true)), .mv (.t 10)⟩, []),
  (⟨(some 57), (some (54, true)), .iad 3 (.t 55) (.t 56)⟩, []),
  (⟨(some 58), (some (54, true)), .load 3 true (.t 57)⟩, []),
  (⟨(some 59), (some (54, true)), .mv (.t 11)⟩, []),
  (⟨(some 60), (some (54, true)), .build [(.int .i64 0), (.int .i64 0), (.int .i64 0)] [(0, 1, (.c (.int .i64 (-1)))), (1, 1, (.c (.int .i64 1))), (2, 1, (.t 59))]⟩, []),
  (⟨(some 61), (some (54, true)), .eqs true [0, 0, 0] (.t 58) (.t 60)⟩, []),
  (⟨(some 62), none, .pick (.t 54) (.t 61) (.c (.bool false))⟩, []),
  (⟨(some 63), none, .mv (.t 62)⟩, []),
  (⟨(some 64), (some (63, false)), .mv (.t 11)⟩, []),
  (⟨(some 65), (some (63, false)), .bin .lss (.t 64) (.c (.int .i64 3))⟩, []),
  (⟨(some 66), (some (63, false)), .mv (.t 65)⟩, []),
  (⟨(some 67), (some (66, true)), .mv (.t 8)⟩, []),
  (⟨(some 68), (some (66, true)), .mv (.t 10)⟩, []),
  (⟨(some 69), (some (66, true)), .iad 3 (.t 67) (.t 68)⟩, []),
  (⟨(some 70), (some (66, true)), .load 3 true (.t 69)⟩, []),
  (⟨(some 71), (some (66, true)), .mv (.t 0)⟩, []),
  (⟨(some 72), (some (66, true)), .toInt .i64 (.t 71)⟩, []),
  (⟨(some 73), (some (66, true)), .build [(.int .i64 0), (.int .i64 0), (.int .i64 0)] [(0, 1, (.t 72))]⟩, []),
  (⟨(some 74), (some (66, true)), .eqs true [0, 0, 0] (.t 70) (.t 73)⟩, []),
  (⟨(some 75), (some (63, false)), .pick (.t 66) (.t 74) (.c (.bool false))⟩, []),
  (⟨(some 76), none, .pick (.t 63) (.c (.bool true)) (.t 75)⟩, [])] (some ([0, 8, 10, 9, 11, 76], []))
abbrev l9r16 : LC := .reg false [(⟨(some 77), none, .mv (.t 11)⟩, []),
  (⟨(some 78), none, .bin .lss (.t 77) (.c (.int .i64 3))⟩, [])] (some ([0, 8, 10, 9, 11, 78], []))
abbrev l9r17 : LC := .reg false [(⟨(some 11), none, .mv (.c (.int .i64 1))⟩, [])] (some ([0, 8, 10, 11, 9], []))
abbrev l9r18 : LC := .reg false [(⟨(some 79), none, .mv (.t 9)⟩, []),
  (⟨(some 80), none, .mv (.t 11)⟩, []),
  (⟨(some 81), none, .bin .sub (.t 79) (.t 80)⟩, []),
  (⟨(some 9), none, .mv (.t 81)⟩, [])] (some ([9, 0, 8, 10], []))
abbrev l9r19 : LC := .reg false [(⟨(some 48), none, .mv (.t 10)⟩, []),
  (⟨(some 49), none, .bin .add (.t 48) (.c (.int .i64 1))⟩, []),
  (⟨(some 10), none, .mv (.t 49)⟩, [])] (some ([10, 9, 0, 8], []))
abbrev l9r20 : LC := (.seq (.seq l9r13 (.cond (.t 47) .skip (.exit 2))) (.seq (.block 3 (.seq l9r14 (.seq (.seq l9r15 (.cond (.t 76) (.seq l9r11 .ret) .skip)) (.seq (.seq l9r16 (.cond (.t 78) l9r17 .skip)) l9r18)))) l9r19))
abbrev l9r21 : LC := .reg false [(⟨(some 82), none, .call 24 []⟩, []),
  (⟨(some 83), none, .mv (.t 82)⟩, []),
  (⟨(some 84), (some (83, true)), .mv (.t 9)⟩, []),
  (⟨(some 85), (some (83, true)), .bin .eql (.t 84) (.c (.int .i64 0))⟩, []),
  (⟨(some 86), none, .pick (.t 83) (.t 85) (.c (.bool false))⟩, []),
  (⟨(some 4), none, .mv (.t 86)⟩, [])] (some ([4], []))
/-- steamer/steamerlaw11.MatchRuns : 2 parameters, results in [4] of 87 slots -/
abbrev l9 : LC := (.seq l9r0 (.seq l9r1 (.seq l9r2 (.seq (.seq l9r3 (.block 0 (.loop l9r7))) (.seq l9r8 (.seq l9r9 (.seq (.seq l9r10 (.cond (.t 43) (.seq l9r11 .ret) .skip)) (.seq (.seq l9r12 (.block 2 (.loop l9r20))) (.seq l9r21 .ret)))))))))
def k9 (i : Nat) : Option Kp := match i with
  | 0 => (some ([0, 1], []))
  | 1 => (some ([0, 5], []))
  | 2 => (some ([0, 6, 5], []))
  | 3 => (some ([7, 0, 6, 5], []))
  | 4 => (some ([0, 6, 5, 7, 21], []))
  | 5 => (some ([7, 0, 6, 5], []))
  | 6 => (some ([0, 6, 5, 7], []))
  | 7 => (some ([0, 8, 5], []))
  | 8 => (some ([9, 0, 8], []))
  | 9 => (some ([9, 0, 8, 43], []))
  | 10 => (some ([4], []))
  | 11 => (some ([10, 9, 0, 8], []))
  | 12 => (some ([0, 8, 10, 9, 47], []))
  | 13 => (some ([10, 9, 0, 8], []))
  | 14 => (some ([0, 8, 10, 9, 11], []))
  | 15 => (some ([0, 8, 10, 9, 11, 76], []))
  | 16 => (some ([4], []))
  | 17 => (some ([0, 8, 10, 9, 11, 78], []))
  | 18 => (some ([0, 8, 10, 11, 9], []))
  | 19 => (some ([9, 0, 8, 10], []))
  | 20 => (some ([4], []))
  | _ => none
theorem f9_told : Try.prog.funcs[9]? = some Try.f9 := by kernel_rfl
theorem f9_results : resTmps Try.f9 = some [4] := by kernel_rfl
theorem f9_text : (Try.f9.body.bind (trC Try.prog 87 k9 1000)) = some l9 := by kernel_rfl

abbrev l10r0 : LC := .reg false [(⟨(some 4), none, .mv (.c (.bool false))⟩, [])] (some ([0, 1], []))
abbrev l10r1 : LC := .reg false [(⟨(some 10), none, .mv (.t 0)⟩, []),
  (⟨(some 11), none, .len (.t 10)⟩, []),
  (⟨(some 12), none, .bin .gtr (.t 11) (.c (.int .i64 30))⟩, [])] (some ([0, 1, 12], []))
abbrev l10r2 : LC := .reg false [(⟨(some 13), none, .call 24 []⟩, []),
  (⟨(some 4), none, .mv (.t 13)⟩, [])] (some ([4], []))
abbrev l10r3 : LC := .reg false [(⟨(some 14), none, .mv (.t 1)⟩, []),
  (⟨(some 15), none, .toInt .u64 (.t 14)⟩, []),
  (⟨(some 16), none, .bin .rem (.t 15) (.c (.int .u64 501))⟩, []),
  (⟨(some 17), none, .toInt .i64 (.t 16)⟩, []),
  (⟨(some 5), none, .mv (.t 17)⟩, [])] (some ([0, 5], []))
abbrev l10r4 : LC := .reg false [(⟨(some 19), none, .mv (.t 0)⟩, []),
  (⟨(some 20), none, .mv (.t 5)⟩, []),
  (⟨(some 21), none, .call 32 [(.t 19), (.t 20)]⟩, []),
  (⟨(some 18), none, .mv (.t 21)⟩, []),
  (⟨(some 22), none, .ext 0 (.t 18)⟩, []),
  (⟨(some 23), none, .ext 1 (.t 18)⟩, []),
  (⟨(some 6), none, .mv (.t 22)⟩, []),
  (⟨(some 7), none, .mv (.t 23)⟩, [])] (some ([7, 6, 0, 5], []))
abbrev l10r5 : LC := .reg false [(⟨(some 24), none, .mv (.t 7)⟩, []),
  (⟨(some 25), none, .bin .neq (.t 24) (.c (.int .i64 0))⟩, [])] (some ([7, 6, 0, 5, 25], []))
abbrev l10r6 : LC := .reg false [(⟨(some 26), none, .call 24 []⟩, []),
  (⟨(some 27), none, .mv (.t 26)⟩, []),
  (⟨(some 28), (some (27, true)), .mv (.t 6)⟩, []),
  (⟨(some 29), (some (27, true)), .len (.t 28)⟩, []),
  (⟨(some 30), (some (27, true)), .bin .eql (.t 29) (.c (.int .i64 0))⟩, []),
  (⟨(some 31), none, .pick (.t 27) (.t 30) (.c (.bool false))⟩, []),
  (⟨(some 32), none, .mv (.t 31)⟩, []),
  (⟨(some 33), (some (32, true)), .mv (.t 7)⟩, []),
  (⟨(some 34), (some (32, true)), .bin .eql (.t 33) (.c (.int .i64 1))⟩, []),
  (⟨(some 35), (some (32, true)), .mv (.t 34)⟩, []),
  (⟨(some 36), (some (35, false)), .mv (.t 7)⟩, []),
  (⟨(some 37), (some (35, false)), .bin .eql (.t 36) (.c (.int .i64 2))⟩, []),
  (⟨(some 38), (some (32, true)), .pick (.t 35) (.c (.bool true)) (.t 37)⟩, []),
  (⟨(some 39), (some (32, true)), .mv (.t 38)⟩, []),
  (⟨(some 40), (some (39, false)), .mv (.t 7)⟩, []),
  (⟨(some 41), (some (39, false)), .bin .eql (.t 40) (.c (.int .i64 13))⟩, []),
  (⟨(some 42), (some (32, true)), .pick (.t 39) (.c (.bool true)) (.t 41)⟩, []),
  (⟨(some 43), none, .pick (.t 32) (.t 42) (.c (.bool false))⟩, []),
  (⟨(some 4), none, .mv (.t 43)⟩, [])] (some ([4], []))
abbrev l10r7 : LC := .reg false [(⟨(some 8), none, .mv (.c (.int .i64 0))⟩, [])] (some ([0, 8, 5, 6], []))
abbrev l10r8 : LC := .reg false [(⟨(some 9), none, .mv (.c (.int .i64 0))⟩, [])] (some ([9, 0, 8, 5, 6], []))
abbrev l10r9 : LC := .reg false [(⟨(some 44), none, .mv (.t 9)⟩, []),
  (⟨(some 45), none, .mv (.t 0)⟩, []),
  (⟨(some 46), none, .len (.t 45)⟩, []),
  (⟨(some 47), none, .bin .lss (.t 44) (.t 46)⟩, [])] (some ([0, 5, 6, 9, 8, 47], []))
abbrev l10r10 : LC := .reg false [(⟨(some 50), none, .mv (.t 8)⟩, []),
  (⟨(some 51), none, .mv (.t 0)⟩, []),
  (⟨(some 52), none, .mv (.t 9)⟩, []),
  (⟨(some 53), none, .iad 3 (.t 51) (.t 52)⟩, []),
  (⟨(some 54), none, .fad 2 (.t 53)⟩, []),
  (⟨(some 55), none, .load 1 false (.t 54)⟩, []),
  (⟨(some 56), none, .mm true (.t 55) (.c (.int .i64 1))⟩, []),
  (⟨(some 57), none, .bin .add (.t 50) (.t 56)⟩, []),
  (⟨(some 8), none, .mv (.t 57)⟩, [])] (some ([0, 8, 5, 6, 9], []))
abbrev l10r11 : LC := .reg false [(⟨(some 48), none, .mv (.t 9)⟩, []),
  (⟨(some 49), none, .bin .add (.t 48) (.c (.int .i64 1))⟩, []),
  (⟨(some 9), none, .mv (.t 49)⟩, [])] (some ([9, 0, 8, 5, 6], []))
abbrev l10r12 : LC := (.seq (.seq l10r9 (.cond (.t 47) .skip (.exit 0))) (.seq (.block 1 l10r10) l10r11))
abbrev l10r13 : LC := .reg false [(⟨(some 58), none, .call 24 []⟩, []),
  (⟨(some 59), none, .mv (.t 58)⟩, []),
  (⟨(some 60), (some (59, true)), .mv (.t 6)⟩, []),
  (⟨(some 61), (some (59, true)), .len (.t 60)⟩, []),
  (⟨(some 62), (some (59, true)), .mv (.t 8)⟩, []),
  (⟨(some 63), (some (59, true)), .bin .eql (.t 61) (.t 62)⟩, []),
  (⟨(some 64), none, .pick (.t 59) (.t 63) (.c (.bool false))⟩, []),
  (⟨(some 65), none, .mv (.t 64)⟩, []),
  (⟨(some 66), (some (65, true)), .mv (.t 8)⟩, []),
  (⟨(some 67), (some (65, true)), .mv (.t 5)⟩, []),
  (⟨(some 68), (some (65, true)), .bin .leq (.t 66) (.t 67)⟩, []),
  (⟨(some 69), none, .pick (.t 65) (.t 68) (.c (.bool false))⟩, []),
  (⟨(some 4), none, .mv (.t 69)⟩, [])] (some ([4], []))
/-- steamer/steamerlaw11.MatchRaw : 2 parameters, results in [4] of 70 slots -/
abbrev l10 : LC := (.seq l10r0 (.seq (.seq l10r1 (.cond (.t 12) (.seq l10r2 .ret) .skip)) (.seq l10r3 (.seq l10r4 (.seq (.seq l10r5 (.cond (.t 25) (.seq l10r6 .ret) .skip)) (.seq l10r7 (.seq (.seq l10r8 (.block 0 (.loop l10r12))) (.seq l10r13 .ret))))))))
def k10 (i : Nat) : Option Kp := match i with
  | 0 => (some ([0, 1], []))
  | 1 => (some ([0, 1, 12], []))
  | 2 => (some ([4], []))
  | 3 => (some ([0, 5], []))
  | 4 => (some ([7, 6, 0, 5], []))
  | 5 => (some ([7, 6, 0, 5, 25], []))
  | 6 => (some ([4], []))
  | 7 => (some ([0, 8, 5, 6], []))
  | 8 => (some ([9, 0, 8, 5, 6], []))
  | 9 => (some ([0, 5, 6, 9, 8, 47], []))
  | 10 => (some ([9, 0, 8, 5, 6], []))
  | 11 => (some ([0, 8, 5, 6, 9], []))
  | 12 => (some ([4], []))
  | _ => none
theorem f10_told : Try.prog.funcs[10]? = some Try.f10 := by kernel_rfl
theorem f10_results : resTmps Try.f10 = some [4] := by kernel_rfl
theorem f10_text : (Try.f10.body.bind (trC Try.prog 70 k10 1000)) = some l10 := by kernel_rfl

abbrev l11r0 : LC := .reg false [(⟨(some 0), none, .mv (.c (.bool false))⟩, [])] (some ([], []))
abbrev l11r1 : LC := .reg false [(⟨(some 1), none, .alloc [(.slice none 0 0), (.int .i64 0)]⟩, [])] (some ([1], [.cell 1 0 501 1]))
abbrev l11r2 : LC := .reg false [(⟨(some 15), none, .call 13 [(.t 1), (.c (.int .u64 5)), (.c (.int .i64 3))]⟩, []),
  (⟨(some 16), none, .call 13 [(.t 1), (.c (.int .u64 1)), (.c (.int .i64 33))]⟩, []),
  (⟨(some 2), none, .mv (.t 15)⟩, []),
  (⟨(some 3), none, .mv (.t 16)⟩, [])] (some ([1, 3, 2], []))
abbrev l11r3 : LC := .reg false [(⟨(some 17), none, .call 15 [(.t 1)]⟩, []),
  (⟨(some 4), none, .mv (.t 17)⟩, [])] (some ([1, 4, 3, 2], []))
abbrev l11r4 : LC := .reg false [(⟨(some 18), none, .bslice 1 1 [(.int .u8 0)] [(0, (.c (.int .u8 160)))]⟩, []),
  (⟨(some 19), none, .call 12 [(.t 18)]⟩, []),
  (⟨(some 5), none, .mv (.t 19)⟩, [])] (some ([5, 1, 4, 3, 2], []))
abbrev l11r5 : LC := .reg false [(⟨(some 20), none, .mv (.t 5)⟩, []),
  (⟨(some 21), none, .eqp false (.t 20) (.c (.pointer none))⟩, [])] (some ([5, 1, 4, 3, 2, 21], []))
abbrev l11r6 : LC := .reg false [(⟨(some 0), none, .mv (.c (.bool false))⟩, [])] (some ([0], []))
abbrev l11r7 : LC := .reg false [(⟨(some 23), none, .mv (.t 5)⟩, []),
  (⟨(some 24), none, .call 18 [(.t 23), (.c (.int .i64 3))]⟩, []),
  (⟨(some 22), none, .mv (.t 24)⟩, []),
  (⟨(some 25), none, .ext 0 (.t 22)⟩, []),
  (⟨(some 26), none, .ext 1 (.t 22)⟩, []),
  (⟨(some 6), none, .mv (.t 25)⟩, []),
  (⟨(some 7), none, .mv (.t 26)⟩, [])] (some ([5, 7, 6, 1, 4, 3, 2], []))
abbrev l11r8 : LC := .reg false [(⟨(some 28), none, .mv (.t 5)⟩, []),
  (⟨(some 29), none, .call 18 [(.t 28), (.c (.int .i64 6))]⟩, []),
  (⟨(some 27), none, .mv (.t 29)⟩, []),
  (⟨(some 30), none, .ext 0 (.t 27)⟩, []),
  (⟨(some 31), none, .ext 1 (.t 27)⟩, []),
  (⟨(some 8), none, .mv (.t 30)⟩, []),
  (⟨(some 9), none, .mv (.t 31)⟩, [])] (some ([5, 9, 7, 6, 1, 4, 3, 2], []))
abbrev l11r9 : LC := .reg false [(⟨(some 32), none, .mv (.t 5)⟩, []),
  (⟨(some 33), none, .call 22 [(.t 32)]⟩, []),
  (⟨(some 10), none, .mv (.t 33)⟩, [])] (some ([5, 10, 9, 7, 6, 1, 4, 3, 2], []))
abbrev l11r10 : LC := .reg false [(⟨(some 11), none, .mv (.c (.pointer none))⟩, [])] (some ([11, 5, 10, 9, 7, 6, 1, 4, 3, 2], []))
abbrev l11r11 : LC := .reg false [(⟨(some 12), none, .mv (.c (.pointer none))⟩, [])] (some ([12, 11, 5, 10, 9, 7, 6, 1, 4, 3, 2], []))
abbrev l11r12 : LC := .reg false [(⟨(some 35), none, .mv (.t 12)⟩, []),
  (⟨(some 36), none, .call 18 [(.t 35), (.c (.int .i64 1))]⟩, []),
  (⟨(some 34), none, .mv (.t 36)⟩, []),
  (⟨(some 37), none, .ext 0 (.t 34)⟩, []),
  (⟨(some 38), none, .ext 1 (.t 34)⟩, []),
  (⟨(some 13), none, .mv (.t 37)⟩, []),
  (⟨(some 14), none, .mv (.t 38)⟩, [])] (some ([12, 14, 11, 5, 10, 9, 7, 6, 1, 4, 3, 2], []))
abbrev l11r13 : LC := .reg false [(⟨(some 39), none, .mv (.t 2)⟩, []),
  (⟨(some 40), none, .bin .eql (.t 39) (.c (.int .i64 0))⟩, []),
  (⟨(some 41), none, .mv (.t 40)⟩, []),
  (⟨(some 42), (some (41, true)), .mv (.t 3)⟩, []),
  (⟨(some 43), (some (41, true)), .bin .eql (.t 42) (.c (.int .i64 1))⟩, []),
  (⟨(some 44), none, .pick (.t 41) (.t 43) (.c (.bool false))⟩, []),
  (⟨(some 45), none, .mv (.t 44)⟩, []),
  (⟨(some 46), (some (45, true)), .mv (.t 4)⟩, []),
  (⟨(some 47), (some (45, true)), .len (.t 46)⟩, []),
  (⟨(some 48), (some (45, true)), .bin .eql (.t 47) (.c (.int .i64 1))⟩, []),
  (⟨(some 49), none, .pick (.t 45) (.t 48) (.c (.bool false))⟩, []),
  (⟨(some 50), none, .mv (.t 49)⟩, []),
  (⟨(some 51), (some (50, true)), .mv (.t 4)⟩, []),
  (⟨(some 52), (some (50, true)), .iad 1 (.t 51) (.c (.int .i64 0))⟩, []),
  (⟨(some 53), (some (50, true)), .load 1 false (.t 52)⟩, []),
  (⟨(some 54), (some (50, true)), .bin .eql (.t 53) (.c (.int .u8 160))⟩, []),
  (⟨(some 55), none, .pick (.t 50) (.t 54) (.c (.bool false))⟩, []),
  (⟨(some 56), none, .mv (.t 55)⟩, []),
  (⟨(some 57), (some (56, true)), .call 17 [(.t 1)]⟩, []),
  (⟨(some 58), (some (56, true)), .bin .eql (.t 57) (.c (.int .i64 3))⟩, []),
  (⟨(some 59), none, .pick (.t 56) (.t 58) (.c (.bool false))⟩, []),
  (⟨(some 60), none, .mv (.t 59)⟩, []),
  (⟨(some 61), (some (60, true)), .mv (.t 6)⟩, []),
  (⟨(some 62), (some (60, true)), .bin .eql (.t 61) (.c (.int .u64 5))⟩, []),
  (⟨(some 63), none, .pick (.t 60) (.t 62) (.c (.bool false))⟩, []),
  (⟨(some 64), none, .mv (.t 63)⟩, []),
  (⟨(some 65), (some (64, true)), .mv (.t 7)⟩, []),
  (⟨(some 66), (some (64, true)), .bin .eql (.t 65) (.c (.int .i64 0))⟩, []),
  (⟨(some 67), none, .pick (.t 64) (.t 66) (.c (.bool false))⟩, []),
  (⟨(some 68), none, .mv (.t 67)⟩, []),
  (⟨(some 69), (some (68, true)), .mv (.t 9)⟩, []),
  (⟨(some 70), (some (68, true)), .bin .eql (.t 69) (.c (.int .i64 5))⟩, []),
  (⟨(some 71), none, .pick (.t 68) (.t 70) (.c (.bool false))⟩, []),
  (⟨(some 72), none, .mv (.t 71)⟩, []),
  (⟨(some 73), (some (72, true)), .mv (.t 10)⟩, []),
  (⟨(some 74), none, .pick (.t 72) (.t 73) (.c (.bool false))⟩, []),
  (⟨(some 75), none, .mv (.t 74)⟩, []),
  (⟨(some 76), (some (75, true)), .mv (.t 5)⟩, []),
  (⟨(some 77), (some (75, true)), .call 20 [(.t 76)]⟩, []),
  (⟨(some 78), (some (75, true)), .bin .eql (.t 77) (.c (.int .i64 5))⟩, []),
  (⟨(some 79), none, .pick (.t 75) (.t 78) (.c (.bool false))⟩, []),
  (⟨(some 80), none, .mv (.t 79)⟩, []),
  (⟨(some 81), (some (80, true)), .mv (.t 11)⟩, []),
  (⟨(some 82), (some (80, true)), .call 13 [(.t 81), (.c (.int .u64 1)), (.c (.int .i64 1))]⟩, []),
  (⟨(some 83), (some (80, true)), .bin .eql (.t 82) (.c (.int .i64 1))⟩, []),
  (⟨(some 84), none, .pick (.t 80) (.t 83) (.c (.bool false))⟩, []),
  (⟨(some 85), none, .mv (.t 84)⟩, []),
  (⟨(some 86), (some (85, true)), .mv (.t 14)⟩, []),
  (⟨(some 87), (some (85, true)), .bin .eql (.t 86) (.c (.int .i64 1))⟩, []),
  (⟨(some 88), none, .pick (.t 85) (.t 87) (.c (.bool false))⟩, []),
  (⟨(some 89), none, .mv (.t 88)⟩, []),
  (⟨(some 90), (some (89, true)), .mv (.t 12)⟩, []),
  (⟨(some 91), (some (89, true)), .call 20 [(.t 90)]⟩, []),
  (⟨(some 92), (some (89, true)), .bin .eql (.t 91) (.c (.int .i64 0))⟩, []),
  (⟨(some 93), none, .pick (.t 89) (.t 92) (.c (.bool false))⟩, []),
  (⟨(some 94), none, .mv (.t 93)⟩, []),
  (⟨(some 95), (some (94, true)), .mv (.t 12)⟩, []),
  (⟨(some 96), (some (94, true)), .call 22 [(.t 95)]⟩, []),
  (⟨(some 97), (some (94, true)), .un .not (.t 96)⟩, []),
  (⟨(some 98), none, .pick (.t 94) (.t 97) (.c (.bool false))⟩, []),
  (⟨(some 0), none, .mv (.t 98)⟩, [])] (some ([0], []))
/-- steamer/steamerlaw10.told : 0 parameters, results in [0] of 99 slots -/
abbrev l11 : LC := (.seq l11r0 (.seq l11r1 (.seq l11r2 (.seq l11r3 (.seq l11r4 (.seq (.seq l11r5 (.cond (.t 21) (.seq l11r6 .ret) .skip)) (.seq l11r7 (.seq l11r8 (.seq l11r9 (.seq l11r10 (.seq l11r11 (.seq l11r12 (.seq l11r13 .ret)))))))))))))
def k11 (i : Nat) : Option Kp := match i with
  | 0 => (some ([], []))
  | 1 => (some ([1], [.cell 1 0 501 1]))
  | 2 => (some ([1, 3, 2], []))
  | 3 => (some ([1, 4, 3, 2], []))
  | 4 => (some ([5, 1, 4, 3, 2], []))
  | 5 => (some ([5, 1, 4, 3, 2, 21], []))
  | 6 => (some ([0], []))
  | 7 => (some ([5, 7, 6, 1, 4, 3, 2], []))
  | 8 => (some ([5, 9, 7, 6, 1, 4, 3, 2], []))
  | 9 => (some ([5, 10, 9, 7, 6, 1, 4, 3, 2], []))
  | 10 => (some ([11, 5, 10, 9, 7, 6, 1, 4, 3, 2], []))
  | 11 => (some ([12, 11, 5, 10, 9, 7, 6, 1, 4, 3, 2], []))
  | 12 => (some ([12, 14, 11, 5, 10, 9, 7, 6, 1, 4, 3, 2], []))
  | 13 => (some ([0], []))
  | _ => none
theorem f11_told : Try.prog.funcs[11]? = some Try.f11 := by kernel_rfl
theorem f11_results : resTmps Try.f11 = some [0] := by kernel_rfl
theorem f11_text : (Try.f11.body.bind (trC Try.prog 99 k11 1000)) = some l11 := by kernel_rfl

abbrev l12r0 : LC := .reg false [(⟨(some 2), none, .mv (.c (.pointer none))⟩, [])] (some ([0], []))
abbrev l12r1 : LC := .reg false [(⟨(some 3), none, .mv (.t 0)⟩, []),
  (⟨(some 4), none, .app 1 1 [(.int .u8 0)] (.c (.slice none 0 0)) (.t 3)⟩, []),
  (⟨(some 5), none, .build [(.slice none 0 0), (.int .i64 0)] [(0, 1, (.t 4))]⟩, []),
  (⟨(some 6), none, .box 2 (.t 5)⟩, []),
  (⟨(some 2), none, .mv (.t 6)⟩, [])] (some ([2], []))
/-- steamer/bits.From : 1 parameters, results in [2] of 7 slots -/
abbrev l12 : LC := (.seq l12r0 (.seq l12r1 .ret))
def k12 (i : Nat) : Option Kp := match i with
  | 0 => (some ([0], []))
  | 1 => (some ([2], []))
  | _ => none
theorem f12_told : Try.prog.funcs[12]? = some Try.f12 := by kernel_rfl
theorem f12_results : resTmps Try.f12 = some [2] := by kernel_rfl
theorem f12_text : (Try.f12.body.bind (trC Try.prog 7 k12 1000)) = some l12 := by kernel_rfl

abbrev l13r0 : LC := .reg false [(⟨(some 6), none, .mv (.c (.int .i64 0))⟩, [])] (some ([0, 1, 2], []))
abbrev l13r1 : LC := .reg false [(⟨(some 7), none, .mv (.t 0)⟩, []),
  (⟨(some 8), none, .eqp false (.t 7) (.c (.pointer none))⟩, []),
  (⟨(some 9), none, .mv (.t 8)⟩, []),
  (⟨(some 10), (some (9, false)), .mv (.t 2)⟩, []),
  (⟨(some 11), (some (9, false)), .bin .lss (.t 10) (.c (.int .i64 0))⟩, []),
  (⟨(some 12), none, .pick (.t 9) (.c (.bool true)) (.t 11)⟩, []),
  (⟨(some 13), none, .mv (.t 12)⟩, []),
  (⟨(some 14), (some (13, false)), .mv (.t 2)⟩, []),
  (⟨(some 15), (some (13, false)), .bin .gtr (.t 14) (.c (.int .i64 32))⟩, []),
  (⟨(some 16), none, .pick (.t 13) (.c (.bool true)) (.t 15)⟩, [])] (some ([0, 1, 2, 16], []))
abbrev l13r2 : LC := .reg false [(⟨(some 6), none, .mv (.c (.int .i64 1))⟩, [])] (some ([6], []))
abbrev l13r3 : LC := .reg false [(⟨(some 17), none, .mv (.t 2)⟩, []),
  (⟨(some 18), none, .bin .eql (.t 17) (.c (.int .i64 0))⟩, [])] (some ([0, 1, 2, 18], []))
abbrev l13r4 : LC := .reg false [(⟨(some 6), none, .mv (.c (.int .i64 0))⟩, [])] (some ([6], []))
abbrev l13r5 : LC := .reg false [(⟨(some 19), none, .mv (.t 2)⟩, []),
  (⟨(some 20), none, .bin .sub (.t 19) (.c (.int .i64 1))⟩, []),
  (⟨(some 2), none, .mv (.t 20)⟩, [])] (some ([0, 1, 2], []))
abbrev l13r6 : LC := .reg false [(⟨(some 21), none, .mv (.t 0)⟩, []),
  (⟨(some 22), none, .nilck (.t 21)⟩, []),
  (⟨(some 23), none, .fad 1 (.t 22)⟩, []),
  (⟨(some 24), none, .load 1 false (.t 23)⟩, []),
  (⟨(some 25), none, .bin .rem (.t 24) (.c (.int .i64 8))⟩, []),
  (⟨(some 26), none, .bin .eql (.t 25) (.c (.int .i64 0))⟩, [])] (some ([0, 1, 2, 26], []))
abbrev l13r7 : LC := .reg false [(⟨(some 27), none, .mv (.t 0)⟩, []),
  (⟨(some 28), none, .mv (.t 0)⟩, []),
  (⟨(some 29), none, .nilck (.t 28)⟩, []),
  (⟨(some 30), none, .fad 0 (.t 29)⟩, []),
  (⟨(some 31), none, .load 1 false (.t 30)⟩, []),
  (⟨(some 32), none, .bslice 1 1 [(.int .u8 0)] [(0, (.c (.int .u8 0)))]⟩, []),
  (⟨(some 33), none, .app 1 1 [(.int .u8 0)] (.t 31) (.t 32)⟩, []),
  (⟨(some 34), none, .nilck (.t 27)⟩, []),
  (⟨(some 35), none, .fad 0 (.t 34)⟩, []),
  (⟨none, none, .store 1 (.t 35) (.t 33)⟩, [])] (some ([0, 1, 2], []))
abbrev l13r8 : LC := .reg false [(⟨(some 36), none, .mv (.t 0)⟩, []),
  (⟨(some 37), none, .nilck (.t 36)⟩, []),
  (⟨(some 38), none, .fad 0 (.t 37)⟩, []),
  (⟨(some 39), none, .load 1 false (.t 38)⟩, []),
  (⟨(some 40), none, .mv (.t 0)⟩, []),
  (⟨(some 41), none, .nilck (.t 40)⟩, []),
  (⟨(some 42), none, .fad 1 (.t 41)⟩, []),
  (⟨(some 43), none, .load 1 false (.t 42)⟩, []),
  (⟨(some 44), none, .bin .quo (.t 43) (.c (.int .i64 8))⟩, []),
  (⟨(some 45), none, .iad 1 (.t 39) (.t 44)⟩, []),
  (⟨(some 46), none, .load 1 false (.t 45)⟩, []),
  (⟨(some 47), none, .mv (.t 1)⟩, []),
  (⟨(some 48), none, .mv (.t 2)⟩, []),
  (⟨(some 49), none, .toInt .u64 (.t 48)⟩, []),
  (⟨(some 50), none, .bin .shr (.t 47) (.t 49)⟩, []),
  (⟨(some 51), none, .bin .and (.t 50) (.c (.int .u64 1))⟩, []),
  (⟨(some 52), none, .toInt .u8 (.t 51)⟩, []),
  (⟨(some 53), none, .mv (.t 0)⟩, []),
  (⟨(some 54), none, .nilck (.t 53)⟩, []),
  (⟨(some 55), none, .fad 1 (.t 54)⟩, []),
  (⟨(some 56), none, .load 1 false (.t 55)⟩, []),
  (⟨(some 57), none, .bin .rem (.t 56) (.c (.int .i64 8))⟩, []),
  (⟨(some 58), none, .bin .sub (.c (.int .i64 7)) (.t 57)⟩, []),
  (⟨(some 59), none, .toInt .u64 (.t 58)⟩, []),
  (⟨(some 60), none, .bin .shl (.t 52) (.t 59)⟩, []),
  (⟨(some 61), none, .bin .or (.t 46) (.t 60)⟩, []),
  (⟨(some 62), none, .iad 1 (.t 39) (.t 44)⟩, []),
  (⟨none, none, .store 1 (.t 62) (.t 61)⟩, [])] (some ([0, 1, 2], []))
abbrev l13r9 : LC := .reg false [(⟨(some 63), none, .mv (.t 0)⟩, []),
  (⟨(some 64), none, .nilck (.t 63)⟩, []),
  (⟨(some 65), none, .fad 1 (.t 64)⟩, []),
  (⟨(some 66), none, .load 1 false (.t 65)⟩, []),
  (⟨(some 67), none, .bin .add (.t 66) (.c (.int .i64 1))⟩, []),
  (⟨(some 68), none, .nilck (.t 63)⟩, []),
  (⟨(some 69), none, .fad 1 (.t 68)⟩, []),
  (⟨none, none, .store 1 (.t 69) (.t 67)⟩, [])] (some ([0, 1, 2], []))
abbrev l13r10 : LC := (.seq (.seq l13r1 (.cond (.t 16) (.seq l13r2 .ret) .skip)) (.seq .label (.seq (.seq l13r3 (.cond (.t 18) (.seq l13r4 .ret) .skip)) (.seq l13r5 (.seq (.seq l13r6 (.cond (.t 26) l13r7 .skip)) (.seq l13r8 (.seq l13r9 (.goto 0))))))))
abbrev l13r11 : LC := (.seq .skip (.seq (.seq l13r3 (.cond (.t 18) (.seq l13r4 .ret) .skip)) (.seq l13r5 (.seq (.seq l13r6 (.cond (.t 26) l13r7 .skip)) (.seq l13r8 (.seq l13r9 (.goto 0)))))))
/-- (*steamer/bits.Out).Put : 3 parameters, results in [6] of 70 slots -/
abbrev l13 : LC := (.seq l13r0 (.scope 0 l13r10 l13r11))
def k13 (i : Nat) : Option Kp := match i with
  | 0 => (some ([0, 1, 2], []))
  | 1 => (some ([0, 1, 2, 16], []))
  | 2 => (some ([6], []))
  | 3 => (some ([0, 1, 2, 18], []))
  | 4 => (some ([6], []))
  | 5 => (some ([0, 1, 2], []))
  | 6 => (some ([0, 1, 2, 26], []))
  | 7 => (some ([0, 1, 2], []))
  | 8 => (some ([0, 1, 2], []))
  | 9 => (some ([0, 1, 2], []))
  | _ => none
theorem f13_told : Try.prog.funcs[13]? = some Try.f13 := by kernel_rfl
theorem f13_results : resTmps Try.f13 = some [6] := by kernel_rfl
theorem f13_text : (Try.f13.body.bind (trC Try.prog 70 k13 1000)) = some l13 := by kernel_rfl

abbrev l14r0 : LC := .reg false [(⟨(some 6), none, .mv (.c (.int .i64 0))⟩, [])] (some ([1, 0, 2], []))
abbrev l14r1 : LC := .reg false [(⟨(some 8), none, .mv (.t 2)⟩, []),
  (⟨(some 9), none, .bin .lss (.t 8) (.c (.int .i64 0))⟩, []),
  (⟨(some 10), none, .mv (.t 9)⟩, []),
  (⟨(some 11), (some (10, false)), .mv (.t 2)⟩, []),
  (⟨(some 12), (some (10, false)), .bin .gtr (.t 11) (.c (.int .i64 32))⟩, []),
  (⟨(some 13), none, .pick (.t 10) (.c (.bool true)) (.t 12)⟩, [])] (some ([1, 0, 2, 13], []))
abbrev l14r2 : LC := .reg false [(⟨(some 6), none, .mv (.c (.int .i64 1))⟩, [])] (some ([6], []))
abbrev l14r3 : LC := .reg false [(⟨(some 14), none, .mv (.t 2)⟩, []),
  (⟨(some 15), none, .bin .sub (.t 14) (.c (.int .i64 1))⟩, []),
  (⟨(some 7), none, .mv (.t 15)⟩, [])] (some ([7, 1, 0], []))
abbrev l14r4 : LC := .reg false [(⟨(some 16), none, .mv (.t 7)⟩, []),
  (⟨(some 17), none, .bin .geq (.t 16) (.c (.int .i64 0))⟩, [])] (some ([1, 0, 7, 17], []))
abbrev l14r5 : LC := .reg false [(⟨(some 20), none, .mv (.t 0)⟩, []),
  (⟨(some 21), none, .mv (.t 0)⟩, []),
  (⟨(some 22), none, .nilck (.t 21)⟩, []),
  (⟨(some 23), none, .fad 0 (.t 22)⟩, []),
  (⟨(some 24), none, .load 1 false (.t 23)⟩, []),
  (⟨(some 25), none, .mv (.t 1)⟩, []),
  (⟨(some 26), none, .mv (.t 7)⟩, []),
  (⟨(some 27), none, .toInt .u64 (.t 26)⟩, []),
  (⟨(some 28), none, .bin .shr (.t 25) (.t 27)⟩, []),
  (⟨(some 29), none, .bin .and (.t 28) (.c (.int .u64 1))⟩, []),
  (⟨(some 30), none, .toInt .u8 (.t 29)⟩, []),
  (⟨(some 31), none, .bslice 1 1 [(.int .u8 0)] [(0, (.t 30))]⟩, []),
  (⟨(some 32), none, .app 1 1 [(.int .u8 0)] (.t 24) (.t 31)⟩, []),
  (⟨(some 33), none, .nilck (.t 20)⟩, []),
  (⟨(some 34), none, .fad 0 (.t 33)⟩, []),
  (⟨none, none, .store 1 (.t 34) (.t 32)⟩, [])] (some ([1, 0, 7], []))
abbrev l14r6 : LC := .reg false [(⟨(some 18), none, .mv (.t 7)⟩, []),
  (⟨(some 19), none, .bin .sub (.t 18) (.c (.int .i64 1))⟩, []),
  (⟨(some 7), none, .mv (.t 19)⟩, [])] (some ([7, 1, 0], []))
abbrev l14r7 : LC := (.seq (.seq l14r4 (.cond (.t 17) .skip (.exit 0))) (.seq (.block 1 l14r5) l14r6))
abbrev l14r8 : LC := .reg false [(⟨(some 6), none, .mv (.c (.int .i64 0))⟩, [])] (some ([6], []))
/-- (*steamer/steamerref9.Out).Put : 3 parameters, results in [6] of 35 slots -/
abbrev l14 : LC := (.seq l14r0 (.seq (.seq l14r1 (.cond (.t 13) (.seq l14r2 .ret) .skip)) (.seq (.seq l14r3 (.block 0 (.loop l14r7))) (.seq l14r8 .ret))))
def k14 (i : Nat) : Option Kp := match i with
  | 0 => (some ([1, 0, 2], []))
  | 1 => (some ([1, 0, 2, 13], []))
  | 2 => (some ([6], []))
  | 3 => (some ([7, 1, 0], []))
  | 4 => (some ([1, 0, 7, 17], []))
  | 5 => (some ([7, 1, 0], []))
  | 6 => (some ([1, 0, 7], []))
  | 7 => (some ([6], []))
  | _ => none
theorem f14_told : Try.prog.funcs[14]? = some Try.f14 := by kernel_rfl
theorem f14_results : resTmps Try.f14 = some [6] := by kernel_rfl
theorem f14_text : (Try.f14.body.bind (trC Try.prog 35 k14 1000)) = some l14 := by kernel_rfl

abbrev l15r0 : LC := .reg false [(⟨(some 2), none, .mv (.c (.slice none 0 0))⟩, [])] (some ([0], []))
abbrev l15r1 : LC := .reg false [(⟨(some 3), none, .mv (.t 0)⟩, []),
  (⟨(some 4), none, .eqp false (.t 3) (.c (.pointer none))⟩, [])] (some ([0, 4], []))
abbrev l15r2 : LC := .reg false [(⟨(some 2), none, .mv (.c (.slice none 0 0))⟩, [])] (some ([2], []))
abbrev l15r3 : LC := .reg false [(⟨(some 5), none, .mv (.t 0)⟩, []),
  (⟨(some 6), none, .nilck (.t 5)⟩, []),
  (⟨(some 7), none, .fad 0 (.t 6)⟩, []),
  (⟨(some 8), none, .load 1 false (.t 7)⟩, []),
  (⟨(some 9), none, .app 1 1 [(.int .u8 0)] (.c (.slice none 0 0)) (.t 8)⟩, []),
  (⟨(some 2), none, .mv (.t 9)⟩, [])] (some ([2], []))
/-- (*steamer/bits.Out).Bytes : 1 parameters, results in [2] of 10 slots -/
abbrev l15 : LC := (.seq l15r0 (.seq (.seq l15r1 (.cond (.t 4) (.seq l15r2 .ret) .skip)) (.seq l15r3 .ret)))
def k15 (i : Nat) : Option Kp := match i with
  | 0 => (some ([0], []))
  | 1 => (some ([0, 4], []))
  | 2 => (some ([2], []))
  | 3 => (some ([2], []))
  | _ => none
theorem f15_told : Try.prog.funcs[15]? = some Try.f15 := by kernel_rfl
theorem f15_results : resTmps Try.f15 = some [2] := by kernel_rfl
theorem f15_text : (Try.f15.body.bind (trC Try.prog 10 k15 1000)) = some l15 := by kernel_rfl

abbrev l16r0 : LC := .reg false [(⟨(some 2), none, .mv (.c (.string ⟨#[]⟩))⟩, [])] (some ([0], []))
abbrev l16r1 : LC := .reg false [(⟨(some 5), none, .mv (.t 0)⟩, []),
  (⟨(some 6), none, .nilck (.t 5)⟩, []),
  (⟨(some 7), none, .fad 0 (.t 6)⟩, []),
  (⟨(some 8), none, .load 1 false (.t 7)⟩, []),
  (⟨(some 9), none, .len (.t 8)⟩, []),
  (⟨(some 10), none, .bin .add (.t 9) (.c (.int .i64 7))⟩, []),
  (⟨(some 11), none, .bin .quo (.t 10) (.c (.int .i64 8))⟩, []),
  (⟨(some 12), none, .mksl 1 1 [(.int .u8 0)] (.t 11) (.t 11)⟩, []),
  (⟨(some 3), none, .mv (.t 12)⟩, [])] (some ([0, 3], []))
abbrev l16r2 : LC := .reg false [(⟨(some 4), none, .mv (.c (.int .i64 0))⟩, [])] (some ([4, 0, 3], []))
abbrev l16r3 : LC := .reg false [(⟨(some 13), none, .mv (.t 4)⟩, []),
  (⟨(some 14), none, .mv (.t 0)⟩, []),
  (⟨(some 15), none, .nilck (.t 14)⟩, []),
  (⟨(some 16), none, .fad 0 (.t 15)⟩, []),
  (⟨(some 17), none, .load 1 false (.t 16)⟩, []),
  (⟨(some 18), none, .len (.t 17)⟩, []),
  (⟨(some 19), none, .bin .lss (.t 13) (.t 18)⟩, [])] (some ([0, 3, 4, 19], []))
abbrev l16r4 : LC := .reg false [(⟨(some 22), none, .mv (.t 3)⟩, []),
  (⟨(some 23), none, .mv (.t 4)⟩, []),
  (⟨(some 24), none, .bin .quo (.t 23) (.c (.int .i64 8))⟩, []),
  (⟨(some 25), none, .mv (.t 3)⟩, []),
  (⟨(some 26), none, .mv (.t 4)⟩, []),
  (⟨(some 27), none, .bin .quo (.t 26) (.c (.int .i64 8))⟩, []),
  (⟨(some 28), none, .iad 1 (.t 25) (.t 27)⟩, []),
  (⟨(some 29), none, .load 1 false (.t 28)⟩, []),
  (⟨(some 30), none, .mv (.t 0)⟩, []),
  (⟨(some 31), none, .nilck (.t 30)⟩, []),
  (⟨(some 32), none, .fad 0 (.t 31)⟩, []),
  (⟨(some 33), none, .load 1 false (.t 32)⟩, []),
  (⟨(some 34), none, .mv (.t 4)⟩, []),
  (⟨(some 35), none, .iad 1 (.t 33) (.t 34)⟩, []),
  (⟨(some 36), none, .load 1 false (.t 35)⟩, []),
  (⟨(some 37), none, .mv (.t 4)⟩, []),
  (⟨(some 38), none, .bin .rem (.t 37) (.c (.int .i64 8))⟩, []),
  (⟨(some 39), none, .bin .sub (.c (.int .i64 7)) (.t 38)⟩, []),
  (⟨(some 40), none, .toInt .u64 (.t 39)⟩, []),
  (⟨(some 41), none, .bin .shl (.t 36) (.t 40)⟩, []),
  (⟨(some 42), none, .bin .or (.t 29) (.t 41)⟩, []),
  (⟨(some 43), none, .iad 1 (.t 22) (.t 24)⟩, []),
  (⟨none, none, .store 1 (.t 43) (.t 42)⟩, [])] (some ([0, 3, 4], []))
abbrev l16r5 : LC := .reg false [(⟨(some 20), none, .mv (.t 4)⟩, []),
  (⟨(some 21), none, .bin .add (.t 20) (.c (.int .i64 1))⟩, []),
  (⟨(some 4), none, .mv (.t 21)⟩, [])] (some ([4, 0, 3], []))
abbrev l16r6 : LC := (.seq (.seq l16r3 (.cond (.t 19) .skip (.exit 0))) (.seq (.block 1 l16r4) l16r5))
abbrev l16r7 : LC := .reg false [(⟨(some 44), none, .mv (.t 3)⟩, []),
  (⟨(some 45), none, .toStr (.t 44)⟩, []),
  (⟨(some 2), none, .mv (.t 45)⟩, [])] (some ([2], []))
/-- (*steamer/steamerref9.Out).Bytes : 1 parameters, results in [2] of 46 slots -/
abbrev l16 : LC := (.seq l16r0 (.seq l16r1 (.seq (.seq l16r2 (.block 0 (.loop l16r6))) (.seq l16r7 .ret))))
def k16 (i : Nat) : Option Kp := match i with
  | 0 => (some ([0], []))
  | 1 => (some ([0, 3], []))
  | 2 => (some ([4, 0, 3], []))
  | 3 => (some ([0, 3, 4, 19], []))
  | 4 => (some ([4, 0, 3], []))
  | 5 => (some ([0, 3, 4], []))
  | 6 => (some ([2], []))
  | _ => none
theorem f16_told : Try.prog.funcs[16]? = some Try.f16 := by kernel_rfl
theorem f16_results : resTmps Try.f16 = some [2] := by kernel_rfl
theorem f16_text : (Try.f16.body.bind (trC Try.prog 46 k16 1000)) = some l16 := by kernel_rfl

abbrev l17r0 : LC := .reg false [(⟨(some 2), none, .mv (.c (.int .i64 0))⟩, [])] (some ([0], []))
abbrev l17r1 : LC := .reg false [(⟨(some 3), none, .mv (.t 0)⟩, []),
  (⟨(some 4), none, .eqp false (.t 3) (.c (.pointer none))⟩, [])] (some ([0, 4], []))
abbrev l17r2 : LC := .reg false [(⟨(some 2), none, .mv (.c (.int .i64 0))⟩, [])] (some ([2], []))
abbrev l17r3 : LC := .reg false [(⟨(some 5), none, .mv (.t 0)⟩, []),
  (⟨(some 6), none, .nilck (.t 5)⟩, []),
  (⟨(some 7), none, .fad 1 (.t 6)⟩, []),
  (⟨(some 8), none, .load 1 false (.t 7)⟩, []),
  (⟨(some 2), none, .mv (.t 8)⟩, [])] (some ([2], []))
/-- (*steamer/bits.Out).Long : 1 parameters, results in [2] of 9 slots -/
abbrev l17 : LC := (.seq l17r0 (.seq (.seq l17r1 (.cond (.t 4) (.seq l17r2 .ret) .skip)) (.seq l17r3 .ret)))
def k17 (i : Nat) : Option Kp := match i with
  | 0 => (some ([0], []))
  | 1 => (some ([0, 4], []))
  | 2 => (some ([2], []))
  | 3 => (some ([2], []))
  | _ => none
theorem f17_told : Try.prog.funcs[17]? = some Try.f17 := by kernel_rfl
theorem f17_results : resTmps Try.f17 = some [2] := by kernel_rfl
theorem f17_text : (Try.f17.body.bind (trC Try.prog 9 k17 1000)) = some l17 := by kernel_rfl

abbrev l18r0 : LC := .reg false [(⟨(some 4), none, .mv (.c (.int .u64 0))⟩, []),
  (⟨(some 5), none, .mv (.c (.int .i64 0))⟩, [])] (some ([0, 1], []))
abbrev l18r1 : LC := .reg false [(⟨(some 8), none, .mv (.t 0)⟩, []),
  (⟨(some 9), none, .eqp false (.t 8) (.c (.pointer none))⟩, []),
  (⟨(some 10), none, .mv (.t 9)⟩, []),
  (⟨(some 11), (some (10, false)), .mv (.t 1)⟩, []),
  (⟨(some 12), (some (10, false)), .bin .lss (.t 11) (.c (.int .i64 0))⟩, []),
  (⟨(some 13), none, .pick (.t 10) (.c (.bool true)) (.t 12)⟩, []),
  (⟨(some 14), none, .mv (.t 13)⟩, []),
  (⟨(some 15), (some (14, false)), .mv (.t 1)⟩, []),
  (⟨(some 16), (some (14, false)), .bin .gtr (.t 15) (.c (.int .i64 32))⟩, []),
  (⟨(some 17), none, .pick (.t 14) (.c (.bool true)) (.t 16)⟩, []),
  (⟨(some 7), none, .mv (.t 17)⟩, [])] (some ([0, 1, 7], []))
abbrev l18r2 : LC := .reg false [(⟨(some 4), none, .mv (.c (.int .u64 0))⟩, []),
  (⟨(some 5), none, .mv (.c (.int .i64 1))⟩, [])] (some ([4, 5], []))
abbrev l18r3 : LC := .reg false [(⟨(some 19), none, .mv (.t 1)⟩, []),
  (⟨(some 20), none, .mv (.t 0)⟩, []),
  (⟨(some 21), none, .call 20 [(.t 20)]⟩, []),
  (⟨(some 22), none, .bin .gtr (.t 19) (.t 21)⟩, []),
  (⟨(some 18), none, .mv (.t 22)⟩, [])] (some ([0, 1, 18], []))
abbrev l18r4 : LC := .reg false [(⟨(some 4), none, .mv (.c (.int .u64 0))⟩, []),
  (⟨(some 5), none, .mv (.c (.int .i64 5))⟩, [])] (some ([4, 5], []))
abbrev l18r5 : LC := .reg false [(⟨(some 6), none, .mv (.c (.int .u64 0))⟩, [])] (some ([0, 6, 1], []))
abbrev l18r6 : LC := .reg false [(⟨(some 23), none, .mv (.t 1)⟩, []),
  (⟨(some 24), none, .mv (.c (.int .i64 0))⟩, [])] (some ([24, 0, 6, 23], []))
abbrev l18r7 : LC := .reg false [(⟨(some 25), none, .bin .lss (.t 24) (.t 23)⟩, [])] (some ([0, 23, 24, 6, 25], []))
abbrev l18r8 : LC := .reg false [(⟨(some 26), none, .mv (.t 6)⟩, []),
  (⟨(some 27), none, .bin .shl (.t 26) (.c (.int .u64 1))⟩, []),
  (⟨(some 28), none, .mv (.t 0)⟩, []),
  (⟨(some 29), none, .nilck (.t 28)⟩, []),
  (⟨(some 30), none, .fad 0 (.t 29)⟩, []),
  (⟨(some 31), none, .load 1 false (.t 30)⟩, []),
  (⟨(some 32), none, .mv (.t 0)⟩, []),
  (⟨(some 33), none, .nilck (.t 32)⟩, []),
  (⟨(some 34), none, .fad 1 (.t 33)⟩, []),
  (⟨(some 35), none, .load 1 false (.t 34)⟩, []),
  (⟨(some 36), none, .bin .quo (.t 35) (.c (.int .i64 8))⟩, []),
  (⟨(some 37), none, .iad 1 (.t 31) (.t 36)⟩, []),
  (⟨(some 38), none, .load 1 false (.t 37)⟩, []),
  (⟨(some 39), none, .mv (.t 0)⟩, []),
  (⟨(some 40), none, .nilck (.t 39)⟩, []),
  (⟨(some 41), none, .fad 1 (.t 40)⟩, []),
  (⟨(some 42), none, .load 1 false (.t 41)⟩, []),
  (⟨(some 43), none, .bin .rem (.t 42) (.c (.int .i64 8))⟩, []),
  (⟨(some 44), none, .bin .sub (.c (.int .i64 7)) (.t 43)⟩, []),
  (⟨(some 45), none, .toInt .u64 (.t 44)⟩, []),
  (⟨(some 46), none, .bin .shr (.t 38) (.t 45)⟩, []),
  (⟨(some 47), none, .bin .and (.t 46) (.c (.int .u8 1))⟩, []),
  (⟨(some 48), none, .toInt .u64 (.t 47)⟩, []),
  (⟨(some 49), none, .bin .or (.t 27) (.t 48)⟩, []),
  (⟨(some 6), none, .mv (.t 49)⟩, [])] (some ([0, 6, 23, 24], []))
abbrev l18r9 : LC := .reg false [(⟨(some 50), none, .mv (.t 0)⟩, []),
  (⟨(some 51), none, .nilck (.t 50)⟩, []),
  (⟨(some 52), none, .fad 1 (.t 51)⟩, []),
  (⟨(some 53), none, .load 1 false (.t 52)⟩, []),
  (⟨(some 54), none, .bin .add (.t 53) (.c (.int .i64 1))⟩, []),
  (⟨(some 55), none, .nilck (.t 50)⟩, []),
  (⟨(some 56), none, .fad 1 (.t 55)⟩, []),
  (⟨none, none, .store 1 (.t 56) (.t 54)⟩, [])] (some ([0, 6, 23, 24], []))
abbrev l18r10 : LC := .reg false [(⟨(some 57), none, .bin .add (.t 24) (.c (.int .i64 1))⟩, []),
  (⟨(some 24), none, .mv (.t 57)⟩, [])] (some ([24, 0, 6, 23], []))
abbrev l18r11 : LC := (.seq l18r7 (.seq (.cond (.t 25) .skip (.exit 1)) (.seq (.block 2 (.seq l18r8 l18r9)) l18r10)))
abbrev l18r12 : LC := .reg false [(⟨(some 58), none, .mv (.t 6)⟩, []),
  (⟨(some 4), none, .mv (.t 58)⟩, []),
  (⟨(some 5), none, .mv (.c (.int .i64 0))⟩, [])] (some ([4, 5], []))
/-- (*steamer/bits.In).Get : 2 parameters, results in [4, 5] of 59 slots -/
abbrev l18 : LC := (.seq l18r0 (.seq (.block 0 (.seq l18r1 (.cond (.t 7) (.seq l18r2 .ret) (.seq l18r3 (.cond (.t 18) (.seq l18r4 .ret) .skip))))) (.seq l18r5 (.seq (.seq l18r6 (.block 1 (.loop l18r11))) (.seq l18r12 .ret)))))
def k18 (i : Nat) : Option Kp := match i with
  | 0 => (some ([0, 1], []))
  | 1 => (some ([0, 1, 7], []))
  | 2 => (some ([4, 5], []))
  | 3 => (some ([0, 1, 18], []))
  | 4 => (some ([4, 5], []))
  | 5 => (some ([0, 6, 1], []))
  | 6 => (some ([24, 0, 6, 23], []))
  | 7 => (some ([0, 23, 24, 6, 25], []))
  | 8 => (some ([0, 6, 23, 24], []))
  | 9 => (some ([0, 6, 23, 24], []))
  | 10 => (some ([24, 0, 6, 23], []))
  | 11 => (some ([4, 5], []))
  | _ => none
theorem f18_told : Try.prog.funcs[18]? = some Try.f18 := by kernel_rfl
theorem f18_results : resTmps Try.f18 = some [4, 5] := by kernel_rfl
theorem f18_text : (Try.f18.body.bind (trC Try.prog 59 k18 1000)) = some l18 := by kernel_rfl

abbrev l19r0 : LC := .reg false [(⟨(some 4), none, .mv (.c (.int .u64 0))⟩, []),
  (⟨(some 5), none, .mv (.c (.int .i64 0))⟩, [])] (some ([0, 1], []))
abbrev l19r1 : LC := .reg false [(⟨(some 8), none, .mv (.t 1)⟩, []),
  (⟨(some 9), none, .bin .lss (.t 8) (.c (.int .i64 0))⟩, []),
  (⟨(some 10), none, .mv (.t 9)⟩, []),
  (⟨(some 11), (some (10, false)), .mv (.t 1)⟩, []),
  (⟨(some 12), (some (10, false)), .bin .gtr (.t 11) (.c (.int .i64 32))⟩, []),
  (⟨(some 13), none, .pick (.t 10) (.c (.bool true)) (.t 12)⟩, [])] (some ([0, 1, 13], []))
abbrev l19r2 : LC := .reg false [(⟨(some 4), none, .mv (.c (.int .u64 0))⟩, []),
  (⟨(some 5), none, .mv (.c (.int .i64 1))⟩, [])] (some ([4, 5], []))
abbrev l19r3 : LC := .reg false [(⟨(some 14), none, .mv (.t 1)⟩, []),
  (⟨(some 15), none, .mv (.t 0)⟩, []),
  (⟨(some 16), none, .call 21 [(.t 15)]⟩, []),
  (⟨(some 17), none, .bin .gtr (.t 14) (.t 16)⟩, [])] (some ([0, 1, 17], []))
abbrev l19r4 : LC := .reg false [(⟨(some 4), none, .mv (.c (.int .u64 0))⟩, []),
  (⟨(some 5), none, .mv (.c (.int .i64 5))⟩, [])] (some ([4, 5], []))
abbrev l19r5 : LC := .reg false [(⟨(some 6), none, .mv (.c (.int .u64 0))⟩, [])] (some ([0, 6, 1], []))
abbrev l19r6 : LC := .reg false [(⟨(some 7), none, .mv (.c (.int .i64 0))⟩, [])] (some ([7, 0, 6, 1], []))
abbrev l19r7 : LC := .reg false [(⟨(some 18), none, .mv (.t 7)⟩, []),
  (⟨(some 19), none, .mv (.t 1)⟩, []),
  (⟨(some 20), none, .bin .lss (.t 18) (.t 19)⟩, [])] (some ([0, 1, 7, 6, 20], []))
abbrev l19r8 : LC := .reg false [(⟨(some 23), none, .mv (.t 6)⟩, []),
  (⟨(some 24), none, .bin .shl (.t 23) (.c (.int .u64 1))⟩, []),
  (⟨(some 25), none, .mv (.t 0)⟩, []),
  (⟨(some 26), none, .nilck (.t 25)⟩, []),
  (⟨(some 27), none, .fad 0 (.t 26)⟩, []),
  (⟨(some 28), none, .load 1 false (.t 27)⟩, []),
  (⟨(some 29), none, .mv (.t 0)⟩, []),
  (⟨(some 30), none, .nilck (.t 29)⟩, []),
  (⟨(some 31), none, .fad 1 (.t 30)⟩, []),
  (⟨(some 32), none, .load 1 false (.t 31)⟩, []),
  (⟨(some 33), none, .bin .quo (.t 32) (.c (.int .i64 8))⟩, []),
  (⟨(some 34), none, .ixs (.t 28) (.t 33)⟩, []),
  (⟨(some 35), none, .mv (.t 0)⟩, []),
  (⟨(some 36), none, .nilck (.t 35)⟩, []),
  (⟨(some 37), none, .fad 1 (.t 36)⟩, []),
  (⟨(some 38), none, .load 1 false (.t 37)⟩, []),
  (⟨(some 39), none, .bin .rem (.t 38) (.c (.int .i64 8))⟩, []),
  (⟨(some 40), none, .bin .sub (.c (.int .i64 7)) (.t 39)⟩, []),
  (⟨(some 41), none, .toInt .u64 (.t 40)⟩, []),
  (⟨(some 42), none, .bin .shr (.t 34) (.t 41)⟩, []),
  (⟨(some 43), none, .bin .and (.t 42) (.c (.int .u8 1))⟩, []),
  (⟨(some 44), none, .toInt .u64 (.t 43)⟩, []),
  (⟨(some 45), none, .bin .or (.t 24) (.t 44)⟩, []),
  (⟨(some 6), none, .mv (.t 45)⟩, [])] (some ([0, 6, 1, 7], []))
abbrev l19r9 : LC := .reg false [(⟨(some 46), none, .mv (.t 0)⟩, []),
  (⟨(some 47), none, .nilck (.t 46)⟩, []),
  (⟨(some 48), none, .fad 1 (.t 47)⟩, []),
  (⟨(some 49), none, .load 1 false (.t 48)⟩, []),
  (⟨(some 50), none, .bin .add (.t 49) (.c (.int .i64 1))⟩, []),
  (⟨(some 51), none, .nilck (.t 46)⟩, []),
  (⟨(some 52), none, .fad 1 (.t 51)⟩, []),
  (⟨none, none, .store 1 (.t 52) (.t 50)⟩, [])] (some ([0, 6, 1, 7], []))
abbrev l19r10 : LC := .reg false [(⟨(some 21), none, .mv (.t 7)⟩, []),
  (⟨(some 22), none, .bin .add (.t 21) (.c (.int .i64 1))⟩, []),
  (⟨(some 7), none, .mv (.t 22)⟩, [])] (some ([7, 0, 6, 1], []))
abbrev l19r11 : LC := (.seq (.seq l19r7 (.cond (.t 20) .skip (.exit 0))) (.seq (.block 1 (.seq l19r8 l19r9)) l19r10))
abbrev l19r12 : LC := .reg false [(⟨(some 53), none, .mv (.t 6)⟩, []),
  (⟨(some 4), none, .mv (.t 53)⟩, []),
  (⟨(some 5), none, .mv (.c (.int .i64 0))⟩, [])] (some ([4, 5], []))
/-- (*steamer/steamerref9.In).Get : 2 parameters, results in [4, 5] of 54 slots -/
abbrev l19 : LC := (.seq l19r0 (.seq (.seq l19r1 (.cond (.t 13) (.seq l19r2 .ret) .skip)) (.seq (.seq l19r3 (.cond (.t 17) (.seq l19r4 .ret) .skip)) (.seq l19r5 (.seq (.seq l19r6 (.block 0 (.loop l19r11))) (.seq l19r12 .ret))))))
def k19 (i : Nat) : Option Kp := match i with
  | 0 => (some ([0, 1], []))
  | 1 => (some ([0, 1, 13], []))
  | 2 => (some ([4, 5], []))
  | 3 => (some ([0, 1, 17], []))
  | 4 => (some ([4, 5], []))
  | 5 => (some ([0, 6, 1], []))
  | 6 => (some ([7, 0, 6, 1], []))
  | 7 => (some ([0, 1, 7, 6, 20], []))
  | 8 => (some ([7, 0, 6, 1], []))
  | 9 => (some ([0, 6, 1, 7], []))
  | 10 => (some ([0, 6, 1, 7], []))
  | 11 => (some ([4, 5], []))
  | _ => none
theorem f19_told : Try.prog.funcs[19]? = some Try.f19 := by kernel_rfl
theorem f19_results : resTmps Try.f19 = some [4, 5] := by kernel_rfl
theorem f19_text : (Try.f19.body.bind (trC Try.prog 54 k19 1000)) = some l19 := by kernel_rfl

abbrev l20r0 : LC := .reg false [(⟨(some 2), none, .mv (.c (.int .i64 0))⟩, [])] (some ([0], []))
abbrev l20r1 : LC := .reg false [(⟨(some 3), none, .mv (.t 0)⟩, []),
  (⟨(some 4), none, .eqp false (.t 3) (.c (.pointer none))⟩, [])] (some ([0, 4], []))
abbrev l20r2 : LC := .reg false [(⟨(some 2), none, .mv (.c (.int .i64 0))⟩, [])] (some ([2], []))
abbrev l20r3 : LC := .reg false [(⟨(some 5), none, .mv (.t 0)⟩, []),
  (⟨(some 6), none, .nilck (.t 5)⟩, []),
  (⟨(some 7), none, .fad 0 (.t 6)⟩, []),
  (⟨(some 8), none, .load 1 false (.t 7)⟩, []),
  (⟨(some 9), none, .len (.t 8)⟩, []),
  (⟨(some 10), none, .bin .mul (.t 9) (.c (.int .i64 8))⟩, []),
  (⟨(some 11), none, .mv (.t 0)⟩, []),
  (⟨(some 12), none, .nilck (.t 11)⟩, []),
  (⟨(some 13), none, .fad 1 (.t 12)⟩, []),
  (⟨(some 14), none, .load 1 false (.t 13)⟩, []),
  (⟨(some 15), none, .bin .sub (.t 10) (.t 14)⟩, []),
  (⟨(some 2), none, .mv (.t 15)⟩, [])] (some ([2], []))
/-- (*steamer/bits.In).Left : 1 parameters, results in [2] of 16 slots -/
abbrev l20 : LC := (.seq l20r0 (.seq (.seq l20r1 (.cond (.t 4) (.seq l20r2 .ret) .skip)) (.seq l20r3 .ret)))
def k20 (i : Nat) : Option Kp := match i with
  | 0 => (some ([0], []))
  | 1 => (some ([0, 4], []))
  | 2 => (some ([2], []))
  | 3 => (some ([2], []))
  | _ => none
theorem f20_told : Try.prog.funcs[20]? = some Try.f20 := by kernel_rfl
theorem f20_results : resTmps Try.f20 = some [2] := by kernel_rfl
theorem f20_text : (Try.f20.body.bind (trC Try.prog 16 k20 1000)) = some l20 := by kernel_rfl

abbrev l21r0 : LC := .reg false [(⟨(some 2), none, .mv (.c (.int .i64 0))⟩, [])] (some ([0], []))
abbrev l21r1 : LC := .reg false [(⟨(some 3), none, .mv (.t 0)⟩, []),
  (⟨(some 4), none, .nilck (.t 3)⟩, []),
  (⟨(some 5), none, .fad 0 (.t 4)⟩, []),
  (⟨(some 6), none, .load 1 false (.t 5)⟩, []),
  (⟨(some 7), none, .lenS (.t 6)⟩, []),
  (⟨(some 8), none, .bin .mul (.c (.int .i64 8)) (.t 7)⟩, []),
  (⟨(some 9), none, .mv (.t 0)⟩, []),
  (⟨(some 10), none, .nilck (.t 9)⟩, []),
  (⟨(some 11), none, .fad 1 (.t 10)⟩, []),
  (⟨(some 12), none, .load 1 false (.t 11)⟩, []),
  (⟨(some 13), none, .bin .sub (.t 8) (.t 12)⟩, []),
  (⟨(some 2), none, .mv (.t 13)⟩, [])] (some ([2], []))
/-- (*steamer/steamerref9.In).Left : 1 parameters, results in [2] of 14 slots -/
abbrev l21 : LC := (.seq l21r0 (.seq l21r1 .ret))
def k21 (i : Nat) : Option Kp := match i with
  | 0 => (some ([0], []))
  | 1 => (some ([2], []))
  | _ => none
theorem f21_told : Try.prog.funcs[21]? = some Try.f21 := by kernel_rfl
theorem f21_results : resTmps Try.f21 = some [2] := by kernel_rfl
theorem f21_text : (Try.f21.body.bind (trC Try.prog 14 k21 1000)) = some l21 := by kernel_rfl

abbrev l22r0 : LC := .reg false [(⟨(some 2), none, .mv (.c (.bool false))⟩, [])] (some ([0], []))
abbrev l22r1 : LC := .reg false [(⟨(some 6), none, .mv (.t 0)⟩, []),
  (⟨(some 7), none, .eqp false (.t 6) (.c (.pointer none))⟩, []),
  (⟨(some 8), none, .mv (.t 7)⟩, []),
  (⟨(some 9), (some (8, false)), .mv (.t 0)⟩, []),
  (⟨(some 10), (some (8, false)), .call 20 [(.t 9)]⟩, []),
  (⟨(some 11), (some (8, false)), .bin .geq (.t 10) (.c (.int .i64 8))⟩, []),
  (⟨(some 12), none, .pick (.t 8) (.c (.bool true)) (.t 11)⟩, [])] (some ([0, 12], []))
abbrev l22r2 : LC := .reg false [(⟨(some 2), none, .mv (.c (.bool false))⟩, [])] (some ([2], []))
abbrev l22r3 : LC := .reg false [(⟨(some 13), none, .mv (.t 0)⟩, []),
  (⟨(some 14), none, .nilck (.t 13)⟩, []),
  (⟨(some 15), none, .load 2 true (.t 14)⟩, []),
  (⟨(some 3), none, .alloc [(.slice none 0 0), (.int .i64 0)]⟩, []),
  (⟨none, none, .store 2 (.t 3) (.t 15)⟩, [])] (some ([3], []))
abbrev l22r4 : LC := .reg false [(⟨(some 17), none, .call 20 [(.t 3)]⟩, []),
  (⟨(some 18), none, .call 18 [(.t 3), (.t 17)]⟩, []),
  (⟨(some 16), none, .mv (.t 18)⟩, []),
  (⟨(some 19), none, .ext 0 (.t 16)⟩, []),
  (⟨(some 20), none, .ext 1 (.t 16)⟩, []),
  (⟨(some 4), none, .mv (.t 19)⟩, []),
  (⟨(some 5), none, .mv (.t 20)⟩, [])] (some ([4], []))
abbrev l22r5 : LC := .reg false [(⟨(some 21), none, .mv (.t 4)⟩, []),
  (⟨(some 22), none, .bin .eql (.t 21) (.c (.int .u64 0))⟩, []),
  (⟨(some 2), none, .mv (.t 22)⟩, [])] (some ([2], []))
/-- (*steamer/bits.In).Rest : 1 parameters, results in [2] of 23 slots -/
abbrev l22 : LC := (.seq l22r0 (.seq (.seq l22r1 (.cond (.t 12) (.seq l22r2 .ret) .skip)) (.seq l22r3 (.seq l22r4 (.seq l22r5 .ret)))))
def k22 (i : Nat) : Option Kp := match i with
  | 0 => (some ([0], []))
  | 1 => (some ([0, 12], []))
  | 2 => (some ([2], []))
  | 3 => (some ([3], []))
  | 4 => (some ([4], []))
  | 5 => (some ([2], []))
  | _ => none
theorem f22_told : Try.prog.funcs[22]? = some Try.f22 := by kernel_rfl
theorem f22_results : resTmps Try.f22 = some [2] := by kernel_rfl
theorem f22_text : (Try.f22.body.bind (trC Try.prog 23 k22 1000)) = some l22 := by kernel_rfl

abbrev l23r0 : LC := .reg false [(⟨(some 2), none, .mv (.c (.bool false))⟩, [])] (some ([0], []))
abbrev l23r1 : LC := .reg false [(⟨(some 6), none, .mv (.t 0)⟩, []),
  (⟨(some 7), none, .call 21 [(.t 6)]⟩, []),
  (⟨(some 8), none, .bin .geq (.t 7) (.c (.int .i64 8))⟩, [])] (some ([0, 8], []))
abbrev l23r2 : LC := .reg false [(⟨(some 2), none, .mv (.c (.bool false))⟩, [])] (some ([2], []))
abbrev l23r3 : LC := .reg false [(⟨(some 9), none, .mv (.t 0)⟩, []),
  (⟨(some 10), none, .nilck (.t 9)⟩, []),
  (⟨(some 11), none, .fad 0 (.t 10)⟩, []),
  (⟨(some 12), none, .load 1 false (.t 11)⟩, []),
  (⟨(some 13), none, .mv (.t 0)⟩, []),
  (⟨(some 14), none, .nilck (.t 13)⟩, []),
  (⟨(some 15), none, .fad 1 (.t 14)⟩, []),
  (⟨(some 16), none, .load 1 false (.t 15)⟩, []),
  (⟨(some 17), none, .build [(.string ⟨#[]⟩), (.int .i64 0)] [(0, 1, (.t 12)), (1, 1, (.t 16))]⟩, []),
  (⟨(some 18), none, .box 2 (.t 17)⟩, []),
  (⟨(some 3), none, .mv (.t 18)⟩, [])] (some ([0, 3], []))
abbrev l23r4 : LC := .reg false [(⟨(some 20), none, .mv (.t 3)⟩, []),
  (⟨(some 21), none, .mv (.t 0)⟩, []),
  (⟨(some 22), none, .call 21 [(.t 21)]⟩, []),
  (⟨(some 23), none, .call 19 [(.t 20), (.t 22)]⟩, []),
  (⟨(some 19), none, .mv (.t 23)⟩, []),
  (⟨(some 24), none, .ext 0 (.t 19)⟩, []),
  (⟨(some 25), none, .ext 1 (.t 19)⟩, []),
  (⟨(some 4), none, .mv (.t 24)⟩, []),
  (⟨(some 5), none, .mv (.t 25)⟩, [])] (some ([4], []))
abbrev l23r5 : LC := .reg false [(⟨(some 26), none, .mv (.t 4)⟩, []),
  (⟨(some 27), none, .bin .eql (.t 26) (.c (.int .u64 0))⟩, []),
  (⟨(some 2), none, .mv (.t 27)⟩, [])] (some ([2], []))
/-- (*steamer/steamerref9.In).Rest : 1 parameters, results in [2] of 28 slots -/
abbrev l23 : LC := (.seq l23r0 (.seq (.seq l23r1 (.cond (.t 8) (.seq l23r2 .ret) .skip)) (.seq l23r3 (.seq l23r4 (.seq l23r5 .ret)))))
def k23 (i : Nat) : Option Kp := match i with
  | 0 => (some ([0], []))
  | 1 => (some ([0, 8], []))
  | 2 => (some ([2], []))
  | 3 => (some ([0, 3], []))
  | 4 => (some ([4], []))
  | 5 => (some ([2], []))
  | _ => none
theorem f23_told : Try.prog.funcs[23]? = some Try.f23 := by kernel_rfl
theorem f23_results : resTmps Try.f23 = some [2] := by kernel_rfl
theorem f23_text : (Try.f23.body.bind (trC Try.prog 28 k23 1000)) = some l23 := by kernel_rfl

end Go.Proofs.Bits
