import Derived.Test.YtnjnfdjoonogaaaDoorEngS
import Derived.Test.YtnjnfdjoonogaaaDoorProg
set_option linter.unusedVariables false
set_option linter.unusedSimpArgs false
namespace Go.Proofs.Ac
open Go.RowKit Go.Lib Go.Eng Go.Proofs
set_option maxRecDepth 100000
abbrev l3r0 : LC := .reg false [(⟨(some 2), none, .mv (.c (.bool false))⟩, [])] (some ([0], []))
abbrev l3r1 : LC := .reg false [(⟨(some 11), none, .mv (.t 0)⟩, []),
  (⟨(some 12), none, .len (.t 11)⟩, []),
  (⟨(some 13), none, .bin .gtr (.t 12) (.c (.int .i64 16))⟩, [])] (some ([0, 13], []))
abbrev l3r2 : LC := .reg false [(⟨(some 14), none, .call 6 []⟩, []),
  (⟨(some 2), none, .mv (.t 14)⟩, [])] (some ([2], []))
abbrev l3r3 : LC := .reg false [(⟨(some 3), none, .mv (.c (.slice none 0 0))⟩, [])] (some ([3, 0], [.slot 3 503 3]))
abbrev l3r4 : LC := .reg false [(⟨(some 4), none, .mv (.c (.int .i64 0))⟩, [])] (some ([4, 3, 0], []))
abbrev l3r5 : LC := .reg false [(⟨(some 15), none, .mv (.t 4)⟩, []),
  (⟨(some 16), none, .mv (.t 0)⟩, []),
  (⟨(some 17), none, .len (.t 16)⟩, []),
  (⟨(some 18), none, .bin .lss (.t 15) (.t 17)⟩, [])] (some ([0, 4, 3, 18], []))
abbrev l3r6 : LC := .reg false [(⟨(some 21), none, .mv (.t 0)⟩, []),
  (⟨(some 22), none, .mv (.t 4)⟩, []),
  (⟨(some 23), none, .iad 3 (.t 21) (.t 22)⟩, []),
  (⟨(some 24), none, .load 3 true (.t 23)⟩, []),
  (⟨(some 25), none, .bslice 3 1 [(.int .i64 0), (.int .i64 0), (.int .i64 0)] [(0, (.t 24))]⟩, []),
  (⟨(some 26), none, .mv (.t 3)⟩, []),
  (⟨(some 27), none, .app 3 24 [(.int .i64 0), (.int .i64 0), (.int .i64 0)] (.t 25) (.t 26)⟩, []),
  (⟨(some 3), none, .mv (.t 27)⟩, [])] (some ([3, 0, 4], []))
abbrev l3r7 : LC := .reg false [(⟨(some 19), none, .mv (.t 4)⟩, []),
  (⟨(some 20), none, .bin .add (.t 19) (.c (.int .i64 1))⟩, []),
  (⟨(some 4), none, .mv (.t 20)⟩, [])] (some ([4, 3, 0], []))
abbrev l3r8 : LC := (.seq (.seq l3r5 (.cond (.t 18) .skip (.exit 0))) (.seq (.block 1 l3r6) l3r7))
abbrev l3r9 : LC := .reg false [(⟨(some 29), none, .mv (.t 0)⟩, []),
  (⟨(some 30), none, .call 7 [(.t 29)]⟩, []),
  (⟨(some 28), none, .mv (.t 30)⟩, []),
  (⟨(some 31), none, .ext 0 (.t 28)⟩, []),
  (⟨(some 32), none, .ext 1 (.t 28)⟩, []),
  (⟨(some 5), none, .mv (.t 31)⟩, []),
  (⟨(some 6), none, .mv (.t 32)⟩, [])] (some ([5, 0, 6, 3], []))
abbrev l3r10 : LC := .reg false [(⟨(some 34), none, .mv (.t 3)⟩, []),
  (⟨(some 35), none, .call 7 [(.t 34)]⟩, []),
  (⟨(some 33), none, .mv (.t 35)⟩, []),
  (⟨(some 36), none, .ext 0 (.t 33)⟩, []),
  (⟨(some 37), none, .ext 1 (.t 33)⟩, []),
  (⟨(some 7), none, .mv (.t 36)⟩, []),
  (⟨(some 8), none, .mv (.t 37)⟩, [])] (some ([5, 0, 6, 7, 8], []))
abbrev l3r11 : LC := .reg false [(⟨(some 38), none, .mv (.t 6)⟩, []),
  (⟨(some 39), none, .mv (.t 8)⟩, []),
  (⟨(some 40), none, .bin .neq (.t 38) (.t 39)⟩, []),
  (⟨(some 41), none, .mv (.t 40)⟩, []),
  (⟨(some 42), (some (41, false)), .mv (.t 5)⟩, []),
  (⟨(some 43), (some (41, false)), .mv (.t 7)⟩, []),
  (⟨(some 44), (some (41, false)), .call 8 [(.t 42), (.t 43)]⟩, []),
  (⟨(some 45), (some (41, false)), .un .not (.t 44)⟩, []),
  (⟨(some 46), none, .pick (.t 41) (.c (.bool true)) (.t 45)⟩, [])] (some ([5, 0, 6, 46], []))
abbrev l3r12 : LC := .reg false [(⟨(some 2), none, .mv (.c (.bool false))⟩, [])] (some ([2], []))
abbrev l3r13 : LC := .reg false [(⟨(some 47), none, .mv (.t 6)⟩, []),
  (⟨(some 48), none, .bin .neq (.t 47) (.c (.int .i64 0))⟩, [])] (some ([5, 0, 48], []))
abbrev l3r14 : LC := .reg false [(⟨(some 49), none, .call 6 []⟩, []),
  (⟨(some 50), none, .mv (.t 49)⟩, []),
  (⟨(some 51), (some (50, true)), .mv (.t 5)⟩, []),
  (⟨(some 52), (some (50, true)), .len (.t 51)⟩, []),
  (⟨(some 53), (some (50, true)), .bin .eql (.t 52) (.c (.int .i64 0))⟩, []),
  (⟨(some 54), none, .pick (.t 50) (.t 53) (.c (.bool false))⟩, []),
  (⟨(some 2), none, .mv (.t 54)⟩, [])] (some ([2], []))
abbrev l3r15 : LC := .reg false [(⟨(some 56), none, .mv (.t 5)⟩, []),
  (⟨(some 57), none, .call 7 [(.t 56)]⟩, []),
  (⟨(some 55), none, .mv (.t 57)⟩, []),
  (⟨(some 58), none, .ext 0 (.t 55)⟩, []),
  (⟨(some 59), none, .ext 1 (.t 55)⟩, []),
  (⟨(some 9), none, .mv (.t 58)⟩, []),
  (⟨(some 10), none, .mv (.t 59)⟩, [])] (some ([0, 5, 9, 10], []))
abbrev l3r16 : LC := .reg false [(⟨(some 60), none, .call 6 []⟩, []),
  (⟨(some 61), none, .mv (.t 60)⟩, []),
  (⟨(some 62), (some (61, true)), .mv (.t 5)⟩, []),
  (⟨(some 63), (some (61, true)), .call 9 [(.t 62)]⟩, []),
  (⟨(some 64), none, .pick (.t 61) (.t 63) (.c (.bool false))⟩, []),
  (⟨(some 65), none, .mv (.t 64)⟩, []),
  (⟨(some 66), (some (65, true)), .mv (.t 10)⟩, []),
  (⟨(some 67), (some (65, true)), .bin .eql (.t 66) (.c (.int .i64 0))⟩, []),
  (⟨(some 68), none, .pick (.t 65) (.t 67) (.c (.bool false))⟩, []),
  (⟨(some 69), none, .mv (.t 68)⟩, []),
  (⟨(some 70), (some (69, true)), .mv (.t 9)⟩, []),
  (⟨(some 71), (some (69, true)), .mv (.t 5)⟩, []),
  (⟨(some 72), (some (69, true)), .call 8 [(.t 70), (.t 71)]⟩, []),
  (⟨(some 73), none, .pick (.t 69) (.t 72) (.c (.bool false))⟩, []),
  (⟨(some 74), none, .mv (.t 73)⟩, []),
  (⟨(some 75), (some (74, true)), .mv (.t 5)⟩, []),
  (⟨(some 76), (some (74, true)), .len (.t 75)⟩, []),
  (⟨(some 77), (some (74, true)), .mv (.t 0)⟩, []),
  (⟨(some 78), (some (74, true)), .len (.t 77)⟩, []),
  (⟨(some 79), (some (74, true)), .bin .eql (.t 76) (.t 78)⟩, []),
  (⟨(some 80), none, .pick (.t 74) (.t 79) (.c (.bool false))⟩, []),
  (⟨(some 2), none, .mv (.t 80)⟩, [])] (some ([2], []))
/-- steamer/steamerlaw3.AclNorms : 1 parameters, results in [2] of 81 slots -/
abbrev l3 : LC := (.seq l3r0 (.seq (.seq l3r1 (.cond (.t 13) (.seq l3r2 .ret) .skip)) (.seq l3r3 (.seq (.seq l3r4 (.block 0 (.loop l3r8))) (.seq l3r9 (.seq l3r10 (.seq (.seq l3r11 (.cond (.t 46) (.seq l3r12 .ret) .skip)) (.seq (.seq l3r13 (.cond (.t 48) (.seq l3r14 .ret) .skip)) (.seq l3r15 (.seq l3r16 .ret))))))))))
def k3 (i : Nat) : Option Kp := match i with
  | 0 => (some ([0], []))
  | 1 => (some ([0, 13], []))
  | 2 => (some ([2], []))
  | 3 => (some ([3, 0], [.slot 3 503 3]))
  | 4 => (some ([4, 3, 0], []))
  | 5 => (some ([0, 4, 3, 18], []))
  | 6 => (some ([4, 3, 0], []))
  | 7 => (some ([3, 0, 4], []))
  | 8 => (some ([5, 0, 6, 3], []))
  | 9 => (some ([5, 0, 6, 7, 8], []))
  | 10 => (some ([5, 0, 6, 46], []))
  | 11 => (some ([2], []))
  | 12 => (some ([5, 0, 48], []))
  | 13 => (some ([2], []))
  | 14 => (some ([0, 5, 9, 10], []))
  | 15 => (some ([2], []))
  | _ => none
theorem f3_told : Tryd.prog.funcs[3]? = some Tryd.f3 := by kernel_rfl
theorem f3_results : resTmps Tryd.f3 = some [2] := by kernel_rfl
theorem f3_text : (Tryd.f3.body.bind (trC Tryd.prog 81 k3 1000)) = some l3 := by kernel_rfl

abbrev l4r0 : LC := .reg false [(⟨(some 10), none, .mv (.c (.bool false))⟩, [])] (some ([4, 3, 2, 1, 0], []))
abbrev l4r1 : LC := .reg false [(⟨(some 22), none, .mv (.t 0)⟩, []),
  (⟨(some 23), none, .toInt .u64 (.t 22)⟩, []),
  (⟨(some 24), none, .bin .rem (.t 23) (.c (.int .u64 8))⟩, []),
  (⟨(some 25), none, .toInt .i64 (.t 24)⟩, []),
  (⟨(some 26), none, .mv (.t 1)⟩, []),
  (⟨(some 27), none, .toInt .u64 (.t 26)⟩, []),
  (⟨(some 28), none, .bin .rem (.t 27) (.c (.int .u64 8))⟩, []),
  (⟨(some 29), none, .toInt .i64 (.t 28)⟩, []),
  (⟨(some 30), none, .mv (.t 2)⟩, []),
  (⟨(some 31), none, .toInt .u64 (.t 30)⟩, []),
  (⟨(some 32), none, .bin .rem (.t 31) (.c (.int .u64 8))⟩, []),
  (⟨(some 33), none, .toInt .i64 (.t 32)⟩, []),
  (⟨(some 34), none, .mv (.t 3)⟩, []),
  (⟨(some 35), none, .toInt .u64 (.t 34)⟩, []),
  (⟨(some 36), none, .bin .rem (.t 35) (.c (.int .u64 512))⟩, []),
  (⟨(some 37), none, .toInt .i64 (.t 36)⟩, []),
  (⟨(some 38), none, .mv (.t 4)⟩, []),
  (⟨(some 39), none, .toInt .u64 (.t 38)⟩, []),
  (⟨(some 40), none, .bin .rem (.t 39) (.c (.int .u64 8))⟩, []),
  (⟨(some 41), none, .toInt .i64 (.t 40)⟩, []),
  (⟨(some 11), none, .mv (.t 25)⟩, []),
  (⟨(some 12), none, .mv (.t 29)⟩, []),
  (⟨(some 13), none, .mv (.t 33)⟩, []),
  (⟨(some 14), none, .mv (.t 37)⟩, []),
  (⟨(some 15), none, .mv (.t 41)⟩, [])] (some ([15, 14, 13, 12, 11], []))
abbrev l4r2 : LC := .reg false [(⟨(some 42), none, .mv (.t 11)⟩, []),
  (⟨(some 43), none, .build [(.int .i64 0), (.int .i64 0), (.int .i64 0)] [(0, 1, (.c (.int .i64 1))), (1, 1, (.c (.int .i64 5))), (2, 1, (.t 42))]⟩, []),
  (⟨(some 44), none, .mv (.t 12)⟩, []),
  (⟨(some 45), none, .build [(.int .i64 0), (.int .i64 0), (.int .i64 0)] [(0, 1, (.c (.int .i64 2))), (1, 1, (.c (.int .i64 6))), (2, 1, (.t 44))]⟩, []),
  (⟨(some 46), none, .mv (.t 13)⟩, []),
  (⟨(some 47), none, .build [(.int .i64 0), (.int .i64 0), (.int .i64 0)] [(0, 1, (.c (.int .i64 3))), (2, 1, (.t 46))]⟩, []),
  (⟨(some 48), none, .bslice 3 3 [(.int .i64 0), (.int .i64 0), (.int .i64 0)] [(0, (.t 43)), (1, (.t 45)), (2, (.t 47))]⟩, []),
  (⟨(some 16), none, .mv (.t 48)⟩, [])] (some ([15, 14, 13, 12, 11, 16], []))
abbrev l4r3 : LC := .reg false [(⟨(some 49), none, .mv (.t 16)⟩, []),
  (⟨(some 50), none, .mv (.t 14)⟩, []),
  (⟨(some 51), none, .mv (.t 15)⟩, []),
  (⟨(some 52), none, .call 10 [(.t 49), (.t 50), (.c (.int .i64 1)), (.c (.int .i64 2)), (.c (.int .i64 5)), (.c (.slice none 0 0)), (.t 51)]⟩, []),
  (⟨(some 17), none, .mv (.t 52)⟩, [])] (some ([15, 14, 13, 12, 11, 17, 16], []))
abbrev l4r4 : LC := .reg false [(⟨(some 53), none, .mv (.t 16)⟩, []),
  (⟨(some 54), none, .mv (.t 14)⟩, []),
  (⟨(some 55), none, .bslice 1 1 [(.int .i64 0)] [(0, (.c (.int .i64 6)))]⟩, []),
  (⟨(some 56), none, .mv (.t 15)⟩, []),
  (⟨(some 57), none, .call 10 [(.t 53), (.t 54), (.c (.int .i64 1)), (.c (.int .i64 2)), (.c (.int .i64 9)), (.t 55), (.t 56)]⟩, []),
  (⟨(some 18), none, .mv (.t 57)⟩, [])] (some ([15, 14, 13, 12, 18, 11, 17, 16], []))
abbrev l4r5 : LC := .reg false [(⟨(some 58), none, .mv (.t 16)⟩, []),
  (⟨(some 59), none, .mv (.t 14)⟩, []),
  (⟨(some 60), none, .mv (.t 15)⟩, []),
  (⟨(some 61), none, .call 10 [(.t 58), (.t 59), (.c (.int .i64 1)), (.c (.int .i64 2)), (.c (.int .i64 1)), (.c (.slice none 0 0)), (.t 60)]⟩, []),
  (⟨(some 19), none, .mv (.t 61)⟩, [])] (some ([15, 14, 13, 19, 12, 18, 11, 17, 16], []))
abbrev l4r6 : LC := .reg false [(⟨(some 62), none, .mv (.t 16)⟩, []),
  (⟨(some 63), none, .mv (.t 14)⟩, []),
  (⟨(some 64), none, .bslice 1 1 [(.int .i64 0)] [(0, (.c (.int .i64 2)))]⟩, []),
  (⟨(some 65), none, .mv (.t 15)⟩, []),
  (⟨(some 66), none, .call 10 [(.t 62), (.t 63), (.c (.int .i64 1)), (.c (.int .i64 2)), (.c (.int .i64 9)), (.t 64), (.t 65)]⟩, []),
  (⟨(some 20), none, .mv (.t 66)⟩, [])] (some ([15, 14, 13, 20, 19, 12, 18, 11, 17, 16], []))
abbrev l4r7 : LC := .reg false [(⟨(some 67), none, .mv (.t 16)⟩, []),
  (⟨(some 68), none, .mv (.t 14)⟩, []),
  (⟨(some 69), none, .bslice 1 1 [(.int .i64 0)] [(0, (.c (.int .i64 7)))]⟩, []),
  (⟨(some 70), none, .mv (.t 15)⟩, []),
  (⟨(some 71), none, .call 10 [(.t 67), (.t 68), (.c (.int .i64 1)), (.c (.int .i64 2)), (.c (.int .i64 9)), (.t 69), (.t 70)]⟩, []),
  (⟨(some 21), none, .mv (.t 71)⟩, [])] (some ([15, 14, 21, 13, 20, 19, 12, 18, 11, 17], []))
abbrev l4r8 : LC := .reg false [(⟨(some 72), none, .call 6 []⟩, []),
  (⟨(some 73), none, .mv (.t 72)⟩, []),
  (⟨(some 74), (some (73, true)), .mv (.t 17)⟩, []),
  (⟨(some 75), (some (73, true)), .mv (.t 11)⟩, []),
  (⟨(some 76), (some (73, true)), .mv (.t 13)⟩, []),
  (⟨(some 77), (some (73, true)), .bin .and (.t 75) (.t 76)⟩, []),
  (⟨(some 78), (some (73, true)), .mv (.t 15)⟩, []),
  (⟨(some 79), (some (73, true)), .bin .and (.t 77) (.t 78)⟩, []),
  (⟨(some 80), (some (73, true)), .mv (.t 15)⟩, []),
  (⟨(some 81), (some (73, true)), .bin .eql (.t 79) (.t 80)⟩, []),
  (⟨(some 82), (some (73, true)), .eqb false (.t 74) (.t 81)⟩, []),
  (⟨(some 83), none, .pick (.t 73) (.t 82) (.c (.bool false))⟩, []),
  (⟨(some 84), none, .mv (.t 83)⟩, []),
  (⟨(some 85), (some (84, true)), .mv (.t 18)⟩, []),
  (⟨(some 86), (some (84, true)), .mv (.t 12)⟩, []),
  (⟨(some 87), (some (84, true)), .mv (.t 13)⟩, []),
  (⟨(some 88), (some (84, true)), .bin .and (.t 86) (.t 87)⟩, []),
  (⟨(some 89), (some (84, true)), .mv (.t 15)⟩, []),
  (⟨(some 90), (some (84, true)), .bin .and (.t 88) (.t 89)⟩, []),
  (⟨(some 91), (some (84, true)), .mv (.t 15)⟩, []),
  (⟨(some 92), (some (84, true)), .bin .eql (.t 90) (.t 91)⟩, []),
  (⟨(some 93), (some (84, true)), .eqb false (.t 85) (.t 92)⟩, []),
  (⟨(some 94), none, .pick (.t 84) (.t 93) (.c (.bool false))⟩, []),
  (⟨(some 95), none, .mv (.t 94)⟩, []),
  (⟨(some 96), (some (95, true)), .mv (.t 19)⟩, []),
  (⟨(some 97), (some (95, true)), .mv (.t 14)⟩, []),
  (⟨(some 98), (some (95, true)), .bin .shr (.t 97) (.c (.int .u64 6))⟩, []),
  (⟨(some 99), (some (95, true)), .mv (.t 15)⟩, []),
  (⟨(some 100), (some (95, true)), .bin .and (.t 98) (.t 99)⟩, []),
  (⟨(some 101), (some (95, true)), .mv (.t 15)⟩, []),
  (⟨(some 102), (some (95, true)), .bin .eql (.t 100) (.t 101)⟩, []),
  (⟨(some 103), (some (95, true)), .eqb false (.t 96) (.t 102)⟩, []),
  (⟨(some 104), none, .pick (.t 95) (.t 103) (.c (.bool false))⟩, []),
  (⟨(some 105), none, .mv (.t 104)⟩, []),
  (⟨(some 106), (some (105, true)), .mv (.t 20)⟩, []),
  (⟨(some 107), (some (105, true)), .mv (.t 14)⟩, []),
  (⟨(some 108), (some (105, true)), .bin .shr (.t 107) (.c (.int .u64 3))⟩, []),
  (⟨(some 109), (some (105, true)), .mv (.t 13)⟩, []),
  (⟨(some 110), (some (105, true)), .bin .and (.t 108) (.t 109)⟩, []),
  (⟨(some 111), (some (105, true)), .mv (.t 15)⟩, []),
  (⟨(some 112), (some (105, true)), .bin .and (.t 110) (.t 111)⟩, []),
  (⟨(some 113), (some (105, true)), .mv (.t 15)⟩, []),
  (⟨(some 114), (some (105, true)), .bin .eql (.t 112) (.t 113)⟩, []),
  (⟨(some 115), (some (105, true)), .eqb false (.t 106) (.t 114)⟩, []),
  (⟨(some 116), none, .pick (.t 105) (.t 115) (.c (.bool false))⟩, []),
  (⟨(some 117), none, .mv (.t 116)⟩, []),
  (⟨(some 118), (some (117, true)), .mv (.t 21)⟩, []),
  (⟨(some 119), (some (117, true)), .mv (.t 14)⟩, []),
  (⟨(some 120), (some (117, true)), .mv (.t 15)⟩, []),
  (⟨(some 121), (some (117, true)), .bin .and (.t 119) (.t 120)⟩, []),
  (⟨(some 122), (some (117, true)), .mv (.t 15)⟩, []),
  (⟨(some 123), (some (117, true)), .bin .eql (.t 121) (.t 122)⟩, []),
  (⟨(some 124), (some (117, true)), .eqb false (.t 118) (.t 123)⟩, []),
  (⟨(some 125), none, .pick (.t 117) (.t 124) (.c (.bool false))⟩, []),
  (⟨(some 10), none, .mv (.t 125)⟩, [])] (some ([10], []))
/-- steamer/steamerlaw3.AclMask : 5 parameters, results in [10] of 126 slots -/
abbrev l4 : LC := (.seq l4r0 (.seq l4r1 (.seq l4r2 (.seq l4r3 (.seq l4r4 (.seq l4r5 (.seq l4r6 (.seq l4r7 (.seq l4r8 .ret)))))))))
def k4 (i : Nat) : Option Kp := match i with
  | 0 => (some ([4, 3, 2, 1, 0], []))
  | 1 => (some ([15, 14, 13, 12, 11], []))
  | 2 => (some ([15, 14, 13, 12, 11, 16], []))
  | 3 => (some ([15, 14, 13, 12, 11, 17, 16], []))
  | 4 => (some ([15, 14, 13, 12, 18, 11, 17, 16], []))
  | 5 => (some ([15, 14, 13, 19, 12, 18, 11, 17, 16], []))
  | 6 => (some ([15, 14, 13, 20, 19, 12, 18, 11, 17, 16], []))
  | 7 => (some ([15, 14, 21, 13, 20, 19, 12, 18, 11, 17], []))
  | 8 => (some ([10], []))
  | _ => none
theorem f4_told : Tryd.prog.funcs[4]? = some Tryd.f4 := by kernel_rfl
theorem f4_results : resTmps Tryd.f4 = some [10] := by kernel_rfl
theorem f4_text : (Tryd.f4.body.bind (trC Tryd.prog 126 k4 1000)) = some l4 := by kernel_rfl

abbrev l5r0 : LC := .reg false [(⟨(some 8), none, .mv (.c (.bool false))⟩, [])] (some ([3, 2, 1, 0], []))
abbrev l5r1 : LC := .reg false [(⟨(some 17), none, .mv (.t 0)⟩, []),
  (⟨(some 18), none, .toInt .u64 (.t 17)⟩, []),
  (⟨(some 19), none, .bin .rem (.t 18) (.c (.int .u64 8))⟩, []),
  (⟨(some 20), none, .toInt .i64 (.t 19)⟩, []),
  (⟨(some 21), none, .mv (.t 1)⟩, []),
  (⟨(some 22), none, .toInt .u64 (.t 21)⟩, []),
  (⟨(some 23), none, .bin .rem (.t 22) (.c (.int .u64 8))⟩, []),
  (⟨(some 24), none, .toInt .i64 (.t 23)⟩, []),
  (⟨(some 25), none, .mv (.t 2)⟩, []),
  (⟨(some 26), none, .toInt .u64 (.t 25)⟩, []),
  (⟨(some 27), none, .bin .rem (.t 26) (.c (.int .u64 512))⟩, []),
  (⟨(some 28), none, .toInt .i64 (.t 27)⟩, []),
  (⟨(some 29), none, .mv (.t 3)⟩, []),
  (⟨(some 30), none, .toInt .u64 (.t 29)⟩, []),
  (⟨(some 31), none, .bin .rem (.t 30) (.c (.int .u64 8))⟩, []),
  (⟨(some 32), none, .toInt .i64 (.t 31)⟩, []),
  (⟨(some 9), none, .mv (.t 20)⟩, []),
  (⟨(some 10), none, .mv (.t 24)⟩, []),
  (⟨(some 11), none, .mv (.t 28)⟩, []),
  (⟨(some 12), none, .mv (.t 32)⟩, [])] (some ([12, 11, 10, 9], []))
abbrev l5r2 : LC := .reg false [(⟨(some 33), none, .mv (.t 9)⟩, []),
  (⟨(some 34), none, .build [(.int .i64 0), (.int .i64 0), (.int .i64 0)] [(0, 1, (.c (.int .i64 1))), (1, 1, (.c (.int .i64 5))), (2, 1, (.t 33))]⟩, []),
  (⟨(some 35), none, .mv (.t 10)⟩, []),
  (⟨(some 36), none, .build [(.int .i64 0), (.int .i64 0), (.int .i64 0)] [(0, 1, (.c (.int .i64 2))), (1, 1, (.c (.int .i64 6))), (2, 1, (.t 35))]⟩, []),
  (⟨(some 37), none, .build [(.int .i64 0), (.int .i64 0), (.int .i64 0)] [(0, 1, (.c (.int .i64 3))), (2, 1, (.c (.int .i64 7)))]⟩, []),
  (⟨(some 38), none, .bslice 3 3 [(.int .i64 0), (.int .i64 0), (.int .i64 0)] [(0, (.t 34)), (1, (.t 36)), (2, (.t 37))]⟩, []),
  (⟨(some 13), none, .mv (.t 38)⟩, [])] (some ([12, 11, 10, 9, 13], []))
abbrev l5r3 : LC := .reg false [(⟨(some 39), none, .mv (.t 13)⟩, []),
  (⟨(some 40), none, .mv (.t 11)⟩, []),
  (⟨(some 41), none, .bslice 1 2 [(.int .i64 0)] [(0, (.c (.int .i64 6))), (1, (.c (.int .i64 2)))]⟩, []),
  (⟨(some 42), none, .mv (.t 12)⟩, []),
  (⟨(some 43), none, .call 10 [(.t 39), (.t 40), (.c (.int .i64 1)), (.c (.int .i64 2)), (.c (.int .i64 5)), (.t 41), (.t 42)]⟩, []),
  (⟨(some 14), none, .mv (.t 43)⟩, [])] (some ([12, 11, 10, 9, 14, 13], []))
abbrev l5r4 : LC := .reg false [(⟨(some 44), none, .mv (.t 13)⟩, []),
  (⟨(some 45), none, .mv (.t 11)⟩, []),
  (⟨(some 46), none, .bslice 1 2 [(.int .i64 0)] [(0, (.c (.int .i64 6))), (1, (.c (.int .i64 2)))]⟩, []),
  (⟨(some 47), none, .mv (.t 12)⟩, []),
  (⟨(some 48), none, .call 10 [(.t 44), (.t 45), (.c (.int .i64 1)), (.c (.int .i64 2)), (.c (.int .i64 8)), (.t 46), (.t 47)]⟩, []),
  (⟨(some 15), none, .mv (.t 48)⟩, [])] (some ([12, 11, 10, 15, 9, 14], []))
abbrev l5r5 : LC := .reg false [(⟨(some 49), none, .mv (.t 11)⟩, []),
  (⟨(some 50), none, .bslice 1 1 [(.int .i64 0)] [(0, (.c (.int .i64 2)))]⟩, []),
  (⟨(some 51), none, .mv (.t 12)⟩, []),
  (⟨(some 52), none, .call 10 [(.c (.slice none 0 0)), (.t 49), (.c (.int .i64 1)), (.c (.int .i64 2)), (.c (.int .i64 8)), (.t 50), (.t 51)]⟩, []),
  (⟨(some 16), none, .mv (.t 52)⟩, [])] (some ([12, 11, 16, 10, 15, 9, 14], []))
abbrev l5r6 : LC := .reg false [(⟨(some 53), none, .call 6 []⟩, []),
  (⟨(some 54), none, .mv (.t 53)⟩, []),
  (⟨(some 55), (some (54, true)), .mv (.t 14)⟩, []),
  (⟨(some 56), (some (54, true)), .mv (.t 9)⟩, []),
  (⟨(some 57), (some (54, true)), .mv (.t 12)⟩, []),
  (⟨(some 58), (some (54, true)), .bin .and (.t 56) (.t 57)⟩, []),
  (⟨(some 59), (some (54, true)), .mv (.t 12)⟩, []),
  (⟨(some 60), (some (54, true)), .bin .eql (.t 58) (.t 59)⟩, []),
  (⟨(some 61), (some (54, true)), .eqb false (.t 55) (.t 60)⟩, []),
  (⟨(some 62), none, .pick (.t 54) (.t 61) (.c (.bool false))⟩, []),
  (⟨(some 63), none, .mv (.t 62)⟩, []),
  (⟨(some 64), (some (63, true)), .mv (.t 15)⟩, []),
  (⟨(some 65), (some (63, true)), .mv (.t 10)⟩, []),
  (⟨(some 66), (some (63, true)), .mv (.t 12)⟩, []),
  (⟨(some 67), (some (63, true)), .bin .and (.t 65) (.t 66)⟩, []),
  (⟨(some 68), (some (63, true)), .mv (.t 12)⟩, []),
  (⟨(some 69), (some (63, true)), .bin .eql (.t 67) (.t 68)⟩, []),
  (⟨(some 70), (some (63, true)), .mv (.t 69)⟩, []),
  (⟨(some 71), (some (70, false)), .mv (.t 11)⟩, []),
  (⟨(some 72), (some (70, false)), .bin .shr (.t 71) (.c (.int .u64 3))⟩, []),
  (⟨(some 73), (some (70, false)), .mv (.t 12)⟩, []),
  (⟨(some 74), (some (70, false)), .bin .and (.t 72) (.t 73)⟩, []),
  (⟨(some 75), (some (70, false)), .mv (.t 12)⟩, []),
  (⟨(some 76), (some (70, false)), .bin .eql (.t 74) (.t 75)⟩, []),
  (⟨(some 77), (some (63, true)), .pick (.t 70) (.c (.bool true)) (.t 76)⟩, []),
  (⟨(some 78), (some (63, true)), .eqb false (.t 64) (.t 77)⟩, []),
  (⟨(some 79), none, .pick (.t 63) (.t 78) (.c (.bool false))⟩, []),
  (⟨(some 80), none, .mv (.t 79)⟩, []),
  (⟨(some 81), (some (80, true)), .mv (.t 16)⟩, []),
  (⟨(some 82), (some (80, true)), .mv (.t 11)⟩, []),
  (⟨(some 83), (some (80, true)), .bin .shr (.t 82) (.c (.int .u64 3))⟩, []),
  (⟨(some 84), (some (80, true)), .mv (.t 12)⟩, []),
  (⟨(some 85), (some (80, true)), .bin .and (.t 83) (.t 84)⟩, []),
  (⟨(some 86), (some (80, true)), .mv (.t 12)⟩, []),
  (⟨(some 87), (some (80, true)), .bin .eql (.t 85) (.t 86)⟩, []),
  (⟨(some 88), (some (80, true)), .eqb false (.t 81) (.t 87)⟩, []),
  (⟨(some 89), none, .pick (.t 80) (.t 88) (.c (.bool false))⟩, []),
  (⟨(some 90), none, .mv (.t 89)⟩, []),
  (⟨(some 91), (some (90, true)), .mv (.t 11)⟩, []),
  (⟨(some 92), (some (90, true)), .mv (.t 12)⟩, []),
  (⟨(some 93), (some (90, true)), .call 10 [(.c (.slice none 0 0)), (.t 91), (.c (.int .i64 1)), (.c (.int .i64 2)), (.c (.int .i64 0)), (.c (.slice none 0 0)), (.t 92)]⟩, []),
  (⟨(some 94), none, .pick (.t 90) (.t 93) (.c (.bool false))⟩, []),
  (⟨(some 95), none, .mv (.t 94)⟩, []),
  (⟨(some 96), (some (95, true)), .call 10 [(.c (.slice none 0 0)), (.c (.int .i64 511)), (.c (.int .i64 1)), (.c (.int .i64 2)), (.c (.int .i64 8)), (.c (.slice none 0 0)), (.c (.int .i64 8))]⟩, []),
  (⟨(some 97), (some (95, true)), .un .not (.t 96)⟩, []),
  (⟨(some 98), none, .pick (.t 95) (.t 97) (.c (.bool false))⟩, []),
  (⟨(some 8), none, .mv (.t 98)⟩, [])] (some ([8], []))
/-- steamer/steamerlaw3.AclUsers : 4 parameters, results in [8] of 99 slots -/
abbrev l5 : LC := (.seq l5r0 (.seq l5r1 (.seq l5r2 (.seq l5r3 (.seq l5r4 (.seq l5r5 (.seq l5r6 .ret)))))))
def k5 (i : Nat) : Option Kp := match i with
  | 0 => (some ([3, 2, 1, 0], []))
  | 1 => (some ([12, 11, 10, 9], []))
  | 2 => (some ([12, 11, 10, 9, 13], []))
  | 3 => (some ([12, 11, 10, 9, 14, 13], []))
  | 4 => (some ([12, 11, 10, 15, 9, 14], []))
  | 5 => (some ([12, 11, 16, 10, 15, 9, 14], []))
  | 6 => (some ([8], []))
  | _ => none
theorem f5_told : Tryd.prog.funcs[5]? = some Tryd.f5 := by kernel_rfl
theorem f5_results : resTmps Tryd.f5 = some [8] := by kernel_rfl
theorem f5_text : (Tryd.f5.body.bind (trC Tryd.prog 99 k5 1000)) = some l5 := by kernel_rfl

abbrev l6r0 : LC := .reg false [(⟨(some 0), none, .mv (.c (.bool false))⟩, [])] (some ([], []))
abbrev l6r1 : LC := .reg false [(⟨(some 10), none, .build [(.int .i64 0), (.int .i64 0), (.int .i64 0)] [(0, 1, (.c (.int .i64 3))), (2, 1, (.c (.int .i64 5)))]⟩, []),
  (⟨(some 11), none, .build [(.int .i64 0), (.int .i64 0), (.int .i64 0)] [(0, 1, (.c (.int .i64 1))), (1, 1, (.c (.int .i64 7))), (2, 1, (.c (.int .i64 6)))]⟩, []),
  (⟨(some 12), none, .bslice 3 2 [(.int .i64 0), (.int .i64 0), (.int .i64 0)] [(0, (.t 10)), (1, (.t 11))]⟩, []),
  (⟨(some 1), none, .mv (.t 12)⟩, [])] (some ([1], []))
abbrev l6r2 : LC := .reg false [(⟨(some 14), none, .mv (.t 1)⟩, []),
  (⟨(some 15), none, .call 7 [(.t 14)]⟩, []),
  (⟨(some 13), none, .mv (.t 15)⟩, []),
  (⟨(some 16), none, .ext 0 (.t 13)⟩, []),
  (⟨(some 17), none, .ext 1 (.t 13)⟩, []),
  (⟨(some 2), none, .mv (.t 16)⟩, []),
  (⟨(some 3), none, .mv (.t 17)⟩, [])] (some ([1, 2, 3], []))
abbrev l6r3 : LC := .reg false [(⟨(some 19), none, .mv (.t 1)⟩, []),
  (⟨(some 20), none, .slc 3 (.t 19) (some (.c (.int .i64 1))) none⟩, []),
  (⟨(some 21), none, .call 7 [(.t 20)]⟩, []),
  (⟨(some 18), none, .mv (.t 21)⟩, []),
  (⟨(some 22), none, .ext 0 (.t 18)⟩, []),
  (⟨(some 23), none, .ext 1 (.t 18)⟩, []),
  (⟨(some 4), none, .mv (.t 22)⟩, []),
  (⟨(some 5), none, .mv (.t 23)⟩, [])] (some ([1, 2, 5, 3], []))
abbrev l6r4 : LC := .reg false [(⟨(some 25), none, .mv (.t 1)⟩, []),
  (⟨(some 26), none, .iad 3 (.t 25) (.c (.int .i64 0))⟩, []),
  (⟨(some 27), none, .load 3 true (.t 26)⟩, []),
  (⟨(some 28), none, .mv (.t 1)⟩, []),
  (⟨(some 29), none, .iad 3 (.t 28) (.c (.int .i64 0))⟩, []),
  (⟨(some 30), none, .load 3 true (.t 29)⟩, []),
  (⟨(some 31), none, .bslice 3 2 [(.int .i64 0), (.int .i64 0), (.int .i64 0)] [(0, (.t 27)), (1, (.t 30))]⟩, []),
  (⟨(some 32), none, .call 7 [(.t 31)]⟩, []),
  (⟨(some 24), none, .mv (.t 32)⟩, []),
  (⟨(some 33), none, .ext 0 (.t 24)⟩, []),
  (⟨(some 34), none, .ext 1 (.t 24)⟩, []),
  (⟨(some 6), none, .mv (.t 33)⟩, []),
  (⟨(some 7), none, .mv (.t 34)⟩, [])] (some ([1, 2, 7, 5, 3], []))
abbrev l6r5 : LC := .reg false [(⟨(some 36), none, .build [(.int .i64 0), (.int .i64 0), (.int .i64 0)] [(0, 1, (.c (.int .i64 4)))]⟩, []),
  (⟨(some 37), none, .bslice 3 1 [(.int .i64 0), (.int .i64 0), (.int .i64 0)] [(0, (.t 36))]⟩, []),
  (⟨(some 38), none, .call 7 [(.t 37)]⟩, []),
  (⟨(some 35), none, .mv (.t 38)⟩, []),
  (⟨(some 39), none, .ext 0 (.t 35)⟩, []),
  (⟨(some 40), none, .ext 1 (.t 35)⟩, []),
  (⟨(some 8), none, .mv (.t 39)⟩, []),
  (⟨(some 9), none, .mv (.t 40)⟩, [])] (some ([1, 2, 9, 7, 5, 3], []))
abbrev l6r6 : LC := .reg true [(⟨(some 41), none, .mv (.t 3)⟩, []),
  (⟨(some 42), none, .bin .eql (.t 41) (.c (.int .i64 0))⟩, []),
  (⟨(some 43), none, .mv (.t 42)⟩, []),
  (⟨(some 44), (some (43, true)), .mv (.t 2)⟩, []),
  (⟨(some 45), (some (43, true)), .len (.t 44)⟩, []),
  (⟨(some 46), (some (43, true)), .bin .eql (.t 45) (.c (.int .i64 2))⟩, []),
  (⟨(some 47), none, .pick (.t 43) (.t 46) (.c (.bool false))⟩, []),
  (⟨(some 48), none, .mv (.t 47)⟩, []),
  (⟨(some 49), (some (48, true)), .mv (.t 2)⟩, []),
  (⟨(some 50), (some (48, true)), .iad 3 (.t 49) (.c (.int .i64 0))⟩, []),
  (⟨(some 51), (some (48, true)), .load 3 true (.t 50)⟩, []),
  (⟨(some 52), (some (48, true)), .mv (.t 1)⟩, []),
  (⟨(some 53), (some (48, true)), .iad 3 (.t 52) (.c (.int .i64 1))⟩, []),
  (⟨(some 54), (some (48, true)), .load 3 true (.t 53)⟩, []),
  (⟨(some 55), (some (48, true)), .eqs false [0, 0, 0] (.t 51) (.t 54)⟩, []),
  (⟨(some 56), none, .pick (.t 48) (.t 55) (.c (.bool false))⟩, []),
  (⟨(some 57), none, .mv (.t 56)⟩, []),
  (⟨(some 58), (some (57, true)), .mv (.t 5)⟩, []),
  (⟨(some 59), (some (57, true)), .bin .eql (.t 58) (.c (.int .i64 7))⟩, []),
  (⟨(some 60), none, .pick (.t 57) (.t 59) (.c (.bool false))⟩, []),
  (⟨(some 61), none, .mv (.t 60)⟩, []),
  (⟨(some 62), (some (61, true)), .mv (.t 7)⟩, []),
  (⟨(some 63), (some (61, true)), .bin .eql (.t 62) (.c (.int .i64 6))⟩, []),
  (⟨(some 64), none, .pick (.t 61) (.t 63) (.c (.bool false))⟩, []),
  (⟨(some 65), none, .mv (.t 64)⟩, []),
  (⟨(some 66), (some (65, true)), .mv (.t 9)⟩, []),
  (⟨(some 67), (some (65, true)), .bin .eql (.t 66) (.c (.int .i64 1))⟩, []),
  (⟨(some 68), none, .pick (.t 65) (.t 67) (.c (.bool false))⟩, []),
  (⟨(some 69), none, .mv (.t 68)⟩, []),
  (⟨(some 70), (some (69, true)), .mv (.t 2)⟩, []),
  (⟨(some 71), (some (69, true)), .call 9 [(.t 70)]⟩, []),
  (⟨(some 72), none, .pick (.t 69) (.t 71) (.c (.bool false))⟩, []),
  (⟨(some 73), none, .mv (.t 72)⟩, []),
  (⟨(some 74), (some (73, true)), .mv (.t 1)⟩, []),
  (⟨(some 75), (some (73, true)), .call 9 [(.t 74)]⟩, []),
  (⟨(some 76), (some (73, true)), .un .not (.t 75)⟩, []),
  (⟨(some 77), none, .pick (.t 73) (.t 76) (.c (.bool false))⟩, []),
  (⟨(some 78), none, .mv (.t 77)⟩, []),
  (⟨(some 79), (some (78, true)), .call 9 [(.c (.slice none 0 0))]⟩, []),
  (⟨(some 80), none, .pick (.t 78) (.t 79) (.c (.bool false))⟩, []),
  (⟨(some 81), none, .mv (.t 80)⟩, []),
  (⟨(some 82), (some (81, true)), .mv (.t 2)⟩, []),
  (⟨(some 83), (some (81, true)), .call 10 [(.t 82), (.c (.int .i64 416)), (.c (.int .i64 1)), (.c (.int .i64 2)), (.c (.int .i64 7)), (.c (.slice none 0 0)), (.c (.int .i64 4))]⟩, []),
  (⟨(some 84), none, .pick (.t 81) (.t 83) (.c (.bool false))⟩, []),
  (⟨(some 85), none, .mv (.t 84)⟩, []),
  (⟨(some 86), (some (85, true)), .mv (.t 2)⟩, []),
  (⟨(some 87), (some (85, true)), .call 10 [(.t 86), (.c (.int .i64 416)), (.c (.int .i64 1)), (.c (.int .i64 2)), (.c (.int .i64 7)), (.c (.slice none 0 0)), (.c (.int .i64 2))]⟩, []),
  (⟨(some 88), (some (85, true)), .un .not (.t 87)⟩, []),
  (⟨(some 89), none, .pick (.t 85) (.t 88) (.c (.bool false))⟩, []),
  (⟨(some 90), none, .mv (.t 89)⟩, []),
  (⟨(some 91), (some (90, true)), .mv (.t 2)⟩, []),
  (⟨(some 92), (some (90, true)), .call 10 [(.t 91), (.c (.int .i64 416)), (.c (.int .i64 1)), (.c (.int .i64 2)), (.c (.int .i64 1)), (.c (.slice none 0 0)), (.c (.int .i64 6))]⟩, []),
  (⟨(some 93), none, .pick (.t 90) (.t 92) (.c (.bool false))⟩, []),
  (⟨(some 94), none, .mv (.t 93)⟩, []),
  (⟨(some 95), (some (94, true)), .mv (.t 2)⟩, []),
  (⟨(some 96), (some (94, true)), .call 10 [(.t 95), (.c (.int .i64 0)), (.c (.int .i64 1)), (.c (.int .i64 2)), (.c (.int .i64 0)), (.c (.slice none 0 0)), (.c (.int .i64 7))]⟩, []),
  (⟨(some 97), none, .pick (.t 94) (.t 96) (.c (.bool false))⟩, []),
  (⟨(some 98), none, .mv (.t 97)⟩, []),
  (⟨(some 99), (some (98, true)), .mv (.t 2)⟩, []),
  (⟨(some 100), (some (98, true)), .call 10 [(.t 99), (.c (.int .i64 416)), (.c (.int .i64 1)), (.c (.int .i64 2)), (.c (.int .i64 9)), (.c (.slice none 0 0)), (.c (.int .i64 4))]⟩, []),
  (⟨(some 101), (some (98, true)), .un .not (.t 100)⟩, []),
  (⟨(some 102), none, .pick (.t 98) (.t 101) (.c (.bool false))⟩, []),
  (⟨(some 103), none, .mv (.t 102)⟩, []),
  (⟨(some 104), (some (103, true)), .mv (.t 2)⟩, []),
  (⟨(some 105), (some (103, true)), .bslice 1 1 [(.int .i64 0)] [(0, (.c (.int .i64 2)))]⟩, [63]),
  (⟨(some 106), (some (103, true)), .call 10 [(.t 104), (.c (.int .i64 416)), (.c (.int .i64 1)), (.c (.int .i64 2)), (.c (.int .i64 9)), (.t 105), (.c (.int .i64 4))]⟩, []),
  (⟨(some 107), none, .pick (.t 103) (.t 106) (.c (.bool false))⟩, []),
  (⟨(some 108), none, .mv (.t 107)⟩, []),
  (⟨(some 109), (some (108, true)), .mv (.t 2)⟩, []),
  (⟨(some 110), (some (108, true)), .call 11 [(.t 109)]⟩, []),
  (⟨(some 111), (some (108, true)), .bin .eql (.t 110) (.c (.string ⟨#[117, 55, 58, 54, 32, 109, 48, 58, 53]⟩))⟩, []),
  (⟨(some 112), none, .pick (.t 108) (.t 111) (.c (.bool false))⟩, []),
  (⟨(some 113), none, .mv (.t 112)⟩, []),
  (⟨(some 114), (some (113, true)), .mv (.t 2)⟩, []),
  (⟨(some 115), (some (113, true)), .mv (.t 2)⟩, []),
  (⟨(some 116), (some (113, true)), .call 8 [(.t 114), (.t 115)]⟩, []),
  (⟨(some 117), none, .pick (.t 113) (.t 116) (.c (.bool false))⟩, []),
  (⟨(some 118), none, .mv (.t 117)⟩, []),
  (⟨(some 119), (some (118, true)), .mv (.t 2)⟩, []),
  (⟨(some 120), (some (118, true)), .mv (.t 1)⟩, []),
  (⟨(some 121), (some (118, true)), .call 8 [(.t 119), (.t 120)]⟩, []),
  (⟨(some 122), (some (118, true)), .un .not (.t 121)⟩, []),
  (⟨(some 123), none, .pick (.t 118) (.t 122) (.c (.bool false))⟩, []),
  (⟨(some 0), none, .mv (.t 123)⟩, [])] (some ([0], []))
/-- steamer/steamerlaw3.told : 0 parameters, results in [0] of 124 slots -/
abbrev l6 : LC := (.seq l6r0 (.seq l6r1 (.seq l6r2 (.seq l6r3 (.seq l6r4 (.seq l6r5 (.seq l6r6 .ret)))))))
def k6 (i : Nat) : Option Kp := match i with
  | 0 => (some ([], []))
  | 1 => (some ([1], []))
  | 2 => (some ([1, 2, 3], []))
  | 3 => (some ([1, 2, 5, 3], []))
  | 4 => (some ([1, 2, 7, 5, 3], []))
  | 5 => (some ([1, 2, 9, 7, 5, 3], []))
  | 6 => (some ([0], []))
  | _ => none
theorem f6_told : Tryd.prog.funcs[6]? = some Tryd.f6 := by kernel_rfl
theorem f6_results : resTmps Tryd.f6 = some [0] := by kernel_rfl
theorem f6_text : (Tryd.f6.body.bind (trC Tryd.prog 124 k6 1000)) = some l6 := by kernel_rfl

abbrev l7r0 : LC := .reg false [(⟨(some 2), none, .mv (.c (.slice none 0 0))⟩, []),
  (⟨(some 3), none, .mv (.c (.int .i64 0))⟩, [])] (some ([0], []))
abbrev l7r1 : LC := .reg false [(⟨(some 7), none, .mv (.t 0)⟩, []),
  (⟨(some 8), none, .call 12 [(.t 7)]⟩, []),
  (⟨(some 0), none, .mv (.t 8)⟩, [])] (some ([0], []))
abbrev l7r2 : LC := .reg false [(⟨(some 9), none, .mv (.t 0)⟩, []),
  (⟨(some 10), none, .call 13 [(.t 9), (.f 14)]⟩, [])] (some ([0], []))
abbrev l7r3 : LC := .reg false [(⟨(some 4), none, .mv (.c (.bool false))⟩, [])] (some ([0, 4], []))
abbrev l7r4 : LC := .reg false [(⟨(some 11), none, .mv (.t 0)⟩, []),
  (⟨(some 12), none, .len (.t 11)⟩, []),
  (⟨(some 13), none, .mv (.c (.int .i64 0))⟩, [])] (some ([13, 0, 4, 11, 12], []))
abbrev l7r5 : LC := .reg false [(⟨(some 14), none, .bin .lss (.t 13) (.t 12)⟩, [])] (some ([0, 11, 12, 13, 4, 14], []))
abbrev l7r6 : LC := .reg false [(⟨(some 15), none, .mv (.t 13)⟩, []),
  (⟨(some 16), none, .iad 3 (.t 11) (.t 13)⟩, []),
  (⟨(some 17), none, .load 3 true (.t 16)⟩, []),
  (⟨(some 6), none, .alloc [(.int .i64 0), (.int .i64 0), (.int .i64 0)]⟩, []),
  (⟨(some 5), none, .mv (.t 15)⟩, []),
  (⟨none, none, .store 3 (.t 6) (.t 17)⟩, [])] (some ([0, 11, 12, 13, 6, 5, 4], []))
abbrev l7r7 : LC := .reg false [(⟨(some 18), none, .load 3 true (.t 6)⟩, []),
  (⟨(some 19), none, .call 15 [(.t 18)]⟩, []),
  (⟨(some 20), none, .un .not (.t 19)⟩, [])] (some ([0, 11, 12, 13, 6, 5, 4, 20], []))
abbrev l7r8 : LC := .reg false [(⟨(some 2), none, .mv (.c (.slice none 0 0))⟩, []),
  (⟨(some 3), none, .mv (.c (.int .i64 1))⟩, [])] (some ([2, 3], [.slot 2 502 3]))
abbrev l7r9 : LC := .reg false [(⟨(some 21), none, .mv (.t 4)⟩, []),
  (⟨(some 22), none, .mv (.t 21)⟩, []),
  (⟨(some 23), (some (22, false)), .mv (.t 5)⟩, []),
  (⟨(some 24), (some (22, false)), .bin .gtr (.t 23) (.c (.int .i64 0))⟩, []),
  (⟨(some 25), (some (22, false)), .mv (.t 24)⟩, []),
  (⟨(some 26), (some (25, true)), .mv (.t 0)⟩, []),
  (⟨(some 27), (some (25, true)), .mv (.t 5)⟩, []),
  (⟨(some 28), (some (25, true)), .bin .sub (.t 27) (.c (.int .i64 1))⟩, []),
  (⟨(some 29), (some (25, true)), .iad 3 (.t 26) (.t 28)⟩, []),
  (⟨(some 30), (some (25, true)), .load 3 true (.t 29)⟩, []),
  (⟨(some 31), (some (25, true)), .load 3 true (.t 6)⟩, []),
  (⟨(some 32), (some (25, true)), .call 14 [(.t 30), (.t 31)]⟩, []),
  (⟨(some 33), (some (25, true)), .bin .eql (.t 32) (.c (.int .i64 0))⟩, []),
  (⟨(some 34), (some (22, false)), .pick (.t 25) (.t 33) (.c (.bool false))⟩, []),
  (⟨(some 35), none, .pick (.t 22) (.c (.bool true)) (.t 34)⟩, []),
  (⟨(some 4), none, .mv (.t 35)⟩, [])] (some ([0, 4, 11, 12, 13], []))
abbrev l7r10 : LC := .reg false [(⟨(some 36), none, .bin .add (.t 13) (.c (.int .i64 1))⟩, []),
  (⟨(some 13), none, .mv (.t 36)⟩, [])] (some ([13, 0, 4, 11, 12], []))
abbrev l7r11 : LC := (.seq l7r5 (.seq (.cond (.t 14) .skip (.exit 0)) (.seq (.block 1 (.seq l7r6 (.seq (.seq l7r7 (.cond (.t 20) (.seq l7r8 .ret) .skip)) l7r9))) l7r10)))
abbrev l7r12 : LC := .reg false [(⟨(some 38), none, .mv (.t 4)⟩, []),
  (⟨(some 37), none, .mv (.t 38)⟩, [])] (some ([0, 37], []))
abbrev l7r13 : LC := .reg false [(⟨(some 2), none, .mv (.c (.slice none 0 0))⟩, []),
  (⟨(some 3), none, .mv (.c (.int .i64 6))⟩, [])] (some ([2, 3], [.slot 2 502 3]))
abbrev l7r14 : LC := .reg false [(⟨(some 40), none, .mv (.t 0)⟩, []),
  (⟨(some 41), none, .len (.t 40)⟩, []),
  (⟨(some 42), none, .bin .gtr (.t 41) (.c (.int .i64 16))⟩, []),
  (⟨(some 39), none, .mv (.t 42)⟩, [])] (some ([0, 39], []))
abbrev l7r15 : LC := .reg false [(⟨(some 2), none, .mv (.c (.slice none 0 0))⟩, []),
  (⟨(some 3), none, .mv (.c (.int .i64 13))⟩, [])] (some ([2, 3], [.slot 2 502 3]))
abbrev l7r16 : LC := .reg false [(⟨(some 44), none, .mv (.t 0)⟩, []),
  (⟨(some 45), none, .call 9 [(.t 44)]⟩, []),
  (⟨(some 46), none, .un .not (.t 45)⟩, []),
  (⟨(some 43), none, .mv (.t 46)⟩, [])] (some ([0, 43], []))
abbrev l7r17 : LC := .reg false [(⟨(some 2), none, .mv (.c (.slice none 0 0))⟩, []),
  (⟨(some 3), none, .mv (.c (.int .i64 7))⟩, [])] (some ([2, 3], [.slot 2 502 3]))
abbrev l7r18 : LC := .reg false [(⟨(some 47), none, .mv (.t 0)⟩, []),
  (⟨(some 2), none, .mv (.t 47)⟩, []),
  (⟨(some 3), none, .mv (.c (.int .i64 0))⟩, [])] (some ([2, 3], []))
/-- steamer/acl.Norm : 1 parameters, results in [2, 3] of 48 slots -/
abbrev l7 : LC := (.seq l7r0 (.seq l7r1 (.seq l7r2 (.seq l7r3 (.seq (.seq l7r4 (.block 0 (.loop l7r11))) (.seq (.block 2 (.seq l7r12 (.cond (.t 37) (.seq l7r13 .ret) (.seq l7r14 (.cond (.t 39) (.seq l7r15 .ret) (.seq l7r16 (.cond (.t 43) (.seq l7r17 .ret) .skip))))))) (.seq l7r18 .ret)))))))
def k7 (i : Nat) : Option Kp := match i with
  | 0 => (some ([0], []))
  | 1 => (some ([0], []))
  | 2 => (some ([0], []))
  | 3 => (some ([0, 4], []))
  | 4 => (some ([13, 0, 4, 11, 12], []))
  | 5 => (some ([0, 11, 12, 13, 4, 14], []))
  | 6 => (some ([0, 11, 12, 13, 6, 5, 4], []))
  | 7 => (some ([0, 11, 12, 13, 6, 5, 4, 20], []))
  | 8 => (some ([2, 3], [.slot 2 502 3]))
  | 9 => (some ([0, 4, 11, 12, 13], []))
  | 10 => (some ([13, 0, 4, 11, 12], []))
  | 11 => (some ([0, 37], []))
  | 12 => (some ([2, 3], [.slot 2 502 3]))
  | 13 => (some ([0, 39], []))
  | 14 => (some ([2, 3], [.slot 2 502 3]))
  | 15 => (some ([0, 43], []))
  | 16 => (some ([2, 3], [.slot 2 502 3]))
  | 17 => (some ([2, 3], []))
  | _ => none
theorem f7_told : Tryd.prog.funcs[7]? = some Tryd.f7 := by kernel_rfl
theorem f7_results : resTmps Tryd.f7 = some [2, 3] := by kernel_rfl
theorem f7_text : (Tryd.f7.body.bind (trC Tryd.prog 48 k7 1000)) = some l7 := by kernel_rfl

abbrev l8r0 : LC := .reg false [(⟨(some 4), none, .mv (.c (.bool false))⟩, [])] (some ([1, 0], []))
abbrev l8r1 : LC := .reg false [(⟨(some 5), none, .mv (.t 0)⟩, []),
  (⟨(some 6), none, .mv (.t 1)⟩, []),
  (⟨(some 7), none, .call 16 [(.t 5), (.t 6)]⟩, []),
  (⟨(some 4), none, .mv (.t 7)⟩, [])] (some ([4], []))
/-- steamer/acl.Same : 2 parameters, results in [4] of 8 slots -/
abbrev l8 : LC := (.seq l8r0 (.seq l8r1 .ret))
def k8 (i : Nat) : Option Kp := match i with
  | 0 => (some ([1, 0], []))
  | 1 => (some ([4], []))
  | _ => none
theorem f8_told : Tryd.prog.funcs[8]? = some Tryd.f8 := by kernel_rfl
theorem f8_results : resTmps Tryd.f8 = some [4] := by kernel_rfl
theorem f8_text : (Tryd.f8.body.bind (trC Tryd.prog 8 k8 1000)) = some l8 := by kernel_rfl

abbrev l9r0 : LC := .reg false [(⟨(some 2), none, .mv (.c (.bool false))⟩, [])] (some ([0], []))
abbrev l9r1 : LC := .reg false [(⟨(some 3), none, .mv (.c (.int .i64 0))⟩, [])] (some ([0, 3], []))
abbrev l9r2 : LC := .reg false [(⟨(some 4), none, .mv (.t 3)⟩, []),
  (⟨(some 5), none, .mv (.t 0)⟩, []),
  (⟨(some 6), none, .len (.t 5)⟩, []),
  (⟨(some 7), none, .bin .lss (.t 4) (.t 6)⟩, [])] (some ([0, 3, 7], []))
abbrev l9r3 : LC := .reg false [(⟨(some 8), none, .mv (.t 0)⟩, []),
  (⟨(some 9), none, .mv (.t 3)⟩, []),
  (⟨(some 10), none, .iad 3 (.t 8) (.t 9)⟩, []),
  (⟨(some 11), none, .load 3 true (.t 10)⟩, []),
  (⟨(some 12), none, .call 15 [(.t 11)]⟩, []),
  (⟨(some 13), none, .un .not (.t 12)⟩, []),
  (⟨(some 14), none, .mv (.t 13)⟩, []),
  (⟨(some 15), (some (14, false)), .mv (.t 3)⟩, []),
  (⟨(some 16), (some (14, false)), .bin .gtr (.t 15) (.c (.int .i64 0))⟩, []),
  (⟨(some 17), (some (14, false)), .mv (.t 16)⟩, []),
  (⟨(some 18), (some (17, true)), .mv (.t 0)⟩, []),
  (⟨(some 19), (some (17, true)), .mv (.t 3)⟩, []),
  (⟨(some 20), (some (17, true)), .bin .sub (.t 19) (.c (.int .i64 1))⟩, []),
  (⟨(some 21), (some (17, true)), .iad 3 (.t 18) (.t 20)⟩, []),
  (⟨(some 22), (some (17, true)), .load 3 true (.t 21)⟩, []),
  (⟨(some 23), (some (17, true)), .mv (.t 0)⟩, []),
  (⟨(some 24), (some (17, true)), .mv (.t 3)⟩, []),
  (⟨(some 25), (some (17, true)), .iad 3 (.t 23) (.t 24)⟩, []),
  (⟨(some 26), (some (17, true)), .load 3 true (.t 25)⟩, []),
  (⟨(some 27), (some (17, true)), .call 14 [(.t 22), (.t 26)]⟩, []),
  (⟨(some 28), (some (17, true)), .bin .geq (.t 27) (.c (.int .i64 0))⟩, []),
  (⟨(some 29), (some (14, false)), .pick (.t 17) (.t 28) (.c (.bool false))⟩, []),
  (⟨(some 30), none, .pick (.t 14) (.c (.bool true)) (.t 29)⟩, [])] (some ([0, 3, 30], []))
abbrev l9r4 : LC := .reg false [(⟨(some 2), none, .mv (.c (.bool false))⟩, [])] (some ([2], []))
abbrev l9r5 : LC := .reg false [(⟨(some 31), none, .mv (.t 3)⟩, []),
  (⟨(some 32), none, .bin .add (.t 31) (.c (.int .i64 1))⟩, []),
  (⟨(some 3), none, .mv (.t 32)⟩, [])] (some ([3, 0], []))
abbrev l9r6 : LC := .reg false [(⟨(some 33), none, .mv (.t 0)⟩, []),
  (⟨(some 34), none, .len (.t 33)⟩, []),
  (⟨(some 35), none, .bin .leq (.t 34) (.c (.int .i64 16))⟩, []),
  (⟨(some 36), none, .mv (.t 35)⟩, []),
  (⟨(some 37), (some (36, true)), .mv (.t 0)⟩, []),
  (⟨(some 38), (some (36, true)), .len (.t 37)⟩, []),
  (⟨(some 39), (some (36, true)), .bin .eql (.t 38) (.c (.int .i64 0))⟩, []),
  (⟨(some 40), (some (36, true)), .mv (.t 39)⟩, []),
  (⟨(some 41), (some (40, false)), .mv (.t 0)⟩, []),
  (⟨(some 42), (some (40, false)), .mv (.t 0)⟩, []),
  (⟨(some 43), (some (40, false)), .len (.t 42)⟩, []),
  (⟨(some 44), (some (40, false)), .bin .sub (.t 43) (.c (.int .i64 1))⟩, []),
  (⟨(some 45), (some (40, false)), .iad 3 (.t 41) (.t 44)⟩, []),
  (⟨(some 46), (some (40, false)), .fad 0 (.t 45)⟩, []),
  (⟨(some 47), (some (40, false)), .load 1 false (.t 46)⟩, []),
  (⟨(some 48), (some (40, false)), .bin .eql (.t 47) (.c (.int .i64 3))⟩, []),
  (⟨(some 49), (some (36, true)), .pick (.t 40) (.c (.bool true)) (.t 48)⟩, []),
  (⟨(some 50), none, .pick (.t 36) (.t 49) (.c (.bool false))⟩, []),
  (⟨(some 2), none, .mv (.t 50)⟩, [])] (some ([2], []))
abbrev l9r7 : LC := (.seq l9r1 (.seq .label (.seq (.seq l9r2 (.cond (.t 7) (.seq (.seq l9r3 (.cond (.t 30) (.seq l9r4 .ret) .skip)) (.seq l9r5 (.goto 0))) .skip)) (.seq l9r6 .ret))))
abbrev l9r8 : LC := (.seq .skip (.seq (.seq l9r2 (.cond (.t 7) (.seq (.seq l9r3 (.cond (.t 30) (.seq l9r4 .ret) .skip)) (.seq l9r5 (.goto 0))) .skip)) (.seq l9r6 .ret)))
/-- steamer/acl.May : 1 parameters, results in [2] of 51 slots -/
abbrev l9 : LC := (.seq l9r0 (.scope 0 l9r7 l9r8))
def k9 (i : Nat) : Option Kp := match i with
  | 0 => (some ([0], []))
  | 1 => (some ([0, 3], []))
  | 2 => (some ([0, 3, 7], []))
  | 3 => (some ([0, 3, 30], []))
  | 4 => (some ([2], []))
  | 5 => (some ([3, 0], []))
  | 6 => (some ([2], []))
  | _ => none
theorem f9_told : Tryd.prog.funcs[9]? = some Tryd.f9 := by kernel_rfl
theorem f9_results : resTmps Tryd.f9 = some [2] := by kernel_rfl
theorem f9_text : (Tryd.f9.body.bind (trC Tryd.prog 51 k9 1000)) = some l9 := by kernel_rfl

abbrev l10r0 : LC := .reg false [(⟨(some 13), none, .box 1 (.t 6)⟩, []),
  (⟨(some 14), none, .mv (.c (.bool false))⟩, [])] (some ([1, 5, 4, 0, 3, 2, 13], []))
abbrev l10r1 : LC := .reg false [(⟨(some 22), none, .mv (.t 0)⟩, []),
  (⟨(some 23), none, .call 9 [(.t 22)]⟩, []),
  (⟨(some 24), none, .un .not (.t 23)⟩, []),
  (⟨(some 25), none, .mv (.t 24)⟩, []),
  (⟨(some 26), (some (25, false)), .load 1 false (.t 13)⟩, []),
  (⟨(some 27), (some (25, false)), .bin .lss (.t 26) (.c (.int .i64 0))⟩, []),
  (⟨(some 28), none, .pick (.t 25) (.c (.bool true)) (.t 27)⟩, []),
  (⟨(some 29), none, .mv (.t 28)⟩, []),
  (⟨(some 30), (some (29, false)), .load 1 false (.t 13)⟩, []),
  (⟨(some 31), (some (29, false)), .bin .gtr (.t 30) (.c (.int .i64 7))⟩, []),
  (⟨(some 32), none, .pick (.t 29) (.c (.bool true)) (.t 31)⟩, [])] (some ([1, 5, 4, 0, 3, 2, 13, 32], []))
abbrev l10r2 : LC := .reg false [(⟨(some 14), none, .mv (.c (.bool false))⟩, [])] (some ([14], []))
abbrev l10r3 : LC := .reg false [(⟨(some 15), none, .mv (.c (.int .i64 7))⟩, [])] (some ([1, 5, 4, 0, 3, 2, 13, 15], []))
abbrev l10r4 : LC := .reg false [(⟨(some 33), none, .mv (.t 0)⟩, []),
  (⟨(some 34), none, .len (.t 33)⟩, []),
  (⟨(some 16), none, .mv (.t 34)⟩, [])] (some ([1, 5, 4, 0, 3, 2, 13, 16, 15], []))
abbrev l10r5 : LC := .reg false [(⟨(some 35), none, .mv (.t 16)⟩, []),
  (⟨(some 36), none, .bin .gtr (.t 35) (.c (.int .i64 0))⟩, [])] (some ([1, 5, 4, 0, 3, 2, 13, 16, 15, 36], []))
abbrev l10r6 : LC := .reg false [(⟨(some 37), none, .mv (.t 0)⟩, []),
  (⟨(some 38), none, .mv (.t 16)⟩, []),
  (⟨(some 39), none, .bin .sub (.t 38) (.c (.int .i64 1))⟩, []),
  (⟨(some 40), none, .iad 3 (.t 37) (.t 39)⟩, []),
  (⟨(some 41), none, .fad 2 (.t 40)⟩, []),
  (⟨(some 42), none, .load 1 false (.t 41)⟩, []),
  (⟨(some 15), none, .mv (.t 42)⟩, [])] (some ([1, 15, 5, 4, 0, 3, 2, 13], []))
abbrev l10r7 : LC := .reg false [(⟨(some 43), none, .mkf 17 [(.t 13)]⟩, []),
  (⟨(some 17), none, .mv (.t 43)⟩, [])] (some ([1, 17, 15, 5, 4, 0, 3, 2], []))
abbrev l10r8 : LC := .reg false [(⟨(some 44), none, .mv (.t 4)⟩, [])] (some ([1, 17, 15, 5, 4, 0, 3, 44, 2], []))
abbrev l10r9 : LC := .reg false [(⟨(some 46), none, .bin .eql (.t 44) (.c (.int .i64 0))⟩, []),
  (⟨(some 45), none, .mv (.t 46)⟩, [])] (some ([1, 17, 15, 5, 4, 0, 3, 44, 2, 45], []))
abbrev l10r10 : LC := .reg false [(⟨(some 14), none, .mv (.c (.bool true))⟩, [])] (some ([14], []))
abbrev l10r11 : LC := .reg false [(⟨(some 48), none, .mv (.t 2)⟩, []),
  (⟨(some 49), none, .bin .eql (.t 44) (.t 48)⟩, []),
  (⟨(some 47), none, .mv (.t 49)⟩, [])] (some ([1, 17, 15, 5, 4, 0, 3, 47], []))
abbrev l10r12 : LC := .reg false [(⟨(some 50), none, .mv (.t 17)⟩, []),
  (⟨(some 51), none, .mv (.t 1)⟩, []),
  (⟨(some 52), none, .bin .shr (.t 51) (.c (.int .u64 6))⟩, []),
  (⟨(some 53), none, .callv (.t 50) [(.t 52)]⟩, []),
  (⟨(some 14), none, .mv (.t 53)⟩, [])] (some ([14], []))
abbrev l10r13 : LC := .reg false [(⟨(some 54), none, .mv (.t 5)⟩, []),
  (⟨(some 55), none, .mv (.t 3)⟩, []),
  (⟨(some 56), none, .call 18 [(.t 54), (.t 55)]⟩, []),
  (⟨(some 18), none, .mv (.t 56)⟩, [])] (some ([15, 17, 5, 4, 1, 18, 0], []))
abbrev l10r14 : LC := .reg false [(⟨(some 57), none, .mv (.t 18)⟩, []),
  (⟨(some 58), none, .mv (.t 57)⟩, []),
  (⟨(some 59), (some (58, true)), .mv (.t 17)⟩, []),
  (⟨(some 60), (some (58, true)), .mv (.t 1)⟩, []),
  (⟨(some 61), (some (58, true)), .bin .shr (.t 60) (.c (.int .u64 3))⟩, []),
  (⟨(some 62), (some (58, true)), .mv (.t 15)⟩, []),
  (⟨(some 63), (some (58, true)), .bin .and (.t 61) (.t 62)⟩, []),
  (⟨(some 64), (some (58, true)), .callv (.t 59) [(.t 63)]⟩, []),
  (⟨(some 65), none, .pick (.t 58) (.t 64) (.c (.bool false))⟩, []),
  (⟨(some 19), none, .mv (.t 65)⟩, [])] (some ([15, 17, 19, 5, 4, 1, 18, 0], []))
abbrev l10r15 : LC := .reg false [(⟨(some 66), none, .mv (.t 0)⟩, []),
  (⟨(some 67), none, .len (.t 66)⟩, []),
  (⟨(some 68), none, .mv (.c (.int .i64 0))⟩, [])] (some ([15, 17, 68, 19, 5, 4, 66, 1, 18, 67], []))
abbrev l10r16 : LC := .reg false [(⟨(some 69), none, .bin .lss (.t 68) (.t 67)⟩, [])] (some ([15, 17, 5, 4, 66, 1, 67, 68, 19, 18, 69], []))
abbrev l10r17 : LC := .reg false [(⟨(some 70), none, .iad 3 (.t 66) (.t 68)⟩, []),
  (⟨(some 71), none, .load 3 true (.t 70)⟩, []),
  (⟨(some 21), none, .alloc [(.int .i64 0), (.int .i64 0), (.int .i64 0)]⟩, []),
  (⟨none, none, .store 3 (.t 21) (.t 71)⟩, [])] (some ([15, 21, 17, 5, 4, 66, 1, 67, 68, 19, 18], []))
abbrev l10r18 : LC := .reg false [(⟨(some 73), none, .fad 0 (.t 21)⟩, []),
  (⟨(some 74), none, .load 1 false (.t 73)⟩, []),
  (⟨(some 75), none, .bin .eql (.t 74) (.c (.int .i64 1))⟩, []),
  (⟨(some 76), none, .mv (.t 75)⟩, []),
  (⟨(some 77), (some (76, true)), .fad 1 (.t 21)⟩, []),
  (⟨(some 78), (some (76, true)), .load 1 false (.t 77)⟩, []),
  (⟨(some 79), (some (76, true)), .mv (.t 4)⟩, []),
  (⟨(some 80), (some (76, true)), .bin .eql (.t 78) (.t 79)⟩, []),
  (⟨(some 81), none, .pick (.t 76) (.t 80) (.c (.bool false))⟩, []),
  (⟨(some 72), none, .mv (.t 81)⟩, [])] (some ([15, 21, 17, 5, 4, 66, 1, 67, 68, 19, 18, 72], []))
abbrev l10r19 : LC := .reg false [(⟨(some 82), none, .mv (.t 17)⟩, []),
  (⟨(some 83), none, .fad 2 (.t 21)⟩, []),
  (⟨(some 84), none, .load 1 false (.t 83)⟩, []),
  (⟨(some 85), none, .mv (.t 15)⟩, []),
  (⟨(some 86), none, .bin .and (.t 84) (.t 85)⟩, []),
  (⟨(some 87), none, .callv (.t 82) [(.t 86)]⟩, []),
  (⟨(some 14), none, .mv (.t 87)⟩, [])] (some ([14], []))
abbrev l10r20 : LC := .reg false [(⟨(some 89), none, .fad 0 (.t 21)⟩, []),
  (⟨(some 90), none, .load 1 false (.t 89)⟩, []),
  (⟨(some 91), none, .bin .eql (.t 90) (.c (.int .i64 2))⟩, []),
  (⟨(some 92), none, .mv (.t 91)⟩, []),
  (⟨(some 93), (some (92, true)), .mv (.t 5)⟩, []),
  (⟨(some 94), (some (92, true)), .fad 1 (.t 21)⟩, []),
  (⟨(some 95), (some (92, true)), .load 1 false (.t 94)⟩, []),
  (⟨(some 96), (some (92, true)), .call 18 [(.t 93), (.t 95)]⟩, []),
  (⟨(some 97), none, .pick (.t 92) (.t 96) (.c (.bool false))⟩, []),
  (⟨(some 88), none, .mv (.t 97)⟩, [])] (some ([15, 17, 5, 4, 66, 1, 67, 68, 21, 19, 18, 88], []))
abbrev l10r21 : LC := .reg false [(⟨(some 18), none, .mv (.c (.bool true))⟩, [])] (some ([15, 17, 5, 4, 66, 1, 18, 67, 68, 21, 19], []))
abbrev l10r22 : LC := .reg false [(⟨(some 98), none, .mv (.t 19)⟩, []),
  (⟨(some 99), none, .mv (.t 98)⟩, []),
  (⟨(some 100), (some (99, false)), .mv (.t 17)⟩, []),
  (⟨(some 101), (some (99, false)), .fad 2 (.t 21)⟩, []),
  (⟨(some 102), (some (99, false)), .load 1 false (.t 101)⟩, []),
  (⟨(some 103), (some (99, false)), .mv (.t 15)⟩, []),
  (⟨(some 104), (some (99, false)), .bin .and (.t 102) (.t 103)⟩, []),
  (⟨(some 105), (some (99, false)), .callv (.t 100) [(.t 104)]⟩, []),
  (⟨(some 106), none, .pick (.t 99) (.c (.bool true)) (.t 105)⟩, []),
  (⟨(some 19), none, .mv (.t 106)⟩, [])] (some ([15, 17, 19, 5, 4, 66, 1, 18, 67, 68], []))
abbrev l10r23 : LC := .reg false [(⟨(some 107), none, .bin .add (.t 68) (.c (.int .i64 1))⟩, []),
  (⟨(some 68), none, .mv (.t 107)⟩, [])] (some ([15, 17, 68, 19, 5, 4, 66, 1, 18, 67], []))
abbrev l10r24 : LC := (.seq l10r16 (.seq (.cond (.t 69) .skip (.exit 1)) (.seq (.block 2 (.seq l10r17 (.block 3 (.seq l10r18 (.cond (.t 72) (.seq l10r19 .ret) (.seq l10r20 (.cond (.t 88) (.seq l10r21 l10r22) .skip))))))) l10r23)))
abbrev l10r25 : LC := .reg false [(⟨(some 108), none, .mv (.t 18)⟩, [])] (some ([19, 1, 17, 108], []))
abbrev l10r26 : LC := .reg false [(⟨(some 109), none, .mv (.t 19)⟩, []),
  (⟨(some 14), none, .mv (.t 109)⟩, [])] (some ([14], []))
abbrev l10r27 : LC := .reg false [(⟨(some 110), none, .mv (.t 17)⟩, []),
  (⟨(some 111), none, .mv (.t 1)⟩, []),
  (⟨(some 112), none, .callv (.t 110) [(.t 111)]⟩, []),
  (⟨(some 14), none, .mv (.t 112)⟩, [])] (some ([14], []))
/-- steamer/acl.Lets : 7 parameters, results in [14] of 113 slots -/
abbrev l10 : LC := (.seq l10r0 (.seq (.seq l10r1 (.cond (.t 32) (.seq l10r2 .ret) .skip)) (.seq l10r3 (.seq (.seq l10r4 (.seq l10r5 (.cond (.t 36) l10r6 .skip))) (.seq l10r7 (.seq (.seq l10r8 (.block 0 (.seq l10r9 (.cond (.t 45) (.seq l10r10 .ret) (.seq l10r11 (.cond (.t 47) (.seq l10r12 .ret) .skip)))))) (.seq l10r13 (.seq l10r14 (.seq (.seq l10r15 (.block 1 (.loop l10r24))) (.seq (.seq l10r25 (.cond (.t 108) (.seq l10r26 .ret) .skip)) (.seq l10r27 .ret)))))))))))
def k10 (i : Nat) : Option Kp := match i with
  | 0 => (some ([1, 5, 4, 0, 3, 2, 13], []))
  | 1 => (some ([1, 5, 4, 0, 3, 2, 13, 32], []))
  | 2 => (some ([14], []))
  | 3 => (some ([1, 5, 4, 0, 3, 2, 13, 15], []))
  | 4 => (some ([1, 5, 4, 0, 3, 2, 13, 16, 15], []))
  | 5 => (some ([1, 5, 4, 0, 3, 2, 13, 16, 15, 36], []))
  | 6 => (some ([1, 15, 5, 4, 0, 3, 2, 13], []))
  | 7 => (some ([1, 17, 15, 5, 4, 0, 3, 2], []))
  | 8 => (some ([1, 17, 15, 5, 4, 0, 3, 44, 2], []))
  | 9 => (some ([1, 17, 15, 5, 4, 0, 3, 44, 2, 45], []))
  | 10 => (some ([14], []))
  | 11 => (some ([1, 17, 15, 5, 4, 0, 3, 47], []))
  | 12 => (some ([14], []))
  | 13 => (some ([15, 17, 5, 4, 1, 18, 0], []))
  | 14 => (some ([15, 17, 19, 5, 4, 1, 18, 0], []))
  | 15 => (some ([15, 17, 68, 19, 5, 4, 66, 1, 18, 67], []))
  | 16 => (some ([15, 17, 5, 4, 66, 1, 67, 68, 19, 18, 69], []))
  | 17 => (some ([15, 21, 17, 5, 4, 66, 1, 67, 68, 19, 18], []))
  | 18 => (some ([15, 21, 17, 5, 4, 66, 1, 67, 68, 19, 18, 72], []))
  | 19 => (some ([14], []))
  | 20 => (some ([15, 17, 5, 4, 66, 1, 67, 68, 21, 19, 18, 88], []))
  | 21 => (some ([15, 17, 5, 4, 66, 1, 18, 67, 68, 21, 19], []))
  | 22 => (some ([15, 17, 19, 5, 4, 66, 1, 18, 67, 68], []))
  | 23 => (some ([15, 17, 68, 19, 5, 4, 66, 1, 18, 67], []))
  | 24 => (some ([19, 1, 17, 108], []))
  | 25 => (some ([14], []))
  | 26 => (some ([14], []))
  | _ => none
theorem f10_told : Tryd.prog.funcs[10]? = some Tryd.f10 := by kernel_rfl
theorem f10_results : resTmps Tryd.f10 = some [14] := by kernel_rfl
theorem f10_text : (Tryd.f10.body.bind (trC Tryd.prog 113 k10 1000)) = some l10 := by kernel_rfl

abbrev l11r0 : LC := .reg false [(⟨(some 2), none, .mv (.c (.string ⟨#[]⟩))⟩, [])] (some ([0], []))
abbrev l11r1 : LC := .reg false [(⟨(some 3), none, .mv (.c (.slice none 0 0))⟩, [])] (some ([3, 0], [.slot 3 503 1]))
abbrev l11r2 : LC := .reg false [(⟨(some 7), none, .mv (.t 0)⟩, []),
  (⟨(some 8), none, .len (.t 7)⟩, []),
  (⟨(some 9), none, .mv (.c (.int .i64 0))⟩, [])] (some ([9, 3, 7, 8], []))
abbrev l11r3 : LC := .reg false [(⟨(some 10), none, .bin .lss (.t 9) (.t 8)⟩, [])] (some ([7, 8, 9, 3, 10], []))
abbrev l11r4 : LC := .reg false [(⟨(some 11), none, .iad 3 (.t 7) (.t 9)⟩, []),
  (⟨(some 12), none, .load 3 true (.t 11)⟩, []),
  (⟨(some 5), none, .alloc [(.int .i64 0), (.int .i64 0), (.int .i64 0)]⟩, []),
  (⟨none, none, .store 3 (.t 5) (.t 12)⟩, [])] (some ([7, 8, 9, 5, 3], []))
abbrev l11r5 : LC := .reg false [(⟨(some 6), none, .mv (.c (.string ⟨#[63]⟩))⟩, [])] (some ([7, 8, 9, 5, 3, 6], []))
abbrev l11r6 : LC := .reg false [(⟨(some 13), none, .fad 0 (.t 5)⟩, []),
  (⟨(some 14), none, .load 1 false (.t 13)⟩, []),
  (⟨(some 15), none, .bin .geq (.t 14) (.c (.int .i64 1))⟩, []),
  (⟨(some 16), none, .mv (.t 15)⟩, []),
  (⟨(some 17), (some (16, true)), .fad 0 (.t 5)⟩, []),
  (⟨(some 18), (some (16, true)), .load 1 false (.t 17)⟩, []),
  (⟨(some 19), (some (16, true)), .bin .leq (.t 18) (.c (.int .i64 3))⟩, []),
  (⟨(some 20), none, .pick (.t 16) (.t 19) (.c (.bool false))⟩, [])] (some ([7, 8, 9, 5, 3, 6, 20], []))
abbrev l11r7 : LC := .reg false [(⟨(some 21), none, .fad 0 (.t 5)⟩, []),
  (⟨(some 22), none, .load 1 false (.t 21)⟩, []),
  (⟨(some 23), none, .bin .sub (.t 22) (.c (.int .i64 1))⟩, []),
  (⟨(some 24), none, .fad 0 (.t 5)⟩, []),
  (⟨(some 25), none, .load 1 false (.t 24)⟩, []),
  (⟨(some 26), none, .slcs (.c (.string ⟨#[117, 103, 109]⟩)) (some (.t 23)) (some (.t 25))⟩, []),
  (⟨(some 6), none, .mv (.t 26)⟩, [])] (some ([7, 8, 9, 5, 6, 3], []))
abbrev l11r8 : LC := .reg true [(⟨(some 27), none, .mv (.t 3)⟩, []),
  (⟨(some 28), none, .mv (.t 6)⟩, []),
  (⟨(some 29), none, .fad 1 (.t 5)⟩, []),
  (⟨(some 30), none, .load 1 false (.t 29)⟩, []),
  (⟨(some 31), none, .call 19 [(.t 30)]⟩, [0, 1]),
  (⟨(some 32), none, .bin .add (.t 28) (.t 31)⟩, []),
  (⟨(some 33), none, .bin .add (.t 32) (.c (.string ⟨#[58]⟩))⟩, []),
  (⟨(some 34), none, .fad 2 (.t 5)⟩, [4]),
  (⟨(some 35), none, .load 1 false (.t 34)⟩, [4]),
  (⟨(some 36), none, .call 19 [(.t 35)]⟩, [0, 1, 5, 6]),
  (⟨(some 37), none, .bin .add (.t 33) (.t 36)⟩, []),
  (⟨(some 38), none, .bslice 1 1 [(.string ⟨#[]⟩)] [(0, (.t 37))]⟩, [0]),
  (⟨(some 39), none, .app 1 16 [(.string ⟨#[]⟩)] (.t 27) (.t 38)⟩, []),
  (⟨(some 3), none, .mv (.t 39)⟩, [])] (some ([3, 7, 8, 9], []))
abbrev l11r9 : LC := .reg false [(⟨(some 40), none, .bin .add (.t 9) (.c (.int .i64 1))⟩, []),
  (⟨(some 9), none, .mv (.t 40)⟩, [])] (some ([9, 3, 7, 8], []))
abbrev l11r10 : LC := (.seq l11r3 (.seq (.cond (.t 10) .skip (.exit 0)) (.seq (.block 1 (.seq l11r4 (.seq l11r5 (.seq (.seq l11r6 (.cond (.t 20) l11r7 .skip)) l11r8)))) l11r9)))
abbrev l11r11 : LC := .reg false [(⟨(some 41), none, .mv (.t 3)⟩, []),
  (⟨(some 42), none, .call 20 [(.t 41), (.c (.string ⟨#[32]⟩))]⟩, []),
  (⟨(some 2), none, .mv (.t 42)⟩, [])] (some ([2], []))
/-- steamer/acl.Show : 1 parameters, results in [2] of 43 slots -/
abbrev l11 : LC := (.seq l11r0 (.seq l11r1 (.seq (.seq l11r2 (.block 0 (.loop l11r10))) (.seq l11r11 .ret))))
def k11 (i : Nat) : Option Kp := match i with
  | 0 => (some ([0], []))
  | 1 => (some ([3, 0], [.slot 3 503 1]))
  | 2 => (some ([9, 3, 7, 8], []))
  | 3 => (some ([7, 8, 9, 3, 10], []))
  | 4 => (some ([7, 8, 9, 5, 3], []))
  | 5 => (some ([7, 8, 9, 5, 3, 6], []))
  | 6 => (some ([7, 8, 9, 5, 3, 6, 20], []))
  | 7 => (some ([7, 8, 9, 5, 6, 3], []))
  | 8 => (some ([3, 7, 8, 9], []))
  | 9 => (some ([9, 3, 7, 8], []))
  | 10 => (some ([2], []))
  | _ => none
theorem f11_told : Tryd.prog.funcs[11]? = some Tryd.f11 := by kernel_rfl
theorem f11_results : resTmps Tryd.f11 = some [2] := by kernel_rfl
theorem f11_text : (Tryd.f11.body.bind (trC Tryd.prog 43 k11 1000)) = some l11 := by kernel_rfl

abbrev l12r0 : LC := .reg false [(⟨(some 2), none, .mv (.c (.slice none 0 0))⟩, [])] (some ([0], []))
abbrev l12r1 : LC := .reg false [(⟨(some 3), none, .mv (.t 0)⟩, []),
  (⟨(some 4), none, .eqn false (.t 3)⟩, [])] (some ([0, 4], []))
abbrev l12r2 : LC := .reg false [(⟨(some 2), none, .mv (.c (.slice none 0 0))⟩, [])] (some ([2], [.slot 2 502 3]))
abbrev l12r3 : LC := .reg false [(⟨(some 5), none, .bslice 3 0 [(.int .i64 0), (.int .i64 0), (.int .i64 0)] []⟩, []),
  (⟨(some 6), none, .mv (.t 0)⟩, []),
  (⟨(some 7), none, .app 3 24 [(.int .i64 0), (.int .i64 0), (.int .i64 0)] (.t 5) (.t 6)⟩, []),
  (⟨(some 2), none, .mv (.t 7)⟩, [])] (some ([2], []))
/-- slices.Clone[[]steamer/api.Ace,steamer/api.Ace] : 1 parameters, results in [2] of 8 slots -/
abbrev l12 : LC := (.seq l12r0 (.seq (.seq l12r1 (.cond (.t 4) (.seq l12r2 .ret) .skip)) (.seq l12r3 .ret)))
def k12 (i : Nat) : Option Kp := match i with
  | 0 => (some ([0], []))
  | 1 => (some ([0, 4], []))
  | 2 => (some ([2], [.slot 2 502 3]))
  | 3 => (some ([2], []))
  | _ => none
theorem f12_told : Tryd.prog.funcs[12]? = some Tryd.f12 := by kernel_rfl
theorem f12_results : resTmps Tryd.f12 = some [2] := by kernel_rfl
theorem f12_text : (Tryd.f12.body.bind (trC Tryd.prog 8 k12 1000)) = some l12 := by kernel_rfl

abbrev l13r0 : LC := .reg false [(⟨(some 4), none, .mv (.t 0)⟩, []),
  (⟨(some 5), none, .mv (.t 0)⟩, []),
  (⟨(some 6), none, .len (.t 5)⟩, []),
  (⟨(some 7), none, .mv (.t 1)⟩, []),
  (⟨(some 8), none, .call 21 [(.t 4), (.t 6), (.t 7)]⟩, [])] (some ([], []))
/-- slices.SortStableFunc[[]steamer/api.Ace,steamer/api.Ace] : 2 parameters, results in [] of 9 slots -/
abbrev l13 : LC := l13r0
def k13 (i : Nat) : Option Kp := match i with
  | 0 => (some ([], []))
  | _ => none
theorem f13_told : Tryd.prog.funcs[13]? = some Tryd.f13 := by kernel_rfl
theorem f13_results : resTmps Tryd.f13 = some [] := by kernel_rfl
theorem f13_text : (Tryd.f13.body.bind (trC Tryd.prog 9 k13 1000)) = some l13 := by kernel_rfl

abbrev l14r0 : LC := .reg false [(⟨(some 2), none, .box 3 (.t 0)⟩, []),
  (⟨(some 3), none, .box 3 (.t 1)⟩, []),
  (⟨(some 4), none, .mv (.c (.int .i64 0))⟩, [])] (some ([3, 2], []))
abbrev l14r1 : LC := .reg true [(⟨(some 5), none, .fad 0 (.t 2)⟩, []),
  (⟨(some 6), none, .load 1 false (.t 5)⟩, []),
  (⟨(some 7), none, .fad 0 (.t 3)⟩, []),
  (⟨(some 8), none, .load 1 false (.t 7)⟩, []),
  (⟨(some 9), none, .call 23 [(.t 6), (.t 8)]⟩, []),
  (⟨(some 10), none, .fad 1 (.t 2)⟩, [4]),
  (⟨(some 11), none, .load 1 false (.t 10)⟩, [4]),
  (⟨(some 12), none, .fad 1 (.t 3)⟩, [4]),
  (⟨(some 13), none, .load 1 false (.t 12)⟩, [4]),
  (⟨(some 14), none, .call 23 [(.t 11), (.t 13)]⟩, []),
  (⟨(some 15), none, .bslice 1 2 [(.int .i64 0)] [(0, (.t 9)), (1, (.t 14))]⟩, []),
  (⟨(some 16), none, .call 22 [(.t 15)]⟩, []),
  (⟨(some 4), none, .mv (.t 16)⟩, [])] (some ([4], []))
/-- steamer/acl.order : 2 parameters, results in [4] of 17 slots -/
abbrev l14 : LC := (.seq l14r0 (.seq l14r1 .ret))
def k14 (i : Nat) : Option Kp := match i with
  | 0 => (some ([3, 2], []))
  | 1 => (some ([4], []))
  | _ => none
theorem f14_told : Tryd.prog.funcs[14]? = some Tryd.f14 := by kernel_rfl
theorem f14_results : resTmps Tryd.f14 = some [4] := by kernel_rfl
theorem f14_text : (Tryd.f14.body.bind (trC Tryd.prog 17 k14 1000)) = some l14 := by kernel_rfl

abbrev l15r0 : LC := .reg false [(⟨(some 1), none, .box 3 (.t 0)⟩, []),
  (⟨(some 2), none, .mv (.c (.bool false))⟩, [])] (some ([1], []))
abbrev l15r1 : LC := .reg false [(⟨(some 3), none, .fad 0 (.t 1)⟩, []),
  (⟨(some 4), none, .load 1 false (.t 3)⟩, []),
  (⟨(some 5), none, .bin .geq (.t 4) (.c (.int .i64 1))⟩, []),
  (⟨(some 6), none, .mv (.t 5)⟩, []),
  (⟨(some 7), (some (6, true)), .fad 0 (.t 1)⟩, []),
  (⟨(some 8), (some (6, true)), .load 1 false (.t 7)⟩, []),
  (⟨(some 9), (some (6, true)), .bin .leq (.t 8) (.c (.int .i64 3))⟩, []),
  (⟨(some 10), none, .pick (.t 6) (.t 9) (.c (.bool false))⟩, []),
  (⟨(some 11), none, .mv (.t 10)⟩, []),
  (⟨(some 12), (some (11, true)), .fad 2 (.t 1)⟩, []),
  (⟨(some 13), (some (11, true)), .load 1 false (.t 12)⟩, []),
  (⟨(some 14), (some (11, true)), .bin .geq (.t 13) (.c (.int .i64 0))⟩, []),
  (⟨(some 15), none, .pick (.t 11) (.t 14) (.c (.bool false))⟩, []),
  (⟨(some 16), none, .mv (.t 15)⟩, []),
  (⟨(some 17), (some (16, true)), .fad 2 (.t 1)⟩, []),
  (⟨(some 18), (some (16, true)), .load 1 false (.t 17)⟩, []),
  (⟨(some 19), (some (16, true)), .bin .leq (.t 18) (.c (.int .i64 7))⟩, []),
  (⟨(some 20), none, .pick (.t 16) (.t 19) (.c (.bool false))⟩, []),
  (⟨(some 21), none, .mv (.t 20)⟩, []),
  (⟨(some 22), (some (21, true)), .fad 1 (.t 1)⟩, []),
  (⟨(some 23), (some (21, true)), .load 1 false (.t 22)⟩, []),
  (⟨(some 24), (some (21, true)), .bin .geq (.t 23) (.c (.int .i64 0))⟩, []),
  (⟨(some 25), none, .pick (.t 21) (.t 24) (.c (.bool false))⟩, []),
  (⟨(some 26), none, .mv (.t 25)⟩, []),
  (⟨(some 27), (some (26, true)), .fad 1 (.t 1)⟩, []),
  (⟨(some 28), (some (26, true)), .load 1 false (.t 27)⟩, []),
  (⟨(some 29), (some (26, true)), .bin .leq (.t 28) (.c (.int .i64 2147483647))⟩, []),
  (⟨(some 30), none, .pick (.t 26) (.t 29) (.c (.bool false))⟩, []),
  (⟨(some 31), none, .mv (.t 30)⟩, []),
  (⟨(some 32), (some (31, true)), .fad 0 (.t 1)⟩, []),
  (⟨(some 33), (some (31, true)), .load 1 false (.t 32)⟩, []),
  (⟨(some 34), (some (31, true)), .bin .neq (.t 33) (.c (.int .i64 3))⟩, []),
  (⟨(some 35), (some (31, true)), .mv (.t 34)⟩, []),
  (⟨(some 36), (some (35, false)), .fad 1 (.t 1)⟩, []),
  (⟨(some 37), (some (35, false)), .load 1 false (.t 36)⟩, []),
  (⟨(some 38), (some (35, false)), .bin .eql (.t 37) (.c (.int .i64 0))⟩, []),
  (⟨(some 39), (some (31, true)), .pick (.t 35) (.c (.bool true)) (.t 38)⟩, []),
  (⟨(some 40), none, .pick (.t 31) (.t 39) (.c (.bool false))⟩, []),
  (⟨(some 2), none, .mv (.t 40)⟩, [])] (some ([2], []))
/-- steamer/acl.good : 1 parameters, results in [2] of 41 slots -/
abbrev l15 : LC := (.seq l15r0 (.seq l15r1 .ret))
def k15 (i : Nat) : Option Kp := match i with
  | 0 => (some ([1], []))
  | 1 => (some ([2], []))
  | _ => none
theorem f15_told : Tryd.prog.funcs[15]? = some Tryd.f15 := by kernel_rfl
theorem f15_results : resTmps Tryd.f15 = some [2] := by kernel_rfl
theorem f15_text : (Tryd.f15.body.bind (trC Tryd.prog 41 k15 1000)) = some l15 := by kernel_rfl

abbrev l16r0 : LC := .reg false [(⟨(some 4), none, .mv (.c (.bool false))⟩, [])] (some ([1, 0], []))
abbrev l16r1 : LC := .reg false [(⟨(some 6), none, .mv (.t 0)⟩, []),
  (⟨(some 7), none, .len (.t 6)⟩, []),
  (⟨(some 8), none, .mv (.t 1)⟩, []),
  (⟨(some 9), none, .len (.t 8)⟩, []),
  (⟨(some 10), none, .bin .neq (.t 7) (.t 9)⟩, [])] (some ([1, 0, 10], []))
abbrev l16r2 : LC := .reg false [(⟨(some 4), none, .mv (.c (.bool false))⟩, [])] (some ([4], []))
abbrev l16r3 : LC := .reg false [(⟨(some 11), none, .mv (.t 0)⟩, []),
  (⟨(some 12), none, .len (.t 11)⟩, []),
  (⟨(some 13), none, .mv (.c (.int .i64 0))⟩, [])] (some ([13, 1, 0, 12], []))
abbrev l16r4 : LC := .reg false [(⟨(some 14), none, .bin .lss (.t 13) (.t 12)⟩, [])] (some ([1, 0, 12, 13, 14], []))
abbrev l16r5 : LC := .reg false [(⟨(some 15), none, .mv (.t 13)⟩, []),
  (⟨(some 5), none, .mv (.t 15)⟩, [])] (some ([1, 0, 12, 13, 5], []))
abbrev l16r6 : LC := .reg false [(⟨(some 16), none, .mv (.t 0)⟩, []),
  (⟨(some 17), none, .mv (.t 5)⟩, []),
  (⟨(some 18), none, .iad 3 (.t 16) (.t 17)⟩, []),
  (⟨(some 19), none, .load 3 true (.t 18)⟩, []),
  (⟨(some 20), none, .mv (.t 1)⟩, []),
  (⟨(some 21), none, .mv (.t 5)⟩, []),
  (⟨(some 22), none, .iad 3 (.t 20) (.t 21)⟩, []),
  (⟨(some 23), none, .load 3 true (.t 22)⟩, []),
  (⟨(some 24), none, .eqs true [0, 0, 0] (.t 19) (.t 23)⟩, [])] (some ([1, 0, 12, 13, 24], []))
abbrev l16r7 : LC := .reg false [(⟨(some 25), none, .bin .add (.t 13) (.c (.int .i64 1))⟩, []),
  (⟨(some 13), none, .mv (.t 25)⟩, [])] (some ([13, 1, 0, 12], []))
abbrev l16r8 : LC := (.seq l16r4 (.seq (.cond (.t 14) .skip (.exit 0)) (.seq (.block 1 (.seq l16r5 (.seq l16r6 (.cond (.t 24) (.seq l16r2 .ret) .skip)))) l16r7)))
abbrev l16r9 : LC := .reg false [(⟨(some 4), none, .mv (.c (.bool true))⟩, [])] (some ([4], []))
/-- slices.Equal[[]steamer/api.Ace,steamer/api.Ace] : 2 parameters, results in [4] of 26 slots -/
abbrev l16 : LC := (.seq l16r0 (.seq (.seq l16r1 (.cond (.t 10) (.seq l16r2 .ret) .skip)) (.seq (.seq l16r3 (.block 0 (.loop l16r8))) (.seq l16r9 .ret))))
def k16 (i : Nat) : Option Kp := match i with
  | 0 => (some ([1, 0], []))
  | 1 => (some ([1, 0, 10], []))
  | 2 => (some ([4], []))
  | 3 => (some ([13, 1, 0, 12], []))
  | 4 => (some ([1, 0, 12, 13, 14], []))
  | 5 => (some ([1, 0, 12, 13, 5], []))
  | 6 => (some ([1, 0, 12, 13, 24], []))
  | 7 => (some ([4], []))
  | 8 => (some ([13, 1, 0, 12], []))
  | 9 => (some ([4], []))
  | _ => none
theorem f16_told : Tryd.prog.funcs[16]? = some Tryd.f16 := by kernel_rfl
theorem f16_results : resTmps Tryd.f16 = some [4] := by kernel_rfl
theorem f16_text : (Tryd.f16.body.bind (trC Tryd.prog 26 k16 1000)) = some l16 := by kernel_rfl

abbrev l17r0 : LC := .reg false [(⟨(some 3), none, .mv (.c (.bool false))⟩, [])] (some ([1, 0], []))
abbrev l17r1 : LC := .reg false [(⟨(some 4), none, .mv (.t 0)⟩, []),
  (⟨(some 5), none, .load 1 false (.t 1)⟩, []),
  (⟨(some 6), none, .bin .and (.t 4) (.t 5)⟩, []),
  (⟨(some 7), none, .load 1 false (.t 1)⟩, []),
  (⟨(some 8), none, .bin .eql (.t 6) (.t 7)⟩, []),
  (⟨(some 3), none, .mv (.t 8)⟩, [])] (some ([3], []))
/-- steamer/acl.Lets$1 : 1 parameters, results in [3] of 9 slots -/
abbrev l17 : LC := (.seq l17r0 (.seq l17r1 .ret))
def k17 (i : Nat) : Option Kp := match i with
  | 0 => (some ([1, 0], []))
  | 1 => (some ([3], []))
  | _ => none
theorem f17_told : Tryd.prog.funcs[17]? = some Tryd.f17 := by kernel_rfl
theorem f17_results : resTmps Tryd.f17 = some [3] := by kernel_rfl
theorem f17_text : (Tryd.f17.body.bind (trC Tryd.prog 9 k17 1000)) = some l17 := by kernel_rfl

abbrev l18r0 : LC := .reg false [(⟨(some 4), none, .mv (.c (.bool false))⟩, [])] (some ([1, 0], []))
abbrev l18r1 : LC := .reg false [(⟨(some 5), none, .mv (.t 0)⟩, []),
  (⟨(some 6), none, .mv (.t 1)⟩, []),
  (⟨(some 7), none, .call 24 [(.t 5), (.t 6)]⟩, []),
  (⟨(some 8), none, .bin .geq (.t 7) (.c (.int .i64 0))⟩, []),
  (⟨(some 4), none, .mv (.t 8)⟩, [])] (some ([4], []))
/-- slices.Contains[[]int,int] : 2 parameters, results in [4] of 9 slots -/
abbrev l18 : LC := (.seq l18r0 (.seq l18r1 .ret))
def k18 (i : Nat) : Option Kp := match i with
  | 0 => (some ([1, 0], []))
  | 1 => (some ([4], []))
  | _ => none
theorem f18_told : Tryd.prog.funcs[18]? = some Tryd.f18 := by kernel_rfl
theorem f18_results : resTmps Tryd.f18 = some [4] := by kernel_rfl
theorem f18_text : (Tryd.f18.body.bind (trC Tryd.prog 9 k18 1000)) = some l18 := by kernel_rfl

abbrev l21r0 : LC := .reg false [(⟨(some 6), none, .mv (.c (.int .i64 20))⟩, [])] (some ([6, 2, 0, 1], []))
abbrev l21r1 : LC := .reg false [(⟨(some 10), none, .mv (.t 6)⟩, []),
  (⟨(some 7), none, .mv (.c (.int .i64 0))⟩, []),
  (⟨(some 8), none, .mv (.t 10)⟩, [])] (some ([6, 8, 2, 7, 0, 1], []))
abbrev l21r2 : LC := .reg false [(⟨(some 11), none, .mv (.t 8)⟩, []),
  (⟨(some 12), none, .mv (.t 1)⟩, []),
  (⟨(some 13), none, .bin .leq (.t 11) (.t 12)⟩, [])] (some ([6, 2, 0, 1, 8, 7, 13], []))
abbrev l21r3 : LC := .reg false [(⟨(some 14), none, .mv (.t 0)⟩, []),
  (⟨(some 15), none, .mv (.t 7)⟩, []),
  (⟨(some 16), none, .mv (.t 8)⟩, []),
  (⟨(some 17), none, .mv (.t 2)⟩, []),
  (⟨(some 18), none, .call 29 [(.t 14), (.t 15), (.t 16), (.t 17)]⟩, [])] (some ([6, 2, 0, 1, 8], []))
abbrev l21r4 : LC := .reg false [(⟨(some 19), none, .mv (.t 8)⟩, []),
  (⟨(some 7), none, .mv (.t 19)⟩, [])] (some ([6, 2, 7, 0, 1, 8], []))
abbrev l21r5 : LC := .reg false [(⟨(some 20), none, .mv (.t 8)⟩, []),
  (⟨(some 21), none, .mv (.t 6)⟩, []),
  (⟨(some 22), none, .bin .add (.t 20) (.t 21)⟩, []),
  (⟨(some 8), none, .mv (.t 22)⟩, [])] (some ([6, 8, 2, 7, 0, 1], []))
abbrev l21r6 : LC := (.seq (.seq l21r2 (.cond (.t 13) .skip (.exit 0))) (.block 1 (.seq l21r3 (.seq l21r4 l21r5))))
abbrev l21r7 : LC := .reg false [(⟨(some 23), none, .mv (.t 0)⟩, []),
  (⟨(some 24), none, .mv (.t 7)⟩, []),
  (⟨(some 25), none, .mv (.t 1)⟩, []),
  (⟨(some 26), none, .mv (.t 2)⟩, []),
  (⟨(some 27), none, .call 29 [(.t 23), (.t 24), (.t 25), (.t 26)]⟩, [])] (some ([6, 2, 0, 1], []))
abbrev l21r8 : LC := .reg false [(⟨(some 28), none, .mv (.t 6)⟩, []),
  (⟨(some 29), none, .mv (.t 1)⟩, []),
  (⟨(some 30), none, .bin .lss (.t 28) (.t 29)⟩, [])] (some ([6, 2, 0, 1, 30], []))
abbrev l21r9 : LC := .reg false [(⟨(some 31), none, .mv (.t 6)⟩, []),
  (⟨(some 32), none, .bin .mul (.c (.int .i64 2)) (.t 31)⟩, []),
  (⟨(some 7), none, .mv (.c (.int .i64 0))⟩, []),
  (⟨(some 8), none, .mv (.t 32)⟩, [])] (some ([6, 8, 2, 7, 0, 1], []))
abbrev l21r10 : LC := .reg false [(⟨(some 33), none, .mv (.t 8)⟩, []),
  (⟨(some 34), none, .mv (.t 1)⟩, []),
  (⟨(some 35), none, .bin .leq (.t 33) (.t 34)⟩, [])] (some ([6, 2, 0, 1, 8, 7, 35], []))
abbrev l21r11 : LC := .reg false [(⟨(some 36), none, .mv (.t 0)⟩, []),
  (⟨(some 37), none, .mv (.t 7)⟩, []),
  (⟨(some 38), none, .mv (.t 7)⟩, []),
  (⟨(some 39), none, .mv (.t 6)⟩, []),
  (⟨(some 40), none, .bin .add (.t 38) (.t 39)⟩, []),
  (⟨(some 41), none, .mv (.t 8)⟩, []),
  (⟨(some 42), none, .mv (.t 2)⟩, []),
  (⟨(some 43), none, .call 30 [(.t 36), (.t 37), (.t 40), (.t 41), (.t 42)]⟩, [])] (some ([6, 2, 0, 1, 8], []))
abbrev l21r12 : LC := .reg false [(⟨(some 44), none, .mv (.t 8)⟩, []),
  (⟨(some 7), none, .mv (.t 44)⟩, [])] (some ([6, 2, 7, 0, 1, 8], []))
abbrev l21r13 : LC := .reg false [(⟨(some 45), none, .mv (.t 8)⟩, []),
  (⟨(some 46), none, .mv (.t 6)⟩, []),
  (⟨(some 47), none, .bin .mul (.c (.int .i64 2)) (.t 46)⟩, []),
  (⟨(some 48), none, .bin .add (.t 45) (.t 47)⟩, []),
  (⟨(some 8), none, .mv (.t 48)⟩, [])] (some ([6, 8, 2, 7, 0, 1], []))
abbrev l21r14 : LC := (.seq (.seq l21r10 (.cond (.t 35) .skip (.exit 4))) (.block 5 (.seq l21r11 (.seq l21r12 l21r13))))
abbrev l21r15 : LC := .reg false [(⟨(some 49), none, .mv (.t 7)⟩, []),
  (⟨(some 50), none, .mv (.t 6)⟩, []),
  (⟨(some 51), none, .bin .add (.t 49) (.t 50)⟩, []),
  (⟨(some 9), none, .mv (.t 51)⟩, [])] (some ([2, 0, 1, 6, 9, 7], []))
abbrev l21r16 : LC := .reg false [(⟨(some 52), none, .mv (.t 9)⟩, []),
  (⟨(some 53), none, .mv (.t 1)⟩, []),
  (⟨(some 54), none, .bin .lss (.t 52) (.t 53)⟩, [])] (some ([2, 0, 1, 6, 9, 7, 54], []))
abbrev l21r17 : LC := .reg false [(⟨(some 55), none, .mv (.t 0)⟩, []),
  (⟨(some 56), none, .mv (.t 7)⟩, []),
  (⟨(some 57), none, .mv (.t 9)⟩, []),
  (⟨(some 58), none, .mv (.t 1)⟩, []),
  (⟨(some 59), none, .mv (.t 2)⟩, []),
  (⟨(some 60), none, .call 30 [(.t 55), (.t 56), (.t 57), (.t 58), (.t 59)]⟩, [])] (some ([2, 0, 1, 6], []))
abbrev l21r18 : LC := .reg false [(⟨(some 61), none, .mv (.t 6)⟩, []),
  (⟨(some 62), none, .bin .mul (.t 61) (.c (.int .i64 2))⟩, []),
  (⟨(some 6), none, .mv (.t 62)⟩, [])] (some ([6, 2, 0, 1], []))
abbrev l21r19 : LC := (.seq (.seq l21r8 (.cond (.t 30) .skip (.exit 2))) (.block 3 (.seq l21r9 (.seq (.block 4 (.loop l21r14)) (.seq (.seq l21r15 (.seq l21r16 (.cond (.t 54) l21r17 .skip))) l21r18)))))
/-- slices.stableCmpFunc[steamer/api.Ace] : 3 parameters, results in [] of 63 slots -/
abbrev l21 : LC := (.seq l21r0 (.seq l21r1 (.seq (.block 0 (.loop l21r6)) (.seq l21r7 (.block 2 (.loop l21r19))))))
def k21 (i : Nat) : Option Kp := match i with
  | 0 => (some ([6, 2, 0, 1], []))
  | 1 => (some ([6, 8, 2, 7, 0, 1], []))
  | 2 => (some ([6, 2, 0, 1, 8, 7, 13], []))
  | 3 => (some ([6, 2, 0, 1, 8], []))
  | 4 => (some ([6, 2, 7, 0, 1, 8], []))
  | 5 => (some ([6, 8, 2, 7, 0, 1], []))
  | 6 => (some ([6, 2, 0, 1], []))
  | 7 => (some ([6, 2, 0, 1, 30], []))
  | 8 => (some ([6, 8, 2, 7, 0, 1], []))
  | 9 => (some ([6, 2, 0, 1, 8, 7, 35], []))
  | 10 => (some ([6, 2, 0, 1, 8], []))
  | 11 => (some ([6, 2, 7, 0, 1, 8], []))
  | 12 => (some ([6, 8, 2, 7, 0, 1], []))
  | 13 => (some ([2, 0, 1, 6, 9, 7], []))
  | 14 => (some ([2, 0, 1, 6, 9, 7, 54], []))
  | 15 => (some ([2, 0, 1, 6], []))
  | 16 => (some ([6, 2, 0, 1], []))
  | _ => none
theorem f21_told : Tryd.prog.funcs[21]? = some Tryd.f21 := by kernel_rfl
theorem f21_results : resTmps Tryd.f21 = some [] := by kernel_rfl
theorem f21_text : (Tryd.f21.body.bind (trC Tryd.prog 63 k21 1000)) = some l21 := by kernel_rfl

abbrev l22r0 : LC := .reg false [(⟨(some 2), none, .mv (.c (.int .i64 0))⟩, [])] (some ([0], []))
abbrev l22r1 : LC := .reg false [(⟨(some 3), none, .mv (.c (.int .i64 0))⟩, [])] (some ([3, 0], []))
abbrev l22r2 : LC := .reg false [(⟨(some 6), none, .mv (.t 0)⟩, []),
  (⟨(some 7), none, .len (.t 6)⟩, []),
  (⟨(some 8), none, .mv (.c (.int .i64 0))⟩, [])] (some ([8, 3, 6, 7], []))
abbrev l22r3 : LC := .reg false [(⟨(some 9), none, .bin .lss (.t 8) (.t 7)⟩, [])] (some ([3, 6, 7, 8, 9], []))
abbrev l22r4 : LC := .reg false [(⟨(some 10), none, .iad 1 (.t 6) (.t 8)⟩, []),
  (⟨(some 11), none, .load 1 false (.t 10)⟩, []),
  (⟨(some 5), none, .mv (.t 11)⟩, [])] (some ([5, 3, 6, 7, 8], []))
abbrev l22r5 : LC := .reg false [(⟨(some 12), none, .mv (.t 5)⟩, []),
  (⟨(some 13), none, .mv (.t 3)⟩, []),
  (⟨(some 14), none, .bin .neq (.t 12) (.t 13)⟩, [])] (some ([5, 3, 6, 7, 8, 14], []))
abbrev l22r6 : LC := .reg false [(⟨(some 15), none, .mv (.t 5)⟩, []),
  (⟨(some 2), none, .mv (.t 15)⟩, [])] (some ([2], []))
abbrev l22r7 : LC := .reg false [(⟨(some 16), none, .bin .add (.t 8) (.c (.int .i64 1))⟩, []),
  (⟨(some 8), none, .mv (.t 16)⟩, [])] (some ([8, 3, 6, 7], []))
abbrev l22r8 : LC := (.seq l22r3 (.seq (.cond (.t 9) .skip (.exit 0)) (.seq (.block 1 (.seq l22r4 (.seq l22r5 (.cond (.t 14) (.seq l22r6 .ret) .skip)))) l22r7)))
abbrev l22r9 : LC := .reg false [(⟨(some 17), none, .mv (.t 3)⟩, []),
  (⟨(some 2), none, .mv (.t 17)⟩, [])] (some ([2], []))
/-- cmp.Or[int] : 1 parameters, results in [2] of 18 slots -/
abbrev l22 : LC := (.seq l22r0 (.seq l22r1 (.seq (.seq l22r2 (.block 0 (.loop l22r8))) (.seq l22r9 .ret))))
def k22 (i : Nat) : Option Kp := match i with
  | 0 => (some ([0], []))
  | 1 => (some ([3, 0], []))
  | 2 => (some ([8, 3, 6, 7], []))
  | 3 => (some ([3, 6, 7, 8, 9], []))
  | 4 => (some ([5, 3, 6, 7, 8], []))
  | 5 => (some ([5, 3, 6, 7, 8, 14], []))
  | 6 => (some ([2], []))
  | 7 => (some ([8, 3, 6, 7], []))
  | 8 => (some ([2], []))
  | _ => none
theorem f22_told : Tryd.prog.funcs[22]? = some Tryd.f22 := by kernel_rfl
theorem f22_results : resTmps Tryd.f22 = some [2] := by kernel_rfl
theorem f22_text : (Tryd.f22.body.bind (trC Tryd.prog 18 k22 1000)) = some l22 := by kernel_rfl

abbrev l23r0 : LC := .reg false [(⟨(some 4), none, .mv (.c (.int .i64 0))⟩, [])] (some ([1, 0], []))
abbrev l23r1 : LC := .reg false [(⟨(some 7), none, .mv (.t 0)⟩, []),
  (⟨(some 8), none, .call 31 [(.t 7)]⟩, []),
  (⟨(some 5), none, .mv (.t 8)⟩, [])] (some ([1, 0, 5], []))
abbrev l23r2 : LC := .reg false [(⟨(some 9), none, .mv (.t 1)⟩, []),
  (⟨(some 10), none, .call 31 [(.t 9)]⟩, []),
  (⟨(some 6), none, .mv (.t 10)⟩, [])] (some ([6, 1, 0, 5], []))
abbrev l23r3 : LC := .reg false [(⟨(some 11), none, .mv (.t 5)⟩, [])] (some ([6, 1, 0, 11], []))
abbrev l23r4 : LC := .reg false [(⟨(some 12), none, .mv (.t 6)⟩, [])] (some ([12], []))
abbrev l23r5 : LC := .reg false [(⟨(some 4), none, .mv (.c (.int .i64 0))⟩, [])] (some ([4], []))
abbrev l23r6 : LC := .reg false [(⟨(some 4), none, .mv (.c (.int .i64 (-1)))⟩, [])] (some ([4], []))
abbrev l23r7 : LC := .reg false [(⟨(some 13), none, .mv (.t 6)⟩, [])] (some ([1, 0, 13], []))
abbrev l23r8 : LC := .reg false [(⟨(some 4), none, .mv (.c (.int .i64 1))⟩, [])] (some ([4], []))
abbrev l23r9 : LC := .reg false [(⟨(some 14), none, .mv (.t 0)⟩, []),
  (⟨(some 15), none, .mv (.t 1)⟩, []),
  (⟨(some 16), none, .bin .lss (.t 14) (.t 15)⟩, [])] (some ([1, 0, 16], []))
abbrev l23r10 : LC := .reg false [(⟨(some 17), none, .mv (.t 0)⟩, []),
  (⟨(some 18), none, .mv (.t 1)⟩, []),
  (⟨(some 19), none, .bin .gtr (.t 17) (.t 18)⟩, [])] (some ([19], []))
/-- cmp.Compare[int] : 2 parameters, results in [4] of 20 slots -/
abbrev l23 : LC := (.seq l23r0 (.seq l23r1 (.seq l23r2 (.seq (.seq l23r3 (.cond (.t 11) (.seq (.seq l23r4 (.cond (.t 12) (.seq l23r5 .ret) .skip)) (.seq l23r6 .ret)) .skip)) (.seq (.seq l23r7 (.cond (.t 13) (.seq l23r8 .ret) .skip)) (.seq (.seq l23r9 (.cond (.t 16) (.seq l23r6 .ret) .skip)) (.seq (.seq l23r10 (.cond (.t 19) (.seq l23r8 .ret) .skip)) (.seq l23r5 .ret))))))))
def k23 (i : Nat) : Option Kp := match i with
  | 0 => (some ([1, 0], []))
  | 1 => (some ([1, 0, 5], []))
  | 2 => (some ([6, 1, 0, 5], []))
  | 3 => (some ([6, 1, 0, 11], []))
  | 4 => (some ([12], []))
  | 5 => (some ([4], []))
  | 6 => (some ([4], []))
  | 7 => (some ([1, 0, 13], []))
  | 8 => (some ([4], []))
  | 9 => (some ([1, 0, 16], []))
  | 10 => (some ([4], []))
  | 11 => (some ([19], []))
  | 12 => (some ([4], []))
  | 13 => (some ([4], []))
  | _ => none
theorem f23_told : Tryd.prog.funcs[23]? = some Tryd.f23 := by kernel_rfl
theorem f23_results : resTmps Tryd.f23 = some [4] := by kernel_rfl
theorem f23_text : (Tryd.f23.body.bind (trC Tryd.prog 20 k23 1000)) = some l23 := by kernel_rfl

abbrev l24r0 : LC := .reg false [(⟨(some 4), none, .mv (.c (.int .i64 0))⟩, [])] (some ([0, 1], []))
abbrev l24r1 : LC := .reg false [(⟨(some 6), none, .mv (.t 0)⟩, []),
  (⟨(some 7), none, .len (.t 6)⟩, []),
  (⟨(some 8), none, .mv (.c (.int .i64 0))⟩, [])] (some ([8, 0, 1, 7], []))
abbrev l24r2 : LC := .reg false [(⟨(some 9), none, .bin .lss (.t 8) (.t 7)⟩, [])] (some ([0, 1, 7, 8, 9], []))
abbrev l24r3 : LC := .reg false [(⟨(some 10), none, .mv (.t 8)⟩, []),
  (⟨(some 5), none, .mv (.t 10)⟩, [])] (some ([5, 0, 1, 7, 8], []))
abbrev l24r4 : LC := .reg false [(⟨(some 11), none, .mv (.t 1)⟩, []),
  (⟨(some 12), none, .mv (.t 0)⟩, []),
  (⟨(some 13), none, .mv (.t 5)⟩, []),
  (⟨(some 14), none, .iad 1 (.t 12) (.t 13)⟩, []),
  (⟨(some 15), none, .load 1 false (.t 14)⟩, []),
  (⟨(some 16), none, .bin .eql (.t 11) (.t 15)⟩, [])] (some ([5, 0, 1, 7, 8, 16], []))
abbrev l24r5 : LC := .reg false [(⟨(some 17), none, .mv (.t 5)⟩, []),
  (⟨(some 4), none, .mv (.t 17)⟩, [])] (some ([4], []))
abbrev l24r6 : LC := .reg false [(⟨(some 18), none, .bin .add (.t 8) (.c (.int .i64 1))⟩, []),
  (⟨(some 8), none, .mv (.t 18)⟩, [])] (some ([8, 0, 1, 7], []))
abbrev l24r7 : LC := (.seq l24r2 (.seq (.cond (.t 9) .skip (.exit 0)) (.seq (.block 1 (.seq l24r3 (.seq l24r4 (.cond (.t 16) (.seq l24r5 .ret) .skip)))) l24r6)))
abbrev l24r8 : LC := .reg false [(⟨(some 4), none, .mv (.c (.int .i64 (-1)))⟩, [])] (some ([4], []))
/-- slices.Index[[]int,int] : 2 parameters, results in [4] of 19 slots -/
abbrev l24 : LC := (.seq l24r0 (.seq (.seq l24r1 (.block 0 (.loop l24r7))) (.seq l24r8 .ret)))
def k24 (i : Nat) : Option Kp := match i with
  | 0 => (some ([0, 1], []))
  | 1 => (some ([8, 0, 1, 7], []))
  | 2 => (some ([0, 1, 7, 8, 9], []))
  | 3 => (some ([5, 0, 1, 7, 8], []))
  | 4 => (some ([5, 0, 1, 7, 8, 16], []))
  | 5 => (some ([4], []))
  | 6 => (some ([8, 0, 1, 7], []))
  | 7 => (some ([4], []))
  | _ => none
theorem f24_told : Tryd.prog.funcs[24]? = some Tryd.f24 := by kernel_rfl
theorem f24_results : resTmps Tryd.f24 = some [4] := by kernel_rfl
theorem f24_text : (Tryd.f24.body.bind (trC Tryd.prog 19 k24 1000)) = some l24 := by kernel_rfl

abbrev l29r0 : LC := .reg false [(⟨(some 10), none, .mv (.t 1)⟩, []),
  (⟨(some 11), none, .bin .add (.t 10) (.c (.int .i64 1))⟩, []),
  (⟨(some 8), none, .mv (.t 11)⟩, [])] (some ([0, 8, 3, 1, 2], []))
abbrev l29r1 : LC := .reg false [(⟨(some 12), none, .mv (.t 8)⟩, []),
  (⟨(some 13), none, .mv (.t 2)⟩, []),
  (⟨(some 14), none, .bin .lss (.t 12) (.t 13)⟩, [])] (some ([0, 3, 1, 2, 8, 14], []))
abbrev l29r2 : LC := .reg false [(⟨(some 17), none, .mv (.t 8)⟩, []),
  (⟨(some 9), none, .mv (.t 17)⟩, [])] (some ([9, 0, 3, 1, 2, 8], []))
abbrev l29r3 : LC := .reg false [(⟨(some 18), none, .mv (.t 9)⟩, []),
  (⟨(some 19), none, .mv (.t 1)⟩, []),
  (⟨(some 20), none, .bin .gtr (.t 18) (.t 19)⟩, []),
  (⟨(some 21), none, .mv (.t 20)⟩, []),
  (⟨(some 22), (some (21, true)), .mv (.t 3)⟩, []),
  (⟨(some 23), (some (21, true)), .mv (.t 0)⟩, []),
  (⟨(some 24), (some (21, true)), .mv (.t 9)⟩, []),
  (⟨(some 25), (some (21, true)), .iad 3 (.t 23) (.t 24)⟩, []),
  (⟨(some 26), (some (21, true)), .load 3 true (.t 25)⟩, []),
  (⟨(some 27), (some (21, true)), .mv (.t 0)⟩, []),
  (⟨(some 28), (some (21, true)), .mv (.t 9)⟩, []),
  (⟨(some 29), (some (21, true)), .bin .sub (.t 28) (.c (.int .i64 1))⟩, []),
  (⟨(some 30), (some (21, true)), .iad 3 (.t 27) (.t 29)⟩, []),
  (⟨(some 31), (some (21, true)), .load 3 true (.t 30)⟩, []),
  (⟨(some 32), (some (21, true)), .callv (.t 22) [(.t 26), (.t 31)]⟩, []),
  (⟨(some 33), (some (21, true)), .bin .lss (.t 32) (.c (.int .i64 0))⟩, []),
  (⟨(some 34), none, .pick (.t 21) (.t 33) (.c (.bool false))⟩, [])] (some ([0, 3, 1, 2, 8, 9, 34], []))
abbrev l29r4 : LC := .reg true [(⟨(some 37), none, .mv (.t 0)⟩, []),
  (⟨(some 38), none, .mv (.t 9)⟩, []),
  (⟨(some 39), none, .mv (.t 0)⟩, []),
  (⟨(some 40), none, .mv (.t 9)⟩, []),
  (⟨(some 41), none, .bin .sub (.t 40) (.c (.int .i64 1))⟩, []),
  (⟨(some 42), none, .mv (.t 0)⟩, []),
  (⟨(some 43), none, .mv (.t 9)⟩, []),
  (⟨(some 44), none, .bin .sub (.t 43) (.c (.int .i64 1))⟩, []),
  (⟨(some 45), none, .iad 3 (.t 42) (.t 44)⟩, []),
  (⟨(some 46), none, .load 3 true (.t 45)⟩, []),
  (⟨(some 47), none, .mv (.t 0)⟩, []),
  (⟨(some 48), none, .mv (.t 9)⟩, []),
  (⟨(some 49), none, .iad 3 (.t 47) (.t 48)⟩, []),
  (⟨(some 50), none, .load 3 true (.t 49)⟩, []),
  (⟨(some 51), none, .iad 3 (.t 37) (.t 38)⟩, []),
  (⟨none, none, .store 3 (.t 51) (.t 46)⟩, [2, 3, 4]),
  (⟨(some 52), none, .iad 3 (.t 39) (.t 41)⟩, []),
  (⟨none, none, .store 3 (.t 52) (.t 50)⟩, [])] (some ([0, 3, 1, 2, 8, 9], []))
abbrev l29r5 : LC := .reg false [(⟨(some 35), none, .mv (.t 9)⟩, []),
  (⟨(some 36), none, .bin .sub (.t 35) (.c (.int .i64 1))⟩, []),
  (⟨(some 9), none, .mv (.t 36)⟩, [])] (some ([9, 0, 3, 1, 2, 8], []))
abbrev l29r6 : LC := (.seq (.seq l29r3 (.cond (.t 34) .skip (.exit 2))) (.seq (.block 3 l29r4) l29r5))
abbrev l29r7 : LC := .reg false [(⟨(some 15), none, .mv (.t 8)⟩, []),
  (⟨(some 16), none, .bin .add (.t 15) (.c (.int .i64 1))⟩, []),
  (⟨(some 8), none, .mv (.t 16)⟩, [])] (some ([0, 8, 3, 1, 2], []))
abbrev l29r8 : LC := (.seq (.seq l29r1 (.cond (.t 14) .skip (.exit 0))) (.seq (.block 1 (.seq l29r2 (.block 2 (.loop l29r6)))) l29r7))
/-- slices.insertionSortCmpFunc[steamer/api.Ace] : 4 parameters, results in [] of 53 slots -/
abbrev l29 : LC := (.seq l29r0 (.block 0 (.loop l29r8)))
def k29 (i : Nat) : Option Kp := match i with
  | 0 => (some ([0, 8, 3, 1, 2], []))
  | 1 => (some ([0, 3, 1, 2, 8, 14], []))
  | 2 => (some ([0, 8, 3, 1, 2], []))
  | 3 => (some ([9, 0, 3, 1, 2, 8], []))
  | 4 => (some ([0, 3, 1, 2, 8, 9, 34], []))
  | 5 => (some ([9, 0, 3, 1, 2, 8], []))
  | 6 => (some ([0, 3, 1, 2, 8, 9], []))
  | _ => none
theorem f29_told : Tryd.prog.funcs[29]? = some Tryd.f29 := by kernel_rfl
theorem f29_results : resTmps Tryd.f29 = some [] := by kernel_rfl
theorem f29_text : (Tryd.f29.body.bind (trC Tryd.prog 53 k29 1000)) = some l29 := by kernel_rfl

abbrev l31r0 : LC := .reg false [(⟨(some 2), none, .mv (.c (.bool false))⟩, [])] (some ([0], []))
abbrev l31r1 : LC := .reg false [(⟨(some 3), none, .mv (.t 0)⟩, []),
  (⟨(some 4), none, .mv (.t 0)⟩, []),
  (⟨(some 5), none, .bin .neq (.t 3) (.t 4)⟩, []),
  (⟨(some 2), none, .mv (.t 5)⟩, [])] (some ([2], []))
/-- cmp.isNaN[int] : 1 parameters, results in [2] of 6 slots -/
abbrev l31 : LC := (.seq l31r0 (.seq l31r1 .ret))
def k31 (i : Nat) : Option Kp := match i with
  | 0 => (some ([0], []))
  | 1 => (some ([2], []))
  | _ => none
theorem f31_told : Tryd.prog.funcs[31]? = some Tryd.f31 := by kernel_rfl
theorem f31_results : resTmps Tryd.f31 = some [2] := by kernel_rfl
theorem f31_text : (Tryd.f31.body.bind (trC Tryd.prog 6 k31 1000)) = some l31 := by kernel_rfl

end Go.Proofs.Ac
