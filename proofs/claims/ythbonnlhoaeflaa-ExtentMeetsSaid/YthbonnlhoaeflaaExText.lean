import Derived.Test.YthbonnlhoaeflaaEngS
import Derived.Test.YthbonnlhoaeflaaProg
set_option linter.unusedVariables false
set_option linter.unusedSimpArgs false
namespace Go.Proofs.Ex
open Go.RowKit Go.Lib Go.Eng Go.Proofs
set_option maxRecDepth 100000
abbrev l3r0 : LC := .reg false [(⟨(some 4), none, .mv (.c (.bool false))⟩, [])] (some ([1, 0], []))
abbrev l3r1 : LC := .reg false [(⟨(some 14), none, .mv (.t 0)⟩, []),
  (⟨(some 15), none, .call 10 [(.t 14)]⟩, []),
  (⟨(some 5), none, .mv (.t 15)⟩, [])] (some ([5, 1], []))
abbrev l3r2 : LC := .reg false [(⟨(some 16), none, .mv (.t 5)⟩, []),
  (⟨(some 17), none, .call 11 [(.t 16)]⟩, []),
  (⟨(some 6), none, .mv (.t 17)⟩, [])] (some ([5, 6, 1], []))
abbrev l3r3 : LC := .reg false [(⟨(some 18), none, .mv (.t 1)⟩, []),
  (⟨(some 19), none, .toInt .u64 (.t 18)⟩, []),
  (⟨(some 20), none, .bin .rem (.t 19) (.c (.int .u64 301))⟩, []),
  (⟨(some 21), none, .toInt .i64 (.t 20)⟩, []),
  (⟨(some 7), none, .mv (.t 21)⟩, [])] (some ([5, 7, 6], []))
abbrev l3r4 : LC := .reg false [(⟨(some 22), none, .mv (.t 5)⟩, []),
  (⟨(some 23), none, .mv (.t 7)⟩, []),
  (⟨(some 24), none, .call 12 [(.t 22), (.t 23)]⟩, []),
  (⟨(some 8), none, .mv (.t 24)⟩, [])] (some ([5, 7, 8, 6], []))
abbrev l3r5 : LC := .reg false [(⟨(some 25), none, .mv (.t 6)⟩, []),
  (⟨(some 26), none, .call 13 [(.t 25), (.c (.int .i64 400))]⟩, []),
  (⟨(some 27), none, .un .not (.t 26)⟩, []),
  (⟨(some 28), none, .mv (.t 27)⟩, []),
  (⟨(some 29), (some (28, false)), .mv (.t 6)⟩, []),
  (⟨(some 30), (some (28, false)), .call 11 [(.t 29)]⟩, []),
  (⟨(some 31), (some (28, false)), .mv (.t 6)⟩, []),
  (⟨(some 32), (some (28, false)), .call 14 [(.t 30), (.t 31)]⟩, []),
  (⟨(some 33), (some (28, false)), .un .not (.t 32)⟩, []),
  (⟨(some 34), none, .pick (.t 28) (.c (.bool true)) (.t 33)⟩, []),
  (⟨(some 35), none, .mv (.t 34)⟩, []),
  (⟨(some 36), (some (35, false)), .mv (.t 8)⟩, []),
  (⟨(some 37), (some (35, false)), .mv (.t 7)⟩, []),
  (⟨(some 38), (some (35, false)), .call 13 [(.t 36), (.t 37)]⟩, []),
  (⟨(some 39), (some (35, false)), .un .not (.t 38)⟩, []),
  (⟨(some 40), none, .pick (.t 35) (.c (.bool true)) (.t 39)⟩, [])] (some ([5, 7, 8, 6, 40], []))
abbrev l3r6 : LC := .reg false [(⟨(some 4), none, .mv (.c (.bool false))⟩, [])] (some ([4], []))
abbrev l3r7 : LC := .reg false [(⟨(some 9), none, .mv (.c (.int .i64 0))⟩, [])] (some ([9, 5, 7, 8, 6], []))
abbrev l3r8 : LC := .reg false [(⟨(some 41), none, .mv (.t 9)⟩, []),
  (⟨(some 42), none, .bin .lss (.t 41) (.c (.int .i64 300))⟩, [])] (some ([9, 5, 7, 8, 6, 42], []))
abbrev l3r9 : LC := .reg false [(⟨(some 10), none, .mv (.c (.bool false))⟩, [])] (some ([9, 10, 5, 7, 8, 6], []))
abbrev l3r10 : LC := .reg false [(⟨(some 11), none, .mv (.c (.int .i64 0))⟩, [])] (some ([11, 9, 10, 5, 7, 8, 6], []))
abbrev l3r11 : LC := .reg false [(⟨(some 45), none, .mv (.t 11)⟩, []),
  (⟨(some 46), none, .mv (.t 5)⟩, []),
  (⟨(some 47), none, .len (.t 46)⟩, []),
  (⟨(some 48), none, .bin .lss (.t 45) (.t 47)⟩, [])] (some ([9, 5, 7, 8, 6, 11, 10, 48], []))
abbrev l3r12 : LC := .reg true [(⟨(some 51), none, .mv (.t 5)⟩, []),
  (⟨(some 52), none, .mv (.t 11)⟩, []),
  (⟨(some 53), none, .iad 1 (.t 51) (.t 52)⟩, []),
  (⟨(some 54), none, .load 1 false (.t 53)⟩, []),
  (⟨(some 55), none, .fu .re (.t 54)⟩, []),
  (⟨(some 56), none, .toInt .i64 (.t 55)⟩, []),
  (⟨(some 57), none, .mv (.t 5)⟩, [4]),
  (⟨(some 58), none, .mv (.t 11)⟩, [4]),
  (⟨(some 59), none, .iad 1 (.t 57) (.t 58)⟩, [4]),
  (⟨(some 60), none, .load 1 false (.t 59)⟩, [4]),
  (⟨(some 61), none, .fu .im (.t 60)⟩, [0, 1, 2, 3, 4, 5]),
  (⟨(some 62), none, .toInt .i64 (.t 61)⟩, [4]),
  (⟨(some 12), none, .mv (.t 56)⟩, [10]),
  (⟨(some 13), none, .mv (.t 62)⟩, [])] (some ([9, 5, 7, 8, 6, 11, 13, 12, 10], []))
abbrev l3r13 : LC := .reg false [(⟨(some 63), none, .mv (.t 10)⟩, []),
  (⟨(some 64), none, .mv (.t 63)⟩, []),
  (⟨(some 65), (some (64, false)), .mv (.t 9)⟩, []),
  (⟨(some 66), (some (64, false)), .mv (.t 12)⟩, []),
  (⟨(some 67), (some (64, false)), .bin .geq (.t 65) (.t 66)⟩, []),
  (⟨(some 68), (some (64, false)), .mv (.t 67)⟩, []),
  (⟨(some 69), (some (68, true)), .mv (.t 9)⟩, []),
  (⟨(some 70), (some (68, true)), .mv (.t 12)⟩, []),
  (⟨(some 71), (some (68, true)), .mv (.t 13)⟩, []),
  (⟨(some 72), (some (68, true)), .bin .add (.t 70) (.t 71)⟩, []),
  (⟨(some 73), (some (68, true)), .bin .lss (.t 69) (.t 72)⟩, []),
  (⟨(some 74), (some (64, false)), .pick (.t 68) (.t 73) (.c (.bool false))⟩, []),
  (⟨(some 75), none, .pick (.t 64) (.c (.bool true)) (.t 74)⟩, []),
  (⟨(some 10), none, .mv (.t 75)⟩, [])] (some ([9, 10, 5, 7, 8, 6, 11], []))
abbrev l3r14 : LC := .reg false [(⟨(some 49), none, .mv (.t 11)⟩, []),
  (⟨(some 50), none, .bin .add (.t 49) (.c (.int .i64 1))⟩, []),
  (⟨(some 11), none, .mv (.t 50)⟩, [])] (some ([11, 9, 10, 5, 7, 8, 6], []))
abbrev l3r15 : LC := (.seq (.seq l3r11 (.cond (.t 48) .skip (.exit 2))) (.seq (.block 3 (.seq l3r12 l3r13)) l3r14))
abbrev l3r16 : LC := .reg false [(⟨(some 76), none, .mv (.t 6)⟩, []),
  (⟨(some 77), none, .mv (.t 9)⟩, []),
  (⟨(some 78), none, .call 15 [(.t 76), (.t 77)]⟩, []),
  (⟨(some 79), none, .mv (.t 10)⟩, []),
  (⟨(some 80), none, .eqb true (.t 78) (.t 79)⟩, []),
  (⟨(some 81), none, .mv (.t 80)⟩, []),
  (⟨(some 82), (some (81, false)), .mv (.t 5)⟩, []),
  (⟨(some 83), (some (81, false)), .mv (.t 9)⟩, []),
  (⟨(some 84), (some (81, false)), .call 15 [(.t 82), (.t 83)]⟩, []),
  (⟨(some 85), (some (81, false)), .mv (.t 10)⟩, []),
  (⟨(some 86), (some (81, false)), .eqb true (.t 84) (.t 85)⟩, []),
  (⟨(some 87), none, .pick (.t 81) (.c (.bool true)) (.t 86)⟩, []),
  (⟨(some 88), none, .mv (.t 87)⟩, []),
  (⟨(some 89), (some (88, false)), .mv (.t 8)⟩, []),
  (⟨(some 90), (some (88, false)), .mv (.t 9)⟩, []),
  (⟨(some 91), (some (88, false)), .call 15 [(.t 89), (.t 90)]⟩, []),
  (⟨(some 92), (some (88, false)), .mv (.t 10)⟩, []),
  (⟨(some 93), (some (88, false)), .un .not (.t 92)⟩, []),
  (⟨(some 94), (some (88, false)), .mv (.t 93)⟩, []),
  (⟨(some 95), (some (94, true)), .mv (.t 9)⟩, []),
  (⟨(some 96), (some (94, true)), .mv (.t 7)⟩, []),
  (⟨(some 97), (some (94, true)), .bin .lss (.t 95) (.t 96)⟩, []),
  (⟨(some 98), (some (88, false)), .pick (.t 94) (.t 97) (.c (.bool false))⟩, []),
  (⟨(some 99), (some (88, false)), .eqb true (.t 91) (.t 98)⟩, []),
  (⟨(some 100), none, .pick (.t 88) (.c (.bool true)) (.t 99)⟩, [])] (some ([5, 7, 8, 6, 9, 100], []))
abbrev l3r17 : LC := .reg false [(⟨(some 43), none, .mv (.t 9)⟩, []),
  (⟨(some 44), none, .bin .add (.t 43) (.c (.int .i64 1))⟩, []),
  (⟨(some 9), none, .mv (.t 44)⟩, [])] (some ([9, 5, 7, 8, 6], []))
abbrev l3r18 : LC := (.seq (.seq l3r8 (.cond (.t 42) .skip (.exit 0))) (.seq (.block 1 (.seq l3r9 (.seq (.seq l3r10 (.block 2 (.loop l3r15))) (.seq l3r16 (.cond (.t 100) (.seq l3r6 .ret) .skip))))) l3r17))
abbrev l3r19 : LC := .reg false [(⟨(some 101), none, .call 16 []⟩, []),
  (⟨(some 4), none, .mv (.t 101)⟩, [])] (some ([4], []))
/-- steamer/steamerlaw2.ExtentPlaces : 2 parameters, results in [4] of 102 slots -/
abbrev l3 : LC := (.seq l3r0 (.seq l3r1 (.seq l3r2 (.seq l3r3 (.seq l3r4 (.seq (.seq l3r5 (.cond (.t 40) (.seq l3r6 .ret) .skip)) (.seq (.seq l3r7 (.block 0 (.loop l3r18))) (.seq l3r19 .ret))))))))
def k3 (i : Nat) : Option Kp := match i with
  | 0 => (some ([1, 0], []))
  | 1 => (some ([5, 1], []))
  | 2 => (some ([5, 6, 1], []))
  | 3 => (some ([5, 7, 6], []))
  | 4 => (some ([5, 7, 8, 6], []))
  | 5 => (some ([5, 7, 8, 6, 40], []))
  | 6 => (some ([4], []))
  | 7 => (some ([9, 5, 7, 8, 6], []))
  | 8 => (some ([9, 5, 7, 8, 6, 42], []))
  | 9 => (some ([9, 5, 7, 8, 6], []))
  | 10 => (some ([9, 10, 5, 7, 8, 6], []))
  | 11 => (some ([11, 9, 10, 5, 7, 8, 6], []))
  | 12 => (some ([9, 5, 7, 8, 6, 11, 10, 48], []))
  | 13 => (some ([11, 9, 10, 5, 7, 8, 6], []))
  | 14 => (some ([9, 5, 7, 8, 6, 11, 13, 12, 10], []))
  | 15 => (some ([9, 10, 5, 7, 8, 6, 11], []))
  | 16 => (some ([5, 7, 8, 6, 9, 100], []))
  | 17 => (some ([4], []))
  | 18 => (some ([4], []))
  | _ => none
theorem f3_told : Try.prog.funcs[3]? = some Try.f3 := by kernel_rfl
theorem f3_results : resTmps Try.f3 = some [4] := by kernel_rfl
theorem f3_text : (Try.f3.body.bind (trC Try.prog 102 k3 1000)) = some l3 := by kernel_rfl

abbrev l4r0 : LC := .reg false [(⟨(some 6), none, .mv (.c (.bool false))⟩, [])] (some ([2, 1, 0], []))
abbrev l4r1 : LC := .reg false [(⟨(some 12), none, .mv (.t 0)⟩, []),
  (⟨(some 13), none, .call 10 [(.t 12)]⟩, []),
  (⟨(some 7), none, .mv (.t 13)⟩, [])] (some ([7, 2, 1], []))
abbrev l4r2 : LC := .reg false [(⟨(some 14), none, .mv (.t 1)⟩, []),
  (⟨(some 15), none, .toInt .u64 (.t 14)⟩, []),
  (⟨(some 16), none, .bin .rem (.t 15) (.c (.int .u64 300))⟩, []),
  (⟨(some 17), none, .toInt .i64 (.t 16)⟩, []),
  (⟨(some 18), none, .mv (.t 2)⟩, []),
  (⟨(some 19), none, .toInt .u64 (.t 18)⟩, []),
  (⟨(some 20), none, .bin .rem (.t 19) (.c (.int .u64 100))⟩, []),
  (⟨(some 21), none, .toInt .i64 (.t 20)⟩, []),
  (⟨(some 8), none, .mv (.t 17)⟩, []),
  (⟨(some 9), none, .mv (.t 21)⟩, [])] (some ([9, 8, 7], []))
abbrev l4r3 : LC := .reg false [(⟨(some 22), none, .mv (.t 7)⟩, []),
  (⟨(some 23), none, .mv (.t 8)⟩, []),
  (⟨(some 24), none, .mv (.t 9)⟩, []),
  (⟨(some 25), none, .call 17 [(.t 22), (.t 23), (.t 24)]⟩, []),
  (⟨(some 10), none, .mv (.t 25)⟩, [])] (some ([9, 8, 7, 10], []))
abbrev l4r4 : LC := .reg false [(⟨(some 11), none, .mv (.c (.int .i64 0))⟩, [])] (some ([11, 9, 8, 7, 10], []))
abbrev l4r5 : LC := .reg false [(⟨(some 26), none, .mv (.t 11)⟩, []),
  (⟨(some 27), none, .bin .lss (.t 26) (.c (.int .i64 300))⟩, [])] (some ([9, 8, 7, 10, 11, 27], []))
abbrev l4r6 : LC := .reg false [(⟨(some 30), none, .mv (.t 10)⟩, []),
  (⟨(some 31), none, .mv (.t 11)⟩, []),
  (⟨(some 32), none, .call 15 [(.t 30), (.t 31)]⟩, []),
  (⟨(some 33), none, .mv (.t 7)⟩, []),
  (⟨(some 34), none, .mv (.t 11)⟩, []),
  (⟨(some 35), none, .call 15 [(.t 33), (.t 34)]⟩, []),
  (⟨(some 36), none, .mv (.t 35)⟩, []),
  (⟨(some 37), (some (36, true)), .mv (.t 11)⟩, []),
  (⟨(some 38), (some (36, true)), .mv (.t 8)⟩, []),
  (⟨(some 39), (some (36, true)), .bin .geq (.t 37) (.t 38)⟩, []),
  (⟨(some 40), none, .pick (.t 36) (.t 39) (.c (.bool false))⟩, []),
  (⟨(some 41), none, .mv (.t 40)⟩, []),
  (⟨(some 42), (some (41, true)), .mv (.t 11)⟩, []),
  (⟨(some 43), (some (41, true)), .mv (.t 8)⟩, []),
  (⟨(some 44), (some (41, true)), .mv (.t 9)⟩, []),
  (⟨(some 45), (some (41, true)), .bin .add (.t 43) (.t 44)⟩, []),
  (⟨(some 46), (some (41, true)), .bin .lss (.t 42) (.t 45)⟩, []),
  (⟨(some 47), none, .pick (.t 41) (.t 46) (.c (.bool false))⟩, []),
  (⟨(some 48), none, .eqb true (.t 32) (.t 47)⟩, [])] (some ([9, 8, 7, 10, 11, 48], []))
abbrev l4r7 : LC := .reg false [(⟨(some 6), none, .mv (.c (.bool false))⟩, [])] (some ([6], []))
abbrev l4r8 : LC := .reg false [(⟨(some 28), none, .mv (.t 11)⟩, []),
  (⟨(some 29), none, .bin .add (.t 28) (.c (.int .i64 1))⟩, []),
  (⟨(some 11), none, .mv (.t 29)⟩, [])] (some ([11, 9, 8, 7, 10], []))
abbrev l4r9 : LC := (.seq (.seq l4r5 (.cond (.t 27) .skip (.exit 0))) (.seq (.block 1 (.seq l4r6 (.cond (.t 48) (.seq l4r7 .ret) .skip))) l4r8))
abbrev l4r10 : LC := .reg false [(⟨(some 49), none, .call 16 []⟩, []),
  (⟨(some 50), none, .mv (.t 49)⟩, []),
  (⟨(some 51), (some (50, true)), .mv (.t 10)⟩, []),
  (⟨(some 52), (some (50, true)), .call 11 [(.t 51)]⟩, []),
  (⟨(some 53), (some (50, true)), .mv (.t 10)⟩, []),
  (⟨(some 54), (some (50, true)), .call 14 [(.t 52), (.t 53)]⟩, []),
  (⟨(some 55), none, .pick (.t 50) (.t 54) (.c (.bool false))⟩, []),
  (⟨(some 6), none, .mv (.t 55)⟩, [])] (some ([6], []))
/-- steamer/steamerlaw2.ExtentMeets : 3 parameters, results in [6] of 56 slots -/
abbrev l4 : LC := (.seq l4r0 (.seq l4r1 (.seq l4r2 (.seq l4r3 (.seq (.seq l4r4 (.block 0 (.loop l4r9))) (.seq l4r10 .ret))))))
def k4 (i : Nat) : Option Kp := match i with
  | 0 => (some ([2, 1, 0], []))
  | 1 => (some ([7, 2, 1], []))
  | 2 => (some ([9, 8, 7], []))
  | 3 => (some ([9, 8, 7, 10], []))
  | 4 => (some ([11, 9, 8, 7, 10], []))
  | 5 => (some ([9, 8, 7, 10, 11, 27], []))
  | 6 => (some ([11, 9, 8, 7, 10], []))
  | 7 => (some ([9, 8, 7, 10, 11, 48], []))
  | 8 => (some ([6], []))
  | 9 => (some ([6], []))
  | _ => none
theorem f4_told : Try.prog.funcs[4]? = some Try.f4 := by kernel_rfl
theorem f4_results : resTmps Try.f4 = some [6] := by kernel_rfl
theorem f4_text : (Try.f4.body.bind (trC Try.prog 56 k4 1000)) = some l4 := by kernel_rfl

abbrev l5r0 : LC := .reg false [(⟨(some 2), none, .mv (.c (.bool false))⟩, [])] (some ([0], []))
abbrev l5r1 : LC := .reg false [(⟨(some 9), none, .mv (.t 0)⟩, []),
  (⟨(some 10), none, .call 10 [(.t 9)]⟩, []),
  (⟨(some 3), none, .mv (.t 10)⟩, [])] (some ([3], []))
abbrev l5r2 : LC := .reg false [(⟨(some 11), none, .mv (.t 3)⟩, []),
  (⟨(some 12), none, .call 11 [(.t 11)]⟩, []),
  (⟨(some 13), none, .mv (.t 3)⟩, []),
  (⟨(some 14), none, .call 12 [(.t 13), (.c (.int .i64 300))]⟩, []),
  (⟨(some 4), none, .mv (.t 12)⟩, []),
  (⟨(some 5), none, .mv (.t 14)⟩, [])] (some ([4, 5], []))
abbrev l5r3 : LC := .reg false [(⟨(some 6), none, .mv (.c (.int .i64 0))⟩, [])] (some ([4, 6, 5], []))
abbrev l5r4 : LC := .reg false [(⟨(some 7), none, .mv (.c (.int .i64 0))⟩, [])] (some ([7, 4, 6, 5], []))
abbrev l5r5 : LC := .reg false [(⟨(some 15), none, .mv (.t 7)⟩, []),
  (⟨(some 16), none, .mv (.t 4)⟩, []),
  (⟨(some 17), none, .len (.t 16)⟩, []),
  (⟨(some 18), none, .bin .lss (.t 15) (.t 17)⟩, [])] (some ([4, 5, 7, 6, 18], []))
abbrev l5r6 : LC := .reg false [(⟨(some 21), none, .mv (.t 6)⟩, []),
  (⟨(some 22), none, .mv (.t 4)⟩, []),
  (⟨(some 23), none, .mv (.t 7)⟩, []),
  (⟨(some 24), none, .iad 1 (.t 22) (.t 23)⟩, []),
  (⟨(some 25), none, .load 1 false (.t 24)⟩, []),
  (⟨(some 26), none, .call 18 [(.t 25)]⟩, []),
  (⟨(some 27), none, .bin .add (.t 21) (.t 26)⟩, []),
  (⟨(some 6), none, .mv (.t 27)⟩, [])] (some ([4, 6, 5, 7], []))
abbrev l5r7 : LC := .reg false [(⟨(some 19), none, .mv (.t 7)⟩, []),
  (⟨(some 20), none, .bin .add (.t 19) (.c (.int .i64 1))⟩, []),
  (⟨(some 7), none, .mv (.t 20)⟩, [])] (some ([7, 4, 6, 5], []))
abbrev l5r8 : LC := (.seq (.seq l5r5 (.cond (.t 18) .skip (.exit 0))) (.seq (.block 1 l5r6) l5r7))
abbrev l5r9 : LC := .reg false [(⟨(some 8), none, .mv (.c (.int .i64 0))⟩, [])] (some ([8, 5, 6, 4], []))
abbrev l5r10 : LC := .reg false [(⟨(some 28), none, .mv (.t 8)⟩, []),
  (⟨(some 29), none, .mv (.t 5)⟩, []),
  (⟨(some 30), none, .len (.t 29)⟩, []),
  (⟨(some 31), none, .bin .lss (.t 28) (.t 30)⟩, [])] (some ([5, 4, 8, 6, 31], []))
abbrev l5r11 : LC := .reg false [(⟨(some 34), none, .mv (.t 6)⟩, []),
  (⟨(some 35), none, .mv (.t 5)⟩, []),
  (⟨(some 36), none, .mv (.t 8)⟩, []),
  (⟨(some 37), none, .iad 1 (.t 35) (.t 36)⟩, []),
  (⟨(some 38), none, .load 1 false (.t 37)⟩, []),
  (⟨(some 39), none, .call 18 [(.t 38)]⟩, []),
  (⟨(some 40), none, .bin .add (.t 34) (.t 39)⟩, []),
  (⟨(some 6), none, .mv (.t 40)⟩, [])] (some ([5, 6, 4, 8], []))
abbrev l5r12 : LC := .reg false [(⟨(some 32), none, .mv (.t 8)⟩, []),
  (⟨(some 33), none, .bin .add (.t 32) (.c (.int .i64 1))⟩, []),
  (⟨(some 8), none, .mv (.t 33)⟩, [])] (some ([8, 5, 6, 4], []))
abbrev l5r13 : LC := (.seq (.seq l5r10 (.cond (.t 31) .skip (.exit 2))) (.seq (.block 3 l5r11) l5r12))
abbrev l5r14 : LC := .reg false [(⟨(some 41), none, .call 16 []⟩, []),
  (⟨(some 42), none, .mv (.t 41)⟩, []),
  (⟨(some 43), (some (42, true)), .mv (.t 6)⟩, []),
  (⟨(some 44), (some (42, true)), .bin .eql (.t 43) (.c (.int .i64 300))⟩, []),
  (⟨(some 45), none, .pick (.t 42) (.t 44) (.c (.bool false))⟩, []),
  (⟨(some 46), none, .mv (.t 45)⟩, []),
  (⟨(some 47), (some (46, true)), .bslice 1 0 [(.complex .f64 0 0)] []⟩, []),
  (⟨(some 48), (some (46, true)), .mv (.t 4)⟩, []),
  (⟨(some 49), (some (46, true)), .app 1 16 [(.complex .f64 0 0)] (.t 47) (.t 48)⟩, []),
  (⟨(some 50), (some (46, true)), .mv (.t 5)⟩, []),
  (⟨(some 51), (some (46, true)), .app 1 16 [(.complex .f64 0 0)] (.t 49) (.t 50)⟩, []),
  (⟨(some 52), (some (46, true)), .call 11 [(.t 51)]⟩, []),
  (⟨(some 53), (some (46, true)), .bslice 1 1 [(.complex .f64 0 0)] [(0, (.c (.complex .f64 0 4643985272004935680)))]⟩, []),
  (⟨(some 54), (some (46, true)), .call 14 [(.t 52), (.t 53)]⟩, []),
  (⟨(some 55), none, .pick (.t 46) (.t 54) (.c (.bool false))⟩, []),
  (⟨(some 56), none, .mv (.t 55)⟩, []),
  (⟨(some 57), (some (56, true)), .mv (.t 5)⟩, []),
  (⟨(some 58), (some (56, true)), .call 12 [(.t 57), (.c (.int .i64 300))]⟩, []),
  (⟨(some 59), (some (56, true)), .mv (.t 4)⟩, []),
  (⟨(some 60), (some (56, true)), .call 14 [(.t 58), (.t 59)]⟩, []),
  (⟨(some 61), none, .pick (.t 56) (.t 60) (.c (.bool false))⟩, []),
  (⟨(some 2), none, .mv (.t 61)⟩, [])] (some ([2], []))
/-- steamer/steamerlaw2.ExtentSums : 1 parameters, results in [2] of 62 slots -/
abbrev l5 : LC := (.seq l5r0 (.seq l5r1 (.seq l5r2 (.seq l5r3 (.seq (.seq l5r4 (.block 0 (.loop l5r8))) (.seq (.seq l5r9 (.block 2 (.loop l5r13))) (.seq l5r14 .ret)))))))
def k5 (i : Nat) : Option Kp := match i with
  | 0 => (some ([0], []))
  | 1 => (some ([3], []))
  | 2 => (some ([4, 5], []))
  | 3 => (some ([4, 6, 5], []))
  | 4 => (some ([7, 4, 6, 5], []))
  | 5 => (some ([4, 5, 7, 6, 18], []))
  | 6 => (some ([7, 4, 6, 5], []))
  | 7 => (some ([4, 6, 5, 7], []))
  | 8 => (some ([8, 5, 6, 4], []))
  | 9 => (some ([5, 4, 8, 6, 31], []))
  | 10 => (some ([8, 5, 6, 4], []))
  | 11 => (some ([5, 6, 4, 8], []))
  | 12 => (some ([2], []))
  | _ => none
theorem f5_told : Try.prog.funcs[5]? = some Try.f5 := by kernel_rfl
theorem f5_results : resTmps Try.f5 = some [2] := by kernel_rfl
theorem f5_text : (Try.f5.body.bind (trC Try.prog 62 k5 1000)) = some l5 := by kernel_rfl

abbrev l10r0 : LC := .reg false [(⟨(some 2), none, .mv (.c (.slice none 0 0))⟩, [])] (some ([0], []))
abbrev l10r1 : LC := .reg false [(⟨(some 3), none, .mv (.c (.slice none 0 0))⟩, [])] (some ([0, 3], [.slot 3 503 1]))
abbrev l10r2 : LC := .reg false [(⟨(some 4), none, .mv (.c (.int .i64 0))⟩, [])] (some ([4, 0, 3], []))
abbrev l10r3 : LC := .reg false [(⟨(some 5), none, .mv (.t 4)⟩, []),
  (⟨(some 6), none, .mv (.t 0)⟩, []),
  (⟨(some 7), none, .len (.t 6)⟩, []),
  (⟨(some 8), none, .bin .lss (.t 5) (.t 7)⟩, []),
  (⟨(some 9), none, .mv (.t 8)⟩, []),
  (⟨(some 10), (some (9, true)), .mv (.t 4)⟩, []),
  (⟨(some 11), (some (9, true)), .bin .lss (.t 10) (.c (.int .i64 20))⟩, []),
  (⟨(some 12), none, .pick (.t 9) (.t 11) (.c (.bool false))⟩, [])] (some ([0, 4, 3, 12], []))
abbrev l10r4 : LC := .reg true [(⟨(some 15), none, .mv (.t 3)⟩, []),
  (⟨(some 16), none, .mv (.t 0)⟩, []),
  (⟨(some 17), none, .mv (.t 4)⟩, []),
  (⟨(some 18), none, .iad 1 (.t 16) (.t 17)⟩, []),
  (⟨(some 19), none, .load 1 false (.t 18)⟩, []),
  (⟨(some 20), none, .toInt .u64 (.t 19)⟩, []),
  (⟨(some 21), none, .bin .rem (.t 20) (.c (.int .u64 250))⟩, []),
  (⟨(some 22), none, .fu (.toF .f64) (.t 21)⟩, [0]),
  (⟨(some 23), none, .mv (.t 0)⟩, [7]),
  (⟨(some 24), none, .mv (.t 4)⟩, [7]),
  (⟨(some 25), none, .iad 1 (.t 23) (.t 24)⟩, [7]),
  (⟨(some 26), none, .load 1 false (.t 25)⟩, [7]),
  (⟨(some 27), none, .toInt .u64 (.t 26)⟩, [7]),
  (⟨(some 28), none, .bin .quo (.t 27) (.c (.int .u64 250))⟩, [7]),
  (⟨(some 29), none, .bin .rem (.t 28) (.c (.int .u64 20))⟩, [7]),
  (⟨(some 30), none, .fu (.toF .f64) (.t 29)⟩, [0, 1, 2, 3, 4, 5, 6, 7]),
  (⟨(some 31), none, .fcx (.t 22) (.t 30)⟩, [0]),
  (⟨(some 32), none, .bslice 1 1 [(.complex .f64 0 0)] [(0, (.t 31))]⟩, [0]),
  (⟨(some 33), none, .app 1 16 [(.complex .f64 0 0)] (.t 15) (.t 32)⟩, []),
  (⟨(some 3), none, .mv (.t 33)⟩, [])] (some ([0, 3, 4], []))
abbrev l10r5 : LC := .reg false [(⟨(some 13), none, .mv (.t 4)⟩, []),
  (⟨(some 14), none, .bin .add (.t 13) (.c (.int .i64 1))⟩, []),
  (⟨(some 4), none, .mv (.t 14)⟩, [])] (some ([4, 0, 3], []))
abbrev l10r6 : LC := (.seq (.seq l10r3 (.cond (.t 12) .skip (.exit 0))) (.seq (.block 1 l10r4) l10r5))
abbrev l10r7 : LC := .reg false [(⟨(some 34), none, .mv (.t 3)⟩, []),
  (⟨(some 2), none, .mv (.t 34)⟩, [])] (some ([2], []))
/-- steamer/steamerlaw2.Row : 1 parameters, results in [2] of 35 slots -/
abbrev l10 : LC := (.seq l10r0 (.seq l10r1 (.seq (.seq l10r2 (.block 0 (.loop l10r6))) (.seq l10r7 .ret))))
def k10 (i : Nat) : Option Kp := match i with
  | 0 => (some ([0], []))
  | 1 => (some ([0, 3], [.slot 3 503 1]))
  | 2 => (some ([4, 0, 3], []))
  | 3 => (some ([0, 4, 3, 12], []))
  | 4 => (some ([4, 0, 3], []))
  | 5 => (some ([0, 3, 4], []))
  | 6 => (some ([2], []))
  | _ => none
theorem f10_told : Try.prog.funcs[10]? = some Try.f10 := by kernel_rfl
theorem f10_results : resTmps Try.f10 = some [2] := by kernel_rfl
theorem f10_text : (Try.f10.body.bind (trC Try.prog 35 k10 1000)) = some l10 := by kernel_rfl

abbrev l11r0 : LC := .reg false [(⟨(some 2), none, .mv (.c (.slice none 0 0))⟩, [])] (some ([0], []))
abbrev l11r1 : LC := .reg false [(⟨(some 10), none, .mv (.t 0)⟩, []),
  (⟨(some 11), none, .call 30 [(.t 10)]⟩, []),
  (⟨(some 0), none, .mv (.t 11)⟩, [])] (some ([0], []))
abbrev l11r2 : LC := .reg false [(⟨(some 12), none, .mv (.t 0)⟩, []),
  (⟨(some 13), none, .call 31 [(.t 12), (.f 32)]⟩, [])] (some ([0], []))
abbrev l11r3 : LC := .reg false [(⟨(some 3), none, .mv (.c (.slice none 0 0))⟩, [])] (some ([3, 0], [.slot 3 503 1]))
abbrev l11r4 : LC := .reg false [(⟨(some 14), none, .mv (.t 0)⟩, []),
  (⟨(some 15), none, .len (.t 14)⟩, []),
  (⟨(some 16), none, .mv (.c (.int .i64 0))⟩, [])] (some ([16, 3, 14, 15], []))
abbrev l11r5 : LC := .reg false [(⟨(some 17), none, .bin .lss (.t 16) (.t 15)⟩, [])] (some ([3, 14, 15, 16, 17], []))
abbrev l11r6 : LC := .reg false [(⟨(some 18), none, .iad 1 (.t 14) (.t 16)⟩, []),
  (⟨(some 19), none, .load 1 false (.t 18)⟩, []),
  (⟨(some 5), none, .mv (.t 19)⟩, [])] (some ([3, 14, 15, 16, 5], []))
abbrev l11r7 : LC := .reg false [(⟨(some 20), none, .mv (.t 5)⟩, []),
  (⟨(some 21), none, .call 34 [(.t 20)]⟩, []),
  (⟨(some 22), none, .mv (.t 5)⟩, []),
  (⟨(some 23), none, .call 35 [(.t 22)]⟩, []),
  (⟨(some 24), none, .mm false (.t 23) (.c (.int .i64 1099511627776))⟩, []),
  (⟨(some 6), none, .mv (.t 21)⟩, []),
  (⟨(some 7), none, .mv (.t 24)⟩, [])] (some ([3, 14, 15, 16, 7, 6], []))
abbrev l11r8 : LC := .reg false [(⟨(some 25), none, .mv (.t 3)⟩, []),
  (⟨(some 26), none, .len (.t 25)⟩, []),
  (⟨(some 8), none, .mv (.t 26)⟩, [])] (some ([3, 14, 15, 16, 8, 7, 6], []))
abbrev l11r9 : LC := .reg false [(⟨(some 36), none, .mv (.t 7)⟩, []),
  (⟨(some 37), none, .mv (.t 6)⟩, []),
  (⟨(some 38), none, .bin .leq (.t 36) (.t 37)⟩, []),
  (⟨(some 35), none, .mv (.t 38)⟩, [])] (some ([3, 14, 15, 16, 8, 7, 6, 35], []))
abbrev l11r10 : LC := .reg false [(⟨(some 40), none, .mv (.t 8)⟩, []),
  (⟨(some 41), none, .bin .gtr (.t 40) (.c (.int .i64 0))⟩, []),
  (⟨(some 42), none, .mv (.t 41)⟩, []),
  (⟨(some 43), (some (42, true)), .mv (.t 6)⟩, []),
  (⟨(some 44), (some (42, true)), .mv (.t 3)⟩, []),
  (⟨(some 45), (some (42, true)), .mv (.t 8)⟩, []),
  (⟨(some 46), (some (42, true)), .bin .sub (.t 45) (.c (.int .i64 1))⟩, []),
  (⟨(some 47), (some (42, true)), .iad 1 (.t 44) (.t 46)⟩, []),
  (⟨(some 48), (some (42, true)), .load 1 false (.t 47)⟩, []),
  (⟨(some 49), (some (42, true)), .call 35 [(.t 48)]⟩, []),
  (⟨(some 50), (some (42, true)), .bin .leq (.t 43) (.t 49)⟩, []),
  (⟨(some 51), none, .pick (.t 42) (.t 50) (.c (.bool false))⟩, []),
  (⟨(some 39), none, .mv (.t 51)⟩, [])] (some ([3, 14, 15, 16, 8, 7, 6, 39], []))
abbrev l11r11 : LC := .reg false [(⟨(some 52), none, .mv (.t 3)⟩, []),
  (⟨(some 53), none, .mv (.t 8)⟩, []),
  (⟨(some 54), none, .bin .sub (.t 53) (.c (.int .i64 1))⟩, []),
  (⟨(some 55), none, .iad 1 (.t 52) (.t 54)⟩, []),
  (⟨(some 56), none, .load 1 false (.t 55)⟩, []),
  (⟨(some 57), none, .call 34 [(.t 56)]⟩, []),
  (⟨(some 9), none, .mv (.t 57)⟩, [])] (some ([3, 14, 15, 16, 9, 8, 7], []))
abbrev l11r12 : LC := .reg false [(⟨(some 58), none, .mv (.t 3)⟩, []),
  (⟨(some 59), none, .mv (.t 8)⟩, []),
  (⟨(some 60), none, .bin .sub (.t 59) (.c (.int .i64 1))⟩, []),
  (⟨(some 61), none, .mv (.t 9)⟩, []),
  (⟨(some 62), none, .mv (.t 7)⟩, []),
  (⟨(some 63), none, .mv (.t 3)⟩, []),
  (⟨(some 64), none, .mv (.t 8)⟩, []),
  (⟨(some 65), none, .bin .sub (.t 64) (.c (.int .i64 1))⟩, []),
  (⟨(some 66), none, .iad 1 (.t 63) (.t 65)⟩, []),
  (⟨(some 67), none, .load 1 false (.t 66)⟩, []),
  (⟨(some 68), none, .call 35 [(.t 67)]⟩, []),
  (⟨(some 69), none, .mm true (.t 62) (.t 68)⟩, []),
  (⟨(some 70), none, .mv (.t 9)⟩, []),
  (⟨(some 71), none, .bin .sub (.t 69) (.t 70)⟩, []),
  (⟨(some 72), none, .call 36 [(.t 61), (.t 71)]⟩, []),
  (⟨(some 73), none, .iad 1 (.t 58) (.t 60)⟩, []),
  (⟨none, none, .store 1 (.t 73) (.t 72)⟩, [])] (some ([3, 14, 15, 16], []))
abbrev l11r13 : LC := .reg false [(⟨(some 27), none, .mv (.t 3)⟩, []),
  (⟨(some 28), none, .mv (.t 6)⟩, []),
  (⟨(some 29), none, .mv (.t 7)⟩, []),
  (⟨(some 30), none, .mv (.t 6)⟩, []),
  (⟨(some 31), none, .bin .sub (.t 29) (.t 30)⟩, []),
  (⟨(some 32), none, .call 36 [(.t 28), (.t 31)]⟩, []),
  (⟨(some 33), none, .bslice 1 1 [(.complex .f64 0 0)] [(0, (.t 32))]⟩, []),
  (⟨(some 34), none, .app 1 16 [(.complex .f64 0 0)] (.t 27) (.t 33)⟩, []),
  (⟨(some 3), none, .mv (.t 34)⟩, [])] (some ([3, 14, 15, 16], []))
abbrev l11r14 : LC := .reg false [(⟨(some 74), none, .bin .add (.t 16) (.c (.int .i64 1))⟩, []),
  (⟨(some 16), none, .mv (.t 74)⟩, [])] (some ([16, 3, 14, 15], []))
abbrev l11r15 : LC := (.seq l11r5 (.seq (.cond (.t 17) .skip (.exit 0)) (.seq (.block 1 (.seq l11r6 (.seq l11r7 (.seq l11r8 (.block 2 (.seq l11r9 (.cond (.t 35) .skip (.seq l11r10 (.cond (.t 39) (.seq l11r11 l11r12) l11r13))))))))) l11r14)))
abbrev l11r16 : LC := .reg false [(⟨(some 75), none, .mv (.t 3)⟩, []),
  (⟨(some 2), none, .mv (.t 75)⟩, [])] (some ([2], []))
/-- steamer/extent.Norm : 1 parameters, results in [2] of 76 slots -/
abbrev l11 : LC := (.seq l11r0 (.seq l11r1 (.seq l11r2 (.seq l11r3 (.seq (.seq l11r4 (.block 0 (.loop l11r15))) (.seq l11r16 .ret))))))
def k11 (i : Nat) : Option Kp := match i with
  | 0 => (some ([0], []))
  | 1 => (some ([0], []))
  | 2 => (some ([0], []))
  | 3 => (some ([3, 0], [.slot 3 503 1]))
  | 4 => (some ([16, 3, 14, 15], []))
  | 5 => (some ([3, 14, 15, 16, 17], []))
  | 6 => (some ([3, 14, 15, 16, 5], []))
  | 7 => (some ([3, 14, 15, 16, 7, 6], []))
  | 8 => (some ([3, 14, 15, 16, 8, 7, 6], []))
  | 9 => (some ([3, 14, 15, 16], []))
  | 10 => (some ([3, 14, 15, 16, 8, 7, 6, 35], []))
  | 11 => (some ([3, 14, 15, 16, 8, 7, 6, 39], []))
  | 12 => (some ([3, 14, 15, 16, 9, 8, 7], []))
  | 13 => (some ([3, 14, 15, 16], []))
  | 14 => (some ([16, 3, 14, 15], []))
  | 15 => (some ([2], []))
  | _ => none
theorem f11_told : Try.prog.funcs[11]? = some Try.f11 := by kernel_rfl
theorem f11_results : resTmps Try.f11 = some [2] := by kernel_rfl
theorem f11_text : (Try.f11.body.bind (trC Try.prog 76 k11 1000)) = some l11 := by kernel_rfl

abbrev l12r0 : LC := .reg false [(⟨(some 4), none, .mv (.c (.slice none 0 0))⟩, [])] (some ([0, 1], []))
abbrev l12r1 : LC := .reg false [(⟨(some 10), none, .mv (.t 1)⟩, []),
  (⟨(some 11), none, .call 37 [(.t 10)]⟩, []),
  (⟨(some 1), none, .mv (.t 11)⟩, [])] (some ([1, 0], []))
abbrev l12r2 : LC := .reg false [(⟨(some 5), none, .mv (.c (.slice none 0 0))⟩, [])] (some ([5, 1, 0], [.slot 5 505 1]))
abbrev l12r3 : LC := .reg false [(⟨(some 6), none, .mv (.c (.int .i64 0))⟩, [])] (some ([6, 5, 1, 0], []))
abbrev l12r4 : LC := .reg false [(⟨(some 12), none, .mv (.t 0)⟩, []),
  (⟨(some 13), none, .call 11 [(.t 12)]⟩, []),
  (⟨(some 14), none, .call 36 [(.c (.int .i64 1099511627776)), (.c (.int .i64 0))]⟩, []),
  (⟨(some 15), none, .bslice 1 1 [(.complex .f64 0 0)] [(0, (.t 14))]⟩, []),
  (⟨(some 16), none, .app 1 16 [(.complex .f64 0 0)] (.t 13) (.t 15)⟩, []),
  (⟨(some 17), none, .len (.t 16)⟩, []),
  (⟨(some 18), none, .mv (.c (.int .i64 0))⟩, [])] (some ([18, 6, 5, 1, 16, 17], []))
abbrev l12r5 : LC := .reg false [(⟨(some 19), none, .bin .lss (.t 18) (.t 17)⟩, [])] (some ([1, 16, 17, 18, 6, 5, 19], []))
abbrev l12r6 : LC := .reg false [(⟨(some 20), none, .iad 1 (.t 16) (.t 18)⟩, []),
  (⟨(some 21), none, .load 1 false (.t 20)⟩, []),
  (⟨(some 8), none, .mv (.t 21)⟩, [])] (some ([1, 16, 17, 18, 8, 6, 5], []))
abbrev l12r7 : LC := .reg false [(⟨(some 22), none, .mv (.t 8)⟩, []),
  (⟨(some 23), none, .call 34 [(.t 22)]⟩, []),
  (⟨(some 24), none, .mv (.t 1)⟩, []),
  (⟨(some 25), none, .mm false (.t 23) (.t 24)⟩, []),
  (⟨(some 9), none, .mv (.t 25)⟩, [])] (some ([1, 16, 17, 18, 8, 6, 9, 5], []))
abbrev l12r8 : LC := .reg false [(⟨(some 26), none, .mv (.t 9)⟩, []),
  (⟨(some 27), none, .mv (.t 6)⟩, []),
  (⟨(some 28), none, .bin .gtr (.t 26) (.t 27)⟩, [])] (some ([1, 16, 17, 18, 8, 6, 9, 5, 28], []))
abbrev l12r9 : LC := .reg false [(⟨(some 29), none, .mv (.t 5)⟩, []),
  (⟨(some 30), none, .mv (.t 6)⟩, []),
  (⟨(some 31), none, .mv (.t 9)⟩, []),
  (⟨(some 32), none, .mv (.t 6)⟩, []),
  (⟨(some 33), none, .bin .sub (.t 31) (.t 32)⟩, []),
  (⟨(some 34), none, .call 36 [(.t 30), (.t 33)]⟩, []),
  (⟨(some 35), none, .bslice 1 1 [(.complex .f64 0 0)] [(0, (.t 34))]⟩, []),
  (⟨(some 36), none, .app 1 16 [(.complex .f64 0 0)] (.t 29) (.t 35)⟩, []),
  (⟨(some 5), none, .mv (.t 36)⟩, [])] (some ([5, 1, 16, 17, 18, 8, 6], []))
abbrev l12r10 : LC := .reg false [(⟨(some 37), none, .mv (.t 6)⟩, []),
  (⟨(some 38), none, .mv (.t 8)⟩, []),
  (⟨(some 39), none, .call 35 [(.t 38)]⟩, []),
  (⟨(some 40), none, .mm true (.t 37) (.t 39)⟩, []),
  (⟨(some 6), none, .mv (.t 40)⟩, [])] (some ([6, 5, 1, 16, 17, 18], []))
abbrev l12r11 : LC := .reg false [(⟨(some 41), none, .bin .add (.t 18) (.c (.int .i64 1))⟩, []),
  (⟨(some 18), none, .mv (.t 41)⟩, [])] (some ([18, 6, 5, 1, 16, 17], []))
abbrev l12r12 : LC := (.seq l12r5 (.seq (.cond (.t 19) .skip (.exit 0)) (.seq (.block 1 (.seq l12r6 (.seq (.seq l12r7 (.seq l12r8 (.cond (.t 28) l12r9 .skip))) l12r10))) l12r11)))
abbrev l12r13 : LC := .reg false [(⟨(some 42), none, .mv (.t 5)⟩, []),
  (⟨(some 4), none, .mv (.t 42)⟩, [])] (some ([4], []))
/-- steamer/extent.Holes : 2 parameters, results in [4] of 43 slots -/
abbrev l12 : LC := (.seq l12r0 (.seq l12r1 (.seq l12r2 (.seq l12r3 (.seq (.seq l12r4 (.block 0 (.loop l12r12))) (.seq l12r13 .ret))))))
def k12 (i : Nat) : Option Kp := match i with
  | 0 => (some ([0, 1], []))
  | 1 => (some ([1, 0], []))
  | 2 => (some ([5, 1, 0], [.slot 5 505 1]))
  | 3 => (some ([6, 5, 1, 0], []))
  | 4 => (some ([18, 6, 5, 1, 16, 17], []))
  | 5 => (some ([1, 16, 17, 18, 6, 5, 19], []))
  | 6 => (some ([1, 16, 17, 18, 8, 6, 5], []))
  | 7 => (some ([1, 16, 17, 18, 8, 6, 9, 5], []))
  | 8 => (some ([1, 16, 17, 18, 8, 6, 9, 5, 28], []))
  | 9 => (some ([5, 1, 16, 17, 18, 8, 6], []))
  | 10 => (some ([6, 5, 1, 16, 17, 18], []))
  | 11 => (some ([18, 6, 5, 1, 16, 17], []))
  | 12 => (some ([4], []))
  | _ => none
theorem f12_told : Try.prog.funcs[12]? = some Try.f12 := by kernel_rfl
theorem f12_results : resTmps Try.f12 = some [4] := by kernel_rfl
theorem f12_text : (Try.f12.body.bind (trC Try.prog 43 k12 1000)) = some l12 := by kernel_rfl

abbrev l13r0 : LC := .reg false [(⟨(some 4), none, .mv (.c (.bool false))⟩, [])] (some ([1, 0], []))
abbrev l13r1 : LC := .reg false [(⟨(some 8), none, .mv (.t 1)⟩, []),
  (⟨(some 9), none, .bin .lss (.t 8) (.c (.int .i64 0))⟩, []),
  (⟨(some 10), none, .mv (.t 9)⟩, []),
  (⟨(some 11), (some (10, false)), .mv (.t 1)⟩, []),
  (⟨(some 12), (some (10, false)), .bin .gtr (.t 11) (.c (.int .i64 1099511627776))⟩, []),
  (⟨(some 13), none, .pick (.t 10) (.c (.bool true)) (.t 12)⟩, [])] (some ([1, 0, 13], []))
abbrev l13r2 : LC := .reg false [(⟨(some 4), none, .mv (.c (.bool false))⟩, [])] (some ([4], []))
abbrev l13r3 : LC := .reg false [(⟨(some 5), none, .mv (.c (.int .i64 0))⟩, []),
  (⟨(some 6), none, .mv (.c (.int .i64 (-1)))⟩, [])] (some ([1, 6, 0, 5], []))
abbrev l13r4 : LC := .reg false [(⟨(some 14), none, .mv (.t 5)⟩, []),
  (⟨(some 15), none, .mv (.t 0)⟩, []),
  (⟨(some 16), none, .len (.t 15)⟩, []),
  (⟨(some 17), none, .bin .eql (.t 14) (.t 16)⟩, [])] (some ([1, 6, 0, 5, 17], []))
abbrev l13r5 : LC := .reg false [(⟨(some 18), none, .mv (.t 6)⟩, []),
  (⟨(some 19), none, .mv (.t 1)⟩, []),
  (⟨(some 20), none, .bin .leq (.t 18) (.t 19)⟩, []),
  (⟨(some 4), none, .mv (.t 20)⟩, [])] (some ([4], []))
abbrev l13r6 : LC := .reg false [(⟨(some 21), none, .mv (.t 0)⟩, []),
  (⟨(some 22), none, .mv (.t 5)⟩, []),
  (⟨(some 23), none, .iad 1 (.t 21) (.t 22)⟩, []),
  (⟨(some 24), none, .load 1 false (.t 23)⟩, []),
  (⟨(some 7), none, .mv (.t 24)⟩, [])] (some ([1, 0, 5, 7, 6], []))
abbrev l13r7 : LC := .reg false [(⟨(some 25), none, .mv (.t 7)⟩, []),
  (⟨(some 26), none, .call 18 [(.t 25)]⟩, []),
  (⟨(some 27), none, .bin .gtr (.t 26) (.c (.int .i64 0))⟩, []),
  (⟨(some 28), none, .mv (.t 27)⟩, []),
  (⟨(some 29), (some (28, true)), .mv (.t 7)⟩, []),
  (⟨(some 30), (some (28, true)), .call 34 [(.t 29)]⟩, []),
  (⟨(some 31), (some (28, true)), .mv (.t 6)⟩, []),
  (⟨(some 32), (some (28, true)), .bin .gtr (.t 30) (.t 31)⟩, []),
  (⟨(some 33), none, .pick (.t 28) (.t 32) (.c (.bool false))⟩, [])] (some ([1, 0, 5, 7, 33], []))
abbrev l13r8 : LC := .reg false [(⟨(some 34), none, .mv (.t 7)⟩, []),
  (⟨(some 35), none, .call 35 [(.t 34)]⟩, []),
  (⟨(some 6), none, .mv (.t 35)⟩, [])] (some ([1, 6, 0, 5], []))
abbrev l13r9 : LC := .reg false [(⟨(some 36), none, .mv (.t 5)⟩, []),
  (⟨(some 37), none, .bin .add (.t 36) (.c (.int .i64 1))⟩, []),
  (⟨(some 5), none, .mv (.t 37)⟩, [])] (some ([1, 6, 5, 0], []))
abbrev l13r10 : LC := (.seq (.seq l13r1 (.cond (.t 13) (.seq l13r2 .ret) .skip)) (.seq l13r3 (.seq .label (.seq (.seq l13r4 (.cond (.t 17) (.seq l13r5 .ret) .skip)) (.seq (.seq l13r6 (.seq l13r7 (.cond (.t 33) (.seq l13r8 (.seq l13r9 (.goto 0))) .skip))) (.seq l13r2 .ret))))))
abbrev l13r11 : LC := (.seq .skip (.seq (.seq l13r4 (.cond (.t 17) (.seq l13r5 .ret) .skip)) (.seq (.seq l13r6 (.seq l13r7 (.cond (.t 33) (.seq l13r8 (.seq l13r9 (.goto 0))) .skip))) (.seq l13r2 .ret))))
/-- steamer/extent.May : 2 parameters, results in [4] of 38 slots -/
abbrev l13 : LC := (.seq l13r0 (.scope 0 l13r10 l13r11))
def k13 (i : Nat) : Option Kp := match i with
  | 0 => (some ([1, 0], []))
  | 1 => (some ([1, 0, 13], []))
  | 2 => (some ([4], []))
  | 3 => (some ([1, 6, 0, 5], []))
  | 4 => (some ([1, 6, 0, 5, 17], []))
  | 5 => (some ([4], []))
  | 6 => (some ([1, 0, 5, 7, 6], []))
  | 7 => (some ([1, 0, 5, 7, 33], []))
  | 8 => (some ([1, 6, 0, 5], []))
  | 9 => (some ([1, 6, 5, 0], []))
  | 10 => (some ([4], []))
  | _ => none
theorem f13_told : Try.prog.funcs[13]? = some Try.f13 := by kernel_rfl
theorem f13_results : resTmps Try.f13 = some [4] := by kernel_rfl
theorem f13_text : (Try.f13.body.bind (trC Try.prog 38 k13 1000)) = some l13 := by kernel_rfl

abbrev l14r0 : LC := .reg false [(⟨(some 4), none, .mv (.c (.bool false))⟩, [])] (some ([1, 0], []))
abbrev l14r1 : LC := .reg false [(⟨(some 6), none, .mv (.t 0)⟩, []),
  (⟨(some 7), none, .len (.t 6)⟩, []),
  (⟨(some 8), none, .mv (.t 1)⟩, []),
  (⟨(some 9), none, .len (.t 8)⟩, []),
  (⟨(some 10), none, .bin .neq (.t 7) (.t 9)⟩, [])] (some ([1, 0, 10], []))
abbrev l14r2 : LC := .reg false [(⟨(some 4), none, .mv (.c (.bool false))⟩, [])] (some ([4], []))
abbrev l14r3 : LC := .reg false [(⟨(some 5), none, .mv (.c (.int .i64 0))⟩, [])] (some ([5, 1, 0], []))
abbrev l14r4 : LC := .reg false [(⟨(some 11), none, .mv (.t 5)⟩, []),
  (⟨(some 12), none, .mv (.t 0)⟩, []),
  (⟨(some 13), none, .len (.t 12)⟩, []),
  (⟨(some 14), none, .bin .lss (.t 11) (.t 13)⟩, [])] (some ([1, 0, 5, 14], []))
abbrev l14r5 : LC := .reg true [(⟨(some 17), none, .mv (.t 0)⟩, []),
  (⟨(some 18), none, .mv (.t 5)⟩, []),
  (⟨(some 19), none, .iad 1 (.t 17) (.t 18)⟩, []),
  (⟨(some 20), none, .load 1 false (.t 19)⟩, []),
  (⟨(some 21), none, .fu .re (.t 20)⟩, []),
  (⟨(some 22), none, .mv (.t 1)⟩, [4]),
  (⟨(some 23), none, .mv (.t 5)⟩, [4]),
  (⟨(some 24), none, .iad 1 (.t 22) (.t 23)⟩, [4]),
  (⟨(some 25), none, .load 1 false (.t 24)⟩, [4]),
  (⟨(some 26), none, .fu .re (.t 25)⟩, [0, 1, 2, 3, 4]),
  (⟨(some 27), none, .bin .neq (.t 21) (.t 26)⟩, []),
  (⟨(some 28), none, .mv (.t 27)⟩, []),
  (⟨(some 29), (some (28, false)), .mv (.t 0)⟩, []),
  (⟨(some 30), (some (28, false)), .mv (.t 5)⟩, []),
  (⟨(some 31), (some (28, false)), .iad 1 (.t 29) (.t 30)⟩, []),
  (⟨(some 32), (some (28, false)), .load 1 false (.t 31)⟩, []),
  (⟨(some 33), (some (28, false)), .fu .im (.t 32)⟩, []),
  (⟨(some 34), (some (28, false)), .mv (.t 1)⟩, [16]),
  (⟨(some 35), (some (28, false)), .mv (.t 5)⟩, [16]),
  (⟨(some 36), (some (28, false)), .iad 1 (.t 34) (.t 35)⟩, [16]),
  (⟨(some 37), (some (28, false)), .load 1 false (.t 36)⟩, [16]),
  (⟨(some 38), (some (28, false)), .fu .im (.t 37)⟩, [12, 13, 14, 15, 16]),
  (⟨(some 39), (some (28, false)), .bin .neq (.t 33) (.t 38)⟩, []),
  (⟨(some 40), none, .pick (.t 28) (.c (.bool true)) (.t 39)⟩, [])] (some ([1, 0, 5, 40], []))
abbrev l14r6 : LC := .reg false [(⟨(some 15), none, .mv (.t 5)⟩, []),
  (⟨(some 16), none, .bin .add (.t 15) (.c (.int .i64 1))⟩, []),
  (⟨(some 5), none, .mv (.t 16)⟩, [])] (some ([5, 1, 0], []))
abbrev l14r7 : LC := (.seq (.seq l14r4 (.cond (.t 14) .skip (.exit 0))) (.seq (.block 1 (.seq l14r5 (.cond (.t 40) (.seq l14r2 .ret) .skip))) l14r6))
abbrev l14r8 : LC := .reg false [(⟨(some 4), none, .mv (.c (.bool true))⟩, [])] (some ([4], []))
/-- steamer/steamerlaw2.Same : 2 parameters, results in [4] of 41 slots -/
abbrev l14 : LC := (.seq l14r0 (.seq (.seq l14r1 (.cond (.t 10) (.seq l14r2 .ret) .skip)) (.seq (.seq l14r3 (.block 0 (.loop l14r7))) (.seq l14r8 .ret))))
def k14 (i : Nat) : Option Kp := match i with
  | 0 => (some ([1, 0], []))
  | 1 => (some ([1, 0, 10], []))
  | 2 => (some ([4], []))
  | 3 => (some ([5, 1, 0], []))
  | 4 => (some ([1, 0, 5, 14], []))
  | 5 => (some ([5, 1, 0], []))
  | 6 => (some ([1, 0, 5, 40], []))
  | 7 => (some ([4], []))
  | 8 => (some ([4], []))
  | _ => none
theorem f14_told : Try.prog.funcs[14]? = some Try.f14 := by kernel_rfl
theorem f14_results : resTmps Try.f14 = some [4] := by kernel_rfl
theorem f14_text : (Try.f14.body.bind (trC Try.prog 41 k14 1000)) = some l14 := by kernel_rfl

abbrev l15r0 : LC := .reg false [(⟨(some 4), none, .mv (.c (.bool false))⟩, [])] (some ([1, 0], []))
abbrev l15r1 : LC := .reg false [(⟨(some 7), none, .mv (.t 0)⟩, []),
  (⟨(some 8), none, .call 11 [(.t 7)]⟩, []),
  (⟨(some 9), none, .len (.t 8)⟩, []),
  (⟨(some 10), none, .mv (.c (.int .i64 0))⟩, [])] (some ([10, 1, 8, 9], []))
abbrev l15r2 : LC := .reg false [(⟨(some 11), none, .bin .lss (.t 10) (.t 9)⟩, [])] (some ([1, 8, 9, 10, 11], []))
abbrev l15r3 : LC := .reg false [(⟨(some 12), none, .iad 1 (.t 8) (.t 10)⟩, []),
  (⟨(some 13), none, .load 1 false (.t 12)⟩, []),
  (⟨(some 6), none, .mv (.t 13)⟩, [])] (some ([1, 8, 9, 10, 6], []))
abbrev l15r4 : LC := .reg false [(⟨(some 14), none, .mv (.t 1)⟩, []),
  (⟨(some 15), none, .mv (.t 6)⟩, []),
  (⟨(some 16), none, .call 34 [(.t 15)]⟩, []),
  (⟨(some 17), none, .bin .geq (.t 14) (.t 16)⟩, []),
  (⟨(some 18), none, .mv (.t 17)⟩, []),
  (⟨(some 19), (some (18, true)), .mv (.t 1)⟩, []),
  (⟨(some 20), (some (18, true)), .mv (.t 6)⟩, []),
  (⟨(some 21), (some (18, true)), .call 35 [(.t 20)]⟩, []),
  (⟨(some 22), (some (18, true)), .bin .lss (.t 19) (.t 21)⟩, []),
  (⟨(some 23), none, .pick (.t 18) (.t 22) (.c (.bool false))⟩, [])] (some ([1, 8, 9, 10, 23], []))
abbrev l15r5 : LC := .reg false [(⟨(some 4), none, .mv (.c (.bool true))⟩, [])] (some ([4], []))
abbrev l15r6 : LC := .reg false [(⟨(some 24), none, .bin .add (.t 10) (.c (.int .i64 1))⟩, []),
  (⟨(some 10), none, .mv (.t 24)⟩, [])] (some ([10, 1, 8, 9], []))
abbrev l15r7 : LC := (.seq l15r2 (.seq (.cond (.t 11) .skip (.exit 0)) (.seq (.block 1 (.seq l15r3 (.seq l15r4 (.cond (.t 23) (.seq l15r5 .ret) .skip)))) l15r6)))
abbrev l15r8 : LC := .reg false [(⟨(some 4), none, .mv (.c (.bool false))⟩, [])] (some ([4], []))
/-- steamer/extent.Has : 2 parameters, results in [4] of 25 slots -/
abbrev l15 : LC := (.seq l15r0 (.seq (.seq l15r1 (.block 0 (.loop l15r7))) (.seq l15r8 .ret)))
def k15 (i : Nat) : Option Kp := match i with
  | 0 => (some ([1, 0], []))
  | 1 => (some ([10, 1, 8, 9], []))
  | 2 => (some ([1, 8, 9, 10, 11], []))
  | 3 => (some ([1, 8, 9, 10, 6], []))
  | 4 => (some ([1, 8, 9, 10, 23], []))
  | 5 => (some ([4], []))
  | 6 => (some ([10, 1, 8, 9], []))
  | 7 => (some ([4], []))
  | _ => none
theorem f15_told : Try.prog.funcs[15]? = some Try.f15 := by kernel_rfl
theorem f15_results : resTmps Try.f15 = some [4] := by kernel_rfl
theorem f15_text : (Try.f15.body.bind (trC Try.prog 25 k15 1000)) = some l15 := by kernel_rfl

abbrev l16r0 : LC := .reg false [(⟨(some 0), none, .mv (.c (.bool false))⟩, [])] (some ([], []))
abbrev l16r1 : LC := .reg false [(⟨(some 4), none, .bslice 1 4 [(.complex .f64 0 0)] [(0, (.c (.complex .f64 4611686018427387904 4613937818241073152))), (1, (.c (.complex .f64 0 4611686018427387904))), (2, (.c (.complex .f64 4621256167635550208 0))), (3, (.c (.complex .f64 4620693217682128896 4607182418800017408)))]⟩, []),
  (⟨(some 5), none, .call 11 [(.t 4)]⟩, []),
  (⟨(some 1), none, .mv (.t 5)⟩, [])] (some ([1], []))
abbrev l16r2 : LC := .reg false [(⟨(some 6), none, .mv (.t 1)⟩, []),
  (⟨(some 7), none, .call 12 [(.t 6), (.c (.int .i64 10))]⟩, []),
  (⟨(some 2), none, .mv (.t 7)⟩, [])] (some ([1, 2], []))
abbrev l16r3 : LC := .reg false [(⟨(some 8), none, .mv (.t 1)⟩, []),
  (⟨(some 9), none, .call 17 [(.t 8), (.c (.int .i64 3)), (.c (.int .i64 6))]⟩, []),
  (⟨(some 3), none, .mv (.t 9)⟩, [])] (some ([1, 3, 2], []))
abbrev l16r4 : LC := .reg false [(⟨(some 10), none, .mv (.t 1)⟩, []),
  (⟨(some 11), none, .len (.t 10)⟩, []),
  (⟨(some 12), none, .bin .eql (.t 11) (.c (.int .i64 2))⟩, []),
  (⟨(some 13), none, .mv (.t 12)⟩, []),
  (⟨(some 14), (some (13, true)), .mv (.t 1)⟩, []),
  (⟨(some 15), (some (13, true)), .iad 1 (.t 14) (.c (.int .i64 0))⟩, []),
  (⟨(some 16), (some (13, true)), .load 1 false (.t 15)⟩, []),
  (⟨(some 17), (some (13, true)), .bin .eql (.t 16) (.c (.complex .f64 0 4617315517961601024))⟩, []),
  (⟨(some 18), none, .pick (.t 13) (.t 17) (.c (.bool false))⟩, []),
  (⟨(some 19), none, .mv (.t 18)⟩, []),
  (⟨(some 20), (some (19, true)), .mv (.t 1)⟩, []),
  (⟨(some 21), (some (19, true)), .iad 1 (.t 20) (.c (.int .i64 1))⟩, []),
  (⟨(some 22), (some (19, true)), .load 1 false (.t 21)⟩, []),
  (⟨(some 23), (some (19, true)), .bin .eql (.t 22) (.c (.complex .f64 4620693217682128896 4607182418800017408))⟩, []),
  (⟨(some 24), none, .pick (.t 19) (.t 23) (.c (.bool false))⟩, []),
  (⟨(some 25), none, .mv (.t 24)⟩, []),
  (⟨(some 26), (some (25, true)), .mv (.t 2)⟩, []),
  (⟨(some 27), (some (25, true)), .len (.t 26)⟩, []),
  (⟨(some 28), (some (25, true)), .bin .eql (.t 27) (.c (.int .i64 2))⟩, []),
  (⟨(some 29), none, .pick (.t 25) (.t 28) (.c (.bool false))⟩, []),
  (⟨(some 30), none, .mv (.t 29)⟩, []),
  (⟨(some 31), (some (30, true)), .mv (.t 2)⟩, []),
  (⟨(some 32), (some (30, true)), .iad 1 (.t 31) (.c (.int .i64 0))⟩, []),
  (⟨(some 33), (some (30, true)), .load 1 false (.t 32)⟩, []),
  (⟨(some 34), (some (30, true)), .bin .eql (.t 33) (.c (.complex .f64 4617315517961601024 4613937818241073152))⟩, []),
  (⟨(some 35), none, .pick (.t 30) (.t 34) (.c (.bool false))⟩, []),
  (⟨(some 36), none, .mv (.t 35)⟩, []),
  (⟨(some 37), (some (36, true)), .mv (.t 2)⟩, []),
  (⟨(some 38), (some (36, true)), .iad 1 (.t 37) (.c (.int .i64 1))⟩, []),
  (⟨(some 39), (some (36, true)), .load 1 false (.t 38)⟩, []),
  (⟨(some 40), (some (36, true)), .bin .eql (.t 39) (.c (.complex .f64 4621256167635550208 4607182418800017408))⟩, []),
  (⟨(some 41), none, .pick (.t 36) (.t 40) (.c (.bool false))⟩, []),
  (⟨(some 42), none, .mv (.t 41)⟩, []),
  (⟨(some 43), (some (42, true)), .mv (.t 3)⟩, []),
  (⟨(some 44), (some (42, true)), .len (.t 43)⟩, []),
  (⟨(some 45), (some (42, true)), .bin .eql (.t 44) (.c (.int .i64 2))⟩, []),
  (⟨(some 46), none, .pick (.t 42) (.t 45) (.c (.bool false))⟩, []),
  (⟨(some 47), none, .mv (.t 46)⟩, []),
  (⟨(some 48), (some (47, true)), .mv (.t 3)⟩, []),
  (⟨(some 49), (some (47, true)), .iad 1 (.t 48) (.c (.int .i64 0))⟩, []),
  (⟨(some 50), (some (47, true)), .load 1 false (.t 49)⟩, []),
  (⟨(some 51), (some (47, true)), .bin .eql (.t 50) (.c (.complex .f64 4613937818241073152 4611686018427387904))⟩, []),
  (⟨(some 52), none, .pick (.t 47) (.t 51) (.c (.bool false))⟩, []),
  (⟨(some 53), none, .mv (.t 52)⟩, []),
  (⟨(some 54), (some (53, true)), .mv (.t 3)⟩, []),
  (⟨(some 55), (some (53, true)), .iad 1 (.t 54) (.c (.int .i64 1))⟩, []),
  (⟨(some 56), (some (53, true)), .load 1 false (.t 55)⟩, []),
  (⟨(some 57), (some (53, true)), .bin .eql (.t 56) (.c (.complex .f64 4620693217682128896 4607182418800017408))⟩, []),
  (⟨(some 58), none, .pick (.t 53) (.t 57) (.c (.bool false))⟩, []),
  (⟨(some 59), none, .mv (.t 58)⟩, []),
  (⟨(some 60), (some (59, true)), .mv (.t 1)⟩, []),
  (⟨(some 61), (some (59, true)), .call 15 [(.t 60), (.c (.int .i64 4))]⟩, []),
  (⟨(some 62), none, .pick (.t 59) (.t 61) (.c (.bool false))⟩, []),
  (⟨(some 63), none, .mv (.t 62)⟩, []),
  (⟨(some 64), (some (63, true)), .mv (.t 1)⟩, []),
  (⟨(some 65), (some (63, true)), .call 15 [(.t 64), (.c (.int .i64 5))]⟩, []),
  (⟨(some 66), (some (63, true)), .un .not (.t 65)⟩, []),
  (⟨(some 67), none, .pick (.t 63) (.t 66) (.c (.bool false))⟩, []),
  (⟨(some 68), none, .mv (.t 67)⟩, []),
  (⟨(some 69), (some (68, true)), .mv (.t 1)⟩, []),
  (⟨(some 70), (some (68, true)), .call 13 [(.t 69), (.c (.int .i64 9))]⟩, []),
  (⟨(some 71), none, .pick (.t 68) (.t 70) (.c (.bool false))⟩, []),
  (⟨(some 72), none, .mv (.t 71)⟩, []),
  (⟨(some 73), (some (72, true)), .mv (.t 1)⟩, []),
  (⟨(some 74), (some (72, true)), .call 13 [(.t 73), (.c (.int .i64 8))]⟩, []),
  (⟨(some 75), (some (72, true)), .un .not (.t 74)⟩, []),
  (⟨(some 76), none, .pick (.t 72) (.t 75) (.c (.bool false))⟩, []),
  (⟨(some 77), none, .mv (.t 76)⟩, []),
  (⟨(some 78), (some (77, true)), .bslice 1 2 [(.complex .f64 0 0)] [(0, (.c (.complex .f64 0 4611686018427387904))), (1, (.c (.complex .f64 4611686018427387904 4607182418800017408)))]⟩, []),
  (⟨(some 79), (some (77, true)), .call 13 [(.t 78), (.c (.int .i64 9))]⟩, []),
  (⟨(some 80), (some (77, true)), .un .not (.t 79)⟩, []),
  (⟨(some 81), none, .pick (.t 77) (.t 80) (.c (.bool false))⟩, []),
  (⟨(some 82), none, .mv (.t 81)⟩, []),
  (⟨(some 83), (some (82, true)), .call 36 [(.c (.int .i64 (-1))), (.c (.int .i64 1125899906842624))]⟩, []),
  (⟨(some 84), (some (82, true)), .bin .eql (.t 83) (.c (.complex .f64 0 4787326403894837248))⟩, []),
  (⟨(some 85), none, .pick (.t 82) (.t 84) (.c (.bool false))⟩, []),
  (⟨(some 86), none, .mv (.t 85)⟩, []),
  (⟨(some 87), (some (86, true)), .call 34 [(.c (.complex .f64 4613937818241073152 4616189618054758400))]⟩, []),
  (⟨(some 88), (some (86, true)), .bin .eql (.t 87) (.c (.int .i64 3))⟩, []),
  (⟨(some 89), none, .pick (.t 86) (.t 88) (.c (.bool false))⟩, []),
  (⟨(some 90), none, .mv (.t 89)⟩, []),
  (⟨(some 91), (some (90, true)), .call 18 [(.c (.complex .f64 4613937818241073152 4616189618054758400))]⟩, []),
  (⟨(some 92), (some (90, true)), .bin .eql (.t 91) (.c (.int .i64 4))⟩, []),
  (⟨(some 93), none, .pick (.t 90) (.t 92) (.c (.bool false))⟩, []),
  (⟨(some 0), none, .mv (.t 93)⟩, [])] (some ([0], []))
/-- steamer/steamerlaw2.told : 0 parameters, results in [0] of 94 slots -/
abbrev l16 : LC := (.seq l16r0 (.seq l16r1 (.seq l16r2 (.seq l16r3 (.seq l16r4 .ret)))))
def k16 (i : Nat) : Option Kp := match i with
  | 0 => (some ([], []))
  | 1 => (some ([1], []))
  | 2 => (some ([1, 2], []))
  | 3 => (some ([1, 3, 2], []))
  | 4 => (some ([0], []))
  | _ => none
theorem f16_told : Try.prog.funcs[16]? = some Try.f16 := by kernel_rfl
theorem f16_results : resTmps Try.f16 = some [0] := by kernel_rfl
theorem f16_text : (Try.f16.body.bind (trC Try.prog 94 k16 1000)) = some l16 := by kernel_rfl

abbrev l17r0 : LC := .reg false [(⟨(some 6), none, .mv (.c (.slice none 0 0))⟩, [])] (some ([0, 2, 1], []))
abbrev l17r1 : LC := .reg false [(⟨(some 13), none, .mv (.t 1)⟩, []),
  (⟨(some 14), none, .mv (.t 2)⟩, []),
  (⟨(some 15), none, .call 36 [(.t 13), (.t 14)]⟩, []),
  (⟨(some 7), none, .mv (.t 15)⟩, [])] (some ([7, 0], []))
abbrev l17r2 : LC := .reg false [(⟨(some 8), none, .mv (.c (.slice none 0 0))⟩, [])] (some ([8, 7, 0], [.slot 8 508 1]))
abbrev l17r3 : LC := .reg false [(⟨(some 16), none, .mv (.t 0)⟩, []),
  (⟨(some 17), none, .call 11 [(.t 16)]⟩, []),
  (⟨(some 18), none, .len (.t 17)⟩, []),
  (⟨(some 19), none, .mv (.c (.int .i64 0))⟩, [])] (some ([19, 8, 7, 17, 18], []))
abbrev l17r4 : LC := .reg false [(⟨(some 20), none, .bin .lss (.t 19) (.t 18)⟩, [])] (some ([7, 17, 18, 19, 8, 20], []))
abbrev l17r5 : LC := .reg false [(⟨(some 21), none, .iad 1 (.t 17) (.t 19)⟩, []),
  (⟨(some 22), none, .load 1 false (.t 21)⟩, []),
  (⟨(some 10), none, .mv (.t 22)⟩, [])] (some ([7, 17, 18, 19, 8, 10], []))
abbrev l17r6 : LC := .reg false [(⟨(some 23), none, .mv (.t 10)⟩, []),
  (⟨(some 24), none, .call 34 [(.t 23)]⟩, []),
  (⟨(some 25), none, .mv (.t 7)⟩, []),
  (⟨(some 26), none, .call 34 [(.t 25)]⟩, []),
  (⟨(some 27), none, .mm true (.t 24) (.t 26)⟩, []),
  (⟨(some 28), none, .mv (.t 10)⟩, []),
  (⟨(some 29), none, .call 35 [(.t 28)]⟩, []),
  (⟨(some 30), none, .mv (.t 7)⟩, []),
  (⟨(some 31), none, .call 35 [(.t 30)]⟩, []),
  (⟨(some 32), none, .mm false (.t 29) (.t 31)⟩, []),
  (⟨(some 11), none, .mv (.t 27)⟩, []),
  (⟨(some 12), none, .mv (.t 32)⟩, [])] (some ([7, 17, 18, 19, 11, 12, 8], []))
abbrev l17r7 : LC := .reg false [(⟨(some 33), none, .mv (.t 12)⟩, []),
  (⟨(some 34), none, .mv (.t 11)⟩, []),
  (⟨(some 35), none, .bin .gtr (.t 33) (.t 34)⟩, [])] (some ([7, 17, 18, 19, 11, 12, 8, 35], []))
abbrev l17r8 : LC := .reg false [(⟨(some 36), none, .mv (.t 8)⟩, []),
  (⟨(some 37), none, .mv (.t 11)⟩, []),
  (⟨(some 38), none, .mv (.t 12)⟩, []),
  (⟨(some 39), none, .mv (.t 11)⟩, []),
  (⟨(some 40), none, .bin .sub (.t 38) (.t 39)⟩, []),
  (⟨(some 41), none, .call 36 [(.t 37), (.t 40)]⟩, []),
  (⟨(some 42), none, .bslice 1 1 [(.complex .f64 0 0)] [(0, (.t 41))]⟩, []),
  (⟨(some 43), none, .app 1 16 [(.complex .f64 0 0)] (.t 36) (.t 42)⟩, []),
  (⟨(some 8), none, .mv (.t 43)⟩, [])] (some ([8, 7, 17, 18, 19], []))
abbrev l17r9 : LC := .reg false [(⟨(some 44), none, .bin .add (.t 19) (.c (.int .i64 1))⟩, []),
  (⟨(some 19), none, .mv (.t 44)⟩, [])] (some ([19, 8, 7, 17, 18], []))
abbrev l17r10 : LC := (.seq l17r4 (.seq (.cond (.t 20) .skip (.exit 0)) (.seq (.block 1 (.seq l17r5 (.seq l17r6 (.seq l17r7 (.cond (.t 35) l17r8 .skip))))) l17r9)))
abbrev l17r11 : LC := .reg false [(⟨(some 45), none, .mv (.t 8)⟩, []),
  (⟨(some 6), none, .mv (.t 45)⟩, [])] (some ([6], []))
/-- steamer/extent.Meet : 3 parameters, results in [6] of 46 slots -/
abbrev l17 : LC := (.seq l17r0 (.seq l17r1 (.seq l17r2 (.seq (.seq l17r3 (.block 0 (.loop l17r10))) (.seq l17r11 .ret)))))
def k17 (i : Nat) : Option Kp := match i with
  | 0 => (some ([0, 2, 1], []))
  | 1 => (some ([7, 0], []))
  | 2 => (some ([8, 7, 0], [.slot 8 508 1]))
  | 3 => (some ([19, 8, 7, 17, 18], []))
  | 4 => (some ([7, 17, 18, 19, 8, 20], []))
  | 5 => (some ([7, 17, 18, 19, 8, 10], []))
  | 6 => (some ([7, 17, 18, 19, 11, 12, 8], []))
  | 7 => (some ([7, 17, 18, 19, 11, 12, 8, 35], []))
  | 8 => (some ([8, 7, 17, 18, 19], []))
  | 9 => (some ([19, 8, 7, 17, 18], []))
  | 10 => (some ([6], []))
  | _ => none
theorem f17_told : Try.prog.funcs[17]? = some Try.f17 := by kernel_rfl
theorem f17_results : resTmps Try.f17 = some [6] := by kernel_rfl
theorem f17_text : (Try.f17.body.bind (trC Try.prog 46 k17 1000)) = some l17 := by kernel_rfl

abbrev l18r0 : LC := .reg false [(⟨(some 2), none, .mv (.c (.int .i64 0))⟩, [])] (some ([0], []))
abbrev l18r1 : LC := .reg false [(⟨(some 3), none, .mv (.t 0)⟩, []),
  (⟨(some 4), none, .fu .im (.t 3)⟩, []),
  (⟨(some 5), none, .call 38 [(.t 4)]⟩, []),
  (⟨(some 2), none, .mv (.t 5)⟩, [])] (some ([2], []))
/-- steamer/extent.Long : 1 parameters, results in [2] of 6 slots -/
abbrev l18 : LC := (.seq l18r0 (.seq l18r1 .ret))
def k18 (i : Nat) : Option Kp := match i with
  | 0 => (some ([0], []))
  | 1 => (some ([2], []))
  | _ => none
theorem f18_told : Try.prog.funcs[18]? = some Try.f18 := by kernel_rfl
theorem f18_results : resTmps Try.f18 = some [2] := by kernel_rfl
theorem f18_text : (Try.f18.body.bind (trC Try.prog 6 k18 1000)) = some l18 := by kernel_rfl

abbrev l30r0 : LC := .reg false [(⟨(some 2), none, .mv (.c (.slice none 0 0))⟩, [])] (some ([0], []))
abbrev l30r1 : LC := .reg false [(⟨(some 3), none, .mv (.t 0)⟩, []),
  (⟨(some 4), none, .eqn false (.t 3)⟩, [])] (some ([0, 4], []))
abbrev l30r2 : LC := .reg false [(⟨(some 2), none, .mv (.c (.slice none 0 0))⟩, [])] (some ([2], [.slot 2 502 1]))
abbrev l30r3 : LC := .reg false [(⟨(some 5), none, .bslice 1 0 [(.complex .f64 0 0)] []⟩, []),
  (⟨(some 6), none, .mv (.t 0)⟩, []),
  (⟨(some 7), none, .app 1 16 [(.complex .f64 0 0)] (.t 5) (.t 6)⟩, []),
  (⟨(some 2), none, .mv (.t 7)⟩, [])] (some ([2], []))
/-- slices.Clone[[]complex128,complex128] : 1 parameters, results in [2] of 8 slots -/
abbrev l30 : LC := (.seq l30r0 (.seq (.seq l30r1 (.cond (.t 4) (.seq l30r2 .ret) .skip)) (.seq l30r3 .ret)))
def k30 (i : Nat) : Option Kp := match i with
  | 0 => (some ([0], []))
  | 1 => (some ([0, 4], []))
  | 2 => (some ([2], [.slot 2 502 1]))
  | 3 => (some ([2], []))
  | _ => none
theorem f30_told : Try.prog.funcs[30]? = some Try.f30 := by kernel_rfl
theorem f30_results : resTmps Try.f30 = some [2] := by kernel_rfl
theorem f30_text : (Try.f30.body.bind (trC Try.prog 8 k30 1000)) = some l30 := by kernel_rfl

abbrev l31r0 : LC := .reg false [(⟨(some 4), none, .mv (.t 0)⟩, []),
  (⟨(some 5), none, .mv (.t 0)⟩, []),
  (⟨(some 6), none, .len (.t 5)⟩, []),
  (⟨(some 7), none, .mv (.t 1)⟩, []),
  (⟨(some 8), none, .call 50 [(.t 4), (.t 6), (.t 7)]⟩, [])] (some ([], []))
/-- slices.SortStableFunc[[]complex128,complex128] : 2 parameters, results in [] of 9 slots -/
abbrev l31 : LC := l31r0
def k31 (i : Nat) : Option Kp := match i with
  | 0 => (some ([], []))
  | _ => none
theorem f31_told : Try.prog.funcs[31]? = some Try.f31 := by kernel_rfl
theorem f31_results : resTmps Try.f31 = some [] := by kernel_rfl
theorem f31_text : (Try.f31.body.bind (trC Try.prog 9 k31 1000)) = some l31 := by kernel_rfl

abbrev l32r0 : LC := .reg false [(⟨(some 4), none, .mv (.c (.int .i64 0))⟩, [])] (some ([1, 0], []))
abbrev l32r1 : LC := .reg false [(⟨(some 5), none, .mv (.t 0)⟩, []),
  (⟨(some 6), none, .call 34 [(.t 5)]⟩, []),
  (⟨(some 7), none, .mv (.t 1)⟩, []),
  (⟨(some 8), none, .call 34 [(.t 7)]⟩, []),
  (⟨(some 9), none, .call 33 [(.t 6), (.t 8)]⟩, []),
  (⟨(some 4), none, .mv (.t 9)⟩, [])] (some ([4], []))
/-- steamer/extent.Norm$1 : 2 parameters, results in [4] of 10 slots -/
abbrev l32 : LC := (.seq l32r0 (.seq l32r1 .ret))
def k32 (i : Nat) : Option Kp := match i with
  | 0 => (some ([1, 0], []))
  | 1 => (some ([4], []))
  | _ => none
theorem f32_told : Try.prog.funcs[32]? = some Try.f32 := by kernel_rfl
theorem f32_results : resTmps Try.f32 = some [4] := by kernel_rfl
theorem f32_text : (Try.f32.body.bind (trC Try.prog 10 k32 1000)) = some l32 := by kernel_rfl

abbrev l33r0 : LC := .reg false [(⟨(some 4), none, .mv (.c (.int .i64 0))⟩, [])] (some ([1, 0], []))
abbrev l33r1 : LC := .reg false [(⟨(some 7), none, .mv (.t 0)⟩, []),
  (⟨(some 8), none, .call 51 [(.t 7)]⟩, []),
  (⟨(some 5), none, .mv (.t 8)⟩, [])] (some ([1, 0, 5], []))
abbrev l33r2 : LC := .reg false [(⟨(some 9), none, .mv (.t 1)⟩, []),
  (⟨(some 10), none, .call 51 [(.t 9)]⟩, []),
  (⟨(some 6), none, .mv (.t 10)⟩, [])] (some ([6, 1, 0, 5], []))
abbrev l33r3 : LC := .reg false [(⟨(some 11), none, .mv (.t 5)⟩, [])] (some ([6, 1, 0, 11], []))
abbrev l33r4 : LC := .reg false [(⟨(some 12), none, .mv (.t 6)⟩, [])] (some ([12], []))
abbrev l33r5 : LC := .reg false [(⟨(some 4), none, .mv (.c (.int .i64 0))⟩, [])] (some ([4], []))
abbrev l33r6 : LC := .reg false [(⟨(some 4), none, .mv (.c (.int .i64 (-1)))⟩, [])] (some ([4], []))
abbrev l33r7 : LC := .reg false [(⟨(some 13), none, .mv (.t 6)⟩, [])] (some ([1, 0, 13], []))
abbrev l33r8 : LC := .reg false [(⟨(some 4), none, .mv (.c (.int .i64 1))⟩, [])] (some ([4], []))
abbrev l33r9 : LC := .reg false [(⟨(some 14), none, .mv (.t 0)⟩, []),
  (⟨(some 15), none, .mv (.t 1)⟩, []),
  (⟨(some 16), none, .bin .lss (.t 14) (.t 15)⟩, [])] (some ([1, 0, 16], []))
abbrev l33r10 : LC := .reg false [(⟨(some 17), none, .mv (.t 0)⟩, []),
  (⟨(some 18), none, .mv (.t 1)⟩, []),
  (⟨(some 19), none, .bin .gtr (.t 17) (.t 18)⟩, [])] (some ([19], []))
/-- cmp.Compare[int64] : 2 parameters, results in [4] of 20 slots -/
abbrev l33 : LC := (.seq l33r0 (.seq l33r1 (.seq l33r2 (.seq (.seq l33r3 (.cond (.t 11) (.seq (.seq l33r4 (.cond (.t 12) (.seq l33r5 .ret) .skip)) (.seq l33r6 .ret)) .skip)) (.seq (.seq l33r7 (.cond (.t 13) (.seq l33r8 .ret) .skip)) (.seq (.seq l33r9 (.cond (.t 16) (.seq l33r6 .ret) .skip)) (.seq (.seq l33r10 (.cond (.t 19) (.seq l33r8 .ret) .skip)) (.seq l33r5 .ret))))))))
def k33 (i : Nat) : Option Kp := match i with
  | 0 => (some ([1, 0], []))
  | 1 => (some ([1, 0, 5], []))
  | 2 => (some ([6, 1, 0, 5], []))
  | 3 => (some ([6, 1, 0, 11], []))
  | 4 => (some ([12], []))
  | 5 => (some ([4], []))
  | 6 => (some ([4], []))
  | 7 => (some ([1, 0, 13], []))
  | 8 => (some ([4], []))
  | 9 => (some ([1, 0, 16], []))
  | 10 => (some ([4], []))
  | 11 => (some ([19], []))
  | 12 => (some ([4], []))
  | 13 => (some ([4], []))
  | _ => none
theorem f33_told : Try.prog.funcs[33]? = some Try.f33 := by kernel_rfl
theorem f33_results : resTmps Try.f33 = some [4] := by kernel_rfl
theorem f33_text : (Try.f33.body.bind (trC Try.prog 20 k33 1000)) = some l33 := by kernel_rfl

abbrev l34r0 : LC := .reg false [(⟨(some 2), none, .mv (.c (.int .i64 0))⟩, [])] (some ([0], []))
abbrev l34r1 : LC := .reg false [(⟨(some 3), none, .mv (.t 0)⟩, []),
  (⟨(some 4), none, .fu .re (.t 3)⟩, []),
  (⟨(some 5), none, .call 38 [(.t 4)]⟩, []),
  (⟨(some 2), none, .mv (.t 5)⟩, [])] (some ([2], []))
/-- steamer/extent.At : 1 parameters, results in [2] of 6 slots -/
abbrev l34 : LC := (.seq l34r0 (.seq l34r1 .ret))
def k34 (i : Nat) : Option Kp := match i with
  | 0 => (some ([0], []))
  | 1 => (some ([2], []))
  | _ => none
theorem f34_told : Try.prog.funcs[34]? = some Try.f34 := by kernel_rfl
theorem f34_results : resTmps Try.f34 = some [2] := by kernel_rfl
theorem f34_text : (Try.f34.body.bind (trC Try.prog 6 k34 1000)) = some l34 := by kernel_rfl

abbrev l35r0 : LC := .reg false [(⟨(some 2), none, .mv (.c (.int .i64 0))⟩, [])] (some ([0], []))
abbrev l35r1 : LC := .reg false [(⟨(some 3), none, .mv (.t 0)⟩, []),
  (⟨(some 4), none, .call 34 [(.t 3)]⟩, []),
  (⟨(some 5), none, .mv (.t 0)⟩, []),
  (⟨(some 6), none, .call 18 [(.t 5)]⟩, []),
  (⟨(some 7), none, .bin .add (.t 4) (.t 6)⟩, []),
  (⟨(some 2), none, .mv (.t 7)⟩, [])] (some ([2], []))
/-- steamer/extent.end : 1 parameters, results in [2] of 8 slots -/
abbrev l35 : LC := (.seq l35r0 (.seq l35r1 .ret))
def k35 (i : Nat) : Option Kp := match i with
  | 0 => (some ([0], []))
  | 1 => (some ([2], []))
  | _ => none
theorem f35_told : Try.prog.funcs[35]? = some Try.f35 := by kernel_rfl
theorem f35_results : resTmps Try.f35 = some [2] := by kernel_rfl
theorem f35_text : (Try.f35.body.bind (trC Try.prog 8 k35 1000)) = some l35 := by kernel_rfl

abbrev l36r0 : LC := .reg false [(⟨(some 4), none, .mv (.c (.complex .f64 0 0))⟩, [])] (some ([1, 0], []))
abbrev l36r1 : LC := .reg false [(⟨(some 5), none, .mv (.t 0)⟩, []),
  (⟨(some 6), none, .call 37 [(.t 5)]⟩, []),
  (⟨(some 7), none, .fu (.toF .f64) (.t 6)⟩, []),
  (⟨(some 8), none, .mv (.t 1)⟩, []),
  (⟨(some 9), none, .call 37 [(.t 8)]⟩, []),
  (⟨(some 10), none, .fu (.toF .f64) (.t 9)⟩, []),
  (⟨(some 11), none, .fcx (.t 7) (.t 10)⟩, []),
  (⟨(some 4), none, .mv (.t 11)⟩, [])] (some ([4], []))
/-- steamer/extent.Of : 2 parameters, results in [4] of 12 slots -/
abbrev l36 : LC := (.seq l36r0 (.seq l36r1 .ret))
def k36 (i : Nat) : Option Kp := match i with
  | 0 => (some ([1, 0], []))
  | 1 => (some ([4], []))
  | _ => none
theorem f36_told : Try.prog.funcs[36]? = some Try.f36 := by kernel_rfl
theorem f36_results : resTmps Try.f36 = some [4] := by kernel_rfl
theorem f36_text : (Try.f36.body.bind (trC Try.prog 12 k36 1000)) = some l36 := by kernel_rfl

abbrev l37r0 : LC := .reg false [(⟨(some 2), none, .mv (.c (.int .i64 0))⟩, [])] (some ([0], []))
abbrev l37r1 : LC := .reg false [(⟨(some 3), none, .mv (.t 0)⟩, []),
  (⟨(some 4), none, .mm true (.t 3) (.c (.int .i64 0))⟩, []),
  (⟨(some 5), none, .mm false (.t 4) (.c (.int .i64 1099511627776))⟩, []),
  (⟨(some 2), none, .mv (.t 5)⟩, [])] (some ([2], []))
/-- steamer/extent.cut : 1 parameters, results in [2] of 6 slots -/
abbrev l37 : LC := (.seq l37r0 (.seq l37r1 .ret))
def k37 (i : Nat) : Option Kp := match i with
  | 0 => (some ([0], []))
  | 1 => (some ([2], []))
  | _ => none
theorem f37_told : Try.prog.funcs[37]? = some Try.f37 := by kernel_rfl
theorem f37_results : resTmps Try.f37 = some [2] := by kernel_rfl
theorem f37_text : (Try.f37.body.bind (trC Try.prog 6 k37 1000)) = some l37 := by kernel_rfl

abbrev l38r0 : LC := .reg false [(⟨(some 2), none, .mv (.c (.int .i64 0))⟩, [])] (some ([0], []))
abbrev l38r1 : LC := .reg false [(⟨(some 4), none, .mv (.t 0)⟩, []),
  (⟨(some 5), none, .bin .gtr (.t 4) (.c (.float .f64 0))⟩, []),
  (⟨(some 6), none, .un .not (.t 5)⟩, []),
  (⟨(some 3), none, .mv (.t 6)⟩, [])] (some ([0, 3], []))
abbrev l38r2 : LC := .reg false [(⟨(some 2), none, .mv (.c (.int .i64 0))⟩, [])] (some ([2], []))
abbrev l38r3 : LC := .reg false [(⟨(some 8), none, .mv (.t 0)⟩, []),
  (⟨(some 9), none, .bin .gtr (.t 8) (.c (.float .f64 4787326403894837248))⟩, []),
  (⟨(some 7), none, .mv (.t 9)⟩, [])] (some ([0, 7], []))
abbrev l38r4 : LC := .reg false [(⟨(some 2), none, .mv (.c (.int .i64 1099511627776))⟩, [])] (some ([2], []))
abbrev l38r5 : LC := .reg false [(⟨(some 10), none, .mv (.t 0)⟩, []),
  (⟨(some 11), none, .toInt .i64 (.t 10)⟩, []),
  (⟨(some 2), none, .mv (.t 11)⟩, [])] (some ([2], []))
/-- steamer/extent.whole : 1 parameters, results in [2] of 12 slots -/
abbrev l38 : LC := (.seq l38r0 (.seq (.block 0 (.seq l38r1 (.cond (.t 3) (.seq l38r2 .ret) (.seq l38r3 (.cond (.t 7) (.seq l38r4 .ret) .skip))))) (.seq l38r5 .ret)))
def k38 (i : Nat) : Option Kp := match i with
  | 0 => (some ([0], []))
  | 1 => (some ([0, 3], []))
  | 2 => (some ([2], []))
  | 3 => (some ([0, 7], []))
  | 4 => (some ([2], []))
  | 5 => (some ([2], []))
  | _ => none
theorem f38_told : Try.prog.funcs[38]? = some Try.f38 := by kernel_rfl
theorem f38_results : resTmps Try.f38 = some [2] := by kernel_rfl
theorem f38_text : (Try.f38.body.bind (trC Try.prog 12 k38 1000)) = some l38 := by kernel_rfl

abbrev l50r0 : LC := .reg false [(⟨(some 6), none, .mv (.c (.int .i64 20))⟩, [])] (some ([6, 2, 0, 1], []))
abbrev l50r1 : LC := .reg false [(⟨(some 10), none, .mv (.t 6)⟩, []),
  (⟨(some 7), none, .mv (.c (.int .i64 0))⟩, []),
  (⟨(some 8), none, .mv (.t 10)⟩, [])] (some ([6, 8, 2, 7, 0, 1], []))
abbrev l50r2 : LC := .reg false [(⟨(some 11), none, .mv (.t 8)⟩, []),
  (⟨(some 12), none, .mv (.t 1)⟩, []),
  (⟨(some 13), none, .bin .leq (.t 11) (.t 12)⟩, [])] (some ([6, 2, 0, 1, 8, 7, 13], []))
abbrev l50r3 : LC := .reg false [(⟨(some 14), none, .mv (.t 0)⟩, []),
  (⟨(some 15), none, .mv (.t 7)⟩, []),
  (⟨(some 16), none, .mv (.t 8)⟩, []),
  (⟨(some 17), none, .mv (.t 2)⟩, []),
  (⟨(some 18), none, .call 60 [(.t 14), (.t 15), (.t 16), (.t 17)]⟩, [])] (some ([6, 2, 0, 1, 8], []))
abbrev l50r4 : LC := .reg false [(⟨(some 19), none, .mv (.t 8)⟩, []),
  (⟨(some 7), none, .mv (.t 19)⟩, [])] (some ([6, 2, 7, 0, 1, 8], []))
abbrev l50r5 : LC := .reg false [(⟨(some 20), none, .mv (.t 8)⟩, []),
  (⟨(some 21), none, .mv (.t 6)⟩, []),
  (⟨(some 22), none, .bin .add (.t 20) (.t 21)⟩, []),
  (⟨(some 8), none, .mv (.t 22)⟩, [])] (some ([6, 8, 2, 7, 0, 1], []))
abbrev l50r6 : LC := (.seq (.seq l50r2 (.cond (.t 13) .skip (.exit 0))) (.block 1 (.seq l50r3 (.seq l50r4 l50r5))))
abbrev l50r7 : LC := .reg false [(⟨(some 23), none, .mv (.t 0)⟩, []),
  (⟨(some 24), none, .mv (.t 7)⟩, []),
  (⟨(some 25), none, .mv (.t 1)⟩, []),
  (⟨(some 26), none, .mv (.t 2)⟩, []),
  (⟨(some 27), none, .call 60 [(.t 23), (.t 24), (.t 25), (.t 26)]⟩, [])] (some ([6, 2, 0, 1], []))
abbrev l50r8 : LC := .reg false [(⟨(some 28), none, .mv (.t 6)⟩, []),
  (⟨(some 29), none, .mv (.t 1)⟩, []),
  (⟨(some 30), none, .bin .lss (.t 28) (.t 29)⟩, [])] (some ([6, 2, 0, 1, 30], []))
abbrev l50r9 : LC := .reg false [(⟨(some 31), none, .mv (.t 6)⟩, []),
  (⟨(some 32), none, .bin .mul (.c (.int .i64 2)) (.t 31)⟩, []),
  (⟨(some 7), none, .mv (.c (.int .i64 0))⟩, []),
  (⟨(some 8), none, .mv (.t 32)⟩, [])] (some ([6, 8, 2, 7, 0, 1], []))
abbrev l50r10 : LC := .reg false [(⟨(some 33), none, .mv (.t 8)⟩, []),
  (⟨(some 34), none, .mv (.t 1)⟩, []),
  (⟨(some 35), none, .bin .leq (.t 33) (.t 34)⟩, [])] (some ([6, 2, 0, 1, 8, 7, 35], []))
abbrev l50r11 : LC := .reg false [(⟨(some 36), none, .mv (.t 0)⟩, []),
  (⟨(some 37), none, .mv (.t 7)⟩, []),
  (⟨(some 38), none, .mv (.t 7)⟩, []),
  (⟨(some 39), none, .mv (.t 6)⟩, []),
  (⟨(some 40), none, .bin .add (.t 38) (.t 39)⟩, []),
  (⟨(some 41), none, .mv (.t 8)⟩, []),
  (⟨(some 42), none, .mv (.t 2)⟩, []),
  (⟨(some 43), none, .call 61 [(.t 36), (.t 37), (.t 40), (.t 41), (.t 42)]⟩, [])] (some ([6, 2, 0, 1, 8], []))
abbrev l50r12 : LC := .reg false [(⟨(some 44), none, .mv (.t 8)⟩, []),
  (⟨(some 7), none, .mv (.t 44)⟩, [])] (some ([6, 2, 7, 0, 1, 8], []))
abbrev l50r13 : LC := .reg false [(⟨(some 45), none, .mv (.t 8)⟩, []),
  (⟨(some 46), none, .mv (.t 6)⟩, []),
  (⟨(some 47), none, .bin .mul (.c (.int .i64 2)) (.t 46)⟩, []),
  (⟨(some 48), none, .bin .add (.t 45) (.t 47)⟩, []),
  (⟨(some 8), none, .mv (.t 48)⟩, [])] (some ([6, 8, 2, 7, 0, 1], []))
abbrev l50r14 : LC := (.seq (.seq l50r10 (.cond (.t 35) .skip (.exit 4))) (.block 5 (.seq l50r11 (.seq l50r12 l50r13))))
abbrev l50r15 : LC := .reg false [(⟨(some 49), none, .mv (.t 7)⟩, []),
  (⟨(some 50), none, .mv (.t 6)⟩, []),
  (⟨(some 51), none, .bin .add (.t 49) (.t 50)⟩, []),
  (⟨(some 9), none, .mv (.t 51)⟩, [])] (some ([2, 0, 1, 6, 9, 7], []))
abbrev l50r16 : LC := .reg false [(⟨(some 52), none, .mv (.t 9)⟩, []),
  (⟨(some 53), none, .mv (.t 1)⟩, []),
  (⟨(some 54), none, .bin .lss (.t 52) (.t 53)⟩, [])] (some ([2, 0, 1, 6, 9, 7, 54], []))
abbrev l50r17 : LC := .reg false [(⟨(some 55), none, .mv (.t 0)⟩, []),
  (⟨(some 56), none, .mv (.t 7)⟩, []),
  (⟨(some 57), none, .mv (.t 9)⟩, []),
  (⟨(some 58), none, .mv (.t 1)⟩, []),
  (⟨(some 59), none, .mv (.t 2)⟩, []),
  (⟨(some 60), none, .call 61 [(.t 55), (.t 56), (.t 57), (.t 58), (.t 59)]⟩, [])] (some ([2, 0, 1, 6], []))
abbrev l50r18 : LC := .reg false [(⟨(some 61), none, .mv (.t 6)⟩, []),
  (⟨(some 62), none, .bin .mul (.t 61) (.c (.int .i64 2))⟩, []),
  (⟨(some 6), none, .mv (.t 62)⟩, [])] (some ([6, 2, 0, 1], []))
abbrev l50r19 : LC := (.seq (.seq l50r8 (.cond (.t 30) .skip (.exit 2))) (.block 3 (.seq l50r9 (.seq (.block 4 (.loop l50r14)) (.seq (.seq l50r15 (.seq l50r16 (.cond (.t 54) l50r17 .skip))) l50r18)))))
/-- slices.stableCmpFunc[complex128] : 3 parameters, results in [] of 63 slots -/
abbrev l50 : LC := (.seq l50r0 (.seq l50r1 (.seq (.block 0 (.loop l50r6)) (.seq l50r7 (.block 2 (.loop l50r19))))))
def k50 (i : Nat) : Option Kp := match i with
  | 0 => (some ([6, 2, 0, 1], []))
  | 1 => (some ([6, 8, 2, 7, 0, 1], []))
  | 2 => (some ([6, 2, 0, 1, 8, 7, 13], []))
  | 3 => (some ([6, 2, 0, 1, 8], []))
  | 4 => (some ([6, 2, 7, 0, 1, 8], []))
  | 5 => (some ([6, 8, 2, 7, 0, 1], []))
  | 6 => (some ([6, 2, 0, 1], []))
  | 7 => (some ([6, 2, 0, 1, 30], []))
  | 8 => (some ([6, 8, 2, 7, 0, 1], []))
  | 9 => (some ([6, 2, 0, 1, 8, 7, 35], []))
  | 10 => (some ([6, 2, 0, 1, 8], []))
  | 11 => (some ([6, 2, 7, 0, 1, 8], []))
  | 12 => (some ([6, 8, 2, 7, 0, 1], []))
  | 13 => (some ([2, 0, 1, 6, 9, 7], []))
  | 14 => (some ([2, 0, 1, 6, 9, 7, 54], []))
  | 15 => (some ([2, 0, 1, 6], []))
  | 16 => (some ([6, 2, 0, 1], []))
  | _ => none
theorem f50_told : Try.prog.funcs[50]? = some Try.f50 := by kernel_rfl
theorem f50_results : resTmps Try.f50 = some [] := by kernel_rfl
theorem f50_text : (Try.f50.body.bind (trC Try.prog 63 k50 1000)) = some l50 := by kernel_rfl

abbrev l51r0 : LC := .reg false [(⟨(some 2), none, .mv (.c (.bool false))⟩, [])] (some ([0], []))
abbrev l51r1 : LC := .reg false [(⟨(some 3), none, .mv (.t 0)⟩, []),
  (⟨(some 4), none, .mv (.t 0)⟩, []),
  (⟨(some 5), none, .bin .neq (.t 3) (.t 4)⟩, []),
  (⟨(some 2), none, .mv (.t 5)⟩, [])] (some ([2], []))
/-- cmp.isNaN[int64] : 1 parameters, results in [2] of 6 slots -/
abbrev l51 : LC := (.seq l51r0 (.seq l51r1 .ret))
def k51 (i : Nat) : Option Kp := match i with
  | 0 => (some ([0], []))
  | 1 => (some ([2], []))
  | _ => none
theorem f51_told : Try.prog.funcs[51]? = some Try.f51 := by kernel_rfl
theorem f51_results : resTmps Try.f51 = some [2] := by kernel_rfl
theorem f51_text : (Try.f51.body.bind (trC Try.prog 6 k51 1000)) = some l51 := by kernel_rfl

abbrev l60r0 : LC := .reg false [(⟨(some 10), none, .mv (.t 1)⟩, []),
  (⟨(some 11), none, .bin .add (.t 10) (.c (.int .i64 1))⟩, []),
  (⟨(some 8), none, .mv (.t 11)⟩, [])] (some ([0, 8, 3, 1, 2], []))
abbrev l60r1 : LC := .reg false [(⟨(some 12), none, .mv (.t 8)⟩, []),
  (⟨(some 13), none, .mv (.t 2)⟩, []),
  (⟨(some 14), none, .bin .lss (.t 12) (.t 13)⟩, [])] (some ([0, 3, 1, 2, 8, 14], []))
abbrev l60r2 : LC := .reg false [(⟨(some 17), none, .mv (.t 8)⟩, []),
  (⟨(some 9), none, .mv (.t 17)⟩, [])] (some ([9, 0, 3, 1, 2, 8], []))
abbrev l60r3 : LC := .reg false [(⟨(some 18), none, .mv (.t 9)⟩, []),
  (⟨(some 19), none, .mv (.t 1)⟩, []),
  (⟨(some 20), none, .bin .gtr (.t 18) (.t 19)⟩, []),
  (⟨(some 21), none, .mv (.t 20)⟩, []),
  (⟨(some 22), (some (21, true)), .mv (.t 3)⟩, []),
  (⟨(some 23), (some (21, true)), .mv (.t 0)⟩, []),
  (⟨(some 24), (some (21, true)), .mv (.t 9)⟩, []),
  (⟨(some 25), (some (21, true)), .iad 1 (.t 23) (.t 24)⟩, []),
  (⟨(some 26), (some (21, true)), .load 1 false (.t 25)⟩, []),
  (⟨(some 27), (some (21, true)), .mv (.t 0)⟩, []),
  (⟨(some 28), (some (21, true)), .mv (.t 9)⟩, []),
  (⟨(some 29), (some (21, true)), .bin .sub (.t 28) (.c (.int .i64 1))⟩, []),
  (⟨(some 30), (some (21, true)), .iad 1 (.t 27) (.t 29)⟩, []),
  (⟨(some 31), (some (21, true)), .load 1 false (.t 30)⟩, []),
  (⟨(some 32), (some (21, true)), .callv (.t 22) [(.t 26), (.t 31)]⟩, []),
  (⟨(some 33), (some (21, true)), .bin .lss (.t 32) (.c (.int .i64 0))⟩, []),
  (⟨(some 34), none, .pick (.t 21) (.t 33) (.c (.bool false))⟩, [])] (some ([0, 3, 1, 2, 8, 9, 34], []))
abbrev l60r4 : LC := .reg true [(⟨(some 37), none, .mv (.t 0)⟩, []),
  (⟨(some 38), none, .mv (.t 9)⟩, []),
  (⟨(some 39), none, .mv (.t 0)⟩, []),
  (⟨(some 40), none, .mv (.t 9)⟩, []),
  (⟨(some 41), none, .bin .sub (.t 40) (.c (.int .i64 1))⟩, []),
  (⟨(some 42), none, .mv (.t 0)⟩, []),
  (⟨(some 43), none, .mv (.t 9)⟩, []),
  (⟨(some 44), none, .bin .sub (.t 43) (.c (.int .i64 1))⟩, []),
  (⟨(some 45), none, .iad 1 (.t 42) (.t 44)⟩, []),
  (⟨(some 46), none, .load 1 false (.t 45)⟩, []),
  (⟨(some 47), none, .mv (.t 0)⟩, []),
  (⟨(some 48), none, .mv (.t 9)⟩, []),
  (⟨(some 49), none, .iad 1 (.t 47) (.t 48)⟩, []),
  (⟨(some 50), none, .load 1 false (.t 49)⟩, []),
  (⟨(some 51), none, .iad 1 (.t 37) (.t 38)⟩, []),
  (⟨none, none, .store 1 (.t 51) (.t 46)⟩, [2, 3, 4]),
  (⟨(some 52), none, .iad 1 (.t 39) (.t 41)⟩, []),
  (⟨none, none, .store 1 (.t 52) (.t 50)⟩, [])] (some ([0, 3, 1, 2, 8, 9], []))
abbrev l60r5 : LC := .reg false [(⟨(some 35), none, .mv (.t 9)⟩, []),
  (⟨(some 36), none, .bin .sub (.t 35) (.c (.int .i64 1))⟩, []),
  (⟨(some 9), none, .mv (.t 36)⟩, [])] (some ([9, 0, 3, 1, 2, 8], []))
abbrev l60r6 : LC := (.seq (.seq l60r3 (.cond (.t 34) .skip (.exit 2))) (.seq (.block 3 l60r4) l60r5))
abbrev l60r7 : LC := .reg false [(⟨(some 15), none, .mv (.t 8)⟩, []),
  (⟨(some 16), none, .bin .add (.t 15) (.c (.int .i64 1))⟩, []),
  (⟨(some 8), none, .mv (.t 16)⟩, [])] (some ([0, 8, 3, 1, 2], []))
abbrev l60r8 : LC := (.seq (.seq l60r1 (.cond (.t 14) .skip (.exit 0))) (.seq (.block 1 (.seq l60r2 (.block 2 (.loop l60r6)))) l60r7))
/-- slices.insertionSortCmpFunc[complex128] : 4 parameters, results in [] of 53 slots -/
abbrev l60 : LC := (.seq l60r0 (.block 0 (.loop l60r8)))
def k60 (i : Nat) : Option Kp := match i with
  | 0 => (some ([0, 8, 3, 1, 2], []))
  | 1 => (some ([0, 3, 1, 2, 8, 14], []))
  | 2 => (some ([0, 8, 3, 1, 2], []))
  | 3 => (some ([9, 0, 3, 1, 2, 8], []))
  | 4 => (some ([0, 3, 1, 2, 8, 9, 34], []))
  | 5 => (some ([9, 0, 3, 1, 2, 8], []))
  | 6 => (some ([0, 3, 1, 2, 8, 9], []))
  | _ => none
theorem f60_told : Try.prog.funcs[60]? = some Try.f60 := by kernel_rfl
theorem f60_results : resTmps Try.f60 = some [] := by kernel_rfl
theorem f60_text : (Try.f60.body.bind (trC Try.prog 53 k60 1000)) = some l60 := by kernel_rfl

end Go.Proofs.Ex
