import Derived.Test.YthbonnlhoaeflaaEngS
import Derived.Test.YthbonnlhoaeflaaProg
set_option linter.unusedVariables false
set_option linter.unusedSimpArgs false
namespace Go.Proofs.Me
open Go.RowKit Go.Lib Go.Eng Go.Proofs
set_option maxRecDepth 100000
abbrev l6r0 : LC := .reg false [(⟨(some 2), none, .box 6 (.t 0)⟩, []),
  (⟨(some 3), none, .box 6 (.t 1)⟩, []),
  (⟨(some 4), none, .mv (.c (.bool false))⟩, [])] (some ([2, 3], []))
abbrev l6r1 : LC := .reg false [(⟨(some 9), none, .load 6 true (.t 2)⟩, []),
  (⟨(some 10), none, .call 19 [(.t 9)]⟩, []),
  (⟨(some 11), none, .un .not (.t 10)⟩, []),
  (⟨(some 12), none, .mv (.t 11)⟩, []),
  (⟨(some 13), (some (12, false)), .load 6 true (.t 3)⟩, []),
  (⟨(some 14), (some (12, false)), .call 19 [(.t 13)]⟩, []),
  (⟨(some 15), (some (12, false)), .un .not (.t 14)⟩, []),
  (⟨(some 16), none, .pick (.t 12) (.c (.bool true)) (.t 15)⟩, [])] (some ([2, 3, 16], []))
abbrev l6r2 : LC := .reg false [(⟨(some 17), none, .call 20 []⟩, []),
  (⟨(some 4), none, .mv (.t 17)⟩, [])] (some ([4], []))
abbrev l6r3 : LC := .reg false [(⟨(some 19), none, .fad 4 (.t 2)⟩, []),
  (⟨(some 20), none, .load 1 false (.t 19)⟩, []),
  (⟨(some 21), none, .call 21 [(.t 20)]⟩, []),
  (⟨(some 18), none, .mv (.t 21)⟩, []),
  (⟨(some 22), none, .ext 0 (.t 18)⟩, []),
  (⟨(some 23), none, .ext 1 (.t 18)⟩, []),
  (⟨(some 5), none, .mv (.t 22)⟩, []),
  (⟨(some 6), none, .mv (.t 23)⟩, [])] (some ([2, 3, 5, 6], []))
abbrev l6r4 : LC := .reg false [(⟨(some 25), none, .fad 4 (.t 2)⟩, []),
  (⟨(some 26), none, .load 1 false (.t 25)⟩, []),
  (⟨(some 27), none, .call 22 [(.t 26)]⟩, []),
  (⟨(some 24), none, .mv (.t 27)⟩, []),
  (⟨(some 28), none, .ext 0 (.t 24)⟩, []),
  (⟨(some 29), none, .ext 1 (.t 24)⟩, []),
  (⟨(some 7), none, .mv (.t 28)⟩, []),
  (⟨(some 8), none, .mv (.t 29)⟩, [])] (some ([2, 3, 7, 5, 8, 6], []))
abbrev l6r5 : LC := .reg true [(⟨(some 30), none, .call 20 []⟩, []),
  (⟨(some 31), none, .mv (.t 30)⟩, []),
  (⟨(some 32), (some (31, true)), .load 6 true (.t 2)⟩, []),
  (⟨(some 33), (some (31, true)), .call 23 [(.t 32)]⟩, []),
  (⟨(some 34), (some (31, true)), .load 6 true (.t 2)⟩, [3]),
  (⟨(some 35), (some (31, true)), .call 24 [(.t 34)]⟩, []),
  (⟨(some 36), (some (31, true)), .eqb false (.t 33) (.t 35)⟩, []),
  (⟨(some 37), none, .pick (.t 31) (.t 36) (.c (.bool false))⟩, []),
  (⟨(some 38), none, .mv (.t 37)⟩, []),
  (⟨(some 39), (some (38, true)), .mv (.t 6)⟩, []),
  (⟨(some 40), (some (38, true)), .mv (.t 8)⟩, []),
  (⟨(some 41), (some (38, true)), .bin .eql (.t 39) (.t 40)⟩, []),
  (⟨(some 42), none, .pick (.t 38) (.t 41) (.c (.bool false))⟩, []),
  (⟨(some 43), none, .mv (.t 42)⟩, []),
  (⟨(some 44), (some (43, true)), .mv (.t 5)⟩, []),
  (⟨(some 45), (some (43, true)), .mv (.t 7)⟩, []),
  (⟨(some 46), (some (43, true)), .call 25 [(.t 44), (.t 45)]⟩, []),
  (⟨(some 47), none, .pick (.t 43) (.t 46) (.c (.bool false))⟩, []),
  (⟨(some 48), none, .mv (.t 47)⟩, []),
  (⟨(some 49), (some (48, true)), .load 6 true (.t 2)⟩, []),
  (⟨(some 50), (some (48, true)), .load 6 true (.t 3)⟩, []),
  (⟨(some 51), (some (48, true)), .call 26 [(.t 49), (.t 50)]⟩, []),
  (⟨(some 52), (some (48, true)), .load 6 true (.t 2)⟩, [21]),
  (⟨(some 53), (some (48, true)), .load 6 true (.t 3)⟩, [21]),
  (⟨(some 54), (some (48, true)), .call 27 [(.t 52), (.t 53)]⟩, []),
  (⟨(some 55), (some (48, true)), .bin .eql (.t 51) (.t 54)⟩, []),
  (⟨(some 56), none, .pick (.t 48) (.t 55) (.c (.bool false))⟩, []),
  (⟨(some 57), none, .mv (.t 56)⟩, []),
  (⟨(some 58), (some (57, true)), .load 6 true (.t 2)⟩, []),
  (⟨(some 59), (some (57, true)), .load 6 true (.t 3)⟩, []),
  (⟨(some 60), (some (57, true)), .call 28 [(.t 58), (.t 59)]⟩, []),
  (⟨(some 61), (some (57, true)), .load 6 true (.t 2)⟩, [30]),
  (⟨(some 62), (some (57, true)), .load 6 true (.t 3)⟩, [30]),
  (⟨(some 63), (some (57, true)), .call 27 [(.t 61), (.t 62)]⟩, []),
  (⟨(some 64), (some (57, true)), .bin .eql (.t 63) (.c (.string ⟨#[]⟩))⟩, []),
  (⟨(some 65), (some (57, true)), .eqb false (.t 60) (.t 64)⟩, []),
  (⟨(some 66), none, .pick (.t 57) (.t 65) (.c (.bool false))⟩, []),
  (⟨(some 67), none, .mv (.t 66)⟩, []),
  (⟨(some 68), (some (67, true)), .load 6 true (.t 2)⟩, []),
  (⟨(some 69), (some (67, true)), .call 29 [(.t 68)]⟩, []),
  (⟨(some 70), (some (67, true)), .load 6 true (.t 2)⟩, [39]),
  (⟨(some 71), (some (67, true)), .call 28 [(.t 69), (.t 70)]⟩, []),
  (⟨(some 72), none, .pick (.t 67) (.t 71) (.c (.bool false))⟩, []),
  (⟨(some 4), none, .mv (.t 72)⟩, [])] (some ([4], []))
/-- steamer/steamerlaw4.MetaAsks : 2 parameters, results in [4] of 73 slots -/
abbrev l6 : LC := (.seq l6r0 (.seq (.seq l6r1 (.cond (.t 16) (.seq l6r2 .ret) .skip)) (.seq l6r3 (.seq l6r4 (.seq l6r5 .ret)))))
def k6 (i : Nat) : Option Kp := match i with
  | 0 => (some ([2, 3], []))
  | 1 => (some ([2, 3, 16], []))
  | 2 => (some ([4], []))
  | 3 => (some ([2, 3, 5, 6], []))
  | 4 => (some ([2, 3, 7, 5, 8, 6], []))
  | 5 => (some ([4], []))
  | _ => none
theorem f6_told : Try.prog.funcs[6]? = some Try.f6 := by kernel_rfl
theorem f6_results : resTmps Try.f6 = some [4] := by kernel_rfl
theorem f6_text : (Try.f6.body.bind (trC Try.prog 73 k6 1000)) = some l6 := by kernel_rfl

abbrev l7r0 : LC := .reg false [(⟨(some 2), none, .box 6 (.t 0)⟩, []),
  (⟨(some 4), none, .mv (.c (.bool false))⟩, [])] (some ([2, 1], []))
abbrev l7r1 : LC := .reg false [(⟨(some 7), none, .load 6 true (.t 2)⟩, []),
  (⟨(some 8), none, .call 19 [(.t 7)]⟩, []),
  (⟨(some 9), none, .un .not (.t 8)⟩, []),
  (⟨(some 10), none, .mv (.t 9)⟩, []),
  (⟨(some 11), (some (10, false)), .load 6 true (.t 2)⟩, []),
  (⟨(some 12), (some (10, false)), .call 23 [(.t 11)]⟩, []),
  (⟨(some 13), (some (10, false)), .un .not (.t 12)⟩, []),
  (⟨(some 14), none, .pick (.t 10) (.c (.bool true)) (.t 13)⟩, [])] (some ([2, 1, 14], []))
abbrev l7r2 : LC := .reg false [(⟨(some 15), none, .call 20 []⟩, []),
  (⟨(some 4), none, .mv (.t 15)⟩, [])] (some ([4], []))
abbrev l7r3 : LC := .reg false [(⟨(some 16), none, .load 6 true (.t 2)⟩, []),
  (⟨(some 17), none, .call 29 [(.t 16)]⟩, []),
  (⟨(some 5), none, .alloc [(.int .i64 0), (.int .i64 0), (.int .i64 0), (.int .i64 0), (.slice none 0 0), (.slice none 0 0)]⟩, []),
  (⟨none, none, .store 6 (.t 5) (.t 17)⟩, [])] (some ([5, 2, 1], []))
abbrev l7r4 : LC := .reg false [(⟨(some 6), none, .mv (.c (.string ⟨#[]⟩))⟩, [])] (some ([5, 2, 1], []))
abbrev l7r5 : LC := .reg false [(⟨(some 18), none, .mv (.t 1)⟩, []),
  (⟨(some 19), none, .toInt .u64 (.t 18)⟩, []),
  (⟨(some 20), none, .bin .rem (.t 19) (.c (.int .u64 6))⟩, [])] (some ([5, 2, 20], []))
abbrev l7r6 : LC := .reg false [(⟨(some 30), none, .bin .eql (.t 20) (.c (.int .u64 0))⟩, []),
  (⟨(some 29), none, .mv (.t 30)⟩, [])] (some ([5, 2, 20, 29], []))
abbrev l7r7 : LC := .reg false [(⟨(some 31), none, .fad 0 (.t 5)⟩, []),
  (⟨(some 32), none, .load 1 false (.t 31)⟩, []),
  (⟨(some 33), none, .bin .xor (.t 32) (.c (.int .i64 1))⟩, []),
  (⟨(some 34), none, .fad 0 (.t 5)⟩, []),
  (⟨none, none, .store 1 (.t 34) (.t 33)⟩, []),
  (⟨(some 6), none, .mv (.c (.string ⟨#[109, 111, 100, 101]⟩))⟩, [])] (some ([5, 2, 6], []))
abbrev l7r8 : LC := .reg false [(⟨(some 36), none, .bin .eql (.t 20) (.c (.int .u64 1))⟩, []),
  (⟨(some 35), none, .mv (.t 36)⟩, [])] (some ([5, 2, 20, 35], []))
abbrev l7r9 : LC := .reg false [(⟨(some 37), none, .fad 1 (.t 5)⟩, []),
  (⟨(some 38), none, .load 1 false (.t 37)⟩, []),
  (⟨(some 39), none, .bin .xor (.t 38) (.c (.int .i64 1))⟩, []),
  (⟨(some 40), none, .fad 1 (.t 5)⟩, []),
  (⟨none, none, .store 1 (.t 40) (.t 39)⟩, []),
  (⟨(some 6), none, .mv (.c (.string ⟨#[117, 105, 100]⟩))⟩, [])] (some ([5, 2, 6], []))
abbrev l7r10 : LC := .reg false [(⟨(some 42), none, .bin .eql (.t 20) (.c (.int .u64 2))⟩, []),
  (⟨(some 41), none, .mv (.t 42)⟩, [])] (some ([5, 2, 20, 41], []))
abbrev l7r11 : LC := .reg false [(⟨(some 43), none, .fad 2 (.t 5)⟩, []),
  (⟨(some 44), none, .load 1 false (.t 43)⟩, []),
  (⟨(some 45), none, .bin .xor (.t 44) (.c (.int .i64 1))⟩, []),
  (⟨(some 46), none, .fad 2 (.t 5)⟩, []),
  (⟨none, none, .store 1 (.t 46) (.t 45)⟩, []),
  (⟨(some 6), none, .mv (.c (.string ⟨#[103, 105, 100]⟩))⟩, [])] (some ([5, 2, 6], []))
abbrev l7r12 : LC := .reg false [(⟨(some 48), none, .bin .eql (.t 20) (.c (.int .u64 3))⟩, []),
  (⟨(some 47), none, .mv (.t 48)⟩, [])] (some ([5, 2, 20, 47], []))
abbrev l7r13 : LC := .reg false [(⟨(some 49), none, .fad 3 (.t 5)⟩, []),
  (⟨(some 50), none, .load 1 false (.t 49)⟩, []),
  (⟨(some 51), none, .bin .xor (.t 50) (.c (.int .i64 1))⟩, []),
  (⟨(some 52), none, .fad 3 (.t 5)⟩, []),
  (⟨none, none, .store 1 (.t 52) (.t 51)⟩, []),
  (⟨(some 6), none, .mv (.c (.string ⟨#[116, 105, 109, 101]⟩))⟩, [])] (some ([5, 2, 6], []))
abbrev l7r14 : LC := .reg false [(⟨(some 54), none, .bin .eql (.t 20) (.c (.int .u64 4))⟩, []),
  (⟨(some 53), none, .mv (.t 54)⟩, [])] (some ([5, 2, 53], []))
abbrev l7r15 : LC := .reg false [(⟨(some 55), none, .bslice 2 0 [(.string ⟨#[]⟩), (.string ⟨#[]⟩)] []⟩, []),
  (⟨(some 56), none, .fad 4 (.t 5)⟩, []),
  (⟨(some 57), none, .load 1 false (.t 56)⟩, []),
  (⟨(some 58), none, .app 2 32 [(.string ⟨#[]⟩), (.string ⟨#[]⟩)] (.t 55) (.t 57)⟩, []),
  (⟨(some 59), none, .build [(.string ⟨#[]⟩), (.string ⟨#[]⟩)] [(0, 1, (.c (.string ⟨#[122, 122, 122]⟩)))]⟩, []),
  (⟨(some 60), none, .bslice 2 1 [(.string ⟨#[]⟩), (.string ⟨#[]⟩)] [(0, (.t 59))]⟩, []),
  (⟨(some 61), none, .app 2 32 [(.string ⟨#[]⟩), (.string ⟨#[]⟩)] (.t 58) (.t 60)⟩, []),
  (⟨(some 62), none, .fad 4 (.t 5)⟩, []),
  (⟨none, none, .store 1 (.t 62) (.t 61)⟩, []),
  (⟨(some 6), none, .mv (.c (.string ⟨#[97, 116, 116, 114, 115]⟩))⟩, [])] (some ([5, 2, 6], []))
abbrev l7r16 : LC := .reg false [(⟨(some 21), none, .bslice 3 0 [(.int .i64 0), (.int .i64 0), (.int .i64 0)] []⟩, []),
  (⟨(some 22), none, .fad 5 (.t 5)⟩, []),
  (⟨(some 23), none, .load 1 false (.t 22)⟩, []),
  (⟨(some 24), none, .app 3 24 [(.int .i64 0), (.int .i64 0), (.int .i64 0)] (.t 21) (.t 23)⟩, []),
  (⟨(some 25), none, .build [(.int .i64 0), (.int .i64 0), (.int .i64 0)] [(0, 1, (.c (.int .i64 1))), (1, 1, (.c (.int .i64 9)))]⟩, []),
  (⟨(some 26), none, .bslice 3 1 [(.int .i64 0), (.int .i64 0), (.int .i64 0)] [(0, (.t 25))]⟩, []),
  (⟨(some 27), none, .app 3 24 [(.int .i64 0), (.int .i64 0), (.int .i64 0)] (.t 24) (.t 26)⟩, []),
  (⟨(some 28), none, .fad 5 (.t 5)⟩, []),
  (⟨none, none, .store 1 (.t 28) (.t 27)⟩, []),
  (⟨(some 6), none, .mv (.c (.string ⟨#[97, 99, 108]⟩))⟩, [])] (some ([5, 2, 6], []))
abbrev l7r17 : LC := .reg false [(⟨(some 63), none, .call 20 []⟩, []),
  (⟨(some 64), none, .mv (.t 63)⟩, []),
  (⟨(some 65), (some (64, true)), .load 6 true (.t 2)⟩, []),
  (⟨(some 66), (some (64, true)), .load 6 true (.t 5)⟩, []),
  (⟨(some 67), (some (64, true)), .call 26 [(.t 65), (.t 66)]⟩, []),
  (⟨(some 68), (some (64, true)), .mv (.t 6)⟩, []),
  (⟨(some 69), (some (64, true)), .bin .eql (.t 67) (.t 68)⟩, []),
  (⟨(some 70), none, .pick (.t 64) (.t 69) (.c (.bool false))⟩, []),
  (⟨(some 71), none, .mv (.t 70)⟩, []),
  (⟨(some 72), (some (71, true)), .load 6 true (.t 5)⟩, []),
  (⟨(some 73), (some (71, true)), .load 6 true (.t 2)⟩, []),
  (⟨(some 74), (some (71, true)), .call 26 [(.t 72), (.t 73)]⟩, []),
  (⟨(some 75), (some (71, true)), .mv (.t 6)⟩, []),
  (⟨(some 76), (some (71, true)), .bin .eql (.t 74) (.t 75)⟩, []),
  (⟨(some 77), none, .pick (.t 71) (.t 76) (.c (.bool false))⟩, []),
  (⟨(some 78), none, .mv (.t 77)⟩, []),
  (⟨(some 79), (some (78, true)), .load 6 true (.t 2)⟩, []),
  (⟨(some 80), (some (78, true)), .load 6 true (.t 5)⟩, []),
  (⟨(some 81), (some (78, true)), .call 28 [(.t 79), (.t 80)]⟩, []),
  (⟨(some 82), (some (78, true)), .un .not (.t 81)⟩, []),
  (⟨(some 83), none, .pick (.t 78) (.t 82) (.c (.bool false))⟩, []),
  (⟨(some 4), none, .mv (.t 83)⟩, [])] (some ([4], []))
/-- steamer/steamerlaw4.MetaParts : 2 parameters, results in [4] of 84 slots -/
abbrev l7 : LC := (.seq l7r0 (.seq (.seq l7r1 (.cond (.t 14) (.seq l7r2 .ret) .skip)) (.seq l7r3 (.seq l7r4 (.seq (.seq l7r5 (.block 0 (.seq l7r6 (.cond (.t 29) l7r7 (.seq l7r8 (.cond (.t 35) l7r9 (.seq l7r10 (.cond (.t 41) l7r11 (.seq l7r12 (.cond (.t 47) l7r13 (.seq l7r14 (.cond (.t 53) l7r15 l7r16)))))))))))) (.seq l7r17 .ret))))))
def k7 (i : Nat) : Option Kp := match i with
  | 0 => (some ([2, 1], []))
  | 1 => (some ([2, 1, 14], []))
  | 2 => (some ([4], []))
  | 3 => (some ([5, 2, 1], []))
  | 4 => (some ([5, 2, 1], []))
  | 5 => (some ([5, 2, 20], []))
  | 6 => (some ([5, 2, 6], []))
  | 7 => (some ([5, 2, 20, 29], []))
  | 8 => (some ([5, 2, 6], []))
  | 9 => (some ([5, 2, 20, 35], []))
  | 10 => (some ([5, 2, 6], []))
  | 11 => (some ([5, 2, 20, 41], []))
  | 12 => (some ([5, 2, 6], []))
  | 13 => (some ([5, 2, 20, 47], []))
  | 14 => (some ([5, 2, 6], []))
  | 15 => (some ([5, 2, 53], []))
  | 16 => (some ([5, 2, 6], []))
  | 17 => (some ([4], []))
  | _ => none
theorem f7_told : Try.prog.funcs[7]? = some Try.f7 := by kernel_rfl
theorem f7_results : resTmps Try.f7 = some [4] := by kernel_rfl
theorem f7_text : (Try.f7.body.bind (trC Try.prog 84 k7 1000)) = some l7 := by kernel_rfl

abbrev l8r0 : LC := .reg false [(⟨(some 1), none, .box 6 (.t 0)⟩, []),
  (⟨(some 2), none, .mv (.c (.bool false))⟩, [])] (some ([1], []))
abbrev l8r1 : LC := .reg false [(⟨(some 7), none, .load 6 true (.t 1)⟩, []),
  (⟨(some 8), none, .call 19 [(.t 7)]⟩, []),
  (⟨(some 9), none, .un .not (.t 8)⟩, [])] (some ([1, 9], []))
abbrev l8r2 : LC := .reg false [(⟨(some 10), none, .call 20 []⟩, []),
  (⟨(some 2), none, .mv (.t 10)⟩, [])] (some ([2], []))
abbrev l8r3 : LC := .reg true [(⟨(some 11), none, .load 6 true (.t 1)⟩, []),
  (⟨(some 12), none, .call 29 [(.t 11)]⟩, []),
  (⟨(some 13), none, .load 6 true (.t 1)⟩, [1]),
  (⟨(some 14), none, .call 29 [(.t 13)]⟩, []),
  (⟨(some 3), none, .alloc [(.int .i64 0), (.int .i64 0), (.int .i64 0), (.int .i64 0), (.slice none 0 0), (.slice none 0 0)]⟩, [0, 1, 2, 3]),
  (⟨(some 4), none, .alloc [(.int .i64 0), (.int .i64 0), (.int .i64 0), (.int .i64 0), (.slice none 0 0), (.slice none 0 0)]⟩, [0, 1, 2, 3, 4]),
  (⟨none, none, .store 6 (.t 3) (.t 12)⟩, []),
  (⟨none, none, .store 6 (.t 4) (.t 14)⟩, [])] (some ([3, 4, 1], []))
abbrev l8r4 : LC := .reg false [(⟨(some 5), none, .mv (.c (.int .i64 0))⟩, [])] (some ([5, 3, 4, 1], []))
abbrev l8r5 : LC := .reg false [(⟨(some 15), none, .mv (.t 5)⟩, []),
  (⟨(some 16), none, .fad 4 (.t 3)⟩, []),
  (⟨(some 17), none, .load 1 false (.t 16)⟩, []),
  (⟨(some 18), none, .len (.t 17)⟩, []),
  (⟨(some 19), none, .bin .lss (.t 15) (.t 18)⟩, [])] (some ([3, 4, 1, 5, 19], []))
abbrev l8r6 : LC := .reg false [(⟨(some 22), none, .fad 4 (.t 3)⟩, []),
  (⟨(some 23), none, .load 1 false (.t 22)⟩, []),
  (⟨(some 24), none, .mv (.t 5)⟩, []),
  (⟨(some 25), none, .fad 4 (.t 3)⟩, []),
  (⟨(some 26), none, .load 1 false (.t 25)⟩, []),
  (⟨(some 27), none, .mv (.t 5)⟩, []),
  (⟨(some 28), none, .iad 2 (.t 26) (.t 27)⟩, []),
  (⟨(some 29), none, .fad 0 (.t 28)⟩, []),
  (⟨(some 30), none, .load 1 false (.t 29)⟩, []),
  (⟨(some 31), none, .bin .add (.t 30) (.c (.string ⟨#[120]⟩))⟩, []),
  (⟨(some 32), none, .iad 2 (.t 23) (.t 24)⟩, []),
  (⟨(some 33), none, .fad 0 (.t 32)⟩, []),
  (⟨none, none, .store 1 (.t 33) (.t 31)⟩, [])] (some ([3, 4, 1, 5], []))
abbrev l8r7 : LC := .reg false [(⟨(some 20), none, .mv (.t 5)⟩, []),
  (⟨(some 21), none, .bin .add (.t 20) (.c (.int .i64 1))⟩, []),
  (⟨(some 5), none, .mv (.t 21)⟩, [])] (some ([5, 3, 4, 1], []))
abbrev l8r8 : LC := (.seq (.seq l8r5 (.cond (.t 19) .skip (.exit 0))) (.seq (.block 1 l8r6) l8r7))
abbrev l8r9 : LC := .reg false [(⟨(some 6), none, .mv (.c (.int .i64 0))⟩, [])] (some ([6, 3, 4, 1], []))
abbrev l8r10 : LC := .reg false [(⟨(some 34), none, .mv (.t 6)⟩, []),
  (⟨(some 35), none, .fad 5 (.t 3)⟩, []),
  (⟨(some 36), none, .load 1 false (.t 35)⟩, []),
  (⟨(some 37), none, .len (.t 36)⟩, []),
  (⟨(some 38), none, .bin .lss (.t 34) (.t 37)⟩, [])] (some ([3, 4, 1, 6, 38], []))
abbrev l8r11 : LC := .reg false [(⟨(some 41), none, .fad 5 (.t 3)⟩, []),
  (⟨(some 42), none, .load 1 false (.t 41)⟩, []),
  (⟨(some 43), none, .mv (.t 6)⟩, []),
  (⟨(some 44), none, .fad 5 (.t 3)⟩, []),
  (⟨(some 45), none, .load 1 false (.t 44)⟩, []),
  (⟨(some 46), none, .mv (.t 6)⟩, []),
  (⟨(some 47), none, .iad 3 (.t 45) (.t 46)⟩, []),
  (⟨(some 48), none, .fad 2 (.t 47)⟩, []),
  (⟨(some 49), none, .load 1 false (.t 48)⟩, []),
  (⟨(some 50), none, .bin .xor (.t 49) (.c (.int .i64 1))⟩, []),
  (⟨(some 51), none, .iad 3 (.t 42) (.t 43)⟩, []),
  (⟨(some 52), none, .fad 2 (.t 51)⟩, []),
  (⟨none, none, .store 1 (.t 52) (.t 50)⟩, [])] (some ([3, 4, 1, 6], []))
abbrev l8r12 : LC := .reg false [(⟨(some 39), none, .mv (.t 6)⟩, []),
  (⟨(some 40), none, .bin .add (.t 39) (.c (.int .i64 1))⟩, []),
  (⟨(some 6), none, .mv (.t 40)⟩, [])] (some ([6, 3, 4, 1], []))
abbrev l8r13 : LC := (.seq (.seq l8r10 (.cond (.t 38) .skip (.exit 2))) (.seq (.block 3 l8r11) l8r12))
abbrev l8r14 : LC := .reg true [(⟨(some 53), none, .call 20 []⟩, []),
  (⟨(some 54), none, .mv (.t 53)⟩, []),
  (⟨(some 55), (some (54, true)), .load 6 true (.t 4)⟩, []),
  (⟨(some 56), (some (54, true)), .load 6 true (.t 1)⟩, []),
  (⟨(some 57), (some (54, true)), .call 28 [(.t 55), (.t 56)]⟩, []),
  (⟨(some 58), none, .pick (.t 54) (.t 57) (.c (.bool false))⟩, []),
  (⟨(some 59), none, .mv (.t 58)⟩, []),
  (⟨(some 60), (some (59, true)), .fad 4 (.t 3)⟩, []),
  (⟨(some 61), (some (59, true)), .load 1 false (.t 60)⟩, []),
  (⟨(some 62), (some (59, true)), .len (.t 61)⟩, []),
  (⟨(some 63), (some (59, true)), .fad 4 (.t 1)⟩, []),
  (⟨(some 64), (some (59, true)), .load 1 false (.t 63)⟩, []),
  (⟨(some 65), (some (59, true)), .len (.t 64)⟩, []),
  (⟨(some 66), (some (59, true)), .bin .eql (.t 62) (.t 65)⟩, []),
  (⟨(some 67), none, .pick (.t 59) (.t 66) (.c (.bool false))⟩, []),
  (⟨(some 68), none, .mv (.t 67)⟩, []),
  (⟨(some 69), (some (68, true)), .fad 4 (.t 1)⟩, []),
  (⟨(some 70), (some (68, true)), .load 1 false (.t 69)⟩, []),
  (⟨(some 71), (some (68, true)), .len (.t 70)⟩, []),
  (⟨(some 72), (some (68, true)), .fad 5 (.t 1)⟩, []),
  (⟨(some 73), (some (68, true)), .load 1 false (.t 72)⟩, []),
  (⟨(some 74), (some (68, true)), .len (.t 73)⟩, []),
  (⟨(some 75), (some (68, true)), .bin .add (.t 71) (.t 74)⟩, []),
  (⟨(some 76), (some (68, true)), .bin .eql (.t 75) (.c (.int .i64 0))⟩, []),
  (⟨(some 77), (some (68, true)), .load 6 true (.t 3)⟩, []),
  (⟨(some 78), (some (68, true)), .load 6 true (.t 4)⟩, []),
  (⟨(some 79), (some (68, true)), .call 28 [(.t 77), (.t 78)]⟩, [16, 17, 18, 19, 20, 21, 22, 23]),
  (⟨(some 80), (some (68, true)), .eqb false (.t 76) (.t 79)⟩, []),
  (⟨(some 81), none, .pick (.t 68) (.t 80) (.c (.bool false))⟩, []),
  (⟨(some 2), none, .mv (.t 81)⟩, [])] (some ([2], []))
/-- steamer/steamerlaw4.MetaOwn : 1 parameters, results in [2] of 82 slots -/
abbrev l8 : LC := (.seq l8r0 (.seq (.seq l8r1 (.cond (.t 9) (.seq l8r2 .ret) .skip)) (.seq l8r3 (.seq (.seq l8r4 (.block 0 (.loop l8r8))) (.seq (.seq l8r9 (.block 2 (.loop l8r13))) (.seq l8r14 .ret))))))
def k8 (i : Nat) : Option Kp := match i with
  | 0 => (some ([1], []))
  | 1 => (some ([1, 9], []))
  | 2 => (some ([2], []))
  | 3 => (some ([3, 4, 1], []))
  | 4 => (some ([5, 3, 4, 1], []))
  | 5 => (some ([3, 4, 1, 5, 19], []))
  | 6 => (some ([5, 3, 4, 1], []))
  | 7 => (some ([3, 4, 1, 5], []))
  | 8 => (some ([6, 3, 4, 1], []))
  | 9 => (some ([3, 4, 1, 6, 38], []))
  | 10 => (some ([6, 3, 4, 1], []))
  | 11 => (some ([3, 4, 1, 6], []))
  | 12 => (some ([2], []))
  | _ => none
theorem f8_told : Try.prog.funcs[8]? = some Try.f8 := by kernel_rfl
theorem f8_results : resTmps Try.f8 = some [2] := by kernel_rfl
theorem f8_text : (Try.f8.body.bind (trC Try.prog 82 k8 1000)) = some l8 := by kernel_rfl

abbrev l9r0 : LC := .reg false [(⟨(some 2), none, .mv (.c (.bool false))⟩, [])] (some ([0], []))
abbrev l9r1 : LC := .reg false [(⟨(some 3), none, .mv (.c (.slice none 0 0))⟩, []),
  (⟨(some 4), none, .mv (.c (.slice none 0 0))⟩, [])] (some ([3, 4, 0], [.slot 3 503 2, .slot 4 504 2]))
abbrev l9r2 : LC := .reg false [(⟨(some 5), none, .mv (.c (.bool false))⟩, [])] (some ([3, 5, 4, 0], []))
abbrev l9r3 : LC := .reg false [(⟨(some 6), none, .mv (.c (.int .i64 0))⟩, [])] (some ([3, 5, 6, 4, 0], []))
abbrev l9r4 : LC := .reg false [(⟨(some 15), none, .mv (.t 6)⟩, []),
  (⟨(some 16), none, .mv (.t 0)⟩, []),
  (⟨(some 17), none, .len (.t 16)⟩, []),
  (⟨(some 18), none, .bin .lss (.t 15) (.t 17)⟩, []),
  (⟨(some 19), none, .mv (.t 18)⟩, []),
  (⟨(some 20), (some (19, true)), .mv (.t 6)⟩, []),
  (⟨(some 21), (some (19, true)), .bin .lss (.t 20) (.c (.int .i64 8))⟩, []),
  (⟨(some 22), none, .pick (.t 19) (.t 21) (.c (.bool false))⟩, [])] (some ([3, 5, 0, 6, 4, 22], []))
abbrev l9r5 : LC := .reg false [(⟨(some 25), none, .bslice 1 11 [(.string ⟨#[]⟩)] [(0, (.c (.string ⟨#[97]⟩))), (1, (.c (.string ⟨#[98]⟩))), (2, (.c (.string ⟨#[99]⟩))), (3, (.c (.string ⟨#[97, 98]⟩))), (4, (.c (.string ⟨#[98, 99]⟩))), (5, (.c (.string ⟨#[97, 98, 99]⟩))), (6, (.c (.string ⟨#[122]⟩))), (7, (.c (.string ⟨#[122, 97]⟩))), (8, (.c (.string ⟨#[113]⟩))), (9, (.c (.string ⟨#[113, 113]⟩))), (10, (.c (.string ⟨#[120]⟩)))]⟩, []),
  (⟨(some 26), none, .mv (.t 0)⟩, []),
  (⟨(some 27), none, .mv (.t 6)⟩, []),
  (⟨(some 28), none, .iad 1 (.t 26) (.t 27)⟩, []),
  (⟨(some 29), none, .load 1 false (.t 28)⟩, []),
  (⟨(some 30), none, .toInt .u64 (.t 29)⟩, []),
  (⟨(some 31), none, .bin .rem (.t 30) (.c (.int .u64 11))⟩, []),
  (⟨(some 32), none, .iad 1 (.t 25) (.t 31)⟩, []),
  (⟨(some 33), none, .load 1 false (.t 32)⟩, []),
  (⟨(some 7), none, .mv (.t 33)⟩, [])] (some ([7, 3, 5, 0, 6, 4], []))
abbrev l9r6 : LC := .reg false [(⟨(some 8), none, .mv (.c (.int .i64 0))⟩, [])] (some ([8, 7, 3, 5, 0, 6, 4], []))
abbrev l9r7 : LC := .reg false [(⟨(some 34), none, .mv (.t 8)⟩, []),
  (⟨(some 35), none, .mv (.t 3)⟩, []),
  (⟨(some 36), none, .len (.t 35)⟩, []),
  (⟨(some 37), none, .bin .lss (.t 34) (.t 36)⟩, [])] (some ([7, 3, 0, 6, 4, 8, 5, 37], []))
abbrev l9r8 : LC := .reg false [(⟨(some 40), none, .mv (.t 5)⟩, []),
  (⟨(some 41), none, .mv (.t 40)⟩, []),
  (⟨(some 42), (some (41, false)), .mv (.t 3)⟩, []),
  (⟨(some 43), (some (41, false)), .mv (.t 8)⟩, []),
  (⟨(some 44), (some (41, false)), .iad 2 (.t 42) (.t 43)⟩, []),
  (⟨(some 45), (some (41, false)), .fad 0 (.t 44)⟩, []),
  (⟨(some 46), (some (41, false)), .load 1 false (.t 45)⟩, []),
  (⟨(some 47), (some (41, false)), .mv (.t 7)⟩, []),
  (⟨(some 48), (some (41, false)), .bin .eql (.t 46) (.t 47)⟩, []),
  (⟨(some 49), none, .pick (.t 41) (.c (.bool true)) (.t 48)⟩, []),
  (⟨(some 5), none, .mv (.t 49)⟩, [])] (some ([7, 3, 5, 0, 6, 4, 8], []))
abbrev l9r9 : LC := .reg false [(⟨(some 38), none, .mv (.t 8)⟩, []),
  (⟨(some 39), none, .bin .add (.t 38) (.c (.int .i64 1))⟩, []),
  (⟨(some 8), none, .mv (.t 39)⟩, [])] (some ([8, 7, 3, 5, 0, 6, 4], []))
abbrev l9r10 : LC := (.seq (.seq l9r7 (.cond (.t 37) .skip (.exit 2))) (.seq (.block 3 l9r8) l9r9))
abbrev l9r11 : LC := .reg false [(⟨(some 50), none, .mv (.t 7)⟩, []),
  (⟨(some 51), none, .build [(.string ⟨#[]⟩), (.string ⟨#[]⟩)] [(0, 1, (.t 50)), (1, 1, (.c (.string ⟨#[118]⟩)))]⟩, []),
  (⟨(some 9), none, .alloc [(.string ⟨#[]⟩), (.string ⟨#[]⟩)]⟩, []),
  (⟨none, none, .store 2 (.t 9) (.t 51)⟩, [])] (some ([5, 0, 6, 4, 9, 3], []))
abbrev l9r12 : LC := .reg true [(⟨(some 52), none, .mv (.t 3)⟩, []),
  (⟨(some 53), none, .load 2 true (.t 9)⟩, []),
  (⟨(some 54), none, .bslice 2 1 [(.string ⟨#[]⟩), (.string ⟨#[]⟩)] [(0, (.t 53))]⟩, [0]),
  (⟨(some 55), none, .app 2 32 [(.string ⟨#[]⟩), (.string ⟨#[]⟩)] (.t 52) (.t 54)⟩, []),
  (⟨(some 56), none, .load 2 true (.t 9)⟩, [2, 3]),
  (⟨(some 57), none, .bslice 2 1 [(.string ⟨#[]⟩), (.string ⟨#[]⟩)] [(0, (.t 56))]⟩, [0, 1, 2, 3]),
  (⟨(some 58), none, .mv (.t 4)⟩, [2, 3, 5]),
  (⟨(some 59), none, .app 2 32 [(.string ⟨#[]⟩), (.string ⟨#[]⟩)] (.t 57) (.t 58)⟩, []),
  (⟨(some 3), none, .mv (.t 55)⟩, []),
  (⟨(some 4), none, .mv (.t 59)⟩, [])] (some ([3, 5, 4, 0, 6], []))
abbrev l9r13 : LC := .reg false [(⟨(some 23), none, .mv (.t 6)⟩, []),
  (⟨(some 24), none, .bin .add (.t 23) (.c (.int .i64 1))⟩, []),
  (⟨(some 6), none, .mv (.t 24)⟩, [])] (some ([3, 5, 6, 4, 0], []))
abbrev l9r14 : LC := (.seq (.seq l9r4 (.cond (.t 22) .skip (.exit 0))) (.seq (.block 1 (.seq l9r5 (.seq (.seq l9r6 (.block 2 (.loop l9r10))) (.seq l9r11 l9r12)))) l9r13))
abbrev l9r15 : LC := .reg false [(⟨(some 61), none, .mv (.t 3)⟩, []),
  (⟨(some 62), none, .call 21 [(.t 61)]⟩, []),
  (⟨(some 60), none, .mv (.t 62)⟩, []),
  (⟨(some 63), none, .ext 0 (.t 60)⟩, []),
  (⟨(some 64), none, .ext 1 (.t 60)⟩, []),
  (⟨(some 10), none, .mv (.t 63)⟩, []),
  (⟨(some 11), none, .mv (.t 64)⟩, [])] (some ([10, 11, 3, 4, 5], []))
abbrev l9r16 : LC := .reg false [(⟨(some 66), none, .mv (.t 4)⟩, []),
  (⟨(some 67), none, .call 21 [(.t 66)]⟩, []),
  (⟨(some 65), none, .mv (.t 67)⟩, []),
  (⟨(some 68), none, .ext 0 (.t 65)⟩, []),
  (⟨(some 69), none, .ext 1 (.t 65)⟩, []),
  (⟨(some 12), none, .mv (.t 68)⟩, []),
  (⟨(some 13), none, .mv (.t 69)⟩, [])] (some ([10, 13, 11, 12, 3, 4, 5], []))
abbrev l9r17 : LC := .reg false [(⟨(some 70), none, .mv (.t 5)⟩, [])] (some ([10, 13, 11, 12, 3, 4, 70], []))
abbrev l9r18 : LC := .reg false [(⟨(some 71), none, .call 20 []⟩, []),
  (⟨(some 72), none, .mv (.t 71)⟩, []),
  (⟨(some 73), (some (72, true)), .mv (.t 11)⟩, []),
  (⟨(some 74), (some (72, true)), .bin .eql (.t 73) (.c (.int .i64 6))⟩, []),
  (⟨(some 75), none, .pick (.t 72) (.t 74) (.c (.bool false))⟩, []),
  (⟨(some 76), none, .mv (.t 75)⟩, []),
  (⟨(some 77), (some (76, true)), .mv (.t 13)⟩, []),
  (⟨(some 78), (some (76, true)), .bin .eql (.t 77) (.c (.int .i64 6))⟩, []),
  (⟨(some 79), none, .pick (.t 76) (.t 78) (.c (.bool false))⟩, []),
  (⟨(some 80), none, .mv (.t 79)⟩, []),
  (⟨(some 81), (some (80, true)), .mv (.t 10)⟩, []),
  (⟨(some 82), (some (80, true)), .len (.t 81)⟩, []),
  (⟨(some 83), (some (80, true)), .bin .eql (.t 82) (.c (.int .i64 0))⟩, []),
  (⟨(some 84), none, .pick (.t 80) (.t 83) (.c (.bool false))⟩, []),
  (⟨(some 2), none, .mv (.t 84)⟩, [])] (some ([2], []))
abbrev l9r19 : LC := .reg false [(⟨(some 85), none, .mv (.t 11)⟩, []),
  (⟨(some 86), none, .bin .neq (.t 85) (.c (.int .i64 0))⟩, []),
  (⟨(some 87), none, .mv (.t 86)⟩, []),
  (⟨(some 88), (some (87, false)), .mv (.t 13)⟩, []),
  (⟨(some 89), (some (87, false)), .bin .neq (.t 88) (.c (.int .i64 0))⟩, []),
  (⟨(some 90), none, .pick (.t 87) (.c (.bool true)) (.t 89)⟩, []),
  (⟨(some 91), none, .mv (.t 90)⟩, []),
  (⟨(some 92), (some (91, false)), .mv (.t 10)⟩, []),
  (⟨(some 93), (some (91, false)), .len (.t 92)⟩, []),
  (⟨(some 94), (some (91, false)), .mv (.t 3)⟩, []),
  (⟨(some 95), (some (91, false)), .len (.t 94)⟩, []),
  (⟨(some 96), (some (91, false)), .bin .neq (.t 93) (.t 95)⟩, []),
  (⟨(some 97), none, .pick (.t 91) (.c (.bool true)) (.t 96)⟩, []),
  (⟨(some 98), none, .mv (.t 97)⟩, []),
  (⟨(some 99), (some (98, false)), .mv (.t 12)⟩, []),
  (⟨(some 100), (some (98, false)), .len (.t 99)⟩, []),
  (⟨(some 101), (some (98, false)), .mv (.t 3)⟩, []),
  (⟨(some 102), (some (98, false)), .len (.t 101)⟩, []),
  (⟨(some 103), (some (98, false)), .bin .neq (.t 100) (.t 102)⟩, []),
  (⟨(some 104), none, .pick (.t 98) (.c (.bool true)) (.t 103)⟩, [])] (some ([10, 12, 3, 4, 104], []))
abbrev l9r20 : LC := .reg false [(⟨(some 2), none, .mv (.c (.bool false))⟩, [])] (some ([2], []))
abbrev l9r21 : LC := .reg false [(⟨(some 14), none, .mv (.c (.int .i64 0))⟩, [])] (some ([14, 10, 12, 3, 4], []))
abbrev l9r22 : LC := .reg false [(⟨(some 105), none, .mv (.t 14)⟩, []),
  (⟨(some 106), none, .mv (.t 10)⟩, []),
  (⟨(some 107), none, .len (.t 106)⟩, []),
  (⟨(some 108), none, .bin .lss (.t 105) (.t 107)⟩, [])] (some ([10, 12, 3, 4, 14, 108], []))
abbrev l9r23 : LC := .reg false [(⟨(some 111), none, .mv (.t 10)⟩, []),
  (⟨(some 112), none, .mv (.t 14)⟩, []),
  (⟨(some 113), none, .iad 2 (.t 111) (.t 112)⟩, []),
  (⟨(some 114), none, .load 2 true (.t 113)⟩, []),
  (⟨(some 115), none, .mv (.t 12)⟩, []),
  (⟨(some 116), none, .mv (.t 14)⟩, []),
  (⟨(some 117), none, .iad 2 (.t 115) (.t 116)⟩, []),
  (⟨(some 118), none, .load 2 true (.t 117)⟩, []),
  (⟨(some 119), none, .eqs true [1, 1] (.t 114) (.t 118)⟩, []),
  (⟨(some 120), none, .mv (.t 119)⟩, []),
  (⟨(some 121), (some (120, false)), .mv (.t 14)⟩, []),
  (⟨(some 122), (some (120, false)), .bin .gtr (.t 121) (.c (.int .i64 0))⟩, []),
  (⟨(some 123), (some (120, false)), .mv (.t 122)⟩, []),
  (⟨(some 124), (some (123, true)), .mv (.t 10)⟩, []),
  (⟨(some 125), (some (123, true)), .mv (.t 14)⟩, []),
  (⟨(some 126), (some (123, true)), .iad 2 (.t 124) (.t 125)⟩, []),
  (⟨(some 127), (some (123, true)), .fad 0 (.t 126)⟩, []),
  (⟨(some 128), (some (123, true)), .load 1 false (.t 127)⟩, []),
  (⟨(some 129), (some (123, true)), .mv (.t 10)⟩, []),
  (⟨(some 130), (some (123, true)), .mv (.t 14)⟩, []),
  (⟨(some 131), (some (123, true)), .bin .sub (.t 130) (.c (.int .i64 1))⟩, []),
  (⟨(some 132), (some (123, true)), .iad 2 (.t 129) (.t 131)⟩, []),
  (⟨(some 133), (some (123, true)), .fad 0 (.t 132)⟩, []),
  (⟨(some 134), (some (123, true)), .load 1 false (.t 133)⟩, []),
  (⟨(some 135), (some (123, true)), .bin .leq (.t 128) (.t 134)⟩, []),
  (⟨(some 136), (some (120, false)), .pick (.t 123) (.t 135) (.c (.bool false))⟩, []),
  (⟨(some 137), none, .pick (.t 120) (.c (.bool true)) (.t 136)⟩, [])] (some ([10, 12, 3, 4, 14, 137], []))
abbrev l9r24 : LC := .reg false [(⟨(some 109), none, .mv (.t 14)⟩, []),
  (⟨(some 110), none, .bin .add (.t 109) (.c (.int .i64 1))⟩, []),
  (⟨(some 14), none, .mv (.t 110)⟩, [])] (some ([14, 10, 12, 3, 4], []))
abbrev l9r25 : LC := (.seq (.seq l9r22 (.cond (.t 108) .skip (.exit 4))) (.seq (.block 5 (.seq l9r23 (.cond (.t 137) (.seq l9r20 .ret) .skip))) l9r24))
abbrev l9r26 : LC := .reg false [(⟨(some 138), none, .call 20 []⟩, []),
  (⟨(some 139), none, .mv (.t 138)⟩, []),
  (⟨(some 140), (some (139, true)), .mv (.t 10)⟩, []),
  (⟨(some 141), (some (139, true)), .build [(.int .i64 0), (.int .i64 0), (.int .i64 0), (.int .i64 0), (.slice none 0 0), (.slice none 0 0)] [(4, 1, (.t 140))]⟩, []),
  (⟨(some 142), (some (139, true)), .call 23 [(.t 141)]⟩, []),
  (⟨(some 143), none, .pick (.t 139) (.t 142) (.c (.bool false))⟩, []),
  (⟨(some 144), none, .mv (.t 143)⟩, []),
  (⟨(some 145), (some (144, true)), .mv (.t 3)⟩, []),
  (⟨(some 146), (some (144, true)), .len (.t 145)⟩, []),
  (⟨(some 147), (some (144, true)), .bin .lss (.t 146) (.c (.int .i64 2))⟩, []),
  (⟨(some 148), (some (144, true)), .mv (.t 147)⟩, []),
  (⟨(some 149), (some (148, false)), .mv (.t 3)⟩, []),
  (⟨(some 150), (some (148, false)), .build [(.int .i64 0), (.int .i64 0), (.int .i64 0), (.int .i64 0), (.slice none 0 0), (.slice none 0 0)] [(4, 1, (.t 149))]⟩, []),
  (⟨(some 151), (some (148, false)), .call 23 [(.t 150)]⟩, []),
  (⟨(some 152), (some (148, false)), .mv (.t 4)⟩, []),
  (⟨(some 153), (some (148, false)), .build [(.int .i64 0), (.int .i64 0), (.int .i64 0), (.int .i64 0), (.slice none 0 0), (.slice none 0 0)] [(4, 1, (.t 152))]⟩, []),
  (⟨(some 154), (some (148, false)), .call 23 [(.t 153)]⟩, []),
  (⟨(some 155), (some (148, false)), .eqb true (.t 151) (.t 154)⟩, []),
  (⟨(some 156), (some (144, true)), .pick (.t 148) (.c (.bool true)) (.t 155)⟩, []),
  (⟨(some 157), (some (144, true)), .mv (.t 156)⟩, []),
  (⟨(some 158), (some (157, false)), .mv (.t 3)⟩, []),
  (⟨(some 159), (some (157, false)), .build [(.int .i64 0), (.int .i64 0), (.int .i64 0), (.int .i64 0), (.slice none 0 0), (.slice none 0 0)] [(4, 1, (.t 158))]⟩, []),
  (⟨(some 160), (some (157, false)), .call 23 [(.t 159)]⟩, []),
  (⟨(some 161), (some (157, false)), .un .not (.t 160)⟩, []),
  (⟨(some 162), (some (144, true)), .pick (.t 157) (.c (.bool true)) (.t 161)⟩, []),
  (⟨(some 163), none, .pick (.t 144) (.t 162) (.c (.bool false))⟩, []),
  (⟨(some 2), none, .mv (.t 163)⟩, [])] (some ([2], []))
/-- steamer/steamerlaw4.MetaNorms : 1 parameters, results in [2] of 164 slots -/
abbrev l9 : LC := (.seq l9r0 (.seq l9r1 (.seq l9r2 (.seq (.seq l9r3 (.block 0 (.loop l9r14))) (.seq l9r15 (.seq l9r16 (.seq (.seq l9r17 (.cond (.t 70) (.seq l9r18 .ret) .skip)) (.seq (.seq l9r19 (.cond (.t 104) (.seq l9r20 .ret) .skip)) (.seq (.seq l9r21 (.block 4 (.loop l9r25))) (.seq l9r26 .ret))))))))))
def k9 (i : Nat) : Option Kp := match i with
  | 0 => (some ([0], []))
  | 1 => (some ([3, 4, 0], [.slot 3 503 2, .slot 4 504 2]))
  | 2 => (some ([3, 5, 4, 0], []))
  | 3 => (some ([3, 5, 6, 4, 0], []))
  | 4 => (some ([3, 5, 0, 6, 4, 22], []))
  | 5 => (some ([3, 5, 6, 4, 0], []))
  | 6 => (some ([7, 3, 5, 0, 6, 4], []))
  | 7 => (some ([8, 7, 3, 5, 0, 6, 4], []))
  | 8 => (some ([7, 3, 0, 6, 4, 8, 5, 37], []))
  | 9 => (some ([8, 7, 3, 5, 0, 6, 4], []))
  | 10 => (some ([7, 3, 5, 0, 6, 4, 8], []))
  | 11 => (some ([5, 0, 6, 4, 9, 3], []))
  | 12 => (some ([3, 5, 4, 0, 6], []))
  | 13 => (some ([10, 11, 3, 4, 5], []))
  | 14 => (some ([10, 13, 11, 12, 3, 4, 5], []))
  | 15 => (some ([10, 13, 11, 12, 3, 4, 70], []))
  | 16 => (some ([2], []))
  | 17 => (some ([10, 12, 3, 4, 104], []))
  | 18 => (some ([2], []))
  | 19 => (some ([14, 10, 12, 3, 4], []))
  | 20 => (some ([10, 12, 3, 4, 14, 108], []))
  | 21 => (some ([14, 10, 12, 3, 4], []))
  | 22 => (some ([10, 12, 3, 4, 14, 137], []))
  | 23 => (some ([2], []))
  | 24 => (some ([2], []))
  | _ => none
theorem f9_told : Try.prog.funcs[9]? = some Try.f9 := by kernel_rfl
theorem f9_results : resTmps Try.f9 = some [2] := by kernel_rfl
theorem f9_text : (Try.f9.body.bind (trC Try.prog 164 k9 1000)) = some l9 := by kernel_rfl

abbrev l19r0 : LC := .reg false [(⟨(some 1), none, .box 6 (.t 0)⟩, []),
  (⟨(some 2), none, .mv (.c (.bool false))⟩, [])] (some ([1], []))
abbrev l19r1 : LC := .reg false [(⟨(some 3), none, .mv (.c (.int .i64 0))⟩, [])] (some ([3, 1], []))
abbrev l19r2 : LC := .reg false [(⟨(some 4), none, .mv (.t 3)⟩, []),
  (⟨(some 5), none, .fad 4 (.t 1)⟩, []),
  (⟨(some 6), none, .load 1 false (.t 5)⟩, []),
  (⟨(some 7), none, .len (.t 6)⟩, []),
  (⟨(some 8), none, .bin .lss (.t 4) (.t 7)⟩, [])] (some ([1, 3, 8], []))
abbrev l19r3 : LC := .reg false [(⟨(some 11), none, .fad 4 (.t 1)⟩, []),
  (⟨(some 12), none, .load 1 false (.t 11)⟩, []),
  (⟨(some 13), none, .mv (.t 3)⟩, []),
  (⟨(some 14), none, .iad 2 (.t 12) (.t 13)⟩, []),
  (⟨(some 15), none, .fad 0 (.t 14)⟩, []),
  (⟨(some 16), none, .load 1 false (.t 15)⟩, []),
  (⟨(some 17), none, .lenS (.t 16)⟩, []),
  (⟨(some 18), none, .bin .gtr (.t 17) (.c (.int .i64 250))⟩, []),
  (⟨(some 19), none, .mv (.t 18)⟩, []),
  (⟨(some 20), (some (19, false)), .fad 4 (.t 1)⟩, []),
  (⟨(some 21), (some (19, false)), .load 1 false (.t 20)⟩, []),
  (⟨(some 22), (some (19, false)), .mv (.t 3)⟩, []),
  (⟨(some 23), (some (19, false)), .iad 2 (.t 21) (.t 22)⟩, []),
  (⟨(some 24), (some (19, false)), .fad 1 (.t 23)⟩, []),
  (⟨(some 25), (some (19, false)), .load 1 false (.t 24)⟩, []),
  (⟨(some 26), (some (19, false)), .lenS (.t 25)⟩, []),
  (⟨(some 27), (some (19, false)), .bin .gtr (.t 26) (.c (.int .i64 250))⟩, []),
  (⟨(some 28), none, .pick (.t 19) (.c (.bool true)) (.t 27)⟩, [])] (some ([1, 3, 28], []))
abbrev l19r4 : LC := .reg false [(⟨(some 2), none, .mv (.c (.bool false))⟩, [])] (some ([2], []))
abbrev l19r5 : LC := .reg false [(⟨(some 9), none, .mv (.t 3)⟩, []),
  (⟨(some 10), none, .bin .add (.t 9) (.c (.int .i64 1))⟩, []),
  (⟨(some 3), none, .mv (.t 10)⟩, [])] (some ([3, 1], []))
abbrev l19r6 : LC := (.seq (.seq l19r2 (.cond (.t 8) .skip (.exit 0))) (.seq (.block 1 (.seq l19r3 (.cond (.t 28) (.seq l19r4 .ret) .skip))) l19r5))
abbrev l19r7 : LC := .reg false [(⟨(some 29), none, .fad 4 (.t 1)⟩, []),
  (⟨(some 30), none, .load 1 false (.t 29)⟩, []),
  (⟨(some 31), none, .len (.t 30)⟩, []),
  (⟨(some 32), none, .bin .leq (.t 31) (.c (.int .i64 12))⟩, []),
  (⟨(some 33), none, .mv (.t 32)⟩, []),
  (⟨(some 34), (some (33, true)), .fad 5 (.t 1)⟩, []),
  (⟨(some 35), (some (33, true)), .load 1 false (.t 34)⟩, []),
  (⟨(some 36), (some (33, true)), .len (.t 35)⟩, []),
  (⟨(some 37), (some (33, true)), .bin .leq (.t 36) (.c (.int .i64 20))⟩, []),
  (⟨(some 38), none, .pick (.t 33) (.t 37) (.c (.bool false))⟩, []),
  (⟨(some 2), none, .mv (.t 38)⟩, [])] (some ([2], []))
/-- steamer/steamerlaw4.Few : 1 parameters, results in [2] of 39 slots -/
abbrev l19 : LC := (.seq l19r0 (.seq (.seq l19r1 (.block 0 (.loop l19r6))) (.seq l19r7 .ret)))
def k19 (i : Nat) : Option Kp := match i with
  | 0 => (some ([1], []))
  | 1 => (some ([3, 1], []))
  | 2 => (some ([1, 3, 8], []))
  | 3 => (some ([3, 1], []))
  | 4 => (some ([1, 3, 28], []))
  | 5 => (some ([2], []))
  | 6 => (some ([2], []))
  | _ => none
theorem f19_told : Try.prog.funcs[19]? = some Try.f19 := by kernel_rfl
theorem f19_results : resTmps Try.f19 = some [2] := by kernel_rfl
theorem f19_text : (Try.f19.body.bind (trC Try.prog 39 k19 1000)) = some l19 := by kernel_rfl

abbrev l20r0 : LC := .reg false [(⟨(some 0), none, .mv (.c (.bool false))⟩, [])] (some ([], []))
abbrev l20r1 : LC := .reg false [(⟨(some 10), none, .build [(.string ⟨#[]⟩), (.string ⟨#[]⟩)] [(0, 1, (.c (.string ⟨#[98]⟩)))]⟩, []),
  (⟨(some 11), none, .build [(.string ⟨#[]⟩), (.string ⟨#[]⟩)] [(0, 1, (.c (.string ⟨#[97]⟩))), (1, 1, (.c (.string ⟨#[49]⟩)))]⟩, []),
  (⟨(some 12), none, .bslice 2 2 [(.string ⟨#[]⟩), (.string ⟨#[]⟩)] [(0, (.t 10)), (1, (.t 11))]⟩, []),
  (⟨(some 13), none, .call 21 [(.t 12)]⟩, []),
  (⟨(some 9), none, .mv (.t 13)⟩, []),
  (⟨(some 14), none, .ext 0 (.t 9)⟩, []),
  (⟨(some 15), none, .ext 1 (.t 9)⟩, []),
  (⟨(some 1), none, .mv (.t 14)⟩, []),
  (⟨(some 2), none, .mv (.t 15)⟩, [])] (some ([1, 2], []))
abbrev l20r2 : LC := .reg false [(⟨(some 17), none, .build [(.string ⟨#[]⟩), (.string ⟨#[]⟩)] [(0, 1, (.c (.string ⟨#[97]⟩)))]⟩, []),
  (⟨(some 18), none, .build [(.string ⟨#[]⟩), (.string ⟨#[]⟩)] [(0, 1, (.c (.string ⟨#[97]⟩)))]⟩, []),
  (⟨(some 19), none, .bslice 2 2 [(.string ⟨#[]⟩), (.string ⟨#[]⟩)] [(0, (.t 17)), (1, (.t 18))]⟩, []),
  (⟨(some 20), none, .call 21 [(.t 19)]⟩, []),
  (⟨(some 16), none, .mv (.t 20)⟩, []),
  (⟨(some 21), none, .ext 0 (.t 16)⟩, []),
  (⟨(some 22), none, .ext 1 (.t 16)⟩, []),
  (⟨(some 3), none, .mv (.t 21)⟩, []),
  (⟨(some 4), none, .mv (.t 22)⟩, [])] (some ([4, 1, 2], []))
abbrev l20r3 : LC := .reg false [(⟨(some 24), none, .build [(.string ⟨#[]⟩), (.string ⟨#[]⟩)] []⟩, []),
  (⟨(some 25), none, .bslice 2 1 [(.string ⟨#[]⟩), (.string ⟨#[]⟩)] [(0, (.t 24))]⟩, []),
  (⟨(some 26), none, .call 21 [(.t 25)]⟩, []),
  (⟨(some 23), none, .mv (.t 26)⟩, []),
  (⟨(some 27), none, .ext 0 (.t 23)⟩, []),
  (⟨(some 28), none, .ext 1 (.t 23)⟩, []),
  (⟨(some 5), none, .mv (.t 27)⟩, []),
  (⟨(some 6), none, .mv (.t 28)⟩, [])] (some ([6, 4, 1, 2], []))
abbrev l20r4 : LC := .reg false [(⟨(some 29), none, .mv (.t 1)⟩, []),
  (⟨(some 30), none, .build [(.int .i64 0), (.int .i64 0), (.int .i64 0), (.int .i64 0), (.slice none 0 0), (.slice none 0 0)] [(0, 1, (.c (.int .i64 420))), (4, 1, (.t 29))]⟩, []),
  (⟨(some 7), none, .alloc [(.int .i64 0), (.int .i64 0), (.int .i64 0), (.int .i64 0), (.slice none 0 0), (.slice none 0 0)]⟩, []),
  (⟨none, none, .store 6 (.t 7) (.t 30)⟩, [])] (some ([7, 6, 4, 1, 2], []))
abbrev l20r5 : LC := .reg false [(⟨(some 31), none, .load 6 true (.t 7)⟩, []),
  (⟨(some 8), none, .alloc [(.int .i64 0), (.int .i64 0), (.int .i64 0), (.int .i64 0), (.slice none 0 0), (.slice none 0 0)]⟩, []),
  (⟨none, none, .store 6 (.t 8) (.t 31)⟩, [])] (some ([7, 8, 6, 4, 1, 2], []))
abbrev l20r6 : LC := .reg false [(⟨(some 32), none, .fad 3 (.t 8)⟩, []),
  (⟨none, none, .store 1 (.t 32) (.c (.int .i64 5))⟩, [])] (some ([7, 8, 6, 4, 1, 2], []))
abbrev l20r7 : LC := .reg true [(⟨(some 33), none, .mv (.t 2)⟩, []),
  (⟨(some 34), none, .bin .eql (.t 33) (.c (.int .i64 0))⟩, []),
  (⟨(some 35), none, .mv (.t 34)⟩, []),
  (⟨(some 36), (some (35, true)), .mv (.t 1)⟩, []),
  (⟨(some 37), (some (35, true)), .len (.t 36)⟩, []),
  (⟨(some 38), (some (35, true)), .bin .eql (.t 37) (.c (.int .i64 2))⟩, []),
  (⟨(some 39), none, .pick (.t 35) (.t 38) (.c (.bool false))⟩, []),
  (⟨(some 40), none, .mv (.t 39)⟩, []),
  (⟨(some 41), (some (40, true)), .mv (.t 1)⟩, []),
  (⟨(some 42), (some (40, true)), .iad 2 (.t 41) (.c (.int .i64 0))⟩, []),
  (⟨(some 43), (some (40, true)), .fad 0 (.t 42)⟩, []),
  (⟨(some 44), (some (40, true)), .load 1 false (.t 43)⟩, []),
  (⟨(some 45), (some (40, true)), .bin .eql (.t 44) (.c (.string ⟨#[97]⟩))⟩, []),
  (⟨(some 46), none, .pick (.t 40) (.t 45) (.c (.bool false))⟩, []),
  (⟨(some 47), none, .mv (.t 46)⟩, []),
  (⟨(some 48), (some (47, true)), .mv (.t 4)⟩, []),
  (⟨(some 49), (some (47, true)), .bin .eql (.t 48) (.c (.int .i64 6))⟩, []),
  (⟨(some 50), none, .pick (.t 47) (.t 49) (.c (.bool false))⟩, []),
  (⟨(some 51), none, .mv (.t 50)⟩, []),
  (⟨(some 52), (some (51, true)), .mv (.t 6)⟩, []),
  (⟨(some 53), (some (51, true)), .bin .eql (.t 52) (.c (.int .i64 1))⟩, []),
  (⟨(some 54), none, .pick (.t 51) (.t 53) (.c (.bool false))⟩, []),
  (⟨(some 55), none, .mv (.t 54)⟩, []),
  (⟨(some 56), (some (55, true)), .load 6 true (.t 7)⟩, []),
  (⟨(some 57), (some (55, true)), .call 23 [(.t 56)]⟩, []),
  (⟨(some 58), none, .pick (.t 55) (.t 57) (.c (.bool false))⟩, []),
  (⟨(some 59), none, .mv (.t 58)⟩, []),
  (⟨(some 60), (some (59, true)), .build [(.int .i64 0), (.int .i64 0), (.int .i64 0), (.int .i64 0), (.slice none 0 0), (.slice none 0 0)] [(0, 1, (.c (.int .i64 4096)))]⟩, []),
  (⟨(some 61), (some (59, true)), .call 23 [(.t 60)]⟩, []),
  (⟨(some 62), (some (59, true)), .un .not (.t 61)⟩, []),
  (⟨(some 63), none, .pick (.t 59) (.t 62) (.c (.bool false))⟩, []),
  (⟨(some 64), none, .mv (.t 63)⟩, []),
  (⟨(some 65), (some (64, true)), .build [(.int .i64 0), (.int .i64 0), (.int .i64 0), (.int .i64 0), (.slice none 0 0), (.slice none 0 0)] [(3, 1, (.c (.int .i64 (-1))))]⟩, []),
  (⟨(some 66), (some (64, true)), .call 23 [(.t 65)]⟩, []),
  (⟨(some 67), (some (64, true)), .un .not (.t 66)⟩, []),
  (⟨(some 68), none, .pick (.t 64) (.t 67) (.c (.bool false))⟩, []),
  (⟨(some 69), none, .mv (.t 68)⟩, []),
  (⟨(some 70), (some (69, true)), .load 6 true (.t 7)⟩, []),
  (⟨(some 71), (some (69, true)), .load 6 true (.t 7)⟩, []),
  (⟨(some 72), (some (69, true)), .call 29 [(.t 71)]⟩, [37]),
  (⟨(some 73), (some (69, true)), .call 28 [(.t 70), (.t 72)]⟩, []),
  (⟨(some 74), none, .pick (.t 69) (.t 73) (.c (.bool false))⟩, []),
  (⟨(some 75), none, .mv (.t 74)⟩, []),
  (⟨(some 76), (some (75, true)), .load 6 true (.t 7)⟩, []),
  (⟨(some 77), (some (75, true)), .load 6 true (.t 8)⟩, []),
  (⟨(some 78), (some (75, true)), .call 28 [(.t 76), (.t 77)]⟩, []),
  (⟨(some 79), (some (75, true)), .un .not (.t 78)⟩, []),
  (⟨(some 80), none, .pick (.t 75) (.t 79) (.c (.bool false))⟩, []),
  (⟨(some 81), none, .mv (.t 80)⟩, []),
  (⟨(some 82), (some (81, true)), .load 6 true (.t 7)⟩, []),
  (⟨(some 83), (some (81, true)), .load 6 true (.t 8)⟩, []),
  (⟨(some 84), (some (81, true)), .call 26 [(.t 82), (.t 83)]⟩, []),
  (⟨(some 85), (some (81, true)), .bin .eql (.t 84) (.c (.string ⟨#[116, 105, 109, 101]⟩))⟩, []),
  (⟨(some 86), none, .pick (.t 81) (.t 85) (.c (.bool false))⟩, []),
  (⟨(some 87), none, .mv (.t 86)⟩, []),
  (⟨(some 88), (some (87, true)), .load 6 true (.t 7)⟩, []),
  (⟨(some 89), (some (87, true)), .load 6 true (.t 7)⟩, []),
  (⟨(some 90), (some (87, true)), .call 26 [(.t 88), (.t 89)]⟩, []),
  (⟨(some 91), (some (87, true)), .bin .eql (.t 90) (.c (.string ⟨#[]⟩))⟩, []),
  (⟨(some 92), none, .pick (.t 87) (.t 91) (.c (.bool false))⟩, []),
  (⟨(some 0), none, .mv (.t 92)⟩, [])] (some ([0], []))
/-- steamer/steamerlaw4.told : 0 parameters, results in [0] of 93 slots -/
abbrev l20 : LC := (.seq l20r0 (.seq l20r1 (.seq l20r2 (.seq l20r3 (.seq l20r4 (.seq l20r5 (.seq l20r6 (.seq l20r7 .ret))))))))
def k20 (i : Nat) : Option Kp := match i with
  | 0 => (some ([], []))
  | 1 => (some ([1, 2], []))
  | 2 => (some ([4, 1, 2], []))
  | 3 => (some ([6, 4, 1, 2], []))
  | 4 => (some ([7, 6, 4, 1, 2], []))
  | 5 => (some ([7, 8, 6, 4, 1, 2], []))
  | 6 => (some ([7, 8, 6, 4, 1, 2], []))
  | 7 => (some ([0], []))
  | _ => none
theorem f20_told : Try.prog.funcs[20]? = some Try.f20 := by kernel_rfl
theorem f20_results : resTmps Try.f20 = some [0] := by kernel_rfl
theorem f20_text : (Try.f20.body.bind (trC Try.prog 93 k20 1000)) = some l20 := by kernel_rfl

abbrev l21r0 : LC := .reg false [(⟨(some 2), none, .mv (.c (.slice none 0 0))⟩, []),
  (⟨(some 3), none, .mv (.c (.int .i64 0))⟩, [])] (some ([0], []))
abbrev l21r1 : LC := .reg false [(⟨(some 7), none, .mv (.t 0)⟩, []),
  (⟨(some 8), none, .call 39 [(.t 7)]⟩, []),
  (⟨(some 0), none, .mv (.t 8)⟩, [])] (some ([0], []))
abbrev l21r2 : LC := .reg false [(⟨(some 9), none, .mv (.t 0)⟩, []),
  (⟨(some 10), none, .call 40 [(.t 9), (.f 41)]⟩, [])] (some ([0], []))
abbrev l21r3 : LC := .reg false [(⟨(some 4), none, .mv (.c (.bool false))⟩, [])] (some ([0, 4], []))
abbrev l21r4 : LC := .reg false [(⟨(some 11), none, .mv (.t 0)⟩, []),
  (⟨(some 12), none, .len (.t 11)⟩, []),
  (⟨(some 13), none, .mv (.c (.int .i64 0))⟩, [])] (some ([13, 0, 4, 11, 12], []))
abbrev l21r5 : LC := .reg false [(⟨(some 14), none, .bin .lss (.t 13) (.t 12)⟩, [])] (some ([0, 11, 12, 13, 4, 14], []))
abbrev l21r6 : LC := .reg false [(⟨(some 15), none, .mv (.t 13)⟩, []),
  (⟨(some 16), none, .iad 2 (.t 11) (.t 13)⟩, []),
  (⟨(some 17), none, .load 2 true (.t 16)⟩, []),
  (⟨(some 6), none, .alloc [(.string ⟨#[]⟩), (.string ⟨#[]⟩)]⟩, []),
  (⟨(some 5), none, .mv (.t 15)⟩, []),
  (⟨none, none, .store 2 (.t 6) (.t 17)⟩, [])] (some ([0, 11, 12, 13, 6, 5, 4], []))
abbrev l21r7 : LC := .reg false [(⟨(some 18), none, .load 2 true (.t 6)⟩, []),
  (⟨(some 19), none, .call 42 [(.t 18)]⟩, []),
  (⟨(some 20), none, .un .not (.t 19)⟩, [])] (some ([0, 11, 12, 13, 6, 5, 4, 20], []))
abbrev l21r8 : LC := .reg false [(⟨(some 2), none, .mv (.c (.slice none 0 0))⟩, []),
  (⟨(some 3), none, .mv (.c (.int .i64 1))⟩, [])] (some ([2, 3], [.slot 2 502 2]))
abbrev l21r9 : LC := .reg false [(⟨(some 21), none, .mv (.t 4)⟩, []),
  (⟨(some 22), none, .mv (.t 21)⟩, []),
  (⟨(some 23), (some (22, false)), .mv (.t 5)⟩, []),
  (⟨(some 24), (some (22, false)), .bin .gtr (.t 23) (.c (.int .i64 0))⟩, []),
  (⟨(some 25), (some (22, false)), .mv (.t 24)⟩, []),
  (⟨(some 26), (some (25, true)), .mv (.t 0)⟩, []),
  (⟨(some 27), (some (25, true)), .mv (.t 5)⟩, []),
  (⟨(some 28), (some (25, true)), .bin .sub (.t 27) (.c (.int .i64 1))⟩, []),
  (⟨(some 29), (some (25, true)), .iad 2 (.t 26) (.t 28)⟩, []),
  (⟨(some 30), (some (25, true)), .load 2 true (.t 29)⟩, []),
  (⟨(some 31), (some (25, true)), .load 2 true (.t 6)⟩, []),
  (⟨(some 32), (some (25, true)), .call 41 [(.t 30), (.t 31)]⟩, []),
  (⟨(some 33), (some (25, true)), .bin .eql (.t 32) (.c (.int .i64 0))⟩, []),
  (⟨(some 34), (some (22, false)), .pick (.t 25) (.t 33) (.c (.bool false))⟩, []),
  (⟨(some 35), none, .pick (.t 22) (.c (.bool true)) (.t 34)⟩, []),
  (⟨(some 4), none, .mv (.t 35)⟩, [])] (some ([0, 4, 11, 12, 13], []))
abbrev l21r10 : LC := .reg false [(⟨(some 36), none, .bin .add (.t 13) (.c (.int .i64 1))⟩, []),
  (⟨(some 13), none, .mv (.t 36)⟩, [])] (some ([13, 0, 4, 11, 12], []))
abbrev l21r11 : LC := (.seq l21r5 (.seq (.cond (.t 14) .skip (.exit 0)) (.seq (.block 1 (.seq l21r6 (.seq (.seq l21r7 (.cond (.t 20) (.seq l21r8 .ret) .skip)) l21r9))) l21r10)))
abbrev l21r12 : LC := .reg false [(⟨(some 38), none, .mv (.t 4)⟩, []),
  (⟨(some 37), none, .mv (.t 38)⟩, [])] (some ([0, 37], []))
abbrev l21r13 : LC := .reg false [(⟨(some 2), none, .mv (.c (.slice none 0 0))⟩, []),
  (⟨(some 3), none, .mv (.c (.int .i64 6))⟩, [])] (some ([2, 3], [.slot 2 502 2]))
abbrev l21r14 : LC := .reg false [(⟨(some 40), none, .mv (.t 0)⟩, []),
  (⟨(some 41), none, .len (.t 40)⟩, []),
  (⟨(some 42), none, .bin .gtr (.t 41) (.c (.int .i64 8))⟩, []),
  (⟨(some 39), none, .mv (.t 42)⟩, [])] (some ([0, 39], []))
abbrev l21r15 : LC := .reg false [(⟨(some 2), none, .mv (.c (.slice none 0 0))⟩, []),
  (⟨(some 3), none, .mv (.c (.int .i64 13))⟩, [])] (some ([2, 3], [.slot 2 502 2]))
abbrev l21r16 : LC := .reg false [(⟨(some 43), none, .mv (.t 0)⟩, []),
  (⟨(some 2), none, .mv (.t 43)⟩, []),
  (⟨(some 3), none, .mv (.c (.int .i64 0))⟩, [])] (some ([2, 3], []))
/-- steamer/meta.Norm : 1 parameters, results in [2, 3] of 44 slots -/
abbrev l21 : LC := (.seq l21r0 (.seq l21r1 (.seq l21r2 (.seq l21r3 (.seq (.seq l21r4 (.block 0 (.loop l21r11))) (.seq (.block 2 (.seq l21r12 (.cond (.t 37) (.seq l21r13 .ret) (.seq l21r14 (.cond (.t 39) (.seq l21r15 .ret) .skip))))) (.seq l21r16 .ret)))))))
def k21 (i : Nat) : Option Kp := match i with
  | 0 => (some ([0], []))
  | 1 => (some ([0], []))
  | 2 => (some ([0], []))
  | 3 => (some ([0, 4], []))
  | 4 => (some ([13, 0, 4, 11, 12], []))
  | 5 => (some ([0, 11, 12, 13, 4, 14], []))
  | 6 => (some ([0, 11, 12, 13, 6, 5, 4], []))
  | 7 => (some ([0, 11, 12, 13, 6, 5, 4, 20], []))
  | 8 => (some ([2, 3], [.slot 2 502 2]))
  | 9 => (some ([0, 4, 11, 12, 13], []))
  | 10 => (some ([13, 0, 4, 11, 12], []))
  | 11 => (some ([0, 37], []))
  | 12 => (some ([2, 3], [.slot 2 502 2]))
  | 13 => (some ([0, 39], []))
  | 14 => (some ([2, 3], [.slot 2 502 2]))
  | 15 => (some ([2, 3], []))
  | _ => none
theorem f21_told : Try.prog.funcs[21]? = some Try.f21 := by kernel_rfl
theorem f21_results : resTmps Try.f21 = some [2, 3] := by kernel_rfl
theorem f21_text : (Try.f21.body.bind (trC Try.prog 44 k21 1000)) = some l21 := by kernel_rfl

abbrev l22r0 : LC := .reg false [(⟨(some 2), none, .mv (.c (.slice none 0 0))⟩, []),
  (⟨(some 3), none, .mv (.c (.int .i64 0))⟩, [])] (some ([0], []))
abbrev l22r1 : LC := .reg false [(⟨(some 4), none, .mv (.c (.slice none 0 0))⟩, [])] (some ([4, 0], [.slot 4 504 2]))
abbrev l22r2 : LC := .reg false [(⟨(some 5), none, .mv (.c (.int .i64 0))⟩, [])] (some ([5, 4, 0], []))
abbrev l22r3 : LC := .reg false [(⟨(some 9), none, .mv (.t 5)⟩, []),
  (⟨(some 10), none, .mv (.t 0)⟩, []),
  (⟨(some 11), none, .len (.t 10)⟩, []),
  (⟨(some 12), none, .bin .lss (.t 9) (.t 11)⟩, [])] (some ([0, 5, 4, 12], []))
abbrev l22r4 : LC := .reg false [(⟨(some 15), none, .mv (.t 0)⟩, []),
  (⟨(some 16), none, .mv (.t 5)⟩, []),
  (⟨(some 17), none, .iad 2 (.t 15) (.t 16)⟩, []),
  (⟨(some 18), none, .load 2 true (.t 17)⟩, []),
  (⟨(some 19), none, .call 43 [(.t 18)]⟩, []),
  (⟨(some 20), none, .un .not (.t 19)⟩, [])] (some ([0, 5, 4, 20], []))
abbrev l22r5 : LC := .reg false [(⟨(some 2), none, .mv (.c (.slice none 0 0))⟩, []),
  (⟨(some 3), none, .mv (.c (.int .i64 1))⟩, [])] (some ([2, 3], [.slot 2 502 2]))
abbrev l22r6 : LC := .reg false [(⟨(some 21), none, .mv (.t 4)⟩, []),
  (⟨(some 22), none, .len (.t 21)⟩, []),
  (⟨(some 6), none, .mv (.t 22)⟩, [])] (some ([6, 0, 5, 4], []))
abbrev l22r7 : LC := .reg false [(⟨(some 23), none, .mv (.t 6)⟩, []),
  (⟨(some 24), none, .bin .gtr (.t 23) (.c (.int .i64 0))⟩, []),
  (⟨(some 25), none, .mv (.t 24)⟩, []),
  (⟨(some 26), (some (25, true)), .mv (.t 0)⟩, []),
  (⟨(some 27), (some (25, true)), .mv (.t 5)⟩, []),
  (⟨(some 28), (some (25, true)), .iad 2 (.t 26) (.t 27)⟩, []),
  (⟨(some 29), (some (25, true)), .fad 0 (.t 28)⟩, []),
  (⟨(some 30), (some (25, true)), .load 1 false (.t 29)⟩, []),
  (⟨(some 31), (some (25, true)), .mv (.t 4)⟩, []),
  (⟨(some 32), (some (25, true)), .mv (.t 6)⟩, []),
  (⟨(some 33), (some (25, true)), .bin .sub (.t 32) (.c (.int .i64 1))⟩, []),
  (⟨(some 34), (some (25, true)), .iad 2 (.t 31) (.t 33)⟩, []),
  (⟨(some 35), (some (25, true)), .fad 0 (.t 34)⟩, []),
  (⟨(some 36), (some (25, true)), .load 1 false (.t 35)⟩, []),
  (⟨(some 37), (some (25, true)), .bin .lss (.t 30) (.t 36)⟩, []),
  (⟨(some 38), none, .pick (.t 25) (.t 37) (.c (.bool false))⟩, [])] (some ([0, 5, 4, 6, 38], []))
abbrev l22r8 : LC := .reg false [(⟨(some 39), none, .mv (.t 6)⟩, []),
  (⟨(some 40), none, .bin .sub (.t 39) (.c (.int .i64 1))⟩, []),
  (⟨(some 6), none, .mv (.t 40)⟩, [])] (some ([6, 0, 5, 4], []))
abbrev l22r9 : LC := (.seq (.seq l22r7 (.cond (.t 38) .skip (.exit 2))) (.block 3 l22r8))
abbrev l22r10 : LC := .reg false [(⟨(some 41), none, .bslice 2 0 [(.string ⟨#[]⟩), (.string ⟨#[]⟩)] []⟩, []),
  (⟨(some 42), none, .mv (.t 4)⟩, []),
  (⟨(some 43), none, .mv (.t 6)⟩, []),
  (⟨(some 44), none, .slc 2 (.t 42) none (some (.t 43))⟩, []),
  (⟨(some 45), none, .app 2 32 [(.string ⟨#[]⟩), (.string ⟨#[]⟩)] (.t 41) (.t 44)⟩, []),
  (⟨(some 7), none, .mv (.t 45)⟩, [])] (some ([0, 5, 6, 4, 7], []))
abbrev l22r11 : LC := .reg true [(⟨(some 46), none, .mv (.t 7)⟩, []),
  (⟨(some 47), none, .mv (.t 0)⟩, []),
  (⟨(some 48), none, .mv (.t 5)⟩, []),
  (⟨(some 49), none, .iad 2 (.t 47) (.t 48)⟩, []),
  (⟨(some 50), none, .load 2 true (.t 49)⟩, []),
  (⟨(some 51), none, .bslice 2 1 [(.string ⟨#[]⟩), (.string ⟨#[]⟩)] [(0, (.t 50))]⟩, [0]),
  (⟨(some 52), none, .app 2 32 [(.string ⟨#[]⟩), (.string ⟨#[]⟩)] (.t 46) (.t 51)⟩, []),
  (⟨(some 53), none, .mv (.t 4)⟩, [5, 6]),
  (⟨(some 54), none, .mv (.t 6)⟩, [5, 6]),
  (⟨(some 55), none, .slc 2 (.t 53) (some (.t 54)) none⟩, [5, 6]),
  (⟨(some 56), none, .app 2 32 [(.string ⟨#[]⟩), (.string ⟨#[]⟩)] (.t 52) (.t 55)⟩, []),
  (⟨(some 4), none, .mv (.t 56)⟩, [])] (some ([4, 0, 5], []))
abbrev l22r12 : LC := .reg false [(⟨(some 13), none, .mv (.t 5)⟩, []),
  (⟨(some 14), none, .bin .add (.t 13) (.c (.int .i64 1))⟩, []),
  (⟨(some 5), none, .mv (.t 14)⟩, [])] (some ([5, 4, 0], []))
abbrev l22r13 : LC := (.seq (.seq l22r3 (.cond (.t 12) .skip (.exit 0))) (.seq (.block 1 (.seq (.seq l22r4 (.cond (.t 20) (.seq l22r5 .ret) .skip)) (.seq l22r6 (.seq (.block 2 (.loop l22r9)) (.seq l22r10 l22r11))))) l22r12))
abbrev l22r14 : LC := .reg false [(⟨(some 8), none, .mv (.c (.int .i64 1))⟩, [])] (some ([8, 4], []))
abbrev l22r15 : LC := .reg false [(⟨(some 57), none, .mv (.t 8)⟩, []),
  (⟨(some 58), none, .mv (.t 4)⟩, []),
  (⟨(some 59), none, .len (.t 58)⟩, []),
  (⟨(some 60), none, .bin .lss (.t 57) (.t 59)⟩, [])] (some ([4, 8, 60], []))
abbrev l22r16 : LC := .reg false [(⟨(some 63), none, .mv (.t 4)⟩, []),
  (⟨(some 64), none, .mv (.t 8)⟩, []),
  (⟨(some 65), none, .iad 2 (.t 63) (.t 64)⟩, []),
  (⟨(some 66), none, .fad 0 (.t 65)⟩, []),
  (⟨(some 67), none, .load 1 false (.t 66)⟩, []),
  (⟨(some 68), none, .mv (.t 4)⟩, []),
  (⟨(some 69), none, .mv (.t 8)⟩, []),
  (⟨(some 70), none, .bin .sub (.t 69) (.c (.int .i64 1))⟩, []),
  (⟨(some 71), none, .iad 2 (.t 68) (.t 70)⟩, []),
  (⟨(some 72), none, .fad 0 (.t 71)⟩, []),
  (⟨(some 73), none, .load 1 false (.t 72)⟩, []),
  (⟨(some 74), none, .bin .eql (.t 67) (.t 73)⟩, [])] (some ([4, 8, 74], []))
abbrev l22r17 : LC := .reg false [(⟨(some 2), none, .mv (.c (.slice none 0 0))⟩, []),
  (⟨(some 3), none, .mv (.c (.int .i64 6))⟩, [])] (some ([2, 3], [.slot 2 502 2]))
abbrev l22r18 : LC := .reg false [(⟨(some 61), none, .mv (.t 8)⟩, []),
  (⟨(some 62), none, .bin .add (.t 61) (.c (.int .i64 1))⟩, []),
  (⟨(some 8), none, .mv (.t 62)⟩, [])] (some ([8, 4], []))
abbrev l22r19 : LC := (.seq (.seq l22r15 (.cond (.t 60) .skip (.exit 4))) (.seq (.block 5 (.seq l22r16 (.cond (.t 74) (.seq l22r17 .ret) .skip))) l22r18))
abbrev l22r20 : LC := .reg false [(⟨(some 75), none, .mv (.t 4)⟩, []),
  (⟨(some 76), none, .len (.t 75)⟩, []),
  (⟨(some 77), none, .bin .gtr (.t 76) (.c (.int .i64 8))⟩, [])] (some ([4, 77], []))
abbrev l22r21 : LC := .reg false [(⟨(some 2), none, .mv (.c (.slice none 0 0))⟩, []),
  (⟨(some 3), none, .mv (.c (.int .i64 13))⟩, [])] (some ([2, 3], [.slot 2 502 2]))
abbrev l22r22 : LC := .reg false [(⟨(some 78), none, .mv (.t 4)⟩, []),
  (⟨(some 2), none, .mv (.t 78)⟩, []),
  (⟨(some 3), none, .mv (.c (.int .i64 0))⟩, [])] (some ([2, 3], []))
/-- steamer/steamerref1.NormAttrs : 1 parameters, results in [2, 3] of 79 slots -/
abbrev l22 : LC := (.seq l22r0 (.seq l22r1 (.seq (.seq l22r2 (.block 0 (.loop l22r13))) (.seq (.seq l22r14 (.block 4 (.loop l22r19))) (.seq (.seq l22r20 (.cond (.t 77) (.seq l22r21 .ret) .skip)) (.seq l22r22 .ret))))))
def k22 (i : Nat) : Option Kp := match i with
  | 0 => (some ([0], []))
  | 1 => (some ([4, 0], [.slot 4 504 2]))
  | 2 => (some ([5, 4, 0], []))
  | 3 => (some ([0, 5, 4, 12], []))
  | 4 => (some ([5, 4, 0], []))
  | 5 => (some ([0, 5, 4, 20], []))
  | 6 => (some ([2, 3], [.slot 2 502 2]))
  | 7 => (some ([6, 0, 5, 4], []))
  | 8 => (some ([0, 5, 4, 6, 38], []))
  | 9 => (some ([6, 0, 5, 4], []))
  | 10 => (some ([0, 5, 6, 4, 7], []))
  | 11 => (some ([4, 0, 5], []))
  | 12 => (some ([8, 4], []))
  | 13 => (some ([4, 8, 60], []))
  | 14 => (some ([8, 4], []))
  | 15 => (some ([4, 8, 74], []))
  | 16 => (some ([2, 3], [.slot 2 502 2]))
  | 17 => (some ([4, 77], []))
  | 18 => (some ([2, 3], [.slot 2 502 2]))
  | 19 => (some ([2, 3], []))
  | _ => none
theorem f22_told : Try.prog.funcs[22]? = some Try.f22 := by kernel_rfl
theorem f22_results : resTmps Try.f22 = some [2, 3] := by kernel_rfl
theorem f22_text : (Try.f22.body.bind (trC Try.prog 79 k22 1000)) = some l22 := by kernel_rfl

abbrev l23r0 : LC := .reg false [(⟨(some 1), none, .box 6 (.t 0)⟩, []),
  (⟨(some 2), none, .mv (.c (.bool false))⟩, [])] (some ([1], []))
abbrev l23r1 : LC := .reg false [(⟨(some 4), none, .fad 0 (.t 1)⟩, []),
  (⟨(some 5), none, .load 1 false (.t 4)⟩, []),
  (⟨(some 6), none, .bin .lss (.t 5) (.c (.int .i64 0))⟩, []),
  (⟨(some 7), none, .mv (.t 6)⟩, []),
  (⟨(some 8), (some (7, false)), .fad 0 (.t 1)⟩, []),
  (⟨(some 9), (some (7, false)), .load 1 false (.t 8)⟩, []),
  (⟨(some 10), (some (7, false)), .bin .gtr (.t 9) (.c (.int .i64 4095))⟩, []),
  (⟨(some 11), none, .pick (.t 7) (.c (.bool true)) (.t 10)⟩, []),
  (⟨(some 12), none, .mv (.t 11)⟩, []),
  (⟨(some 13), (some (12, false)), .fad 1 (.t 1)⟩, []),
  (⟨(some 14), (some (12, false)), .load 1 false (.t 13)⟩, []),
  (⟨(some 15), (some (12, false)), .bin .lss (.t 14) (.c (.int .i64 0))⟩, []),
  (⟨(some 16), none, .pick (.t 12) (.c (.bool true)) (.t 15)⟩, []),
  (⟨(some 17), none, .mv (.t 16)⟩, []),
  (⟨(some 18), (some (17, false)), .fad 1 (.t 1)⟩, []),
  (⟨(some 19), (some (17, false)), .load 1 false (.t 18)⟩, []),
  (⟨(some 20), (some (17, false)), .bin .gtr (.t 19) (.c (.int .i64 2147483647))⟩, []),
  (⟨(some 21), none, .pick (.t 17) (.c (.bool true)) (.t 20)⟩, []),
  (⟨(some 22), none, .mv (.t 21)⟩, []),
  (⟨(some 23), (some (22, false)), .fad 2 (.t 1)⟩, []),
  (⟨(some 24), (some (22, false)), .load 1 false (.t 23)⟩, []),
  (⟨(some 25), (some (22, false)), .bin .lss (.t 24) (.c (.int .i64 0))⟩, []),
  (⟨(some 26), none, .pick (.t 22) (.c (.bool true)) (.t 25)⟩, []),
  (⟨(some 27), none, .mv (.t 26)⟩, []),
  (⟨(some 28), (some (27, false)), .fad 2 (.t 1)⟩, []),
  (⟨(some 29), (some (27, false)), .load 1 false (.t 28)⟩, []),
  (⟨(some 30), (some (27, false)), .bin .gtr (.t 29) (.c (.int .i64 2147483647))⟩, []),
  (⟨(some 31), none, .pick (.t 27) (.c (.bool true)) (.t 30)⟩, []),
  (⟨(some 32), none, .mv (.t 31)⟩, []),
  (⟨(some 33), (some (32, false)), .fad 3 (.t 1)⟩, []),
  (⟨(some 34), (some (32, false)), .load 1 false (.t 33)⟩, []),
  (⟨(some 35), (some (32, false)), .bin .lss (.t 34) (.c (.int .i64 0))⟩, []),
  (⟨(some 36), none, .pick (.t 32) (.c (.bool true)) (.t 35)⟩, [])] (some ([1, 36], []))
abbrev l23r2 : LC := .reg false [(⟨(some 2), none, .mv (.c (.bool false))⟩, [])] (some ([2], []))
abbrev l23r3 : LC := .reg false [(⟨(some 3), none, .mv (.c (.int .i64 0))⟩, [])] (some ([1, 3], []))
abbrev l23r4 : LC := .reg false [(⟨(some 37), none, .mv (.t 3)⟩, []),
  (⟨(some 38), none, .fad 4 (.t 1)⟩, []),
  (⟨(some 39), none, .load 1 false (.t 38)⟩, []),
  (⟨(some 40), none, .len (.t 39)⟩, []),
  (⟨(some 41), none, .bin .lss (.t 37) (.t 40)⟩, [])] (some ([1, 3, 41], []))
abbrev l23r5 : LC := .reg false [(⟨(some 42), none, .fad 4 (.t 1)⟩, []),
  (⟨(some 43), none, .load 1 false (.t 42)⟩, []),
  (⟨(some 44), none, .mv (.t 3)⟩, []),
  (⟨(some 45), none, .iad 2 (.t 43) (.t 44)⟩, []),
  (⟨(some 46), none, .load 2 true (.t 45)⟩, []),
  (⟨(some 47), none, .call 42 [(.t 46)]⟩, []),
  (⟨(some 48), none, .un .not (.t 47)⟩, []),
  (⟨(some 49), none, .mv (.t 48)⟩, []),
  (⟨(some 50), (some (49, false)), .mv (.t 3)⟩, []),
  (⟨(some 51), (some (49, false)), .bin .gtr (.t 50) (.c (.int .i64 0))⟩, []),
  (⟨(some 52), (some (49, false)), .mv (.t 51)⟩, []),
  (⟨(some 53), (some (52, true)), .fad 4 (.t 1)⟩, []),
  (⟨(some 54), (some (52, true)), .load 1 false (.t 53)⟩, []),
  (⟨(some 55), (some (52, true)), .mv (.t 3)⟩, []),
  (⟨(some 56), (some (52, true)), .bin .sub (.t 55) (.c (.int .i64 1))⟩, []),
  (⟨(some 57), (some (52, true)), .iad 2 (.t 54) (.t 56)⟩, []),
  (⟨(some 58), (some (52, true)), .load 2 true (.t 57)⟩, []),
  (⟨(some 59), (some (52, true)), .fad 4 (.t 1)⟩, []),
  (⟨(some 60), (some (52, true)), .load 1 false (.t 59)⟩, []),
  (⟨(some 61), (some (52, true)), .mv (.t 3)⟩, []),
  (⟨(some 62), (some (52, true)), .iad 2 (.t 60) (.t 61)⟩, []),
  (⟨(some 63), (some (52, true)), .load 2 true (.t 62)⟩, []),
  (⟨(some 64), (some (52, true)), .call 41 [(.t 58), (.t 63)]⟩, []),
  (⟨(some 65), (some (52, true)), .bin .geq (.t 64) (.c (.int .i64 0))⟩, []),
  (⟨(some 66), (some (49, false)), .pick (.t 52) (.t 65) (.c (.bool false))⟩, []),
  (⟨(some 67), none, .pick (.t 49) (.c (.bool true)) (.t 66)⟩, [])] (some ([1, 3, 67], []))
abbrev l23r6 : LC := .reg false [(⟨(some 68), none, .mv (.t 3)⟩, []),
  (⟨(some 69), none, .bin .add (.t 68) (.c (.int .i64 1))⟩, []),
  (⟨(some 3), none, .mv (.t 69)⟩, [])] (some ([3, 1], []))
abbrev l23r7 : LC := .reg false [(⟨(some 70), none, .fad 4 (.t 1)⟩, []),
  (⟨(some 71), none, .load 1 false (.t 70)⟩, []),
  (⟨(some 72), none, .len (.t 71)⟩, []),
  (⟨(some 73), none, .bin .leq (.t 72) (.c (.int .i64 8))⟩, []),
  (⟨(some 74), none, .mv (.t 73)⟩, []),
  (⟨(some 75), (some (74, true)), .fad 5 (.t 1)⟩, []),
  (⟨(some 76), (some (74, true)), .load 1 false (.t 75)⟩, []),
  (⟨(some 77), (some (74, true)), .call 44 [(.t 76)]⟩, []),
  (⟨(some 78), none, .pick (.t 74) (.t 77) (.c (.bool false))⟩, []),
  (⟨(some 2), none, .mv (.t 78)⟩, [])] (some ([2], []))
abbrev l23r8 : LC := (.seq (.seq l23r1 (.cond (.t 36) (.seq l23r2 .ret) .skip)) (.seq l23r3 (.seq .label (.seq (.seq l23r4 (.cond (.t 41) (.seq (.seq l23r5 (.cond (.t 67) (.seq l23r2 .ret) .skip)) (.seq l23r6 (.goto 0))) .skip)) (.seq l23r7 .ret)))))
abbrev l23r9 : LC := (.seq .skip (.seq (.seq l23r4 (.cond (.t 41) (.seq (.seq l23r5 (.cond (.t 67) (.seq l23r2 .ret) .skip)) (.seq l23r6 (.goto 0))) .skip)) (.seq l23r7 .ret)))
/-- steamer/meta.May : 1 parameters, results in [2] of 79 slots -/
abbrev l23 : LC := (.seq l23r0 (.scope 0 l23r8 l23r9))
def k23 (i : Nat) : Option Kp := match i with
  | 0 => (some ([1], []))
  | 1 => (some ([1, 36], []))
  | 2 => (some ([2], []))
  | 3 => (some ([1, 3], []))
  | 4 => (some ([1, 3, 41], []))
  | 5 => (some ([1, 3, 67], []))
  | 6 => (some ([2], []))
  | 7 => (some ([3, 1], []))
  | 8 => (some ([2], []))
  | _ => none
theorem f23_told : Try.prog.funcs[23]? = some Try.f23 := by kernel_rfl
theorem f23_results : resTmps Try.f23 = some [2] := by kernel_rfl
theorem f23_text : (Try.f23.body.bind (trC Try.prog 79 k23 1000)) = some l23 := by kernel_rfl

abbrev l24r0 : LC := .reg false [(⟨(some 1), none, .box 6 (.t 0)⟩, []),
  (⟨(some 2), none, .mv (.c (.bool false))⟩, [])] (some ([1], []))
abbrev l24r1 : LC := .reg false [(⟨(some 3), none, .mv (.c (.int .i64 0))⟩, [])] (some ([3, 1], []))
abbrev l24r2 : LC := .reg false [(⟨(some 4), none, .mv (.t 3)⟩, []),
  (⟨(some 5), none, .fad 4 (.t 1)⟩, []),
  (⟨(some 6), none, .load 1 false (.t 5)⟩, []),
  (⟨(some 7), none, .len (.t 6)⟩, []),
  (⟨(some 8), none, .bin .lss (.t 4) (.t 7)⟩, [])] (some ([1, 3, 8], []))
abbrev l24r3 : LC := .reg false [(⟨(some 11), none, .fad 4 (.t 1)⟩, []),
  (⟨(some 12), none, .load 1 false (.t 11)⟩, []),
  (⟨(some 13), none, .mv (.t 3)⟩, []),
  (⟨(some 14), none, .iad 2 (.t 12) (.t 13)⟩, []),
  (⟨(some 15), none, .load 2 true (.t 14)⟩, []),
  (⟨(some 16), none, .call 43 [(.t 15)]⟩, []),
  (⟨(some 17), none, .un .not (.t 16)⟩, []),
  (⟨(some 18), none, .mv (.t 17)⟩, []),
  (⟨(some 19), (some (18, false)), .mv (.t 3)⟩, []),
  (⟨(some 20), (some (18, false)), .bin .gtr (.t 19) (.c (.int .i64 0))⟩, []),
  (⟨(some 21), (some (18, false)), .mv (.t 20)⟩, []),
  (⟨(some 22), (some (21, true)), .fad 4 (.t 1)⟩, []),
  (⟨(some 23), (some (21, true)), .load 1 false (.t 22)⟩, []),
  (⟨(some 24), (some (21, true)), .mv (.t 3)⟩, []),
  (⟨(some 25), (some (21, true)), .iad 2 (.t 23) (.t 24)⟩, []),
  (⟨(some 26), (some (21, true)), .fad 0 (.t 25)⟩, []),
  (⟨(some 27), (some (21, true)), .load 1 false (.t 26)⟩, []),
  (⟨(some 28), (some (21, true)), .fad 4 (.t 1)⟩, []),
  (⟨(some 29), (some (21, true)), .load 1 false (.t 28)⟩, []),
  (⟨(some 30), (some (21, true)), .mv (.t 3)⟩, []),
  (⟨(some 31), (some (21, true)), .bin .sub (.t 30) (.c (.int .i64 1))⟩, []),
  (⟨(some 32), (some (21, true)), .iad 2 (.t 29) (.t 31)⟩, []),
  (⟨(some 33), (some (21, true)), .fad 0 (.t 32)⟩, []),
  (⟨(some 34), (some (21, true)), .load 1 false (.t 33)⟩, []),
  (⟨(some 35), (some (21, true)), .bin .leq (.t 27) (.t 34)⟩, []),
  (⟨(some 36), (some (18, false)), .pick (.t 21) (.t 35) (.c (.bool false))⟩, []),
  (⟨(some 37), none, .pick (.t 18) (.c (.bool true)) (.t 36)⟩, [])] (some ([1, 3, 37], []))
abbrev l24r4 : LC := .reg false [(⟨(some 2), none, .mv (.c (.bool false))⟩, [])] (some ([2], []))
abbrev l24r5 : LC := .reg false [(⟨(some 9), none, .mv (.t 3)⟩, []),
  (⟨(some 10), none, .bin .add (.t 9) (.c (.int .i64 1))⟩, []),
  (⟨(some 3), none, .mv (.t 10)⟩, [])] (some ([3, 1], []))
abbrev l24r6 : LC := (.seq (.seq l24r2 (.cond (.t 8) .skip (.exit 0))) (.seq (.block 1 (.seq l24r3 (.cond (.t 37) (.seq l24r4 .ret) .skip))) l24r5))
abbrev l24r7 : LC := .reg false [(⟨(some 38), none, .fad 0 (.t 1)⟩, []),
  (⟨(some 39), none, .load 1 false (.t 38)⟩, []),
  (⟨(some 40), none, .bin .geq (.t 39) (.c (.int .i64 0))⟩, []),
  (⟨(some 41), none, .mv (.t 40)⟩, []),
  (⟨(some 42), (some (41, true)), .fad 0 (.t 1)⟩, []),
  (⟨(some 43), (some (41, true)), .load 1 false (.t 42)⟩, []),
  (⟨(some 44), (some (41, true)), .bin .leq (.t 43) (.c (.int .i64 4095))⟩, []),
  (⟨(some 45), none, .pick (.t 41) (.t 44) (.c (.bool false))⟩, []),
  (⟨(some 46), none, .mv (.t 45)⟩, []),
  (⟨(some 47), (some (46, true)), .fad 1 (.t 1)⟩, []),
  (⟨(some 48), (some (46, true)), .load 1 false (.t 47)⟩, []),
  (⟨(some 49), (some (46, true)), .bin .geq (.t 48) (.c (.int .i64 0))⟩, []),
  (⟨(some 50), none, .pick (.t 46) (.t 49) (.c (.bool false))⟩, []),
  (⟨(some 51), none, .mv (.t 50)⟩, []),
  (⟨(some 52), (some (51, true)), .fad 1 (.t 1)⟩, []),
  (⟨(some 53), (some (51, true)), .load 1 false (.t 52)⟩, []),
  (⟨(some 54), (some (51, true)), .bin .leq (.t 53) (.c (.int .i64 2147483647))⟩, []),
  (⟨(some 55), none, .pick (.t 51) (.t 54) (.c (.bool false))⟩, []),
  (⟨(some 56), none, .mv (.t 55)⟩, []),
  (⟨(some 57), (some (56, true)), .fad 2 (.t 1)⟩, []),
  (⟨(some 58), (some (56, true)), .load 1 false (.t 57)⟩, []),
  (⟨(some 59), (some (56, true)), .bin .geq (.t 58) (.c (.int .i64 0))⟩, []),
  (⟨(some 60), none, .pick (.t 56) (.t 59) (.c (.bool false))⟩, []),
  (⟨(some 61), none, .mv (.t 60)⟩, []),
  (⟨(some 62), (some (61, true)), .fad 2 (.t 1)⟩, []),
  (⟨(some 63), (some (61, true)), .load 1 false (.t 62)⟩, []),
  (⟨(some 64), (some (61, true)), .bin .leq (.t 63) (.c (.int .i64 2147483647))⟩, []),
  (⟨(some 65), none, .pick (.t 61) (.t 64) (.c (.bool false))⟩, []),
  (⟨(some 66), none, .mv (.t 65)⟩, []),
  (⟨(some 67), (some (66, true)), .fad 3 (.t 1)⟩, []),
  (⟨(some 68), (some (66, true)), .load 1 false (.t 67)⟩, []),
  (⟨(some 69), (some (66, true)), .bin .geq (.t 68) (.c (.int .i64 0))⟩, []),
  (⟨(some 70), none, .pick (.t 66) (.t 69) (.c (.bool false))⟩, []),
  (⟨(some 71), none, .mv (.t 70)⟩, []),
  (⟨(some 72), (some (71, true)), .fad 4 (.t 1)⟩, []),
  (⟨(some 73), (some (71, true)), .load 1 false (.t 72)⟩, []),
  (⟨(some 74), (some (71, true)), .len (.t 73)⟩, []),
  (⟨(some 75), (some (71, true)), .bin .leq (.t 74) (.c (.int .i64 8))⟩, []),
  (⟨(some 76), none, .pick (.t 71) (.t 75) (.c (.bool false))⟩, []),
  (⟨(some 77), none, .mv (.t 76)⟩, []),
  (⟨(some 78), (some (77, true)), .fad 5 (.t 1)⟩, []),
  (⟨(some 79), (some (77, true)), .load 1 false (.t 78)⟩, []),
  (⟨(some 80), (some (77, true)), .call 45 [(.t 79)]⟩, []),
  (⟨(some 81), none, .pick (.t 77) (.t 80) (.c (.bool false))⟩, []),
  (⟨(some 2), none, .mv (.t 81)⟩, [])] (some ([2], []))
/-- steamer/steamerref1.MayMeta : 1 parameters, results in [2] of 82 slots -/
abbrev l24 : LC := (.seq l24r0 (.seq (.seq l24r1 (.block 0 (.loop l24r6))) (.seq l24r7 .ret)))
def k24 (i : Nat) : Option Kp := match i with
  | 0 => (some ([1], []))
  | 1 => (some ([3, 1], []))
  | 2 => (some ([1, 3, 8], []))
  | 3 => (some ([3, 1], []))
  | 4 => (some ([1, 3, 37], []))
  | 5 => (some ([2], []))
  | 6 => (some ([2], []))
  | _ => none
theorem f24_told : Try.prog.funcs[24]? = some Try.f24 := by kernel_rfl
theorem f24_results : resTmps Try.f24 = some [2] := by kernel_rfl
theorem f24_text : (Try.f24.body.bind (trC Try.prog 82 k24 1000)) = some l24 := by kernel_rfl

abbrev l25r0 : LC := .reg false [(⟨(some 4), none, .mv (.c (.bool false))⟩, [])] (some ([1, 0], []))
abbrev l25r1 : LC := .reg false [(⟨(some 6), none, .mv (.t 0)⟩, []),
  (⟨(some 7), none, .len (.t 6)⟩, []),
  (⟨(some 8), none, .mv (.t 1)⟩, []),
  (⟨(some 9), none, .len (.t 8)⟩, []),
  (⟨(some 10), none, .bin .neq (.t 7) (.t 9)⟩, [])] (some ([1, 0, 10], []))
abbrev l25r2 : LC := .reg false [(⟨(some 4), none, .mv (.c (.bool false))⟩, [])] (some ([4], []))
abbrev l25r3 : LC := .reg false [(⟨(some 5), none, .mv (.c (.int .i64 0))⟩, [])] (some ([5, 1, 0], []))
abbrev l25r4 : LC := .reg false [(⟨(some 11), none, .mv (.t 5)⟩, []),
  (⟨(some 12), none, .mv (.t 0)⟩, []),
  (⟨(some 13), none, .len (.t 12)⟩, []),
  (⟨(some 14), none, .bin .lss (.t 11) (.t 13)⟩, [])] (some ([1, 0, 5, 14], []))
abbrev l25r5 : LC := .reg false [(⟨(some 17), none, .mv (.t 0)⟩, []),
  (⟨(some 18), none, .mv (.t 5)⟩, []),
  (⟨(some 19), none, .iad 2 (.t 17) (.t 18)⟩, []),
  (⟨(some 20), none, .load 2 true (.t 19)⟩, []),
  (⟨(some 21), none, .mv (.t 1)⟩, []),
  (⟨(some 22), none, .mv (.t 5)⟩, []),
  (⟨(some 23), none, .iad 2 (.t 21) (.t 22)⟩, []),
  (⟨(some 24), none, .load 2 true (.t 23)⟩, []),
  (⟨(some 25), none, .eqs true [1, 1] (.t 20) (.t 24)⟩, [])] (some ([1, 0, 5, 25], []))
abbrev l25r6 : LC := .reg false [(⟨(some 15), none, .mv (.t 5)⟩, []),
  (⟨(some 16), none, .bin .add (.t 15) (.c (.int .i64 1))⟩, []),
  (⟨(some 5), none, .mv (.t 16)⟩, [])] (some ([5, 1, 0], []))
abbrev l25r7 : LC := (.seq (.seq l25r4 (.cond (.t 14) .skip (.exit 0))) (.seq (.block 1 (.seq l25r5 (.cond (.t 25) (.seq l25r2 .ret) .skip))) l25r6))
abbrev l25r8 : LC := .reg false [(⟨(some 4), none, .mv (.c (.bool true))⟩, [])] (some ([4], []))
/-- steamer/steamerref1.SameAttrs : 2 parameters, results in [4] of 26 slots -/
abbrev l25 : LC := (.seq l25r0 (.seq (.seq l25r1 (.cond (.t 10) (.seq l25r2 .ret) .skip)) (.seq (.seq l25r3 (.block 0 (.loop l25r7))) (.seq l25r8 .ret))))
def k25 (i : Nat) : Option Kp := match i with
  | 0 => (some ([1, 0], []))
  | 1 => (some ([1, 0, 10], []))
  | 2 => (some ([4], []))
  | 3 => (some ([5, 1, 0], []))
  | 4 => (some ([1, 0, 5, 14], []))
  | 5 => (some ([5, 1, 0], []))
  | 6 => (some ([1, 0, 5, 25], []))
  | 7 => (some ([4], []))
  | 8 => (some ([4], []))
  | _ => none
theorem f25_told : Try.prog.funcs[25]? = some Try.f25 := by kernel_rfl
theorem f25_results : resTmps Try.f25 = some [4] := by kernel_rfl
theorem f25_text : (Try.f25.body.bind (trC Try.prog 26 k25 1000)) = some l25 := by kernel_rfl

abbrev l26r0 : LC := .reg false [(⟨(some 2), none, .box 6 (.t 0)⟩, []),
  (⟨(some 3), none, .box 6 (.t 1)⟩, []),
  (⟨(some 4), none, .mv (.c (.string ⟨#[]⟩))⟩, [])] (some ([3, 2], []))
abbrev l26r1 : LC := .reg false [(⟨(some 6), none, .fad 0 (.t 2)⟩, []),
  (⟨(some 7), none, .load 1 false (.t 6)⟩, []),
  (⟨(some 8), none, .fad 0 (.t 3)⟩, []),
  (⟨(some 9), none, .load 1 false (.t 8)⟩, []),
  (⟨(some 10), none, .bin .neq (.t 7) (.t 9)⟩, []),
  (⟨(some 5), none, .mv (.t 10)⟩, [])] (some ([3, 2, 5], []))
abbrev l26r2 : LC := .reg false [(⟨(some 4), none, .mv (.c (.string ⟨#[109, 111, 100, 101]⟩))⟩, [])] (some ([4], []))
abbrev l26r3 : LC := .reg false [(⟨(some 12), none, .fad 1 (.t 2)⟩, []),
  (⟨(some 13), none, .load 1 false (.t 12)⟩, []),
  (⟨(some 14), none, .fad 1 (.t 3)⟩, []),
  (⟨(some 15), none, .load 1 false (.t 14)⟩, []),
  (⟨(some 16), none, .bin .neq (.t 13) (.t 15)⟩, []),
  (⟨(some 11), none, .mv (.t 16)⟩, [])] (some ([3, 2, 11], []))
abbrev l26r4 : LC := .reg false [(⟨(some 4), none, .mv (.c (.string ⟨#[117, 105, 100]⟩))⟩, [])] (some ([4], []))
abbrev l26r5 : LC := .reg false [(⟨(some 18), none, .fad 2 (.t 2)⟩, []),
  (⟨(some 19), none, .load 1 false (.t 18)⟩, []),
  (⟨(some 20), none, .fad 2 (.t 3)⟩, []),
  (⟨(some 21), none, .load 1 false (.t 20)⟩, []),
  (⟨(some 22), none, .bin .neq (.t 19) (.t 21)⟩, []),
  (⟨(some 17), none, .mv (.t 22)⟩, [])] (some ([3, 2, 17], []))
abbrev l26r6 : LC := .reg false [(⟨(some 4), none, .mv (.c (.string ⟨#[103, 105, 100]⟩))⟩, [])] (some ([4], []))
abbrev l26r7 : LC := .reg false [(⟨(some 24), none, .fad 3 (.t 2)⟩, []),
  (⟨(some 25), none, .load 1 false (.t 24)⟩, []),
  (⟨(some 26), none, .fad 3 (.t 3)⟩, []),
  (⟨(some 27), none, .load 1 false (.t 26)⟩, []),
  (⟨(some 28), none, .bin .neq (.t 25) (.t 27)⟩, []),
  (⟨(some 23), none, .mv (.t 28)⟩, [])] (some ([3, 2, 23], []))
abbrev l26r8 : LC := .reg false [(⟨(some 4), none, .mv (.c (.string ⟨#[116, 105, 109, 101]⟩))⟩, [])] (some ([4], []))
abbrev l26r9 : LC := .reg false [(⟨(some 30), none, .fad 4 (.t 2)⟩, []),
  (⟨(some 31), none, .load 1 false (.t 30)⟩, []),
  (⟨(some 32), none, .fad 4 (.t 3)⟩, []),
  (⟨(some 33), none, .load 1 false (.t 32)⟩, []),
  (⟨(some 34), none, .call 46 [(.t 31), (.t 33)]⟩, []),
  (⟨(some 35), none, .un .not (.t 34)⟩, []),
  (⟨(some 29), none, .mv (.t 35)⟩, [])] (some ([3, 2, 29], []))
abbrev l26r10 : LC := .reg false [(⟨(some 4), none, .mv (.c (.string ⟨#[97, 116, 116, 114, 115]⟩))⟩, [])] (some ([4], []))
abbrev l26r11 : LC := .reg false [(⟨(some 37), none, .fad 5 (.t 2)⟩, []),
  (⟨(some 38), none, .load 1 false (.t 37)⟩, []),
  (⟨(some 39), none, .fad 5 (.t 3)⟩, []),
  (⟨(some 40), none, .load 1 false (.t 39)⟩, []),
  (⟨(some 41), none, .call 47 [(.t 38), (.t 40)]⟩, []),
  (⟨(some 42), none, .un .not (.t 41)⟩, []),
  (⟨(some 36), none, .mv (.t 42)⟩, [])] (some ([36], []))
abbrev l26r12 : LC := .reg false [(⟨(some 4), none, .mv (.c (.string ⟨#[97, 99, 108]⟩))⟩, [])] (some ([4], []))
abbrev l26r13 : LC := .reg false [(⟨(some 4), none, .mv (.c (.string ⟨#[]⟩))⟩, [])] (some ([4], []))
/-- steamer/meta.Diff : 2 parameters, results in [4] of 43 slots -/
abbrev l26 : LC := (.seq l26r0 (.seq (.block 0 (.seq l26r1 (.cond (.t 5) (.seq l26r2 .ret) (.seq l26r3 (.cond (.t 11) (.seq l26r4 .ret) (.seq l26r5 (.cond (.t 17) (.seq l26r6 .ret) (.seq l26r7 (.cond (.t 23) (.seq l26r8 .ret) (.seq l26r9 (.cond (.t 29) (.seq l26r10 .ret) (.seq l26r11 (.cond (.t 36) (.seq l26r12 .ret) .skip))))))))))))) (.seq l26r13 .ret)))
def k26 (i : Nat) : Option Kp := match i with
  | 0 => (some ([3, 2], []))
  | 1 => (some ([3, 2, 5], []))
  | 2 => (some ([4], []))
  | 3 => (some ([3, 2, 11], []))
  | 4 => (some ([4], []))
  | 5 => (some ([3, 2, 17], []))
  | 6 => (some ([4], []))
  | 7 => (some ([3, 2, 23], []))
  | 8 => (some ([4], []))
  | 9 => (some ([3, 2, 29], []))
  | 10 => (some ([4], []))
  | 11 => (some ([36], []))
  | 12 => (some ([4], []))
  | 13 => (some ([4], []))
  | _ => none
theorem f26_told : Try.prog.funcs[26]? = some Try.f26 := by kernel_rfl
theorem f26_results : resTmps Try.f26 = some [4] := by kernel_rfl
theorem f26_text : (Try.f26.body.bind (trC Try.prog 43 k26 1000)) = some l26 := by kernel_rfl

abbrev l27r0 : LC := .reg false [(⟨(some 2), none, .box 6 (.t 0)⟩, []),
  (⟨(some 3), none, .box 6 (.t 1)⟩, []),
  (⟨(some 4), none, .mv (.c (.string ⟨#[]⟩))⟩, [])] (some ([3, 2], []))
abbrev l27r1 : LC := .reg false [(⟨(some 6), none, .fad 0 (.t 2)⟩, []),
  (⟨(some 7), none, .load 1 false (.t 6)⟩, []),
  (⟨(some 8), none, .fad 0 (.t 3)⟩, []),
  (⟨(some 9), none, .load 1 false (.t 8)⟩, []),
  (⟨(some 10), none, .bin .neq (.t 7) (.t 9)⟩, []),
  (⟨(some 5), none, .mv (.t 10)⟩, [])] (some ([3, 2, 5], []))
abbrev l27r2 : LC := .reg false [(⟨(some 4), none, .mv (.c (.string ⟨#[109, 111, 100, 101]⟩))⟩, [])] (some ([4], []))
abbrev l27r3 : LC := .reg false [(⟨(some 12), none, .fad 1 (.t 2)⟩, []),
  (⟨(some 13), none, .load 1 false (.t 12)⟩, []),
  (⟨(some 14), none, .fad 1 (.t 3)⟩, []),
  (⟨(some 15), none, .load 1 false (.t 14)⟩, []),
  (⟨(some 16), none, .bin .neq (.t 13) (.t 15)⟩, []),
  (⟨(some 11), none, .mv (.t 16)⟩, [])] (some ([3, 2, 11], []))
abbrev l27r4 : LC := .reg false [(⟨(some 4), none, .mv (.c (.string ⟨#[117, 105, 100]⟩))⟩, [])] (some ([4], []))
abbrev l27r5 : LC := .reg false [(⟨(some 18), none, .fad 2 (.t 2)⟩, []),
  (⟨(some 19), none, .load 1 false (.t 18)⟩, []),
  (⟨(some 20), none, .fad 2 (.t 3)⟩, []),
  (⟨(some 21), none, .load 1 false (.t 20)⟩, []),
  (⟨(some 22), none, .bin .neq (.t 19) (.t 21)⟩, []),
  (⟨(some 17), none, .mv (.t 22)⟩, [])] (some ([3, 2, 17], []))
abbrev l27r6 : LC := .reg false [(⟨(some 4), none, .mv (.c (.string ⟨#[103, 105, 100]⟩))⟩, [])] (some ([4], []))
abbrev l27r7 : LC := .reg false [(⟨(some 24), none, .fad 3 (.t 2)⟩, []),
  (⟨(some 25), none, .load 1 false (.t 24)⟩, []),
  (⟨(some 26), none, .fad 3 (.t 3)⟩, []),
  (⟨(some 27), none, .load 1 false (.t 26)⟩, []),
  (⟨(some 28), none, .bin .neq (.t 25) (.t 27)⟩, []),
  (⟨(some 23), none, .mv (.t 28)⟩, [])] (some ([3, 2, 23], []))
abbrev l27r8 : LC := .reg false [(⟨(some 4), none, .mv (.c (.string ⟨#[116, 105, 109, 101]⟩))⟩, [])] (some ([4], []))
abbrev l27r9 : LC := .reg false [(⟨(some 30), none, .fad 4 (.t 2)⟩, []),
  (⟨(some 31), none, .load 1 false (.t 30)⟩, []),
  (⟨(some 32), none, .fad 4 (.t 3)⟩, []),
  (⟨(some 33), none, .load 1 false (.t 32)⟩, []),
  (⟨(some 34), none, .call 25 [(.t 31), (.t 33)]⟩, []),
  (⟨(some 35), none, .un .not (.t 34)⟩, []),
  (⟨(some 29), none, .mv (.t 35)⟩, [])] (some ([3, 2, 29], []))
abbrev l27r10 : LC := .reg false [(⟨(some 4), none, .mv (.c (.string ⟨#[97, 116, 116, 114, 115]⟩))⟩, [])] (some ([4], []))
abbrev l27r11 : LC := .reg false [(⟨(some 37), none, .fad 5 (.t 2)⟩, []),
  (⟨(some 38), none, .load 1 false (.t 37)⟩, []),
  (⟨(some 39), none, .fad 5 (.t 3)⟩, []),
  (⟨(some 40), none, .load 1 false (.t 39)⟩, []),
  (⟨(some 41), none, .call 48 [(.t 38), (.t 40)]⟩, []),
  (⟨(some 42), none, .un .not (.t 41)⟩, []),
  (⟨(some 36), none, .mv (.t 42)⟩, [])] (some ([36], []))
abbrev l27r12 : LC := .reg false [(⟨(some 4), none, .mv (.c (.string ⟨#[97, 99, 108]⟩))⟩, [])] (some ([4], []))
abbrev l27r13 : LC := .reg false [(⟨(some 4), none, .mv (.c (.string ⟨#[]⟩))⟩, [])] (some ([4], []))
/-- steamer/steamerref1.DiffMeta : 2 parameters, results in [4] of 43 slots -/
abbrev l27 : LC := (.seq l27r0 (.seq (.block 0 (.seq l27r1 (.cond (.t 5) (.seq l27r2 .ret) (.seq l27r3 (.cond (.t 11) (.seq l27r4 .ret) (.seq l27r5 (.cond (.t 17) (.seq l27r6 .ret) (.seq l27r7 (.cond (.t 23) (.seq l27r8 .ret) (.seq l27r9 (.cond (.t 29) (.seq l27r10 .ret) (.seq l27r11 (.cond (.t 36) (.seq l27r12 .ret) .skip))))))))))))) (.seq l27r13 .ret)))
def k27 (i : Nat) : Option Kp := match i with
  | 0 => (some ([3, 2], []))
  | 1 => (some ([3, 2, 5], []))
  | 2 => (some ([4], []))
  | 3 => (some ([3, 2, 11], []))
  | 4 => (some ([4], []))
  | 5 => (some ([3, 2, 17], []))
  | 6 => (some ([4], []))
  | 7 => (some ([3, 2, 23], []))
  | 8 => (some ([4], []))
  | 9 => (some ([3, 2, 29], []))
  | 10 => (some ([4], []))
  | 11 => (some ([36], []))
  | 12 => (some ([4], []))
  | 13 => (some ([4], []))
  | _ => none
theorem f27_told : Try.prog.funcs[27]? = some Try.f27 := by kernel_rfl
theorem f27_results : resTmps Try.f27 = some [4] := by kernel_rfl
theorem f27_text : (Try.f27.body.bind (trC Try.prog 43 k27 1000)) = some l27 := by kernel_rfl

abbrev l28r0 : LC := .reg false [(⟨(some 2), none, .box 6 (.t 0)⟩, []),
  (⟨(some 3), none, .box 6 (.t 1)⟩, []),
  (⟨(some 4), none, .mv (.c (.bool false))⟩, [])] (some ([3, 2], []))
abbrev l28r1 : LC := .reg false [(⟨(some 5), none, .load 6 true (.t 2)⟩, []),
  (⟨(some 6), none, .load 6 true (.t 3)⟩, []),
  (⟨(some 7), none, .call 26 [(.t 5), (.t 6)]⟩, []),
  (⟨(some 8), none, .bin .eql (.t 7) (.c (.string ⟨#[]⟩))⟩, []),
  (⟨(some 4), none, .mv (.t 8)⟩, [])] (some ([4], []))
/-- steamer/meta.Same : 2 parameters, results in [4] of 9 slots -/
abbrev l28 : LC := (.seq l28r0 (.seq l28r1 .ret))
def k28 (i : Nat) : Option Kp := match i with
  | 0 => (some ([3, 2], []))
  | 1 => (some ([4], []))
  | _ => none
theorem f28_told : Try.prog.funcs[28]? = some Try.f28 := by kernel_rfl
theorem f28_results : resTmps Try.f28 = some [4] := by kernel_rfl
theorem f28_text : (Try.f28.body.bind (trC Try.prog 9 k28 1000)) = some l28 := by kernel_rfl

abbrev l29r0 : LC := .reg false [(⟨(some 1), none, .box 6 (.t 0)⟩, []),
  (⟨(some 2), none, .alloc [(.int .i64 0), (.int .i64 0), (.int .i64 0), (.int .i64 0), (.slice none 0 0), (.slice none 0 0)]⟩, [])] (some ([2, 1], []))
abbrev l29r1 : LC := .reg true [(⟨(some 3), none, .fad 4 (.t 1)⟩, []),
  (⟨(some 4), none, .load 1 false (.t 3)⟩, []),
  (⟨(some 5), none, .call 39 [(.t 4)]⟩, []),
  (⟨(some 6), none, .fad 5 (.t 1)⟩, [2]),
  (⟨(some 7), none, .load 1 false (.t 6)⟩, [2]),
  (⟨(some 8), none, .call 49 [(.t 7)]⟩, []),
  (⟨(some 9), none, .fad 4 (.t 1)⟩, [5]),
  (⟨none, none, .store 1 (.t 9) (.t 5)⟩, []),
  (⟨(some 10), none, .fad 5 (.t 1)⟩, []),
  (⟨none, none, .store 1 (.t 10) (.t 8)⟩, [])] (some ([2, 1], []))
abbrev l29r2 : LC := .reg false [(⟨(some 11), none, .load 6 true (.t 1)⟩, []),
  (⟨none, none, .store 6 (.t 2) (.t 11)⟩, [])] (some ([2], []))
/-- steamer/meta.Copy : 1 parameters, results in [] of 12 slots -/
abbrev l29 : LC := (.seq l29r0 (.seq l29r1 (.seq l29r2 .ret)))
def k29 (i : Nat) : Option Kp := match i with
  | 0 => (some ([2, 1], []))
  | 1 => (some ([2, 1], []))
  | 2 => (some ([2], []))
  | _ => none
theorem f29_told : Try.prog.funcs[29]? = some Try.f29 := by kernel_rfl
theorem f29_cell : resCell Try.prog Try.f29 = some (2, 6, true) := by kernel_rfl
theorem f29_text : (Try.f29.body.bind (trC Try.prog 12 k29 1000)) = some l29 := by kernel_rfl

abbrev l39r0 : LC := .reg false [(⟨(some 2), none, .mv (.c (.slice none 0 0))⟩, [])] (some ([0], []))
abbrev l39r1 : LC := .reg false [(⟨(some 3), none, .mv (.t 0)⟩, []),
  (⟨(some 4), none, .eqn false (.t 3)⟩, [])] (some ([0, 4], []))
abbrev l39r2 : LC := .reg false [(⟨(some 2), none, .mv (.c (.slice none 0 0))⟩, [])] (some ([2], [.slot 2 502 2]))
abbrev l39r3 : LC := .reg false [(⟨(some 5), none, .bslice 2 0 [(.string ⟨#[]⟩), (.string ⟨#[]⟩)] []⟩, []),
  (⟨(some 6), none, .mv (.t 0)⟩, []),
  (⟨(some 7), none, .app 2 32 [(.string ⟨#[]⟩), (.string ⟨#[]⟩)] (.t 5) (.t 6)⟩, []),
  (⟨(some 2), none, .mv (.t 7)⟩, [])] (some ([2], []))
/-- slices.Clone[[]steamer/api.Attr,steamer/api.Attr] : 1 parameters, results in [2] of 8 slots -/
abbrev l39 : LC := (.seq l39r0 (.seq (.seq l39r1 (.cond (.t 4) (.seq l39r2 .ret) .skip)) (.seq l39r3 .ret)))
def k39 (i : Nat) : Option Kp := match i with
  | 0 => (some ([0], []))
  | 1 => (some ([0, 4], []))
  | 2 => (some ([2], [.slot 2 502 2]))
  | 3 => (some ([2], []))
  | _ => none
theorem f39_told : Try.prog.funcs[39]? = some Try.f39 := by kernel_rfl
theorem f39_results : resTmps Try.f39 = some [2] := by kernel_rfl
theorem f39_text : (Try.f39.body.bind (trC Try.prog 8 k39 1000)) = some l39 := by kernel_rfl

abbrev l40r0 : LC := .reg false [(⟨(some 4), none, .mv (.t 0)⟩, []),
  (⟨(some 5), none, .mv (.t 0)⟩, []),
  (⟨(some 6), none, .len (.t 5)⟩, []),
  (⟨(some 7), none, .mv (.t 1)⟩, []),
  (⟨(some 8), none, .call 52 [(.t 4), (.t 6), (.t 7)]⟩, [])] (some ([], []))
/-- slices.SortStableFunc[[]steamer/api.Attr,steamer/api.Attr] : 2 parameters, results in [] of 9 slots -/
abbrev l40 : LC := l40r0
def k40 (i : Nat) : Option Kp := match i with
  | 0 => (some ([], []))
  | _ => none
theorem f40_told : Try.prog.funcs[40]? = some Try.f40 := by kernel_rfl
theorem f40_results : resTmps Try.f40 = some [] := by kernel_rfl
theorem f40_text : (Try.f40.body.bind (trC Try.prog 9 k40 1000)) = some l40 := by kernel_rfl

abbrev l41r0 : LC := .reg false [(⟨(some 2), none, .box 2 (.t 0)⟩, []),
  (⟨(some 3), none, .box 2 (.t 1)⟩, []),
  (⟨(some 4), none, .mv (.c (.int .i64 0))⟩, [])] (some ([3, 2], []))
abbrev l41r1 : LC := .reg false [(⟨(some 5), none, .fad 0 (.t 2)⟩, []),
  (⟨(some 6), none, .load 1 false (.t 5)⟩, []),
  (⟨(some 7), none, .fad 0 (.t 3)⟩, []),
  (⟨(some 8), none, .load 1 false (.t 7)⟩, []),
  (⟨(some 9), none, .call 53 [(.t 6), (.t 8)]⟩, []),
  (⟨(some 4), none, .mv (.t 9)⟩, [])] (some ([4], []))
/-- steamer/meta.order : 2 parameters, results in [4] of 10 slots -/
abbrev l41 : LC := (.seq l41r0 (.seq l41r1 .ret))
def k41 (i : Nat) : Option Kp := match i with
  | 0 => (some ([3, 2], []))
  | 1 => (some ([4], []))
  | _ => none
theorem f41_told : Try.prog.funcs[41]? = some Try.f41 := by kernel_rfl
theorem f41_results : resTmps Try.f41 = some [4] := by kernel_rfl
theorem f41_text : (Try.f41.body.bind (trC Try.prog 10 k41 1000)) = some l41 := by kernel_rfl

abbrev l42r0 : LC := .reg false [(⟨(some 1), none, .box 2 (.t 0)⟩, []),
  (⟨(some 2), none, .mv (.c (.bool false))⟩, [])] (some ([1], []))
abbrev l42r1 : LC := .reg false [(⟨(some 3), none, .fad 0 (.t 1)⟩, []),
  (⟨(some 4), none, .load 1 false (.t 3)⟩, []),
  (⟨(some 5), none, .lenS (.t 4)⟩, []),
  (⟨(some 6), none, .bin .geq (.t 5) (.c (.int .i64 1))⟩, []),
  (⟨(some 7), none, .mv (.t 6)⟩, []),
  (⟨(some 8), (some (7, true)), .fad 0 (.t 1)⟩, []),
  (⟨(some 9), (some (7, true)), .load 1 false (.t 8)⟩, []),
  (⟨(some 10), (some (7, true)), .lenS (.t 9)⟩, []),
  (⟨(some 11), (some (7, true)), .bin .leq (.t 10) (.c (.int .i64 20))⟩, []),
  (⟨(some 12), none, .pick (.t 7) (.t 11) (.c (.bool false))⟩, []),
  (⟨(some 13), none, .mv (.t 12)⟩, []),
  (⟨(some 14), (some (13, true)), .fad 1 (.t 1)⟩, []),
  (⟨(some 15), (some (13, true)), .load 1 false (.t 14)⟩, []),
  (⟨(some 16), (some (13, true)), .lenS (.t 15)⟩, []),
  (⟨(some 17), (some (13, true)), .bin .leq (.t 16) (.c (.int .i64 200))⟩, []),
  (⟨(some 18), none, .pick (.t 13) (.t 17) (.c (.bool false))⟩, []),
  (⟨(some 2), none, .mv (.t 18)⟩, [])] (some ([2], []))
/-- steamer/meta.good : 1 parameters, results in [2] of 19 slots -/
abbrev l42 : LC := (.seq l42r0 (.seq l42r1 .ret))
def k42 (i : Nat) : Option Kp := match i with
  | 0 => (some ([1], []))
  | 1 => (some ([2], []))
  | _ => none
theorem f42_told : Try.prog.funcs[42]? = some Try.f42 := by kernel_rfl
theorem f42_results : resTmps Try.f42 = some [2] := by kernel_rfl
theorem f42_text : (Try.f42.body.bind (trC Try.prog 19 k42 1000)) = some l42 := by kernel_rfl

abbrev l43r0 : LC := .reg false [(⟨(some 1), none, .box 2 (.t 0)⟩, []),
  (⟨(some 2), none, .mv (.c (.bool false))⟩, [])] (some ([1], []))
abbrev l43r1 : LC := .reg false [(⟨(some 3), none, .fad 0 (.t 1)⟩, []),
  (⟨(some 4), none, .load 1 false (.t 3)⟩, []),
  (⟨(some 5), none, .lenS (.t 4)⟩, []),
  (⟨(some 6), none, .bin .geq (.t 5) (.c (.int .i64 1))⟩, []),
  (⟨(some 7), none, .mv (.t 6)⟩, []),
  (⟨(some 8), (some (7, true)), .fad 0 (.t 1)⟩, []),
  (⟨(some 9), (some (7, true)), .load 1 false (.t 8)⟩, []),
  (⟨(some 10), (some (7, true)), .lenS (.t 9)⟩, []),
  (⟨(some 11), (some (7, true)), .bin .leq (.t 10) (.c (.int .i64 20))⟩, []),
  (⟨(some 12), none, .pick (.t 7) (.t 11) (.c (.bool false))⟩, []),
  (⟨(some 13), none, .mv (.t 12)⟩, []),
  (⟨(some 14), (some (13, true)), .fad 1 (.t 1)⟩, []),
  (⟨(some 15), (some (13, true)), .load 1 false (.t 14)⟩, []),
  (⟨(some 16), (some (13, true)), .lenS (.t 15)⟩, []),
  (⟨(some 17), (some (13, true)), .bin .leq (.t 16) (.c (.int .i64 200))⟩, []),
  (⟨(some 18), none, .pick (.t 13) (.t 17) (.c (.bool false))⟩, []),
  (⟨(some 2), none, .mv (.t 18)⟩, [])] (some ([2], []))
/-- steamer/steamerref1.attr : 1 parameters, results in [2] of 19 slots -/
abbrev l43 : LC := (.seq l43r0 (.seq l43r1 .ret))
def k43 (i : Nat) : Option Kp := match i with
  | 0 => (some ([1], []))
  | 1 => (some ([2], []))
  | _ => none
theorem f43_told : Try.prog.funcs[43]? = some Try.f43 := by kernel_rfl
theorem f43_results : resTmps Try.f43 = some [2] := by kernel_rfl
theorem f43_text : (Try.f43.body.bind (trC Try.prog 19 k43 1000)) = some l43 := by kernel_rfl

abbrev l44r0 : LC := .reg false [(⟨(some 2), none, .mv (.c (.bool false))⟩, [])] (some ([0], []))
abbrev l44r1 : LC := .reg false [(⟨(some 3), none, .mv (.c (.int .i64 0))⟩, [])] (some ([0, 3], []))
abbrev l44r2 : LC := .reg false [(⟨(some 4), none, .mv (.t 3)⟩, []),
  (⟨(some 5), none, .mv (.t 0)⟩, []),
  (⟨(some 6), none, .len (.t 5)⟩, []),
  (⟨(some 7), none, .bin .lss (.t 4) (.t 6)⟩, [])] (some ([0, 3, 7], []))
abbrev l44r3 : LC := .reg false [(⟨(some 8), none, .mv (.t 0)⟩, []),
  (⟨(some 9), none, .mv (.t 3)⟩, []),
  (⟨(some 10), none, .iad 3 (.t 8) (.t 9)⟩, []),
  (⟨(some 11), none, .load 3 true (.t 10)⟩, []),
  (⟨(some 12), none, .call 54 [(.t 11)]⟩, []),
  (⟨(some 13), none, .un .not (.t 12)⟩, []),
  (⟨(some 14), none, .mv (.t 13)⟩, []),
  (⟨(some 15), (some (14, false)), .mv (.t 3)⟩, []),
  (⟨(some 16), (some (14, false)), .bin .gtr (.t 15) (.c (.int .i64 0))⟩, []),
  (⟨(some 17), (some (14, false)), .mv (.t 16)⟩, []),
  (⟨(some 18), (some (17, true)), .mv (.t 0)⟩, []),
  (⟨(some 19), (some (17, true)), .mv (.t 3)⟩, []),
  (⟨(some 20), (some (17, true)), .bin .sub (.t 19) (.c (.int .i64 1))⟩, []),
  (⟨(some 21), (some (17, true)), .iad 3 (.t 18) (.t 20)⟩, []),
  (⟨(some 22), (some (17, true)), .load 3 true (.t 21)⟩, []),
  (⟨(some 23), (some (17, true)), .mv (.t 0)⟩, []),
  (⟨(some 24), (some (17, true)), .mv (.t 3)⟩, []),
  (⟨(some 25), (some (17, true)), .iad 3 (.t 23) (.t 24)⟩, []),
  (⟨(some 26), (some (17, true)), .load 3 true (.t 25)⟩, []),
  (⟨(some 27), (some (17, true)), .call 55 [(.t 22), (.t 26)]⟩, []),
  (⟨(some 28), (some (17, true)), .bin .geq (.t 27) (.c (.int .i64 0))⟩, []),
  (⟨(some 29), (some (14, false)), .pick (.t 17) (.t 28) (.c (.bool false))⟩, []),
  (⟨(some 30), none, .pick (.t 14) (.c (.bool true)) (.t 29)⟩, [])] (some ([0, 3, 30], []))
abbrev l44r4 : LC := .reg false [(⟨(some 2), none, .mv (.c (.bool false))⟩, [])] (some ([2], []))
abbrev l44r5 : LC := .reg false [(⟨(some 31), none, .mv (.t 3)⟩, []),
  (⟨(some 32), none, .bin .add (.t 31) (.c (.int .i64 1))⟩, []),
  (⟨(some 3), none, .mv (.t 32)⟩, [])] (some ([3, 0], []))
abbrev l44r6 : LC := .reg false [(⟨(some 33), none, .mv (.t 0)⟩, []),
  (⟨(some 34), none, .len (.t 33)⟩, []),
  (⟨(some 35), none, .bin .leq (.t 34) (.c (.int .i64 16))⟩, []),
  (⟨(some 36), none, .mv (.t 35)⟩, []),
  (⟨(some 37), (some (36, true)), .mv (.t 0)⟩, []),
  (⟨(some 38), (some (36, true)), .len (.t 37)⟩, []),
  (⟨(some 39), (some (36, true)), .bin .eql (.t 38) (.c (.int .i64 0))⟩, []),
  (⟨(some 40), (some (36, true)), .mv (.t 39)⟩, []),
  (⟨(some 41), (some (40, false)), .mv (.t 0)⟩, []),
  (⟨(some 42), (some (40, false)), .mv (.t 0)⟩, []),
  (⟨(some 43), (some (40, false)), .len (.t 42)⟩, []),
  (⟨(some 44), (some (40, false)), .bin .sub (.t 43) (.c (.int .i64 1))⟩, []),
  (⟨(some 45), (some (40, false)), .iad 3 (.t 41) (.t 44)⟩, []),
  (⟨(some 46), (some (40, false)), .fad 0 (.t 45)⟩, []),
  (⟨(some 47), (some (40, false)), .load 1 false (.t 46)⟩, []),
  (⟨(some 48), (some (40, false)), .bin .eql (.t 47) (.c (.int .i64 3))⟩, []),
  (⟨(some 49), (some (36, true)), .pick (.t 40) (.c (.bool true)) (.t 48)⟩, []),
  (⟨(some 50), none, .pick (.t 36) (.t 49) (.c (.bool false))⟩, []),
  (⟨(some 2), none, .mv (.t 50)⟩, [])] (some ([2], []))
abbrev l44r7 : LC := (.seq l44r1 (.seq .label (.seq (.seq l44r2 (.cond (.t 7) (.seq (.seq l44r3 (.cond (.t 30) (.seq l44r4 .ret) .skip)) (.seq l44r5 (.goto 0))) .skip)) (.seq l44r6 .ret))))
abbrev l44r8 : LC := (.seq .skip (.seq (.seq l44r2 (.cond (.t 7) (.seq (.seq l44r3 (.cond (.t 30) (.seq l44r4 .ret) .skip)) (.seq l44r5 (.goto 0))) .skip)) (.seq l44r6 .ret)))
/-- steamer/acl.May : 1 parameters, results in [2] of 51 slots -/
abbrev l44 : LC := (.seq l44r0 (.scope 0 l44r7 l44r8))
def k44 (i : Nat) : Option Kp := match i with
  | 0 => (some ([0], []))
  | 1 => (some ([0, 3], []))
  | 2 => (some ([0, 3, 7], []))
  | 3 => (some ([0, 3, 30], []))
  | 4 => (some ([2], []))
  | 5 => (some ([3, 0], []))
  | 6 => (some ([2], []))
  | _ => none
theorem f44_told : Try.prog.funcs[44]? = some Try.f44 := by kernel_rfl
theorem f44_results : resTmps Try.f44 = some [2] := by kernel_rfl
theorem f44_text : (Try.f44.body.bind (trC Try.prog 51 k44 1000)) = some l44 := by kernel_rfl

abbrev l45r0 : LC := .reg false [(⟨(some 2), none, .mv (.c (.bool false))⟩, [])] (some ([0], []))
abbrev l45r1 : LC := .reg false [(⟨(some 3), none, .mv (.c (.int .i64 0))⟩, [])] (some ([3, 0], []))
abbrev l45r2 : LC := .reg false [(⟨(some 4), none, .mv (.t 3)⟩, []),
  (⟨(some 5), none, .mv (.t 0)⟩, []),
  (⟨(some 6), none, .len (.t 5)⟩, []),
  (⟨(some 7), none, .bin .lss (.t 4) (.t 6)⟩, [])] (some ([0, 3, 7], []))
abbrev l45r3 : LC := .reg false [(⟨(some 10), none, .mv (.t 0)⟩, []),
  (⟨(some 11), none, .mv (.t 3)⟩, []),
  (⟨(some 12), none, .iad 3 (.t 10) (.t 11)⟩, []),
  (⟨(some 13), none, .load 3 true (.t 12)⟩, []),
  (⟨(some 14), none, .call 56 [(.t 13)]⟩, []),
  (⟨(some 15), none, .un .not (.t 14)⟩, []),
  (⟨(some 16), none, .mv (.t 15)⟩, []),
  (⟨(some 17), (some (16, false)), .mv (.t 3)⟩, []),
  (⟨(some 18), (some (16, false)), .bin .gtr (.t 17) (.c (.int .i64 0))⟩, []),
  (⟨(some 19), (some (16, false)), .mv (.t 18)⟩, []),
  (⟨(some 20), (some (19, true)), .mv (.t 0)⟩, []),
  (⟨(some 21), (some (19, true)), .mv (.t 3)⟩, []),
  (⟨(some 22), (some (19, true)), .bin .sub (.t 21) (.c (.int .i64 1))⟩, []),
  (⟨(some 23), (some (19, true)), .iad 3 (.t 20) (.t 22)⟩, []),
  (⟨(some 24), (some (19, true)), .load 3 true (.t 23)⟩, []),
  (⟨(some 25), (some (19, true)), .mv (.t 0)⟩, []),
  (⟨(some 26), (some (19, true)), .mv (.t 3)⟩, []),
  (⟨(some 27), (some (19, true)), .iad 3 (.t 25) (.t 26)⟩, []),
  (⟨(some 28), (some (19, true)), .load 3 true (.t 27)⟩, []),
  (⟨(some 29), (some (19, true)), .call 57 [(.t 24), (.t 28)]⟩, []),
  (⟨(some 30), (some (19, true)), .un .not (.t 29)⟩, []),
  (⟨(some 31), (some (16, false)), .pick (.t 19) (.t 30) (.c (.bool false))⟩, []),
  (⟨(some 32), none, .pick (.t 16) (.c (.bool true)) (.t 31)⟩, [])] (some ([0, 3, 32], []))
abbrev l45r4 : LC := .reg false [(⟨(some 2), none, .mv (.c (.bool false))⟩, [])] (some ([2], []))
abbrev l45r5 : LC := .reg false [(⟨(some 8), none, .mv (.t 3)⟩, []),
  (⟨(some 9), none, .bin .add (.t 8) (.c (.int .i64 1))⟩, []),
  (⟨(some 3), none, .mv (.t 9)⟩, [])] (some ([3, 0], []))
abbrev l45r6 : LC := (.seq (.seq l45r2 (.cond (.t 7) .skip (.exit 0))) (.seq (.block 1 (.seq l45r3 (.cond (.t 32) (.seq l45r4 .ret) .skip))) l45r5))
abbrev l45r7 : LC := .reg false [(⟨(some 33), none, .mv (.t 0)⟩, []),
  (⟨(some 34), none, .len (.t 33)⟩, []),
  (⟨(some 35), none, .bin .leq (.t 34) (.c (.int .i64 16))⟩, []),
  (⟨(some 36), none, .mv (.t 35)⟩, []),
  (⟨(some 37), (some (36, true)), .mv (.t 0)⟩, []),
  (⟨(some 38), (some (36, true)), .call 58 [(.t 37)]⟩, []),
  (⟨(some 39), (some (36, true)), .un .not (.t 38)⟩, []),
  (⟨(some 40), none, .pick (.t 36) (.t 39) (.c (.bool false))⟩, []),
  (⟨(some 2), none, .mv (.t 40)⟩, [])] (some ([2], []))
/-- steamer/steamerref1.MayAcl : 1 parameters, results in [2] of 41 slots -/
abbrev l45 : LC := (.seq l45r0 (.seq (.seq l45r1 (.block 0 (.loop l45r6))) (.seq l45r7 .ret)))
def k45 (i : Nat) : Option Kp := match i with
  | 0 => (some ([0], []))
  | 1 => (some ([3, 0], []))
  | 2 => (some ([0, 3, 7], []))
  | 3 => (some ([3, 0], []))
  | 4 => (some ([0, 3, 32], []))
  | 5 => (some ([2], []))
  | 6 => (some ([2], []))
  | _ => none
theorem f45_told : Try.prog.funcs[45]? = some Try.f45 := by kernel_rfl
theorem f45_results : resTmps Try.f45 = some [2] := by kernel_rfl
theorem f45_text : (Try.f45.body.bind (trC Try.prog 41 k45 1000)) = some l45 := by kernel_rfl

abbrev l46r0 : LC := .reg false [(⟨(some 4), none, .mv (.c (.bool false))⟩, [])] (some ([1, 0], []))
abbrev l46r1 : LC := .reg false [(⟨(some 6), none, .mv (.t 0)⟩, []),
  (⟨(some 7), none, .len (.t 6)⟩, []),
  (⟨(some 8), none, .mv (.t 1)⟩, []),
  (⟨(some 9), none, .len (.t 8)⟩, []),
  (⟨(some 10), none, .bin .neq (.t 7) (.t 9)⟩, [])] (some ([1, 0, 10], []))
abbrev l46r2 : LC := .reg false [(⟨(some 4), none, .mv (.c (.bool false))⟩, [])] (some ([4], []))
abbrev l46r3 : LC := .reg false [(⟨(some 11), none, .mv (.t 0)⟩, []),
  (⟨(some 12), none, .len (.t 11)⟩, []),
  (⟨(some 13), none, .mv (.c (.int .i64 0))⟩, [])] (some ([13, 1, 0, 12], []))
abbrev l46r4 : LC := .reg false [(⟨(some 14), none, .bin .lss (.t 13) (.t 12)⟩, [])] (some ([1, 0, 12, 13, 14], []))
abbrev l46r5 : LC := .reg false [(⟨(some 15), none, .mv (.t 13)⟩, []),
  (⟨(some 5), none, .mv (.t 15)⟩, [])] (some ([1, 0, 12, 13, 5], []))
abbrev l46r6 : LC := .reg false [(⟨(some 16), none, .mv (.t 0)⟩, []),
  (⟨(some 17), none, .mv (.t 5)⟩, []),
  (⟨(some 18), none, .iad 2 (.t 16) (.t 17)⟩, []),
  (⟨(some 19), none, .load 2 true (.t 18)⟩, []),
  (⟨(some 20), none, .mv (.t 1)⟩, []),
  (⟨(some 21), none, .mv (.t 5)⟩, []),
  (⟨(some 22), none, .iad 2 (.t 20) (.t 21)⟩, []),
  (⟨(some 23), none, .load 2 true (.t 22)⟩, []),
  (⟨(some 24), none, .eqs true [1, 1] (.t 19) (.t 23)⟩, [])] (some ([1, 0, 12, 13, 24], []))
abbrev l46r7 : LC := .reg false [(⟨(some 25), none, .bin .add (.t 13) (.c (.int .i64 1))⟩, []),
  (⟨(some 13), none, .mv (.t 25)⟩, [])] (some ([13, 1, 0, 12], []))
abbrev l46r8 : LC := (.seq l46r4 (.seq (.cond (.t 14) .skip (.exit 0)) (.seq (.block 1 (.seq l46r5 (.seq l46r6 (.cond (.t 24) (.seq l46r2 .ret) .skip)))) l46r7)))
abbrev l46r9 : LC := .reg false [(⟨(some 4), none, .mv (.c (.bool true))⟩, [])] (some ([4], []))
/-- slices.Equal[[]steamer/api.Attr,steamer/api.Attr] : 2 parameters, results in [4] of 26 slots -/
abbrev l46 : LC := (.seq l46r0 (.seq (.seq l46r1 (.cond (.t 10) (.seq l46r2 .ret) .skip)) (.seq (.seq l46r3 (.block 0 (.loop l46r8))) (.seq l46r9 .ret))))
def k46 (i : Nat) : Option Kp := match i with
  | 0 => (some ([1, 0], []))
  | 1 => (some ([1, 0, 10], []))
  | 2 => (some ([4], []))
  | 3 => (some ([13, 1, 0, 12], []))
  | 4 => (some ([1, 0, 12, 13, 14], []))
  | 5 => (some ([1, 0, 12, 13, 5], []))
  | 6 => (some ([1, 0, 12, 13, 24], []))
  | 7 => (some ([4], []))
  | 8 => (some ([13, 1, 0, 12], []))
  | 9 => (some ([4], []))
  | _ => none
theorem f46_told : Try.prog.funcs[46]? = some Try.f46 := by kernel_rfl
theorem f46_results : resTmps Try.f46 = some [4] := by kernel_rfl
theorem f46_text : (Try.f46.body.bind (trC Try.prog 26 k46 1000)) = some l46 := by kernel_rfl

abbrev l47r0 : LC := .reg false [(⟨(some 4), none, .mv (.c (.bool false))⟩, [])] (some ([1, 0], []))
abbrev l47r1 : LC := .reg false [(⟨(some 5), none, .mv (.t 0)⟩, []),
  (⟨(some 6), none, .mv (.t 1)⟩, []),
  (⟨(some 7), none, .call 59 [(.t 5), (.t 6)]⟩, []),
  (⟨(some 4), none, .mv (.t 7)⟩, [])] (some ([4], []))
/-- steamer/acl.Same : 2 parameters, results in [4] of 8 slots -/
abbrev l47 : LC := (.seq l47r0 (.seq l47r1 .ret))
def k47 (i : Nat) : Option Kp := match i with
  | 0 => (some ([1, 0], []))
  | 1 => (some ([4], []))
  | _ => none
theorem f47_told : Try.prog.funcs[47]? = some Try.f47 := by kernel_rfl
theorem f47_results : resTmps Try.f47 = some [4] := by kernel_rfl
theorem f47_text : (Try.f47.body.bind (trC Try.prog 8 k47 1000)) = some l47 := by kernel_rfl

abbrev l48r0 : LC := .reg false [(⟨(some 4), none, .mv (.c (.bool false))⟩, [])] (some ([1, 0], []))
abbrev l48r1 : LC := .reg false [(⟨(some 6), none, .mv (.t 0)⟩, []),
  (⟨(some 7), none, .len (.t 6)⟩, []),
  (⟨(some 8), none, .mv (.t 1)⟩, []),
  (⟨(some 9), none, .len (.t 8)⟩, []),
  (⟨(some 10), none, .bin .neq (.t 7) (.t 9)⟩, [])] (some ([1, 0, 10], []))
abbrev l48r2 : LC := .reg false [(⟨(some 4), none, .mv (.c (.bool false))⟩, [])] (some ([4], []))
abbrev l48r3 : LC := .reg false [(⟨(some 5), none, .mv (.c (.int .i64 0))⟩, [])] (some ([5, 1, 0], []))
abbrev l48r4 : LC := .reg false [(⟨(some 11), none, .mv (.t 5)⟩, []),
  (⟨(some 12), none, .mv (.t 0)⟩, []),
  (⟨(some 13), none, .len (.t 12)⟩, []),
  (⟨(some 14), none, .bin .lss (.t 11) (.t 13)⟩, [])] (some ([1, 0, 5, 14], []))
abbrev l48r5 : LC := .reg false [(⟨(some 17), none, .mv (.t 0)⟩, []),
  (⟨(some 18), none, .mv (.t 5)⟩, []),
  (⟨(some 19), none, .iad 3 (.t 17) (.t 18)⟩, []),
  (⟨(some 20), none, .load 3 true (.t 19)⟩, []),
  (⟨(some 21), none, .mv (.t 1)⟩, []),
  (⟨(some 22), none, .mv (.t 5)⟩, []),
  (⟨(some 23), none, .iad 3 (.t 21) (.t 22)⟩, []),
  (⟨(some 24), none, .load 3 true (.t 23)⟩, []),
  (⟨(some 25), none, .eqs true [0, 0, 0] (.t 20) (.t 24)⟩, [])] (some ([1, 0, 5, 25], []))
abbrev l48r6 : LC := .reg false [(⟨(some 15), none, .mv (.t 5)⟩, []),
  (⟨(some 16), none, .bin .add (.t 15) (.c (.int .i64 1))⟩, []),
  (⟨(some 5), none, .mv (.t 16)⟩, [])] (some ([5, 1, 0], []))
abbrev l48r7 : LC := (.seq (.seq l48r4 (.cond (.t 14) .skip (.exit 0))) (.seq (.block 1 (.seq l48r5 (.cond (.t 25) (.seq l48r2 .ret) .skip))) l48r6))
abbrev l48r8 : LC := .reg false [(⟨(some 4), none, .mv (.c (.bool true))⟩, [])] (some ([4], []))
/-- steamer/steamerref1.SameAcl : 2 parameters, results in [4] of 26 slots -/
abbrev l48 : LC := (.seq l48r0 (.seq (.seq l48r1 (.cond (.t 10) (.seq l48r2 .ret) .skip)) (.seq (.seq l48r3 (.block 0 (.loop l48r7))) (.seq l48r8 .ret))))
def k48 (i : Nat) : Option Kp := match i with
  | 0 => (some ([1, 0], []))
  | 1 => (some ([1, 0, 10], []))
  | 2 => (some ([4], []))
  | 3 => (some ([5, 1, 0], []))
  | 4 => (some ([1, 0, 5, 14], []))
  | 5 => (some ([5, 1, 0], []))
  | 6 => (some ([1, 0, 5, 25], []))
  | 7 => (some ([4], []))
  | 8 => (some ([4], []))
  | _ => none
theorem f48_told : Try.prog.funcs[48]? = some Try.f48 := by kernel_rfl
theorem f48_results : resTmps Try.f48 = some [4] := by kernel_rfl
theorem f48_text : (Try.f48.body.bind (trC Try.prog 26 k48 1000)) = some l48 := by kernel_rfl

abbrev l49r0 : LC := .reg false [(⟨(some 2), none, .mv (.c (.slice none 0 0))⟩, [])] (some ([0], []))
abbrev l49r1 : LC := .reg false [(⟨(some 3), none, .mv (.t 0)⟩, []),
  (⟨(some 4), none, .eqn false (.t 3)⟩, [])] (some ([0, 4], []))
abbrev l49r2 : LC := .reg false [(⟨(some 2), none, .mv (.c (.slice none 0 0))⟩, [])] (some ([2], [.slot 2 502 3]))
abbrev l49r3 : LC := .reg false [(⟨(some 5), none, .bslice 3 0 [(.int .i64 0), (.int .i64 0), (.int .i64 0)] []⟩, []),
  (⟨(some 6), none, .mv (.t 0)⟩, []),
  (⟨(some 7), none, .app 3 24 [(.int .i64 0), (.int .i64 0), (.int .i64 0)] (.t 5) (.t 6)⟩, []),
  (⟨(some 2), none, .mv (.t 7)⟩, [])] (some ([2], []))
/-- slices.Clone[[]steamer/api.Ace,steamer/api.Ace] : 1 parameters, results in [2] of 8 slots -/
abbrev l49 : LC := (.seq l49r0 (.seq (.seq l49r1 (.cond (.t 4) (.seq l49r2 .ret) .skip)) (.seq l49r3 .ret)))
def k49 (i : Nat) : Option Kp := match i with
  | 0 => (some ([0], []))
  | 1 => (some ([0, 4], []))
  | 2 => (some ([2], [.slot 2 502 3]))
  | 3 => (some ([2], []))
  | _ => none
theorem f49_told : Try.prog.funcs[49]? = some Try.f49 := by kernel_rfl
theorem f49_results : resTmps Try.f49 = some [2] := by kernel_rfl
theorem f49_text : (Try.f49.body.bind (trC Try.prog 8 k49 1000)) = some l49 := by kernel_rfl

abbrev l52r0 : LC := .reg false [(⟨(some 6), none, .mv (.c (.int .i64 20))⟩, [])] (some ([6, 2, 0, 1], []))
abbrev l52r1 : LC := .reg false [(⟨(some 10), none, .mv (.t 6)⟩, []),
  (⟨(some 7), none, .mv (.c (.int .i64 0))⟩, []),
  (⟨(some 8), none, .mv (.t 10)⟩, [])] (some ([6, 8, 2, 7, 0, 1], []))
abbrev l52r2 : LC := .reg false [(⟨(some 11), none, .mv (.t 8)⟩, []),
  (⟨(some 12), none, .mv (.t 1)⟩, []),
  (⟨(some 13), none, .bin .leq (.t 11) (.t 12)⟩, [])] (some ([6, 2, 0, 1, 8, 7, 13], []))
abbrev l52r3 : LC := .reg false [(⟨(some 14), none, .mv (.t 0)⟩, []),
  (⟨(some 15), none, .mv (.t 7)⟩, []),
  (⟨(some 16), none, .mv (.t 8)⟩, []),
  (⟨(some 17), none, .mv (.t 2)⟩, []),
  (⟨(some 18), none, .call 62 [(.t 14), (.t 15), (.t 16), (.t 17)]⟩, [])] (some ([6, 2, 0, 1, 8], []))
abbrev l52r4 : LC := .reg false [(⟨(some 19), none, .mv (.t 8)⟩, []),
  (⟨(some 7), none, .mv (.t 19)⟩, [])] (some ([6, 2, 7, 0, 1, 8], []))
abbrev l52r5 : LC := .reg false [(⟨(some 20), none, .mv (.t 8)⟩, []),
  (⟨(some 21), none, .mv (.t 6)⟩, []),
  (⟨(some 22), none, .bin .add (.t 20) (.t 21)⟩, []),
  (⟨(some 8), none, .mv (.t 22)⟩, [])] (some ([6, 8, 2, 7, 0, 1], []))
abbrev l52r6 : LC := (.seq (.seq l52r2 (.cond (.t 13) .skip (.exit 0))) (.block 1 (.seq l52r3 (.seq l52r4 l52r5))))
abbrev l52r7 : LC := .reg false [(⟨(some 23), none, .mv (.t 0)⟩, []),
  (⟨(some 24), none, .mv (.t 7)⟩, []),
  (⟨(some 25), none, .mv (.t 1)⟩, []),
  (⟨(some 26), none, .mv (.t 2)⟩, []),
  (⟨(some 27), none, .call 62 [(.t 23), (.t 24), (.t 25), (.t 26)]⟩, [])] (some ([6, 2, 0, 1], []))
abbrev l52r8 : LC := .reg false [(⟨(some 28), none, .mv (.t 6)⟩, []),
  (⟨(some 29), none, .mv (.t 1)⟩, []),
  (⟨(some 30), none, .bin .lss (.t 28) (.t 29)⟩, [])] (some ([6, 2, 0, 1, 30], []))
abbrev l52r9 : LC := .reg false [(⟨(some 31), none, .mv (.t 6)⟩, []),
  (⟨(some 32), none, .bin .mul (.c (.int .i64 2)) (.t 31)⟩, []),
  (⟨(some 7), none, .mv (.c (.int .i64 0))⟩, []),
  (⟨(some 8), none, .mv (.t 32)⟩, [])] (some ([6, 8, 2, 7, 0, 1], []))
abbrev l52r10 : LC := .reg false [(⟨(some 33), none, .mv (.t 8)⟩, []),
  (⟨(some 34), none, .mv (.t 1)⟩, []),
  (⟨(some 35), none, .bin .leq (.t 33) (.t 34)⟩, [])] (some ([6, 2, 0, 1, 8, 7, 35], []))
abbrev l52r11 : LC := .reg false [(⟨(some 36), none, .mv (.t 0)⟩, []),
  (⟨(some 37), none, .mv (.t 7)⟩, []),
  (⟨(some 38), none, .mv (.t 7)⟩, []),
  (⟨(some 39), none, .mv (.t 6)⟩, []),
  (⟨(some 40), none, .bin .add (.t 38) (.t 39)⟩, []),
  (⟨(some 41), none, .mv (.t 8)⟩, []),
  (⟨(some 42), none, .mv (.t 2)⟩, []),
  (⟨(some 43), none, .call 63 [(.t 36), (.t 37), (.t 40), (.t 41), (.t 42)]⟩, [])] (some ([6, 2, 0, 1, 8], []))
abbrev l52r12 : LC := .reg false [(⟨(some 44), none, .mv (.t 8)⟩, []),
  (⟨(some 7), none, .mv (.t 44)⟩, [])] (some ([6, 2, 7, 0, 1, 8], []))
abbrev l52r13 : LC := .reg false [(⟨(some 45), none, .mv (.t 8)⟩, []),
  (⟨(some 46), none, .mv (.t 6)⟩, []),
  (⟨(some 47), none, .bin .mul (.c (.int .i64 2)) (.t 46)⟩, []),
  (⟨(some 48), none, .bin .add (.t 45) (.t 47)⟩, []),
  (⟨(some 8), none, .mv (.t 48)⟩, [])] (some ([6, 8, 2, 7, 0, 1], []))
abbrev l52r14 : LC := (.seq (.seq l52r10 (.cond (.t 35) .skip (.exit 4))) (.block 5 (.seq l52r11 (.seq l52r12 l52r13))))
abbrev l52r15 : LC := .reg false [(⟨(some 49), none, .mv (.t 7)⟩, []),
  (⟨(some 50), none, .mv (.t 6)⟩, []),
  (⟨(some 51), none, .bin .add (.t 49) (.t 50)⟩, []),
  (⟨(some 9), none, .mv (.t 51)⟩, [])] (some ([2, 0, 1, 6, 9, 7], []))
abbrev l52r16 : LC := .reg false [(⟨(some 52), none, .mv (.t 9)⟩, []),
  (⟨(some 53), none, .mv (.t 1)⟩, []),
  (⟨(some 54), none, .bin .lss (.t 52) (.t 53)⟩, [])] (some ([2, 0, 1, 6, 9, 7, 54], []))
abbrev l52r17 : LC := .reg false [(⟨(some 55), none, .mv (.t 0)⟩, []),
  (⟨(some 56), none, .mv (.t 7)⟩, []),
  (⟨(some 57), none, .mv (.t 9)⟩, []),
  (⟨(some 58), none, .mv (.t 1)⟩, []),
  (⟨(some 59), none, .mv (.t 2)⟩, []),
  (⟨(some 60), none, .call 63 [(.t 55), (.t 56), (.t 57), (.t 58), (.t 59)]⟩, [])] (some ([2, 0, 1, 6], []))
abbrev l52r18 : LC := .reg false [(⟨(some 61), none, .mv (.t 6)⟩, []),
  (⟨(some 62), none, .bin .mul (.t 61) (.c (.int .i64 2))⟩, []),
  (⟨(some 6), none, .mv (.t 62)⟩, [])] (some ([6, 2, 0, 1], []))
abbrev l52r19 : LC := (.seq (.seq l52r8 (.cond (.t 30) .skip (.exit 2))) (.block 3 (.seq l52r9 (.seq (.block 4 (.loop l52r14)) (.seq (.seq l52r15 (.seq l52r16 (.cond (.t 54) l52r17 .skip))) l52r18)))))
/-- slices.stableCmpFunc[steamer/api.Attr] : 3 parameters, results in [] of 63 slots -/
abbrev l52 : LC := (.seq l52r0 (.seq l52r1 (.seq (.block 0 (.loop l52r6)) (.seq l52r7 (.block 2 (.loop l52r19))))))
def k52 (i : Nat) : Option Kp := match i with
  | 0 => (some ([6, 2, 0, 1], []))
  | 1 => (some ([6, 8, 2, 7, 0, 1], []))
  | 2 => (some ([6, 2, 0, 1, 8, 7, 13], []))
  | 3 => (some ([6, 2, 0, 1, 8], []))
  | 4 => (some ([6, 2, 7, 0, 1, 8], []))
  | 5 => (some ([6, 8, 2, 7, 0, 1], []))
  | 6 => (some ([6, 2, 0, 1], []))
  | 7 => (some ([6, 2, 0, 1, 30], []))
  | 8 => (some ([6, 8, 2, 7, 0, 1], []))
  | 9 => (some ([6, 2, 0, 1, 8, 7, 35], []))
  | 10 => (some ([6, 2, 0, 1, 8], []))
  | 11 => (some ([6, 2, 7, 0, 1, 8], []))
  | 12 => (some ([6, 8, 2, 7, 0, 1], []))
  | 13 => (some ([2, 0, 1, 6, 9, 7], []))
  | 14 => (some ([2, 0, 1, 6, 9, 7, 54], []))
  | 15 => (some ([2, 0, 1, 6], []))
  | 16 => (some ([6, 2, 0, 1], []))
  | _ => none
theorem f52_told : Try.prog.funcs[52]? = some Try.f52 := by kernel_rfl
theorem f52_results : resTmps Try.f52 = some [] := by kernel_rfl
theorem f52_text : (Try.f52.body.bind (trC Try.prog 63 k52 1000)) = some l52 := by kernel_rfl

abbrev l53r0 : LC := .reg false [(⟨(some 4), none, .mv (.c (.int .i64 0))⟩, [])] (some ([1, 0], []))
abbrev l53r1 : LC := .reg false [(⟨(some 7), none, .mv (.t 0)⟩, []),
  (⟨(some 8), none, .call 64 [(.t 7)]⟩, []),
  (⟨(some 5), none, .mv (.t 8)⟩, [])] (some ([1, 0, 5], []))
abbrev l53r2 : LC := .reg false [(⟨(some 9), none, .mv (.t 1)⟩, []),
  (⟨(some 10), none, .call 64 [(.t 9)]⟩, []),
  (⟨(some 6), none, .mv (.t 10)⟩, [])] (some ([6, 1, 0, 5], []))
abbrev l53r3 : LC := .reg false [(⟨(some 11), none, .mv (.t 5)⟩, [])] (some ([6, 1, 0, 11], []))
abbrev l53r4 : LC := .reg false [(⟨(some 12), none, .mv (.t 6)⟩, [])] (some ([12], []))
abbrev l53r5 : LC := .reg false [(⟨(some 4), none, .mv (.c (.int .i64 0))⟩, [])] (some ([4], []))
abbrev l53r6 : LC := .reg false [(⟨(some 4), none, .mv (.c (.int .i64 (-1)))⟩, [])] (some ([4], []))
abbrev l53r7 : LC := .reg false [(⟨(some 13), none, .mv (.t 6)⟩, [])] (some ([1, 0, 13], []))
abbrev l53r8 : LC := .reg false [(⟨(some 4), none, .mv (.c (.int .i64 1))⟩, [])] (some ([4], []))
abbrev l53r9 : LC := .reg false [(⟨(some 14), none, .mv (.t 0)⟩, []),
  (⟨(some 15), none, .mv (.t 1)⟩, []),
  (⟨(some 16), none, .bin .lss (.t 14) (.t 15)⟩, [])] (some ([1, 0, 16], []))
abbrev l53r10 : LC := .reg false [(⟨(some 17), none, .mv (.t 0)⟩, []),
  (⟨(some 18), none, .mv (.t 1)⟩, []),
  (⟨(some 19), none, .bin .gtr (.t 17) (.t 18)⟩, [])] (some ([19], []))
/-- cmp.Compare[string] : 2 parameters, results in [4] of 20 slots -/
abbrev l53 : LC := (.seq l53r0 (.seq l53r1 (.seq l53r2 (.seq (.seq l53r3 (.cond (.t 11) (.seq (.seq l53r4 (.cond (.t 12) (.seq l53r5 .ret) .skip)) (.seq l53r6 .ret)) .skip)) (.seq (.seq l53r7 (.cond (.t 13) (.seq l53r8 .ret) .skip)) (.seq (.seq l53r9 (.cond (.t 16) (.seq l53r6 .ret) .skip)) (.seq (.seq l53r10 (.cond (.t 19) (.seq l53r8 .ret) .skip)) (.seq l53r5 .ret))))))))
def k53 (i : Nat) : Option Kp := match i with
  | 0 => (some ([1, 0], []))
  | 1 => (some ([1, 0, 5], []))
  | 2 => (some ([6, 1, 0, 5], []))
  | 3 => (some ([6, 1, 0, 11], []))
  | 4 => (some ([12], []))
  | 5 => (some ([4], []))
  | 6 => (some ([4], []))
  | 7 => (some ([1, 0, 13], []))
  | 8 => (some ([4], []))
  | 9 => (some ([1, 0, 16], []))
  | 10 => (some ([4], []))
  | 11 => (some ([19], []))
  | 12 => (some ([4], []))
  | 13 => (some ([4], []))
  | _ => none
theorem f53_told : Try.prog.funcs[53]? = some Try.f53 := by kernel_rfl
theorem f53_results : resTmps Try.f53 = some [4] := by kernel_rfl
theorem f53_text : (Try.f53.body.bind (trC Try.prog 20 k53 1000)) = some l53 := by kernel_rfl

abbrev l54r0 : LC := .reg false [(⟨(some 1), none, .box 3 (.t 0)⟩, []),
  (⟨(some 2), none, .mv (.c (.bool false))⟩, [])] (some ([1], []))
abbrev l54r1 : LC := .reg false [(⟨(some 3), none, .fad 0 (.t 1)⟩, []),
  (⟨(some 4), none, .load 1 false (.t 3)⟩, []),
  (⟨(some 5), none, .bin .geq (.t 4) (.c (.int .i64 1))⟩, []),
  (⟨(some 6), none, .mv (.t 5)⟩, []),
  (⟨(some 7), (some (6, true)), .fad 0 (.t 1)⟩, []),
  (⟨(some 8), (some (6, true)), .load 1 false (.t 7)⟩, []),
  (⟨(some 9), (some (6, true)), .bin .leq (.t 8) (.c (.int .i64 3))⟩, []),
  (⟨(some 10), none, .pick (.t 6) (.t 9) (.c (.bool false))⟩, []),
  (⟨(some 11), none, .mv (.t 10)⟩, []),
  (⟨(some 12), (some (11, true)), .fad 2 (.t 1)⟩, []),
  (⟨(some 13), (some (11, true)), .load 1 false (.t 12)⟩, []),
  (⟨(some 14), (some (11, true)), .bin .geq (.t 13) (.c (.int .i64 0))⟩, []),
  (⟨(some 15), none, .pick (.t 11) (.t 14) (.c (.bool false))⟩, []),
  (⟨(some 16), none, .mv (.t 15)⟩, []),
  (⟨(some 17), (some (16, true)), .fad 2 (.t 1)⟩, []),
  (⟨(some 18), (some (16, true)), .load 1 false (.t 17)⟩, []),
  (⟨(some 19), (some (16, true)), .bin .leq (.t 18) (.c (.int .i64 7))⟩, []),
  (⟨(some 20), none, .pick (.t 16) (.t 19) (.c (.bool false))⟩, []),
  (⟨(some 21), none, .mv (.t 20)⟩, []),
  (⟨(some 22), (some (21, true)), .fad 1 (.t 1)⟩, []),
  (⟨(some 23), (some (21, true)), .load 1 false (.t 22)⟩, []),
  (⟨(some 24), (some (21, true)), .bin .geq (.t 23) (.c (.int .i64 0))⟩, []),
  (⟨(some 25), none, .pick (.t 21) (.t 24) (.c (.bool false))⟩, []),
  (⟨(some 26), none, .mv (.t 25)⟩, []),
  (⟨(some 27), (some (26, true)), .fad 1 (.t 1)⟩, []),
  (⟨(some 28), (some (26, true)), .load 1 false (.t 27)⟩, []),
  (⟨(some 29), (some (26, true)), .bin .leq (.t 28) (.c (.int .i64 2147483647))⟩, []),
  (⟨(some 30), none, .pick (.t 26) (.t 29) (.c (.bool false))⟩, []),
  (⟨(some 31), none, .mv (.t 30)⟩, []),
  (⟨(some 32), (some (31, true)), .fad 0 (.t 1)⟩, []),
  (⟨(some 33), (some (31, true)), .load 1 false (.t 32)⟩, []),
  (⟨(some 34), (some (31, true)), .bin .neq (.t 33) (.c (.int .i64 3))⟩, []),
  (⟨(some 35), (some (31, true)), .mv (.t 34)⟩, []),
  (⟨(some 36), (some (35, false)), .fad 1 (.t 1)⟩, []),
  (⟨(some 37), (some (35, false)), .load 1 false (.t 36)⟩, []),
  (⟨(some 38), (some (35, false)), .bin .eql (.t 37) (.c (.int .i64 0))⟩, []),
  (⟨(some 39), (some (31, true)), .pick (.t 35) (.c (.bool true)) (.t 38)⟩, []),
  (⟨(some 40), none, .pick (.t 31) (.t 39) (.c (.bool false))⟩, []),
  (⟨(some 2), none, .mv (.t 40)⟩, [])] (some ([2], []))
/-- steamer/acl.good : 1 parameters, results in [2] of 41 slots -/
abbrev l54 : LC := (.seq l54r0 (.seq l54r1 .ret))
def k54 (i : Nat) : Option Kp := match i with
  | 0 => (some ([1], []))
  | 1 => (some ([2], []))
  | _ => none
theorem f54_told : Try.prog.funcs[54]? = some Try.f54 := by kernel_rfl
theorem f54_results : resTmps Try.f54 = some [2] := by kernel_rfl
theorem f54_text : (Try.f54.body.bind (trC Try.prog 41 k54 1000)) = some l54 := by kernel_rfl

abbrev l55r0 : LC := .reg false [(⟨(some 2), none, .box 3 (.t 0)⟩, []),
  (⟨(some 3), none, .box 3 (.t 1)⟩, []),
  (⟨(some 4), none, .mv (.c (.int .i64 0))⟩, [])] (some ([3, 2], []))
abbrev l55r1 : LC := .reg true [(⟨(some 5), none, .fad 0 (.t 2)⟩, []),
  (⟨(some 6), none, .load 1 false (.t 5)⟩, []),
  (⟨(some 7), none, .fad 0 (.t 3)⟩, []),
  (⟨(some 8), none, .load 1 false (.t 7)⟩, []),
  (⟨(some 9), none, .call 66 [(.t 6), (.t 8)]⟩, []),
  (⟨(some 10), none, .fad 1 (.t 2)⟩, [4]),
  (⟨(some 11), none, .load 1 false (.t 10)⟩, [4]),
  (⟨(some 12), none, .fad 1 (.t 3)⟩, [4]),
  (⟨(some 13), none, .load 1 false (.t 12)⟩, [4]),
  (⟨(some 14), none, .call 66 [(.t 11), (.t 13)]⟩, []),
  (⟨(some 15), none, .bslice 1 2 [(.int .i64 0)] [(0, (.t 9)), (1, (.t 14))]⟩, []),
  (⟨(some 16), none, .call 65 [(.t 15)]⟩, []),
  (⟨(some 4), none, .mv (.t 16)⟩, [])] (some ([4], []))
/-- steamer/acl.order : 2 parameters, results in [4] of 17 slots -/
abbrev l55 : LC := (.seq l55r0 (.seq l55r1 .ret))
def k55 (i : Nat) : Option Kp := match i with
  | 0 => (some ([3, 2], []))
  | 1 => (some ([4], []))
  | _ => none
theorem f55_told : Try.prog.funcs[55]? = some Try.f55 := by kernel_rfl
theorem f55_results : resTmps Try.f55 = some [4] := by kernel_rfl
theorem f55_text : (Try.f55.body.bind (trC Try.prog 17 k55 1000)) = some l55 := by kernel_rfl

abbrev l56r0 : LC := .reg false [(⟨(some 1), none, .box 3 (.t 0)⟩, []),
  (⟨(some 2), none, .mv (.c (.bool false))⟩, [])] (some ([1], []))
abbrev l56r1 : LC := .reg false [(⟨(some 3), none, .fad 0 (.t 1)⟩, []),
  (⟨(some 4), none, .load 1 false (.t 3)⟩, []),
  (⟨(some 5), none, .bin .geq (.t 4) (.c (.int .i64 1))⟩, []),
  (⟨(some 6), none, .mv (.t 5)⟩, []),
  (⟨(some 7), (some (6, true)), .fad 0 (.t 1)⟩, []),
  (⟨(some 8), (some (6, true)), .load 1 false (.t 7)⟩, []),
  (⟨(some 9), (some (6, true)), .bin .leq (.t 8) (.c (.int .i64 3))⟩, []),
  (⟨(some 10), none, .pick (.t 6) (.t 9) (.c (.bool false))⟩, []),
  (⟨(some 11), none, .mv (.t 10)⟩, []),
  (⟨(some 12), (some (11, true)), .fad 2 (.t 1)⟩, []),
  (⟨(some 13), (some (11, true)), .load 1 false (.t 12)⟩, []),
  (⟨(some 14), (some (11, true)), .bin .geq (.t 13) (.c (.int .i64 0))⟩, []),
  (⟨(some 15), none, .pick (.t 11) (.t 14) (.c (.bool false))⟩, []),
  (⟨(some 16), none, .mv (.t 15)⟩, []),
  (⟨(some 17), (some (16, true)), .fad 2 (.t 1)⟩, []),
  (⟨(some 18), (some (16, true)), .load 1 false (.t 17)⟩, []),
  (⟨(some 19), (some (16, true)), .bin .leq (.t 18) (.c (.int .i64 7))⟩, []),
  (⟨(some 20), none, .pick (.t 16) (.t 19) (.c (.bool false))⟩, []),
  (⟨(some 21), none, .mv (.t 20)⟩, []),
  (⟨(some 22), (some (21, true)), .fad 1 (.t 1)⟩, []),
  (⟨(some 23), (some (21, true)), .load 1 false (.t 22)⟩, []),
  (⟨(some 24), (some (21, true)), .bin .geq (.t 23) (.c (.int .i64 0))⟩, []),
  (⟨(some 25), none, .pick (.t 21) (.t 24) (.c (.bool false))⟩, []),
  (⟨(some 26), none, .mv (.t 25)⟩, []),
  (⟨(some 27), (some (26, true)), .fad 1 (.t 1)⟩, []),
  (⟨(some 28), (some (26, true)), .load 1 false (.t 27)⟩, []),
  (⟨(some 29), (some (26, true)), .bin .leq (.t 28) (.c (.int .i64 2147483647))⟩, []),
  (⟨(some 30), none, .pick (.t 26) (.t 29) (.c (.bool false))⟩, []),
  (⟨(some 31), none, .mv (.t 30)⟩, []),
  (⟨(some 32), (some (31, true)), .fad 0 (.t 1)⟩, []),
  (⟨(some 33), (some (31, true)), .load 1 false (.t 32)⟩, []),
  (⟨(some 34), (some (31, true)), .bin .neq (.t 33) (.c (.int .i64 3))⟩, []),
  (⟨(some 35), (some (31, true)), .mv (.t 34)⟩, []),
  (⟨(some 36), (some (35, false)), .fad 1 (.t 1)⟩, []),
  (⟨(some 37), (some (35, false)), .load 1 false (.t 36)⟩, []),
  (⟨(some 38), (some (35, false)), .bin .eql (.t 37) (.c (.int .i64 0))⟩, []),
  (⟨(some 39), (some (31, true)), .pick (.t 35) (.c (.bool true)) (.t 38)⟩, []),
  (⟨(some 40), none, .pick (.t 31) (.t 39) (.c (.bool false))⟩, []),
  (⟨(some 2), none, .mv (.t 40)⟩, [])] (some ([2], []))
/-- steamer/steamerref1.ace : 1 parameters, results in [2] of 41 slots -/
abbrev l56 : LC := (.seq l56r0 (.seq l56r1 .ret))
def k56 (i : Nat) : Option Kp := match i with
  | 0 => (some ([1], []))
  | 1 => (some ([2], []))
  | _ => none
theorem f56_told : Try.prog.funcs[56]? = some Try.f56 := by kernel_rfl
theorem f56_results : resTmps Try.f56 = some [2] := by kernel_rfl
theorem f56_text : (Try.f56.body.bind (trC Try.prog 41 k56 1000)) = some l56 := by kernel_rfl

abbrev l57r0 : LC := .reg false [(⟨(some 2), none, .box 3 (.t 0)⟩, []),
  (⟨(some 3), none, .box 3 (.t 1)⟩, []),
  (⟨(some 4), none, .mv (.c (.bool false))⟩, [])] (some ([3, 2], []))
abbrev l57r1 : LC := .reg false [(⟨(some 5), none, .fad 0 (.t 2)⟩, []),
  (⟨(some 6), none, .load 1 false (.t 5)⟩, []),
  (⟨(some 7), none, .fad 0 (.t 3)⟩, []),
  (⟨(some 8), none, .load 1 false (.t 7)⟩, []),
  (⟨(some 9), none, .bin .lss (.t 6) (.t 8)⟩, []),
  (⟨(some 10), none, .mv (.t 9)⟩, []),
  (⟨(some 11), (some (10, false)), .fad 0 (.t 2)⟩, []),
  (⟨(some 12), (some (10, false)), .load 1 false (.t 11)⟩, []),
  (⟨(some 13), (some (10, false)), .fad 0 (.t 3)⟩, []),
  (⟨(some 14), (some (10, false)), .load 1 false (.t 13)⟩, []),
  (⟨(some 15), (some (10, false)), .bin .eql (.t 12) (.t 14)⟩, []),
  (⟨(some 16), (some (10, false)), .mv (.t 15)⟩, []),
  (⟨(some 17), (some (16, true)), .fad 1 (.t 2)⟩, []),
  (⟨(some 18), (some (16, true)), .load 1 false (.t 17)⟩, []),
  (⟨(some 19), (some (16, true)), .fad 1 (.t 3)⟩, []),
  (⟨(some 20), (some (16, true)), .load 1 false (.t 19)⟩, []),
  (⟨(some 21), (some (16, true)), .bin .lss (.t 18) (.t 20)⟩, []),
  (⟨(some 22), (some (10, false)), .pick (.t 16) (.t 21) (.c (.bool false))⟩, []),
  (⟨(some 23), none, .pick (.t 10) (.c (.bool true)) (.t 22)⟩, []),
  (⟨(some 4), none, .mv (.t 23)⟩, [])] (some ([4], []))
/-- steamer/steamerref1.aceLess : 2 parameters, results in [4] of 24 slots -/
abbrev l57 : LC := (.seq l57r0 (.seq l57r1 .ret))
def k57 (i : Nat) : Option Kp := match i with
  | 0 => (some ([3, 2], []))
  | 1 => (some ([4], []))
  | _ => none
theorem f57_told : Try.prog.funcs[57]? = some Try.f57 := by kernel_rfl
theorem f57_results : resTmps Try.f57 = some [4] := by kernel_rfl
theorem f57_text : (Try.f57.body.bind (trC Try.prog 24 k57 1000)) = some l57 := by kernel_rfl

abbrev l58r0 : LC := .reg false [(⟨(some 2), none, .mv (.c (.bool false))⟩, [])] (some ([0], []))
abbrev l58r1 : LC := .reg false [(⟨(some 3), none, .mv (.c (.int .i64 0))⟩, [])] (some ([3, 0], []))
abbrev l58r2 : LC := .reg false [(⟨(some 4), none, .mv (.t 3)⟩, []),
  (⟨(some 5), none, .mv (.t 0)⟩, []),
  (⟨(some 6), none, .len (.t 5)⟩, []),
  (⟨(some 7), none, .bin .lss (.t 4) (.t 6)⟩, [])] (some ([0, 3, 7], []))
abbrev l58r3 : LC := .reg false [(⟨(some 10), none, .mv (.t 0)⟩, []),
  (⟨(some 11), none, .mv (.t 3)⟩, []),
  (⟨(some 12), none, .iad 3 (.t 10) (.t 11)⟩, []),
  (⟨(some 13), none, .fad 0 (.t 12)⟩, []),
  (⟨(some 14), none, .load 1 false (.t 13)⟩, []),
  (⟨(some 15), none, .bin .eql (.t 14) (.c (.int .i64 3))⟩, [])] (some ([0, 3, 15], []))
abbrev l58r4 : LC := .reg false [(⟨(some 2), none, .mv (.c (.bool false))⟩, [])] (some ([2], []))
abbrev l58r5 : LC := .reg false [(⟨(some 8), none, .mv (.t 3)⟩, []),
  (⟨(some 9), none, .bin .add (.t 8) (.c (.int .i64 1))⟩, []),
  (⟨(some 3), none, .mv (.t 9)⟩, [])] (some ([3, 0], []))
abbrev l58r6 : LC := (.seq (.seq l58r2 (.cond (.t 7) .skip (.exit 0))) (.seq (.block 1 (.seq l58r3 (.cond (.t 15) (.seq l58r4 .ret) .skip))) l58r5))
abbrev l58r7 : LC := .reg false [(⟨(some 16), none, .mv (.t 0)⟩, []),
  (⟨(some 17), none, .len (.t 16)⟩, []),
  (⟨(some 18), none, .bin .gtr (.t 17) (.c (.int .i64 0))⟩, []),
  (⟨(some 2), none, .mv (.t 18)⟩, [])] (some ([2], []))
/-- steamer/steamerref1.needs : 1 parameters, results in [2] of 19 slots -/
abbrev l58 : LC := (.seq l58r0 (.seq (.seq l58r1 (.block 0 (.loop l58r6))) (.seq l58r7 .ret)))
def k58 (i : Nat) : Option Kp := match i with
  | 0 => (some ([0], []))
  | 1 => (some ([3, 0], []))
  | 2 => (some ([0, 3, 7], []))
  | 3 => (some ([3, 0], []))
  | 4 => (some ([0, 3, 15], []))
  | 5 => (some ([2], []))
  | 6 => (some ([2], []))
  | _ => none
theorem f58_told : Try.prog.funcs[58]? = some Try.f58 := by kernel_rfl
theorem f58_results : resTmps Try.f58 = some [2] := by kernel_rfl
theorem f58_text : (Try.f58.body.bind (trC Try.prog 19 k58 1000)) = some l58 := by kernel_rfl

abbrev l59r0 : LC := .reg false [(⟨(some 4), none, .mv (.c (.bool false))⟩, [])] (some ([1, 0], []))
abbrev l59r1 : LC := .reg false [(⟨(some 6), none, .mv (.t 0)⟩, []),
  (⟨(some 7), none, .len (.t 6)⟩, []),
  (⟨(some 8), none, .mv (.t 1)⟩, []),
  (⟨(some 9), none, .len (.t 8)⟩, []),
  (⟨(some 10), none, .bin .neq (.t 7) (.t 9)⟩, [])] (some ([1, 0, 10], []))
abbrev l59r2 : LC := .reg false [(⟨(some 4), none, .mv (.c (.bool false))⟩, [])] (some ([4], []))
abbrev l59r3 : LC := .reg false [(⟨(some 11), none, .mv (.t 0)⟩, []),
  (⟨(some 12), none, .len (.t 11)⟩, []),
  (⟨(some 13), none, .mv (.c (.int .i64 0))⟩, [])] (some ([13, 1, 0, 12], []))
abbrev l59r4 : LC := .reg false [(⟨(some 14), none, .bin .lss (.t 13) (.t 12)⟩, [])] (some ([1, 0, 12, 13, 14], []))
abbrev l59r5 : LC := .reg false [(⟨(some 15), none, .mv (.t 13)⟩, []),
  (⟨(some 5), none, .mv (.t 15)⟩, [])] (some ([1, 0, 12, 13, 5], []))
abbrev l59r6 : LC := .reg false [(⟨(some 16), none, .mv (.t 0)⟩, []),
  (⟨(some 17), none, .mv (.t 5)⟩, []),
  (⟨(some 18), none, .iad 3 (.t 16) (.t 17)⟩, []),
  (⟨(some 19), none, .load 3 true (.t 18)⟩, []),
  (⟨(some 20), none, .mv (.t 1)⟩, []),
  (⟨(some 21), none, .mv (.t 5)⟩, []),
  (⟨(some 22), none, .iad 3 (.t 20) (.t 21)⟩, []),
  (⟨(some 23), none, .load 3 true (.t 22)⟩, []),
  (⟨(some 24), none, .eqs true [0, 0, 0] (.t 19) (.t 23)⟩, [])] (some ([1, 0, 12, 13, 24], []))
abbrev l59r7 : LC := .reg false [(⟨(some 25), none, .bin .add (.t 13) (.c (.int .i64 1))⟩, []),
  (⟨(some 13), none, .mv (.t 25)⟩, [])] (some ([13, 1, 0, 12], []))
abbrev l59r8 : LC := (.seq l59r4 (.seq (.cond (.t 14) .skip (.exit 0)) (.seq (.block 1 (.seq l59r5 (.seq l59r6 (.cond (.t 24) (.seq l59r2 .ret) .skip)))) l59r7)))
abbrev l59r9 : LC := .reg false [(⟨(some 4), none, .mv (.c (.bool true))⟩, [])] (some ([4], []))
/-- slices.Equal[[]steamer/api.Ace,steamer/api.Ace] : 2 parameters, results in [4] of 26 slots -/
abbrev l59 : LC := (.seq l59r0 (.seq (.seq l59r1 (.cond (.t 10) (.seq l59r2 .ret) .skip)) (.seq (.seq l59r3 (.block 0 (.loop l59r8))) (.seq l59r9 .ret))))
def k59 (i : Nat) : Option Kp := match i with
  | 0 => (some ([1, 0], []))
  | 1 => (some ([1, 0, 10], []))
  | 2 => (some ([4], []))
  | 3 => (some ([13, 1, 0, 12], []))
  | 4 => (some ([1, 0, 12, 13, 14], []))
  | 5 => (some ([1, 0, 12, 13, 5], []))
  | 6 => (some ([1, 0, 12, 13, 24], []))
  | 7 => (some ([4], []))
  | 8 => (some ([13, 1, 0, 12], []))
  | 9 => (some ([4], []))
  | _ => none
theorem f59_told : Try.prog.funcs[59]? = some Try.f59 := by kernel_rfl
theorem f59_results : resTmps Try.f59 = some [4] := by kernel_rfl
theorem f59_text : (Try.f59.body.bind (trC Try.prog 26 k59 1000)) = some l59 := by kernel_rfl

abbrev l62r0 : LC := .reg false [(⟨(some 10), none, .mv (.t 1)⟩, []),
  (⟨(some 11), none, .bin .add (.t 10) (.c (.int .i64 1))⟩, []),
  (⟨(some 8), none, .mv (.t 11)⟩, [])] (some ([0, 8, 3, 1, 2], []))
abbrev l62r1 : LC := .reg false [(⟨(some 12), none, .mv (.t 8)⟩, []),
  (⟨(some 13), none, .mv (.t 2)⟩, []),
  (⟨(some 14), none, .bin .lss (.t 12) (.t 13)⟩, [])] (some ([0, 3, 1, 2, 8, 14], []))
abbrev l62r2 : LC := .reg false [(⟨(some 17), none, .mv (.t 8)⟩, []),
  (⟨(some 9), none, .mv (.t 17)⟩, [])] (some ([9, 0, 3, 1, 2, 8], []))
abbrev l62r3 : LC := .reg false [(⟨(some 18), none, .mv (.t 9)⟩, []),
  (⟨(some 19), none, .mv (.t 1)⟩, []),
  (⟨(some 20), none, .bin .gtr (.t 18) (.t 19)⟩, []),
  (⟨(some 21), none, .mv (.t 20)⟩, []),
  (⟨(some 22), (some (21, true)), .mv (.t 3)⟩, []),
  (⟨(some 23), (some (21, true)), .mv (.t 0)⟩, []),
  (⟨(some 24), (some (21, true)), .mv (.t 9)⟩, []),
  (⟨(some 25), (some (21, true)), .iad 2 (.t 23) (.t 24)⟩, []),
  (⟨(some 26), (some (21, true)), .load 2 true (.t 25)⟩, []),
  (⟨(some 27), (some (21, true)), .mv (.t 0)⟩, []),
  (⟨(some 28), (some (21, true)), .mv (.t 9)⟩, []),
  (⟨(some 29), (some (21, true)), .bin .sub (.t 28) (.c (.int .i64 1))⟩, []),
  (⟨(some 30), (some (21, true)), .iad 2 (.t 27) (.t 29)⟩, []),
  (⟨(some 31), (some (21, true)), .load 2 true (.t 30)⟩, []),
  (⟨(some 32), (some (21, true)), .callv (.t 22) [(.t 26), (.t 31)]⟩, []),
  (⟨(some 33), (some (21, true)), .bin .lss (.t 32) (.c (.int .i64 0))⟩, []),
  (⟨(some 34), none, .pick (.t 21) (.t 33) (.c (.bool false))⟩, [])] (some ([0, 3, 1, 2, 8, 9, 34], []))
abbrev l62r4 : LC := .reg true [(⟨(some 37), none, .mv (.t 0)⟩, []),
  (⟨(some 38), none, .mv (.t 9)⟩, []),
  (⟨(some 39), none, .mv (.t 0)⟩, []),
  (⟨(some 40), none, .mv (.t 9)⟩, []),
  (⟨(some 41), none, .bin .sub (.t 40) (.c (.int .i64 1))⟩, []),
  (⟨(some 42), none, .mv (.t 0)⟩, []),
  (⟨(some 43), none, .mv (.t 9)⟩, []),
  (⟨(some 44), none, .bin .sub (.t 43) (.c (.int .i64 1))⟩, []),
  (⟨(some 45), none, .iad 2 (.t 42) (.t 44)⟩, []),
  (⟨(some 46), none, .load 2 true (.t 45)⟩, []),
  (⟨(some 47), none, .mv (.t 0)⟩, []),
  (⟨(some 48), none, .mv (.t 9)⟩, []),
  (⟨(some 49), none, .iad 2 (.t 47) (.t 48)⟩, []),
  (⟨(some 50), none, .load 2 true (.t 49)⟩, []),
  (⟨(some 51), none, .iad 2 (.t 37) (.t 38)⟩, []),
  (⟨none, none, .store 2 (.t 51) (.t 46)⟩, [2, 3, 4]),
  (⟨(some 52), none, .iad 2 (.t 39) (.t 41)⟩, []),
  (⟨none, none, .store 2 (.t 52) (.t 50)⟩, [])] (some ([0, 3, 1, 2, 8, 9], []))
abbrev l62r5 : LC := .reg false [(⟨(some 35), none, .mv (.t 9)⟩, []),
  (⟨(some 36), none, .bin .sub (.t 35) (.c (.int .i64 1))⟩, []),
  (⟨(some 9), none, .mv (.t 36)⟩, [])] (some ([9, 0, 3, 1, 2, 8], []))
abbrev l62r6 : LC := (.seq (.seq l62r3 (.cond (.t 34) .skip (.exit 2))) (.seq (.block 3 l62r4) l62r5))
abbrev l62r7 : LC := .reg false [(⟨(some 15), none, .mv (.t 8)⟩, []),
  (⟨(some 16), none, .bin .add (.t 15) (.c (.int .i64 1))⟩, []),
  (⟨(some 8), none, .mv (.t 16)⟩, [])] (some ([0, 8, 3, 1, 2], []))
abbrev l62r8 : LC := (.seq (.seq l62r1 (.cond (.t 14) .skip (.exit 0))) (.seq (.block 1 (.seq l62r2 (.block 2 (.loop l62r6)))) l62r7))
/-- slices.insertionSortCmpFunc[steamer/api.Attr] : 4 parameters, results in [] of 53 slots -/
abbrev l62 : LC := (.seq l62r0 (.block 0 (.loop l62r8)))
def k62 (i : Nat) : Option Kp := match i with
  | 0 => (some ([0, 8, 3, 1, 2], []))
  | 1 => (some ([0, 3, 1, 2, 8, 14], []))
  | 2 => (some ([0, 8, 3, 1, 2], []))
  | 3 => (some ([9, 0, 3, 1, 2, 8], []))
  | 4 => (some ([0, 3, 1, 2, 8, 9, 34], []))
  | 5 => (some ([9, 0, 3, 1, 2, 8], []))
  | 6 => (some ([0, 3, 1, 2, 8, 9], []))
  | _ => none
theorem f62_told : Try.prog.funcs[62]? = some Try.f62 := by kernel_rfl
theorem f62_results : resTmps Try.f62 = some [] := by kernel_rfl
theorem f62_text : (Try.f62.body.bind (trC Try.prog 53 k62 1000)) = some l62 := by kernel_rfl

abbrev l64r0 : LC := .reg false [(⟨(some 2), none, .mv (.c (.bool false))⟩, [])] (some ([0], []))
abbrev l64r1 : LC := .reg false [(⟨(some 3), none, .mv (.t 0)⟩, []),
  (⟨(some 4), none, .mv (.t 0)⟩, []),
  (⟨(some 5), none, .bin .neq (.t 3) (.t 4)⟩, []),
  (⟨(some 2), none, .mv (.t 5)⟩, [])] (some ([2], []))
/-- cmp.isNaN[string] : 1 parameters, results in [2] of 6 slots -/
abbrev l64 : LC := (.seq l64r0 (.seq l64r1 .ret))
def k64 (i : Nat) : Option Kp := match i with
  | 0 => (some ([0], []))
  | 1 => (some ([2], []))
  | _ => none
theorem f64_told : Try.prog.funcs[64]? = some Try.f64 := by kernel_rfl
theorem f64_results : resTmps Try.f64 = some [2] := by kernel_rfl
theorem f64_text : (Try.f64.body.bind (trC Try.prog 6 k64 1000)) = some l64 := by kernel_rfl

abbrev l65r0 : LC := .reg false [(⟨(some 2), none, .mv (.c (.int .i64 0))⟩, [])] (some ([0], []))
abbrev l65r1 : LC := .reg false [(⟨(some 3), none, .mv (.c (.int .i64 0))⟩, [])] (some ([3, 0], []))
abbrev l65r2 : LC := .reg false [(⟨(some 6), none, .mv (.t 0)⟩, []),
  (⟨(some 7), none, .len (.t 6)⟩, []),
  (⟨(some 8), none, .mv (.c (.int .i64 0))⟩, [])] (some ([8, 3, 6, 7], []))
abbrev l65r3 : LC := .reg false [(⟨(some 9), none, .bin .lss (.t 8) (.t 7)⟩, [])] (some ([3, 6, 7, 8, 9], []))
abbrev l65r4 : LC := .reg false [(⟨(some 10), none, .iad 1 (.t 6) (.t 8)⟩, []),
  (⟨(some 11), none, .load 1 false (.t 10)⟩, []),
  (⟨(some 5), none, .mv (.t 11)⟩, [])] (some ([5, 3, 6, 7, 8], []))
abbrev l65r5 : LC := .reg false [(⟨(some 12), none, .mv (.t 5)⟩, []),
  (⟨(some 13), none, .mv (.t 3)⟩, []),
  (⟨(some 14), none, .bin .neq (.t 12) (.t 13)⟩, [])] (some ([5, 3, 6, 7, 8, 14], []))
abbrev l65r6 : LC := .reg false [(⟨(some 15), none, .mv (.t 5)⟩, []),
  (⟨(some 2), none, .mv (.t 15)⟩, [])] (some ([2], []))
abbrev l65r7 : LC := .reg false [(⟨(some 16), none, .bin .add (.t 8) (.c (.int .i64 1))⟩, []),
  (⟨(some 8), none, .mv (.t 16)⟩, [])] (some ([8, 3, 6, 7], []))
abbrev l65r8 : LC := (.seq l65r3 (.seq (.cond (.t 9) .skip (.exit 0)) (.seq (.block 1 (.seq l65r4 (.seq l65r5 (.cond (.t 14) (.seq l65r6 .ret) .skip)))) l65r7)))
abbrev l65r9 : LC := .reg false [(⟨(some 17), none, .mv (.t 3)⟩, []),
  (⟨(some 2), none, .mv (.t 17)⟩, [])] (some ([2], []))
/-- cmp.Or[int] : 1 parameters, results in [2] of 18 slots -/
abbrev l65 : LC := (.seq l65r0 (.seq l65r1 (.seq (.seq l65r2 (.block 0 (.loop l65r8))) (.seq l65r9 .ret))))
def k65 (i : Nat) : Option Kp := match i with
  | 0 => (some ([0], []))
  | 1 => (some ([3, 0], []))
  | 2 => (some ([8, 3, 6, 7], []))
  | 3 => (some ([3, 6, 7, 8, 9], []))
  | 4 => (some ([5, 3, 6, 7, 8], []))
  | 5 => (some ([5, 3, 6, 7, 8, 14], []))
  | 6 => (some ([2], []))
  | 7 => (some ([8, 3, 6, 7], []))
  | 8 => (some ([2], []))
  | _ => none
theorem f65_told : Try.prog.funcs[65]? = some Try.f65 := by kernel_rfl
theorem f65_results : resTmps Try.f65 = some [2] := by kernel_rfl
theorem f65_text : (Try.f65.body.bind (trC Try.prog 18 k65 1000)) = some l65 := by kernel_rfl

abbrev l66r0 : LC := .reg false [(⟨(some 4), none, .mv (.c (.int .i64 0))⟩, [])] (some ([1, 0], []))
abbrev l66r1 : LC := .reg false [(⟨(some 7), none, .mv (.t 0)⟩, []),
  (⟨(some 8), none, .call 69 [(.t 7)]⟩, []),
  (⟨(some 5), none, .mv (.t 8)⟩, [])] (some ([1, 0, 5], []))
abbrev l66r2 : LC := .reg false [(⟨(some 9), none, .mv (.t 1)⟩, []),
  (⟨(some 10), none, .call 69 [(.t 9)]⟩, []),
  (⟨(some 6), none, .mv (.t 10)⟩, [])] (some ([6, 1, 0, 5], []))
abbrev l66r3 : LC := .reg false [(⟨(some 11), none, .mv (.t 5)⟩, [])] (some ([6, 1, 0, 11], []))
abbrev l66r4 : LC := .reg false [(⟨(some 12), none, .mv (.t 6)⟩, [])] (some ([12], []))
abbrev l66r5 : LC := .reg false [(⟨(some 4), none, .mv (.c (.int .i64 0))⟩, [])] (some ([4], []))
abbrev l66r6 : LC := .reg false [(⟨(some 4), none, .mv (.c (.int .i64 (-1)))⟩, [])] (some ([4], []))
abbrev l66r7 : LC := .reg false [(⟨(some 13), none, .mv (.t 6)⟩, [])] (some ([1, 0, 13], []))
abbrev l66r8 : LC := .reg false [(⟨(some 4), none, .mv (.c (.int .i64 1))⟩, [])] (some ([4], []))
abbrev l66r9 : LC := .reg false [(⟨(some 14), none, .mv (.t 0)⟩, []),
  (⟨(some 15), none, .mv (.t 1)⟩, []),
  (⟨(some 16), none, .bin .lss (.t 14) (.t 15)⟩, [])] (some ([1, 0, 16], []))
abbrev l66r10 : LC := .reg false [(⟨(some 17), none, .mv (.t 0)⟩, []),
  (⟨(some 18), none, .mv (.t 1)⟩, []),
  (⟨(some 19), none, .bin .gtr (.t 17) (.t 18)⟩, [])] (some ([19], []))
/-- cmp.Compare[int] : 2 parameters, results in [4] of 20 slots -/
abbrev l66 : LC := (.seq l66r0 (.seq l66r1 (.seq l66r2 (.seq (.seq l66r3 (.cond (.t 11) (.seq (.seq l66r4 (.cond (.t 12) (.seq l66r5 .ret) .skip)) (.seq l66r6 .ret)) .skip)) (.seq (.seq l66r7 (.cond (.t 13) (.seq l66r8 .ret) .skip)) (.seq (.seq l66r9 (.cond (.t 16) (.seq l66r6 .ret) .skip)) (.seq (.seq l66r10 (.cond (.t 19) (.seq l66r8 .ret) .skip)) (.seq l66r5 .ret))))))))
def k66 (i : Nat) : Option Kp := match i with
  | 0 => (some ([1, 0], []))
  | 1 => (some ([1, 0, 5], []))
  | 2 => (some ([6, 1, 0, 5], []))
  | 3 => (some ([6, 1, 0, 11], []))
  | 4 => (some ([12], []))
  | 5 => (some ([4], []))
  | 6 => (some ([4], []))
  | 7 => (some ([1, 0, 13], []))
  | 8 => (some ([4], []))
  | 9 => (some ([1, 0, 16], []))
  | 10 => (some ([4], []))
  | 11 => (some ([19], []))
  | 12 => (some ([4], []))
  | 13 => (some ([4], []))
  | _ => none
theorem f66_told : Try.prog.funcs[66]? = some Try.f66 := by kernel_rfl
theorem f66_results : resTmps Try.f66 = some [4] := by kernel_rfl
theorem f66_text : (Try.f66.body.bind (trC Try.prog 20 k66 1000)) = some l66 := by kernel_rfl

abbrev l69r0 : LC := .reg false [(⟨(some 2), none, .mv (.c (.bool false))⟩, [])] (some ([0], []))
abbrev l69r1 : LC := .reg false [(⟨(some 3), none, .mv (.t 0)⟩, []),
  (⟨(some 4), none, .mv (.t 0)⟩, []),
  (⟨(some 5), none, .bin .neq (.t 3) (.t 4)⟩, []),
  (⟨(some 2), none, .mv (.t 5)⟩, [])] (some ([2], []))
/-- cmp.isNaN[int] : 1 parameters, results in [2] of 6 slots -/
abbrev l69 : LC := (.seq l69r0 (.seq l69r1 .ret))
def k69 (i : Nat) : Option Kp := match i with
  | 0 => (some ([0], []))
  | 1 => (some ([2], []))
  | _ => none
theorem f69_told : Try.prog.funcs[69]? = some Try.f69 := by kernel_rfl
theorem f69_results : resTmps Try.f69 = some [2] := by kernel_rfl
theorem f69_text : (Try.f69.body.bind (trC Try.prog 6 k69 1000)) = some l69 := by kernel_rfl

end Go.Proofs.Me
