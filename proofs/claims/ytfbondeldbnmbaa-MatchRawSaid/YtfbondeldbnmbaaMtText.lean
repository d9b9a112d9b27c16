import Derived.Test.YtfbondeldbnmbaaEngS
import Derived.Test.YtfbondeldbnmbaaProg
set_option linter.unusedVariables false
set_option linter.unusedSimpArgs false
namespace Go.Proofs.Mt
open Go.RowKit Go.Lib Go.Eng Go.Proofs
set_option maxRecDepth 100000
abbrev l6r0 : LC := .reg false [(⟨(some 10), none, .mv (.c (.bool false))⟩, [])] (some ([1, 2, 3, 0, 4], []))
abbrev l6r1 : LC := .reg false [(⟨(some 26), none, .mv (.t 1)⟩, []),
  (⟨(some 27), none, .len (.t 26)⟩, []),
  (⟨(some 28), none, .bin .gtr (.t 27) (.c (.int .i64 200))⟩, []),
  (⟨(some 29), none, .mv (.t 28)⟩, []),
  (⟨(some 30), (some (29, false)), .mv (.t 3)⟩, []),
  (⟨(some 31), (some (29, false)), .len (.t 30)⟩, []),
  (⟨(some 32), (some (29, false)), .bin .gtr (.t 31) (.c (.int .i64 30))⟩, []),
  (⟨(some 33), none, .pick (.t 29) (.c (.bool true)) (.t 32)⟩, [])] (some ([1, 2, 3, 0, 4, 33], []))
abbrev l6r2 : LC := .reg false [(⟨(some 34), none, .call 24 []⟩, []),
  (⟨(some 10), none, .mv (.t 34)⟩, [])] (some ([10], []))
abbrev l6r3 : LC := .reg false [(⟨(some 35), none, .mv (.t 4)⟩, []),
  (⟨(some 36), none, .mm false (.t 35) (.c (.int .i64 5000))⟩, []),
  (⟨(some 11), none, .mv (.t 36)⟩, [])] (some ([1, 2, 3, 11, 0], []))
abbrev l6r4 : LC := .reg false [(⟨(some 37), none, .mv (.t 0)⟩, []),
  (⟨(some 38), none, .call 25 [(.t 37), (.c (.int .i64 1500))]⟩, []),
  (⟨(some 12), none, .mv (.t 38)⟩, [])] (some ([1, 12, 2, 3, 11], []))
abbrev l6r5 : LC := .reg false [(⟨(some 13), none, .mv (.c (.int .i64 0))⟩, [])] (some ([13, 1, 12, 2, 3, 11], []))
abbrev l6r6 : LC := .reg false [(⟨(some 39), none, .mv (.t 13)⟩, []),
  (⟨(some 40), none, .bin .lss (.t 39) (.c (.int .i64 2))⟩, [])] (some ([1, 2, 3, 11, 13, 12, 40], []))
abbrev l6r7 : LC := .reg false [(⟨(some 44), none, .mv (.t 12)⟩, []),
  (⟨(some 45), none, .mv (.t 2)⟩, []),
  (⟨(some 46), none, .call 26 [(.t 44), (.t 45)]⟩, []),
  (⟨(some 43), none, .mv (.t 46)⟩, []),
  (⟨(some 47), none, .ext 0 (.t 43)⟩, []),
  (⟨(some 48), none, .ext 1 (.t 43)⟩, []),
  (⟨(some 14), none, .mv (.t 47)⟩, []),
  (⟨(some 15), none, .mv (.t 48)⟩, [])] (some ([1, 2, 3, 11, 13, 15, 14, 12], []))
abbrev l6r8 : LC := .reg false [(⟨(some 16), none, .mv (.c (.int .i64 0))⟩, []),
  (⟨(some 17), none, .mv (.c (.int .i64 0))⟩, [])] (some ([1, 2, 3, 11, 13, 15, 14, 12, 17, 16], []))
abbrev l6r9 : LC := .reg false [(⟨(some 49), none, .mv (.t 2)⟩, []),
  (⟨(some 50), none, .bin .geq (.t 49) (.c (.int .i64 0))⟩, [])] (some ([1, 2, 3, 11, 13, 15, 14, 12, 17, 16, 50], []))
abbrev l6r10 : LC := .reg false [(⟨(some 52), none, .mv (.t 12)⟩, []),
  (⟨(some 53), none, .toStr (.t 52)⟩, []),
  (⟨(some 54), none, .mv (.t 2)⟩, []),
  (⟨(some 55), none, .call 27 [(.t 53), (.t 54)]⟩, []),
  (⟨(some 51), none, .mv (.t 55)⟩, []),
  (⟨(some 56), none, .ext 0 (.t 51)⟩, []),
  (⟨(some 57), none, .ext 1 (.t 51)⟩, []),
  (⟨(some 16), none, .mv (.t 56)⟩, []),
  (⟨(some 17), none, .mv (.t 57)⟩, [])] (some ([1, 2, 3, 11, 13, 17, 15, 16, 14, 12], []))
abbrev l6r11 : LC := .reg true [(⟨(some 58), none, .mv (.t 12)⟩, []),
  (⟨(some 59), none, .call 28 [(.t 58)]⟩, []),
  (⟨(some 60), none, .mv (.t 12)⟩, [1]),
  (⟨(some 61), none, .toStr (.t 60)⟩, [1]),
  (⟨(some 62), none, .call 29 [(.t 61)]⟩, []),
  (⟨(some 18), none, .mv (.t 59)⟩, []),
  (⟨(some 19), none, .mv (.t 62)⟩, [])] (some ([19, 18, 1, 2, 3, 11, 13, 17, 15, 16, 14], []))
abbrev l6r12 : LC := .reg false [(⟨(some 63), none, .mv (.t 14)⟩, []),
  (⟨(some 64), none, .mv (.t 16)⟩, []),
  (⟨(some 65), none, .bin .neq (.t 63) (.t 64)⟩, []),
  (⟨(some 66), none, .mv (.t 65)⟩, []),
  (⟨(some 67), (some (66, false)), .mv (.t 15)⟩, []),
  (⟨(some 68), (some (66, false)), .mv (.t 17)⟩, []),
  (⟨(some 69), (some (66, false)), .bin .neq (.t 67) (.t 68)⟩, []),
  (⟨(some 70), none, .pick (.t 66) (.c (.bool true)) (.t 69)⟩, []),
  (⟨(some 71), none, .mv (.t 70)⟩, []),
  (⟨(some 72), (some (71, false)), .mv (.t 18)⟩, []),
  (⟨(some 73), (some (71, false)), .len (.t 72)⟩, []),
  (⟨(some 74), (some (71, false)), .mv (.t 19)⟩, []),
  (⟨(some 75), (some (71, false)), .len (.t 74)⟩, []),
  (⟨(some 76), (some (71, false)), .bin .neq (.t 73) (.t 75)⟩, []),
  (⟨(some 77), none, .pick (.t 71) (.c (.bool true)) (.t 76)⟩, [])] (some ([19, 18, 1, 2, 3, 11, 13, 77], []))
abbrev l6r13 : LC := .reg false [(⟨(some 10), none, .mv (.c (.bool false))⟩, [])] (some ([10], []))
abbrev l6r14 : LC := .reg false [(⟨(some 20), none, .mv (.c (.int .i64 0))⟩, [])] (some ([20, 19, 18, 1, 2, 3, 11, 13], []))
abbrev l6r15 : LC := .reg false [(⟨(some 78), none, .mv (.t 20)⟩, []),
  (⟨(some 79), none, .mv (.t 18)⟩, []),
  (⟨(some 80), none, .len (.t 79)⟩, []),
  (⟨(some 81), none, .bin .lss (.t 78) (.t 80)⟩, [])] (some ([19, 18, 1, 2, 3, 11, 13, 20, 81], []))
abbrev l6r16 : LC := .reg false [(⟨(some 84), none, .mv (.t 18)⟩, []),
  (⟨(some 85), none, .mv (.t 20)⟩, []),
  (⟨(some 86), none, .iad 3 (.t 84) (.t 85)⟩, []),
  (⟨(some 87), none, .fad 0 (.t 86)⟩, []),
  (⟨(some 88), none, .load 1 false (.t 87)⟩, []),
  (⟨(some 89), none, .mv (.t 19)⟩, []),
  (⟨(some 90), none, .mv (.t 20)⟩, []),
  (⟨(some 91), none, .iad 3 (.t 89) (.t 90)⟩, []),
  (⟨(some 92), none, .fad 0 (.t 91)⟩, []),
  (⟨(some 93), none, .load 1 false (.t 92)⟩, []),
  (⟨(some 94), none, .bin .neq (.t 88) (.t 93)⟩, []),
  (⟨(some 95), none, .mv (.t 94)⟩, []),
  (⟨(some 96), (some (95, false)), .mv (.t 18)⟩, []),
  (⟨(some 97), (some (95, false)), .mv (.t 20)⟩, []),
  (⟨(some 98), (some (95, false)), .iad 3 (.t 96) (.t 97)⟩, []),
  (⟨(some 99), (some (95, false)), .fad 1 (.t 98)⟩, []),
  (⟨(some 100), (some (95, false)), .load 1 false (.t 99)⟩, []),
  (⟨(some 101), (some (95, false)), .mv (.t 19)⟩, []),
  (⟨(some 102), (some (95, false)), .mv (.t 20)⟩, []),
  (⟨(some 103), (some (95, false)), .iad 3 (.t 101) (.t 102)⟩, []),
  (⟨(some 104), (some (95, false)), .fad 1 (.t 103)⟩, []),
  (⟨(some 105), (some (95, false)), .load 1 false (.t 104)⟩, []),
  (⟨(some 106), (some (95, false)), .bin .neq (.t 100) (.t 105)⟩, []),
  (⟨(some 107), none, .pick (.t 95) (.c (.bool true)) (.t 106)⟩, []),
  (⟨(some 108), none, .mv (.t 107)⟩, []),
  (⟨(some 109), (some (108, false)), .mv (.t 18)⟩, []),
  (⟨(some 110), (some (108, false)), .mv (.t 20)⟩, []),
  (⟨(some 111), (some (108, false)), .iad 3 (.t 109) (.t 110)⟩, []),
  (⟨(some 112), (some (108, false)), .fad 2 (.t 111)⟩, []),
  (⟨(some 113), (some (108, false)), .load 1 false (.t 112)⟩, []),
  (⟨(some 114), (some (108, false)), .mv (.t 19)⟩, []),
  (⟨(some 115), (some (108, false)), .mv (.t 20)⟩, []),
  (⟨(some 116), (some (108, false)), .iad 3 (.t 114) (.t 115)⟩, []),
  (⟨(some 117), (some (108, false)), .fad 2 (.t 116)⟩, []),
  (⟨(some 118), (some (108, false)), .load 1 false (.t 117)⟩, []),
  (⟨(some 119), (some (108, false)), .bin .neq (.t 113) (.t 118)⟩, []),
  (⟨(some 120), none, .pick (.t 108) (.c (.bool true)) (.t 119)⟩, [])] (some ([19, 18, 1, 2, 3, 11, 13, 20, 120], []))
abbrev l6r17 : LC := .reg false [(⟨(some 82), none, .mv (.t 20)⟩, []),
  (⟨(some 83), none, .bin .add (.t 82) (.c (.int .i64 1))⟩, []),
  (⟨(some 20), none, .mv (.t 83)⟩, [])] (some ([20, 19, 18, 1, 2, 3, 11, 13], []))
abbrev l6r18 : LC := (.seq (.seq l6r15 (.cond (.t 81) .skip (.exit 2))) (.seq (.block 3 (.seq l6r16 (.cond (.t 120) (.seq l6r13 .ret) .skip))) l6r17))
abbrev l6r19 : LC := .reg false [(⟨(some 121), none, .mv (.t 1)⟩, []),
  (⟨(some 12), none, .mv (.t 121)⟩, [])] (some ([1, 12, 2, 3, 11, 13], []))
abbrev l6r20 : LC := .reg false [(⟨(some 41), none, .mv (.t 13)⟩, []),
  (⟨(some 42), none, .bin .add (.t 41) (.c (.int .i64 1))⟩, []),
  (⟨(some 13), none, .mv (.t 42)⟩, [])] (some ([13, 1, 12, 2, 3, 11], []))
abbrev l6r21 : LC := (.seq (.seq l6r6 (.cond (.t 40) .skip (.exit 0))) (.seq (.block 1 (.seq l6r7 (.seq l6r8 (.seq (.seq l6r9 (.cond (.t 50) l6r10 .skip)) (.seq l6r11 (.seq (.seq l6r12 (.cond (.t 77) (.seq l6r13 .ret) .skip)) (.seq (.seq l6r14 (.block 2 (.loop l6r18))) l6r19))))))) l6r20))
abbrev l6r22 : LC := .reg false [(⟨(some 21), none, .mv (.c (.int .i64 0))⟩, [])] (some ([21, 3, 11], []))
abbrev l6r23 : LC := .reg false [(⟨(some 122), none, .mv (.t 21)⟩, []),
  (⟨(some 123), none, .mv (.t 3)⟩, []),
  (⟨(some 124), none, .len (.t 123)⟩, []),
  (⟨(some 125), none, .bin .lss (.t 122) (.t 124)⟩, [])] (some ([3, 11, 21, 125], []))
abbrev l6r24 : LC := .reg true [(⟨(some 128), none, .mv (.t 3)⟩, []),
  (⟨(some 129), none, .mv (.t 21)⟩, []),
  (⟨(some 130), none, .iad 3 (.t 128) (.t 129)⟩, []),
  (⟨(some 131), none, .load 3 true (.t 130)⟩, []),
  (⟨(some 132), none, .call 30 [(.t 131)]⟩, []),
  (⟨(some 133), none, .mv (.t 3)⟩, [4]),
  (⟨(some 134), none, .mv (.t 21)⟩, [4]),
  (⟨(some 135), none, .iad 3 (.t 133) (.t 134)⟩, [4]),
  (⟨(some 136), none, .fad 0 (.t 135)⟩, [4]),
  (⟨(some 137), none, .load 1 false (.t 136)⟩, [4]),
  (⟨(some 138), none, .mv (.t 3)⟩, [4]),
  (⟨(some 139), none, .mv (.t 21)⟩, [4]),
  (⟨(some 140), none, .iad 3 (.t 138) (.t 139)⟩, [4]),
  (⟨(some 141), none, .fad 1 (.t 140)⟩, [4]),
  (⟨(some 142), none, .load 1 false (.t 141)⟩, [4]),
  (⟨(some 143), none, .mv (.t 3)⟩, [4]),
  (⟨(some 144), none, .mv (.t 21)⟩, [4]),
  (⟨(some 145), none, .iad 3 (.t 143) (.t 144)⟩, [4]),
  (⟨(some 146), none, .fad 2 (.t 145)⟩, [4]),
  (⟨(some 147), none, .load 1 false (.t 146)⟩, [4]),
  (⟨(some 148), none, .build [(.int .i64 0), (.int .i64 0), (.int .i64 0)] [(0, 1, (.t 137)), (1, 1, (.t 142)), (2, 1, (.t 147))]⟩, [4]),
  (⟨(some 149), none, .call 31 [(.t 148)]⟩, []),
  (⟨(some 150), none, .eqb true (.t 132) (.t 149)⟩, [])] (some ([3, 11, 21, 150], []))
abbrev l6r25 : LC := .reg false [(⟨(some 126), none, .mv (.t 21)⟩, []),
  (⟨(some 127), none, .bin .add (.t 126) (.c (.int .i64 1))⟩, []),
  (⟨(some 21), none, .mv (.t 127)⟩, [])] (some ([21, 3, 11], []))
abbrev l6r26 : LC := (.seq (.seq l6r23 (.cond (.t 125) .skip (.exit 4))) (.seq (.block 5 (.seq l6r24 (.cond (.t 150) (.seq l6r13 .ret) .skip))) l6r25))
abbrev l6r27 : LC := .reg false [(⟨(some 152), none, .mv (.t 3)⟩, []),
  (⟨(some 153), none, .mv (.t 11)⟩, []),
  (⟨(some 154), none, .call 32 [(.t 152), (.t 153)]⟩, []),
  (⟨(some 151), none, .mv (.t 154)⟩, []),
  (⟨(some 155), none, .ext 0 (.t 151)⟩, []),
  (⟨(some 156), none, .ext 1 (.t 151)⟩, []),
  (⟨(some 22), none, .mv (.t 155)⟩, []),
  (⟨(some 23), none, .mv (.t 156)⟩, [])] (some ([22, 23, 11, 3], []))
abbrev l6r28 : LC := .reg false [(⟨(some 158), none, .mv (.t 3)⟩, []),
  (⟨(some 159), none, .call 34 [(.t 158)]⟩, []),
  (⟨(some 160), none, .mv (.t 11)⟩, []),
  (⟨(some 161), none, .call 33 [(.t 159), (.t 160)]⟩, []),
  (⟨(some 157), none, .mv (.t 161)⟩, []),
  (⟨(some 162), none, .ext 0 (.t 157)⟩, []),
  (⟨(some 163), none, .ext 1 (.t 157)⟩, []),
  (⟨(some 24), none, .mv (.t 162)⟩, []),
  (⟨(some 25), none, .mv (.t 163)⟩, [])] (some ([24, 22, 25, 23], []))
abbrev l6r29 : LC := .reg false [(⟨(some 164), none, .call 24 []⟩, []),
  (⟨(some 165), none, .mv (.t 164)⟩, []),
  (⟨(some 166), (some (165, true)), .mv (.t 23)⟩, []),
  (⟨(some 167), (some (165, true)), .mv (.t 25)⟩, []),
  (⟨(some 168), (some (165, true)), .bin .eql (.t 166) (.t 167)⟩, []),
  (⟨(some 169), none, .pick (.t 165) (.t 168) (.c (.bool false))⟩, []),
  (⟨(some 170), none, .mv (.t 169)⟩, []),
  (⟨(some 171), (some (170, true)), .mv (.t 22)⟩, []),
  (⟨(some 172), (some (170, true)), .toStr (.t 171)⟩, []),
  (⟨(some 173), (some (170, true)), .mv (.t 24)⟩, []),
  (⟨(some 174), (some (170, true)), .bin .eql (.t 172) (.t 173)⟩, []),
  (⟨(some 175), none, .pick (.t 170) (.t 174) (.c (.bool false))⟩, []),
  (⟨(some 10), none, .mv (.t 175)⟩, [])] (some ([10], []))
/-- steamer/steamerlaw11.MatchAsks : 5 parameters, results in [10] of 176 slots -/
abbrev l6 : LC := (.seq l6r0 (.seq (.seq l6r1 (.cond (.t 33) (.seq l6r2 .ret) .skip)) (.seq l6r3 (.seq l6r4 (.seq (.seq l6r5 (.block 0 (.loop l6r21))) (.seq (.seq l6r22 (.block 4 (.loop l6r26))) (.seq l6r27 (.seq l6r28 (.seq l6r29 .ret)))))))))
def k6 (i : Nat) : Option Kp := match i with
  | 0 => (some ([1, 2, 3, 0, 4], []))
  | 1 => (some ([1, 2, 3, 0, 4, 33], []))
  | 2 => (some ([10], []))
  | 3 => (some ([1, 2, 3, 11, 0], []))
  | 4 => (some ([1, 12, 2, 3, 11], []))
  | 5 => (some ([13, 1, 12, 2, 3, 11], []))
  | 6 => (some ([1, 2, 3, 11, 13, 12, 40], []))
  | 7 => (some ([13, 1, 12, 2, 3, 11], []))
  | 8 => (some ([1, 2, 3, 11, 13, 15, 14, 12], []))
  | 9 => (some ([1, 2, 3, 11, 13, 15, 14, 12, 17, 16], []))
  | 10 => (some ([1, 2, 3, 11, 13, 15, 14, 12, 17, 16, 50], []))
  | 11 => (some ([1, 2, 3, 11, 13, 17, 15, 16, 14, 12], []))
  | 12 => (some ([19, 18, 1, 2, 3, 11, 13, 17, 15, 16, 14], []))
  | 13 => (some ([19, 18, 1, 2, 3, 11, 13, 77], []))
  | 14 => (some ([10], []))
  | 15 => (some ([20, 19, 18, 1, 2, 3, 11, 13], []))
  | 16 => (some ([19, 18, 1, 2, 3, 11, 13, 20, 81], []))
  | 17 => (some ([20, 19, 18, 1, 2, 3, 11, 13], []))
  | 18 => (some ([19, 18, 1, 2, 3, 11, 13, 20, 120], []))
  | 19 => (some ([10], []))
  | 20 => (some ([1, 12, 2, 3, 11, 13], []))
  | 21 => (some ([21, 3, 11], []))
  | 22 => (some ([3, 11, 21, 125], []))
  | 23 => (some ([21, 3, 11], []))
  | 24 => (some ([3, 11, 21, 150], []))
  | 25 => (some ([10], []))
  | 26 => (some ([22, 23, 11, 3], []))
  | 27 => (some ([24, 22, 25, 23], []))
  | 28 => (some ([10], []))
  | _ => none
theorem f6_told : Try.prog.funcs[6]? = some Try.f6 := by kernel_rfl
theorem f6_results : resTmps Try.f6 = some [10] := by kernel_rfl
theorem f6_text : (Try.f6.body.bind (trC Try.prog 176 k6 1000)) = some l6 := by kernel_rfl

abbrev l7r0 : LC := .reg false [(⟨(some 2), none, .mv (.c (.bool false))⟩, [])] (some ([0], []))
abbrev l7r1 : LC := .reg false [(⟨(some 11), none, .mv (.t 0)⟩, []),
  (⟨(some 12), none, .call 25 [(.t 11), (.c (.int .i64 1500))]⟩, []),
  (⟨(some 3), none, .mv (.t 12)⟩, [])] (some ([3], []))
abbrev l7r2 : LC := .reg false [(⟨(some 13), none, .mv (.t 3)⟩, []),
  (⟨(some 14), none, .len (.t 13)⟩, []),
  (⟨(some 15), none, .bin .eql (.t 14) (.c (.int .i64 0))⟩, [])] (some ([3, 15], []))
abbrev l7r3 : LC := .reg false [(⟨(some 16), none, .call 24 []⟩, []),
  (⟨(some 2), none, .mv (.t 16)⟩, [])] (some ([2], []))
abbrev l7r4 : LC := .reg false [(⟨(some 17), none, .mv (.t 3)⟩, []),
  (⟨(some 18), none, .call 28 [(.t 17)]⟩, []),
  (⟨(some 4), none, .mv (.t 18)⟩, [])] (some ([4, 3], []))
abbrev l7r5 : LC := .reg false [(⟨(some 5), none, .mv (.c (.int .i64 0))⟩, [])] (some ([4, 5, 3], []))
abbrev l7r6 : LC := .reg false [(⟨(some 6), none, .mv (.c (.int .i64 0))⟩, [])] (some ([6, 4, 5, 3], []))
abbrev l7r7 : LC := .reg false [(⟨(some 19), none, .mv (.t 6)⟩, []),
  (⟨(some 20), none, .mv (.t 4)⟩, []),
  (⟨(some 21), none, .len (.t 20)⟩, []),
  (⟨(some 22), none, .bin .lss (.t 19) (.t 21)⟩, [])] (some ([4, 3, 6, 5, 22], []))
abbrev l7r8 : LC := .reg false [(⟨(some 25), none, .mv (.t 4)⟩, []),
  (⟨(some 26), none, .mv (.t 6)⟩, []),
  (⟨(some 27), none, .iad 3 (.t 25) (.t 26)⟩, []),
  (⟨(some 28), none, .load 3 true (.t 27)⟩, []),
  (⟨(some 29), none, .call 30 [(.t 28)]⟩, []),
  (⟨(some 30), none, .un .not (.t 29)⟩, []),
  (⟨(some 31), none, .mv (.t 30)⟩, []),
  (⟨(some 32), (some (31, false)), .mv (.t 4)⟩, []),
  (⟨(some 33), (some (31, false)), .mv (.t 6)⟩, []),
  (⟨(some 34), (some (31, false)), .iad 3 (.t 32) (.t 33)⟩, []),
  (⟨(some 35), (some (31, false)), .fad 1 (.t 34)⟩, []),
  (⟨(some 36), (some (31, false)), .load 1 false (.t 35)⟩, []),
  (⟨(some 37), (some (31, false)), .mv (.t 5)⟩, []),
  (⟨(some 38), (some (31, false)), .bin .gtr (.t 36) (.t 37)⟩, []),
  (⟨(some 39), none, .pick (.t 31) (.c (.bool true)) (.t 38)⟩, [])] (some ([4, 3, 6, 5, 39], []))
abbrev l7r9 : LC := .reg false [(⟨(some 2), none, .mv (.c (.bool false))⟩, [])] (some ([2], []))
abbrev l7r10 : LC := .reg false [(⟨(some 40), none, .mv (.t 5)⟩, []),
  (⟨(some 41), none, .mv (.t 4)⟩, []),
  (⟨(some 42), none, .mv (.t 6)⟩, []),
  (⟨(some 43), none, .iad 3 (.t 41) (.t 42)⟩, []),
  (⟨(some 44), none, .fad 2 (.t 43)⟩, []),
  (⟨(some 45), none, .load 1 false (.t 44)⟩, []),
  (⟨(some 46), none, .mm true (.t 45) (.c (.int .i64 1))⟩, []),
  (⟨(some 47), none, .bin .add (.t 40) (.t 46)⟩, []),
  (⟨(some 5), none, .mv (.t 47)⟩, [])] (some ([4, 5, 3, 6], []))
abbrev l7r11 : LC := .reg false [(⟨(some 23), none, .mv (.t 6)⟩, []),
  (⟨(some 24), none, .bin .add (.t 23) (.c (.int .i64 1))⟩, []),
  (⟨(some 6), none, .mv (.t 24)⟩, [])] (some ([6, 4, 5, 3], []))
abbrev l7r12 : LC := (.seq (.seq l7r7 (.cond (.t 22) .skip (.exit 0))) (.seq (.block 1 (.seq (.seq l7r8 (.cond (.t 39) (.seq l7r9 .ret) .skip)) l7r10)) l7r11))
abbrev l7r13 : LC := .reg false [(⟨(some 49), none, .mv (.t 4)⟩, []),
  (⟨(some 50), none, .mv (.t 3)⟩, []),
  (⟨(some 51), none, .len (.t 50)⟩, []),
  (⟨(some 52), none, .call 32 [(.t 49), (.t 51)]⟩, []),
  (⟨(some 48), none, .mv (.t 52)⟩, []),
  (⟨(some 53), none, .ext 0 (.t 48)⟩, []),
  (⟨(some 54), none, .ext 1 (.t 48)⟩, []),
  (⟨(some 7), none, .mv (.t 53)⟩, []),
  (⟨(some 8), none, .mv (.t 54)⟩, [])] (some ([3, 5, 7, 8, 4], []))
abbrev l7r14 : LC := .reg false [(⟨(some 56), none, .mv (.t 4)⟩, []),
  (⟨(some 57), none, .mv (.t 3)⟩, []),
  (⟨(some 58), none, .len (.t 57)⟩, []),
  (⟨(some 59), none, .bin .sub (.t 58) (.c (.int .i64 1))⟩, []),
  (⟨(some 60), none, .call 32 [(.t 56), (.t 59)]⟩, []),
  (⟨(some 55), none, .mv (.t 60)⟩, []),
  (⟨(some 61), none, .ext 0 (.t 55)⟩, []),
  (⟨(some 62), none, .ext 1 (.t 55)⟩, []),
  (⟨(some 9), none, .mv (.t 61)⟩, []),
  (⟨(some 10), none, .mv (.t 62)⟩, [])] (some ([3, 5, 10, 7, 8], []))
abbrev l7r15 : LC := .reg false [(⟨(some 63), none, .call 24 []⟩, []),
  (⟨(some 64), none, .mv (.t 63)⟩, []),
  (⟨(some 65), (some (64, true)), .mv (.t 8)⟩, []),
  (⟨(some 66), (some (64, true)), .bin .eql (.t 65) (.c (.int .i64 0))⟩, []),
  (⟨(some 67), none, .pick (.t 64) (.t 66) (.c (.bool false))⟩, []),
  (⟨(some 68), none, .mv (.t 67)⟩, []),
  (⟨(some 69), (some (68, true)), .mv (.t 7)⟩, []),
  (⟨(some 70), (some (68, true)), .toStr (.t 69)⟩, []),
  (⟨(some 71), (some (68, true)), .mv (.t 3)⟩, []),
  (⟨(some 72), (some (68, true)), .toStr (.t 71)⟩, []),
  (⟨(some 73), (some (68, true)), .bin .eql (.t 70) (.t 72)⟩, []),
  (⟨(some 74), none, .pick (.t 68) (.t 73) (.c (.bool false))⟩, []),
  (⟨(some 75), none, .mv (.t 74)⟩, []),
  (⟨(some 76), (some (75, true)), .mv (.t 10)⟩, []),
  (⟨(some 77), (some (75, true)), .bin .eql (.t 76) (.c (.int .i64 13))⟩, []),
  (⟨(some 78), none, .pick (.t 75) (.t 77) (.c (.bool false))⟩, []),
  (⟨(some 79), none, .mv (.t 78)⟩, []),
  (⟨(some 80), (some (79, true)), .mv (.t 5)⟩, []),
  (⟨(some 81), (some (79, true)), .mv (.t 3)⟩, []),
  (⟨(some 82), (some (79, true)), .len (.t 81)⟩, []),
  (⟨(some 83), (some (79, true)), .bin .eql (.t 80) (.t 82)⟩, []),
  (⟨(some 84), none, .pick (.t 79) (.t 83) (.c (.bool false))⟩, []),
  (⟨(some 2), none, .mv (.t 84)⟩, [])] (some ([2], []))
/-- steamer/steamerlaw11.MatchBack : 1 parameters, results in [2] of 85 slots -/
abbrev l7 : LC := (.seq l7r0 (.seq l7r1 (.seq (.seq l7r2 (.cond (.t 15) (.seq l7r3 .ret) .skip)) (.seq l7r4 (.seq l7r5 (.seq (.seq l7r6 (.block 0 (.loop l7r12))) (.seq l7r13 (.seq l7r14 (.seq l7r15 .ret)))))))))
def k7 (i : Nat) : Option Kp := match i with
  | 0 => (some ([0], []))
  | 1 => (some ([3], []))
  | 2 => (some ([3, 15], []))
  | 3 => (some ([2], []))
  | 4 => (some ([4, 3], []))
  | 5 => (some ([4, 5, 3], []))
  | 6 => (some ([6, 4, 5, 3], []))
  | 7 => (some ([4, 3, 6, 5, 22], []))
  | 8 => (some ([6, 4, 5, 3], []))
  | 9 => (some ([4, 3, 6, 5, 39], []))
  | 10 => (some ([2], []))
  | 11 => (some ([4, 5, 3, 6], []))
  | 12 => (some ([3, 5, 7, 8, 4], []))
  | 13 => (some ([3, 5, 10, 7, 8], []))
  | 14 => (some ([2], []))
  | _ => none
theorem f7_told : Try.prog.funcs[7]? = some Try.f7 := by kernel_rfl
theorem f7_results : resTmps Try.f7 = some [2] := by kernel_rfl
theorem f7_text : (Try.f7.body.bind (trC Try.prog 85 k7 1000)) = some l7 := by kernel_rfl

abbrev l8r0 : LC := .reg false [(⟨(some 4), none, .mv (.c (.bool false))⟩, [])] (some ([1, 0], []))
abbrev l8r1 : LC := .reg false [(⟨(some 11), none, .mv (.t 0)⟩, []),
  (⟨(some 12), none, .call 25 [(.t 11), (.c (.int .i64 400))]⟩, []),
  (⟨(some 5), none, .mv (.t 12)⟩, [])] (some ([5, 1], []))
abbrev l8r2 : LC := .reg false [(⟨(some 13), none, .mv (.t 5)⟩, []),
  (⟨(some 14), none, .len (.t 13)⟩, []),
  (⟨(some 15), none, .bin .eql (.t 14) (.c (.int .i64 0))⟩, [])] (some ([5, 1, 15], []))
abbrev l8r3 : LC := .reg false [(⟨(some 16), none, .call 24 []⟩, []),
  (⟨(some 4), none, .mv (.t 16)⟩, [])] (some ([4], []))
abbrev l8r4 : LC := .reg false [(⟨(some 17), none, .mv (.t 1)⟩, []),
  (⟨(some 18), none, .toInt .u64 (.t 17)⟩, []),
  (⟨(some 19), none, .mv (.t 5)⟩, []),
  (⟨(some 20), none, .len (.t 19)⟩, []),
  (⟨(some 21), none, .toInt .u64 (.t 20)⟩, []),
  (⟨(some 22), none, .bin .rem (.t 18) (.t 21)⟩, []),
  (⟨(some 23), none, .toInt .i64 (.t 22)⟩, []),
  (⟨(some 6), none, .mv (.t 23)⟩, [])] (some ([6, 5], []))
abbrev l8r5 : LC := .reg false [(⟨(some 25), none, .mv (.t 5)⟩, []),
  (⟨(some 26), none, .mv (.t 6)⟩, []),
  (⟨(some 27), none, .call 26 [(.t 25), (.t 26)]⟩, []),
  (⟨(some 24), none, .mv (.t 27)⟩, []),
  (⟨(some 28), none, .ext 0 (.t 24)⟩, []),
  (⟨(some 29), none, .ext 1 (.t 24)⟩, []),
  (⟨(some 7), none, .mv (.t 28)⟩, []),
  (⟨(some 8), none, .mv (.t 29)⟩, [])] (some ([8, 7, 6, 5], []))
abbrev l8r6 : LC := .reg false [(⟨(some 30), none, .mv (.t 8)⟩, []),
  (⟨(some 31), none, .bin .lss (.t 30) (.c (.int .i64 0))⟩, []),
  (⟨(some 32), none, .mv (.t 31)⟩, []),
  (⟨(some 33), (some (32, false)), .mv (.t 8)⟩, []),
  (⟨(some 34), (some (32, false)), .bin .gtr (.t 33) (.c (.int .i64 66))⟩, []),
  (⟨(some 35), none, .pick (.t 32) (.c (.bool true)) (.t 34)⟩, []),
  (⟨(some 36), none, .mv (.t 35)⟩, []),
  (⟨(some 37), (some (36, false)), .mv (.t 6)⟩, []),
  (⟨(some 38), (some (36, false)), .mv (.t 8)⟩, []),
  (⟨(some 39), (some (36, false)), .bin .add (.t 37) (.t 38)⟩, []),
  (⟨(some 40), (some (36, false)), .mv (.t 5)⟩, []),
  (⟨(some 41), (some (36, false)), .len (.t 40)⟩, []),
  (⟨(some 42), (some (36, false)), .bin .gtr (.t 39) (.t 41)⟩, []),
  (⟨(some 43), none, .pick (.t 36) (.c (.bool true)) (.t 42)⟩, []),
  (⟨(some 44), none, .mv (.t 43)⟩, []),
  (⟨(some 45), (some (44, false)), .mv (.t 7)⟩, []),
  (⟨(some 46), (some (44, false)), .bin .lss (.t 45) (.c (.int .i64 0))⟩, []),
  (⟨(some 47), none, .pick (.t 44) (.c (.bool true)) (.t 46)⟩, []),
  (⟨(some 48), none, .mv (.t 47)⟩, []),
  (⟨(some 49), (some (48, false)), .mv (.t 7)⟩, []),
  (⟨(some 50), (some (48, false)), .mv (.t 6)⟩, []),
  (⟨(some 51), (some (48, false)), .bin .gtr (.t 49) (.t 50)⟩, []),
  (⟨(some 52), none, .pick (.t 48) (.c (.bool true)) (.t 51)⟩, [])] (some ([8, 7, 6, 5, 52], []))
abbrev l8r7 : LC := .reg false [(⟨(some 4), none, .mv (.c (.bool false))⟩, [])] (some ([4], []))
abbrev l8r8 : LC := .reg false [(⟨(some 9), none, .mv (.c (.int .i64 1))⟩, [])] (some ([9, 8, 7, 6, 5], []))
abbrev l8r9 : LC := .reg false [(⟨(some 53), none, .mv (.t 9)⟩, []),
  (⟨(some 54), none, .mv (.t 6)⟩, []),
  (⟨(some 55), none, .bin .leq (.t 53) (.t 54)⟩, [])] (some ([8, 7, 6, 5, 9, 55], []))
abbrev l8r10 : LC := .reg false [(⟨(some 10), none, .mv (.c (.int .i64 0))⟩, [])] (some ([10, 8, 7, 6, 5, 9], []))
abbrev l8r11 : LC := .reg false [(⟨(some 58), none, .mv (.t 10)⟩, []),
  (⟨(some 59), none, .bin .lss (.t 58) (.c (.int .i64 66))⟩, []),
  (⟨(some 60), none, .mv (.t 59)⟩, []),
  (⟨(some 61), (some (60, true)), .mv (.t 6)⟩, []),
  (⟨(some 62), (some (60, true)), .mv (.t 10)⟩, []),
  (⟨(some 63), (some (60, true)), .bin .add (.t 61) (.t 62)⟩, []),
  (⟨(some 64), (some (60, true)), .mv (.t 5)⟩, []),
  (⟨(some 65), (some (60, true)), .len (.t 64)⟩, []),
  (⟨(some 66), (some (60, true)), .bin .lss (.t 63) (.t 65)⟩, []),
  (⟨(some 67), none, .pick (.t 60) (.t 66) (.c (.bool false))⟩, []),
  (⟨(some 68), none, .mv (.t 67)⟩, []),
  (⟨(some 69), (some (68, true)), .mv (.t 5)⟩, []),
  (⟨(some 70), (some (68, true)), .mv (.t 6)⟩, []),
  (⟨(some 71), (some (68, true)), .mv (.t 10)⟩, []),
  (⟨(some 72), (some (68, true)), .bin .add (.t 70) (.t 71)⟩, []),
  (⟨(some 73), (some (68, true)), .iad 1 (.t 69) (.t 72)⟩, []),
  (⟨(some 74), (some (68, true)), .load 1 false (.t 73)⟩, []),
  (⟨(some 75), (some (68, true)), .mv (.t 5)⟩, []),
  (⟨(some 76), (some (68, true)), .mv (.t 6)⟩, []),
  (⟨(some 77), (some (68, true)), .mv (.t 10)⟩, []),
  (⟨(some 78), (some (68, true)), .bin .add (.t 76) (.t 77)⟩, []),
  (⟨(some 79), (some (68, true)), .mv (.t 9)⟩, []),
  (⟨(some 80), (some (68, true)), .bin .sub (.t 78) (.t 79)⟩, []),
  (⟨(some 81), (some (68, true)), .iad 1 (.t 75) (.t 80)⟩, []),
  (⟨(some 82), (some (68, true)), .load 1 false (.t 81)⟩, []),
  (⟨(some 83), (some (68, true)), .bin .eql (.t 74) (.t 82)⟩, []),
  (⟨(some 84), none, .pick (.t 68) (.t 83) (.c (.bool false))⟩, [])] (some ([8, 7, 6, 5, 9, 10, 84], []))
abbrev l8r12 : LC := .reg false [(⟨(some 85), none, .mv (.t 10)⟩, []),
  (⟨(some 86), none, .bin .add (.t 85) (.c (.int .i64 1))⟩, []),
  (⟨(some 10), none, .mv (.t 86)⟩, [])] (some ([10, 8, 7, 6, 5, 9], []))
abbrev l8r13 : LC := (.seq (.seq l8r11 (.cond (.t 84) .skip (.exit 2))) (.block 3 l8r12))
abbrev l8r14 : LC := .reg false [(⟨(some 87), none, .mv (.t 10)⟩, []),
  (⟨(some 88), none, .mv (.t 8)⟩, []),
  (⟨(some 89), none, .bin .gtr (.t 87) (.t 88)⟩, []),
  (⟨(some 90), none, .mv (.t 89)⟩, []),
  (⟨(some 91), (some (90, true)), .mv (.t 10)⟩, []),
  (⟨(some 92), (some (90, true)), .bin .geq (.t 91) (.c (.int .i64 3))⟩, []),
  (⟨(some 93), none, .pick (.t 90) (.t 92) (.c (.bool false))⟩, []),
  (⟨(some 94), none, .mv (.t 93)⟩, []),
  (⟨(some 95), (some (94, false)), .mv (.t 10)⟩, []),
  (⟨(some 96), (some (94, false)), .bin .geq (.t 95) (.c (.int .i64 3))⟩, []),
  (⟨(some 97), (some (94, false)), .mv (.t 96)⟩, []),
  (⟨(some 98), (some (97, true)), .mv (.t 10)⟩, []),
  (⟨(some 99), (some (97, true)), .mv (.t 8)⟩, []),
  (⟨(some 100), (some (97, true)), .bin .eql (.t 98) (.t 99)⟩, []),
  (⟨(some 101), (some (94, false)), .pick (.t 97) (.t 100) (.c (.bool false))⟩, []),
  (⟨(some 102), (some (94, false)), .mv (.t 101)⟩, []),
  (⟨(some 103), (some (102, true)), .mv (.t 9)⟩, []),
  (⟨(some 104), (some (102, true)), .mv (.t 7)⟩, []),
  (⟨(some 105), (some (102, true)), .bin .lss (.t 103) (.t 104)⟩, []),
  (⟨(some 106), (some (94, false)), .pick (.t 102) (.t 105) (.c (.bool false))⟩, []),
  (⟨(some 107), none, .pick (.t 94) (.c (.bool true)) (.t 106)⟩, []),
  (⟨(some 108), none, .mv (.t 107)⟩, []),
  (⟨(some 109), (some (108, false)), .mv (.t 9)⟩, []),
  (⟨(some 110), (some (108, false)), .mv (.t 7)⟩, []),
  (⟨(some 111), (some (108, false)), .bin .eql (.t 109) (.t 110)⟩, []),
  (⟨(some 112), (some (108, false)), .mv (.t 111)⟩, []),
  (⟨(some 113), (some (112, true)), .mv (.t 10)⟩, []),
  (⟨(some 114), (some (112, true)), .mv (.t 8)⟩, []),
  (⟨(some 115), (some (112, true)), .bin .neq (.t 113) (.t 114)⟩, []),
  (⟨(some 116), (some (108, false)), .pick (.t 112) (.t 115) (.c (.bool false))⟩, []),
  (⟨(some 117), none, .pick (.t 108) (.c (.bool true)) (.t 116)⟩, [])] (some ([8, 7, 6, 5, 9, 117], []))
abbrev l8r15 : LC := .reg false [(⟨(some 56), none, .mv (.t 9)⟩, []),
  (⟨(some 57), none, .bin .add (.t 56) (.c (.int .i64 1))⟩, []),
  (⟨(some 9), none, .mv (.t 57)⟩, [])] (some ([9, 8, 7, 6, 5], []))
abbrev l8r16 : LC := (.seq (.seq l8r9 (.cond (.t 55) .skip (.exit 0))) (.seq (.block 1 (.seq l8r10 (.seq (.block 2 (.loop l8r13)) (.seq l8r14 (.cond (.t 117) (.seq l8r7 .ret) .skip))))) l8r15))
abbrev l8r17 : LC := .reg false [(⟨(some 118), none, .call 24 []⟩, []),
  (⟨(some 119), none, .mv (.t 118)⟩, []),
  (⟨(some 120), (some (119, true)), .mv (.t 8)⟩, []),
  (⟨(some 121), (some (119, true)), .bin .eql (.t 120) (.c (.int .i64 0))⟩, []),
  (⟨(some 122), (some (119, true)), .mv (.t 7)⟩, []),
  (⟨(some 123), (some (119, true)), .bin .eql (.t 122) (.c (.int .i64 0))⟩, []),
  (⟨(some 124), (some (119, true)), .eqb false (.t 121) (.t 123)⟩, []),
  (⟨(some 125), none, .pick (.t 119) (.t 124) (.c (.bool false))⟩, []),
  (⟨(some 4), none, .mv (.t 125)⟩, [])] (some ([4], []))
/-- steamer/steamerlaw11.MatchLongest : 2 parameters, results in [4] of 126 slots -/
abbrev l8 : LC := (.seq l8r0 (.seq l8r1 (.seq (.seq l8r2 (.cond (.t 15) (.seq l8r3 .ret) .skip)) (.seq l8r4 (.seq l8r5 (.seq (.seq l8r6 (.cond (.t 52) (.seq l8r7 .ret) .skip)) (.seq (.seq l8r8 (.block 0 (.loop l8r16))) (.seq l8r17 .ret))))))))
def k8 (i : Nat) : Option Kp := match i with
  | 0 => (some ([1, 0], []))
  | 1 => (some ([5, 1], []))
  | 2 => (some ([5, 1, 15], []))
  | 3 => (some ([4], []))
  | 4 => (some ([6, 5], []))
  | 5 => (some ([8, 7, 6, 5], []))
  | 6 => (some ([8, 7, 6, 5, 52], []))
  | 7 => (some ([4], []))
  | 8 => (some ([9, 8, 7, 6, 5], []))
  | 9 => (some ([8, 7, 6, 5, 9, 55], []))
  | 10 => (some ([9, 8, 7, 6, 5], []))
  | 11 => (some ([10, 8, 7, 6, 5, 9], []))
  | 12 => (some ([8, 7, 6, 5, 9, 10, 84], []))
  | 13 => (some ([10, 8, 7, 6, 5, 9], []))
  | 14 => (some ([8, 7, 6, 5, 9, 117], []))
  | 15 => (some ([4], []))
  | 16 => (some ([4], []))
  | _ => none
theorem f8_told : Try.prog.funcs[8]? = some Try.f8 := by kernel_rfl
theorem f8_results : resTmps Try.f8 = some [4] := by kernel_rfl
theorem f8_text : (Try.f8.body.bind (trC Try.prog 126 k8 1000)) = some l8 := by kernel_rfl

abbrev l9r0 : LC := .reg false [(⟨(some 4), none, .mv (.c (.bool false))⟩, [])] (some ([0, 1], []))
abbrev l9r1 : LC := .reg false [(⟨(some 12), none, .mv (.t 1)⟩, []),
  (⟨(some 13), none, .toInt .u64 (.t 12)⟩, []),
  (⟨(some 14), none, .bin .rem (.t 13) (.c (.int .u64 500))⟩, []),
  (⟨(some 15), none, .toInt .i64 (.t 14)⟩, []),
  (⟨(some 16), none, .bin .add (.c (.int .i64 1)) (.t 15)⟩, []),
  (⟨(some 5), none, .mv (.t 16)⟩, [])] (some ([0, 5], []))
abbrev l9r2 : LC := .reg false [(⟨(some 17), none, .mv (.t 5)⟩, []),
  (⟨(some 18), none, .mksl 1 1 [(.int .u8 0)] (.t 17) (.t 17)⟩, []),
  (⟨(some 6), none, .mv (.t 18)⟩, [])] (some ([0, 6, 5], []))
abbrev l9r3 : LC := .reg false [(⟨(some 7), none, .mv (.c (.int .i64 0))⟩, [])] (some ([7, 0, 6, 5], []))
abbrev l9r4 : LC := .reg false [(⟨(some 19), none, .mv (.t 7)⟩, []),
  (⟨(some 20), none, .mv (.t 5)⟩, []),
  (⟨(some 21), none, .bin .lss (.t 19) (.t 20)⟩, [])] (some ([0, 6, 5, 7, 21], []))
abbrev l9r5 : LC := .reg false [(⟨(some 24), none, .mv (.t 6)⟩, []),
  (⟨(some 25), none, .mv (.t 7)⟩, []),
  (⟨(some 26), none, .mv (.t 0)⟩, []),
  (⟨(some 27), none, .iad 1 (.t 24) (.t 25)⟩, []),
  (⟨none, none, .store 1 (.t 27) (.t 26)⟩, [])] (some ([0, 6, 5, 7], []))
abbrev l9r6 : LC := .reg false [(⟨(some 22), none, .mv (.t 7)⟩, []),
  (⟨(some 23), none, .bin .add (.t 22) (.c (.int .i64 1))⟩, []),
  (⟨(some 7), none, .mv (.t 23)⟩, [])] (some ([7, 0, 6, 5], []))
abbrev l9r7 : LC := (.seq (.seq l9r4 (.cond (.t 21) .skip (.exit 0))) (.seq (.block 1 l9r5) l9r6))
abbrev l9r8 : LC := .reg false [(⟨(some 28), none, .mv (.t 6)⟩, []),
  (⟨(some 29), none, .call 28 [(.t 28)]⟩, []),
  (⟨(some 8), none, .mv (.t 29)⟩, [])] (some ([0, 8, 5], []))
abbrev l9r9 : LC := .reg false [(⟨(some 30), none, .mv (.t 5)⟩, []),
  (⟨(some 31), none, .bin .sub (.t 30) (.c (.int .i64 1))⟩, []),
  (⟨(some 9), none, .mv (.t 31)⟩, [])] (some ([9, 0, 8], []))
abbrev l9r10 : LC := .reg false [(⟨(some 32), none, .mv (.t 8)⟩, []),
  (⟨(some 33), none, .len (.t 32)⟩, []),
  (⟨(some 34), none, .bin .eql (.t 33) (.c (.int .i64 0))⟩, []),
  (⟨(some 35), none, .mv (.t 34)⟩, []),
  (⟨(some 36), (some (35, false)), .mv (.t 8)⟩, []),
  (⟨(some 37), (some (35, false)), .iad 3 (.t 36) (.c (.int .i64 0))⟩, []),
  (⟨(some 38), (some (35, false)), .load 3 true (.t 37)⟩, []),
  (⟨(some 39), (some (35, false)), .mv (.t 0)⟩, []),
  (⟨(some 40), (some (35, false)), .toInt .i64 (.t 39)⟩, []),
  (⟨(some 41), (some (35, false)), .build [(.int .i64 0), (.int .i64 0), (.int .i64 0)] [(0, 1, (.t 40))]⟩, []),
  (⟨(some 42), (some (35, false)), .eqs true [0, 0, 0] (.t 38) (.t 41)⟩, []),
  (⟨(some 43), none, .pick (.t 35) (.c (.bool true)) (.t 42)⟩, [])] (some ([9, 0, 8, 43], []))
abbrev l9r11 : LC := .reg false [(⟨(some 4), none, .mv (.c (.bool false))⟩, [])] (some ([4], []))
abbrev l9r12 : LC := .reg false [(⟨(some 10), none, .mv (.c (.int .i64 1))⟩, [])] (some ([10, 9, 0, 8], []))
abbrev l9r13 : LC := .reg false [(⟨(some 44), none, .mv (.t 10)⟩, []),
  (⟨(some 45), none, .mv (.t 8)⟩, []),
  (⟨(some 46), none, .len (.t 45)⟩, []),
  (⟨(some 47), none, .bin .lss (.t 44) (.t 46)⟩, [])] (some ([0, 8, 10, 9, 47], []))
abbrev l9r14 : LC := .reg false [(⟨(some 50), none, .mv (.t 9)⟩, []),
  (⟨(some 51), none, .mm false (.t 50) (.c (.int .i64 66))⟩, []),
  (⟨(some 11), none, .mv (.t 51)⟩, [])] (some ([0, 8, 10, 9, 11], []))
abbrev l9r15 : LC := .reg false [(⟨(some 52), none, .mv (.t 11)⟩, []),
  (⟨(some 53), none, .bin .geq (.t 52) (.c (.int .i64 3))⟩, []),
  (⟨(some 54), none, .mv (.t 53)⟩, []),
  (⟨(some 55), (some (54, true)), .mv (.t 8)⟩, []),
  (⟨(some 56), (some (54, true)), .mv (.t 10)⟩, []),
  (⟨(some 57), (some (54, true)), .iad 3 (.t 55) (.t 56)⟩, []),
  (⟨(some 58), (some (54, true)), .load 3 true (.t 57)⟩, []),
  (⟨(some 59), (some (54, true)), .mv (.t 11)⟩, []),
  (⟨(some 60), (some (54, true)), .build [(.int .i64 0), (.int .i64 0), (.int .i64 0)] [(0, 1, (.c (.int .i64 (-1)))), (1, 1, (.c (.int .i64 1))), (2, 1, (.t 59))]⟩, []),
  (⟨(some 61), (some (54, true)), .eqs true [0, 0, 0] (.t 58) (.t 60)⟩, []),
  (⟨(some 62), none, .pick (.t 54) (.t 61) (.c (.bool false))⟩, []),
  (⟨(some 63), none, .mv (.t 62)⟩, []),
  (⟨(some 64), (some (63, false)), .mv (.t 11)⟩, []),
  (⟨(some 65), (some (63, false)), .bin .lss (.t 64) (.c (.int .i64 3))⟩, []),
  (⟨(some 66), (some (63, false)), .mv (.t 65)⟩, []),
  (⟨(some 67), (some (66, true)), .mv (.t 8)⟩, []),
  (⟨(some 68), (some (66, true)), .mv (.t 10)⟩, []),
  (⟨(some 69), (some (66, true)), .iad 3 (.t 67) (.t 68)⟩, []),
  (⟨(some 70), (some (66, true)), .load 3 true (.t 69)⟩, []),
  (⟨(some 71), (some (66, true)), .mv (.t 0)⟩, []),
  (⟨(some 72), (some (66, true)), .toInt .i64 (.t 71)⟩, []),
  (⟨(some 73), (some (66, true)), .build [(.int .i64 0), (.int .i64 0), (.int .i64 0)] [(0, 1, (.t 72))]⟩, []),
  (⟨(some 74), (some (66, true)), .eqs true [0, 0, 0] (.t 70) (.t 73)⟩, []),
  (⟨(some 75), (some (63, false)), .pick (.t 66) (.t 74) (.c (.bool false))⟩, []),
  (⟨(some 76), none, .pick (.t 63) (.c (.bool true)) (.t 75)⟩, [])] (some ([0, 8, 10, 9, 11, 76], []))
abbrev l9r16 : LC := .reg false [(⟨(some 77), none, .mv (.t 11)⟩, []),
  (⟨(some 78), none, .bin .lss (.t 77) (.c (.int .i64 3))⟩, [])] (some ([0, 8, 10, 9, 11, 78], []))
abbrev l9r17 : LC := .reg false [(⟨(some 11), none, .mv (.c (.int .i64 1))⟩, [])] (some ([0, 8, 10, 11, 9], []))
abbrev l9r18 : LC := .reg false [(⟨(some 79), none, .mv (.t 9)⟩, []),
  (⟨(some 80), none, .mv (.t 11)⟩, []),
  (⟨(some 81), none, .bin .sub (.t 79) (.t 80)⟩, []),
  (⟨(some 9), none, .mv (.t 81)⟩, [])] (some ([9, 0, 8, 10], []))
abbrev l9r19 : LC := .reg false [(⟨(some 48), none, .mv (.t 10)⟩, []),
  (⟨(some 49), none, .bin .add (.t 48) (.c (.int .i64 1))⟩, []),
  (⟨(some 10), none, .mv (.t 49)⟩, [])] (some ([10, 9, 0, 8], []))
abbrev l9r20 : LC := (.seq (.seq l9r13 (.cond (.t 47) .skip (.exit 2))) (.seq (.block 3 (.seq l9r14 (.seq (.seq l9r15 (.cond (.t 76) (.seq l9r11 .ret) .skip)) (.seq (.seq l9r16 (.cond (.t 78) l9r17 .skip)) l9r18)))) l9r19))
abbrev l9r21 : LC := .reg false [(⟨(some 82), none, .call 24 []⟩, []),
  (⟨(some 83), none, .mv (.t 82)⟩, []),
  (⟨(some 84), (some (83, true)), .mv (.t 9)⟩, []),
  (⟨(some 85), (some (83, true)), .bin .eql (.t 84) (.c (.int .i64 0))⟩, []),
  (⟨(some 86), none, .pick (.t 83) (.t 85) (.c (.bool false))⟩, []),
  (⟨(some 4), none, .mv (.t 86)⟩, [])] (some ([4], []))
/-- steamer/steamerlaw11.MatchRuns : 2 parameters, results in [4] of 87 slots -/
abbrev l9 : LC := (.seq l9r0 (.seq l9r1 (.seq l9r2 (.seq (.seq l9r3 (.block 0 (.loop l9r7))) (.seq l9r8 (.seq l9r9 (.seq (.seq l9r10 (.cond (.t 43) (.seq l9r11 .ret) .skip)) (.seq (.seq l9r12 (.block 2 (.loop l9r20))) (.seq l9r21 .ret)))))))))
def k9 (i : Nat) : Option Kp := match i with
  | 0 => (some ([0, 1], []))
  | 1 => (some ([0, 5], []))
  | 2 => (some ([0, 6, 5], []))
  | 3 => (some ([7, 0, 6, 5], []))
  | 4 => (some ([0, 6, 5, 7, 21], []))
  | 5 => (some ([7, 0, 6, 5], []))
  | 6 => (some ([0, 6, 5, 7], []))
  | 7 => (some ([0, 8, 5], []))
  | 8 => (some ([9, 0, 8], []))
  | 9 => (some ([9, 0, 8, 43], []))
  | 10 => (some ([4], []))
  | 11 => (some ([10, 9, 0, 8], []))
  | 12 => (some ([0, 8, 10, 9, 47], []))
  | 13 => (some ([10, 9, 0, 8], []))
  | 14 => (some ([0, 8, 10, 9, 11], []))
  | 15 => (some ([0, 8, 10, 9, 11, 76], []))
  | 16 => (some ([4], []))
  | 17 => (some ([0, 8, 10, 9, 11, 78], []))
  | 18 => (some ([0, 8, 10, 11, 9], []))
  | 19 => (some ([9, 0, 8, 10], []))
  | 20 => (some ([4], []))
  | _ => none
theorem f9_told : Try.prog.funcs[9]? = some Try.f9 := by kernel_rfl
theorem f9_results : resTmps Try.f9 = some [4] := by kernel_rfl
theorem f9_text : (Try.f9.body.bind (trC Try.prog 87 k9 1000)) = some l9 := by kernel_rfl

abbrev l10r0 : LC := .reg false [(⟨(some 4), none, .mv (.c (.bool false))⟩, [])] (some ([0, 1], []))
abbrev l10r1 : LC := .reg false [(⟨(some 10), none, .mv (.t 0)⟩, []),
  (⟨(some 11), none, .len (.t 10)⟩, []),
  (⟨(some 12), none, .bin .gtr (.t 11) (.c (.int .i64 30))⟩, [])] (some ([0, 1, 12], []))
abbrev l10r2 : LC := .reg false [(⟨(some 13), none, .call 24 []⟩, []),
  (⟨(some 4), none, .mv (.t 13)⟩, [])] (some ([4], []))
abbrev l10r3 : LC := .reg false [(⟨(some 14), none, .mv (.t 1)⟩, []),
  (⟨(some 15), none, .toInt .u64 (.t 14)⟩, []),
  (⟨(some 16), none, .bin .rem (.t 15) (.c (.int .u64 501))⟩, []),
  (⟨(some 17), none, .toInt .i64 (.t 16)⟩, []),
  (⟨(some 5), none, .mv (.t 17)⟩, [])] (some ([0, 5], []))
abbrev l10r4 : LC := .reg false [(⟨(some 19), none, .mv (.t 0)⟩, []),
  (⟨(some 20), none, .mv (.t 5)⟩, []),
  (⟨(some 21), none, .call 32 [(.t 19), (.t 20)]⟩, []),
  (⟨(some 18), none, .mv (.t 21)⟩, []),
  (⟨(some 22), none, .ext 0 (.t 18)⟩, []),
  (⟨(some 23), none, .ext 1 (.t 18)⟩, []),
  (⟨(some 6), none, .mv (.t 22)⟩, []),
  (⟨(some 7), none, .mv (.t 23)⟩, [])] (some ([7, 6, 0, 5], []))
abbrev l10r5 : LC := .reg false [(⟨(some 24), none, .mv (.t 7)⟩, []),
  (⟨(some 25), none, .bin .neq (.t 24) (.c (.int .i64 0))⟩, [])] (some ([7, 6, 0, 5, 25], []))
abbrev l10r6 : LC := .reg false [(⟨(some 26), none, .call 24 []⟩, []),
  (⟨(some 27), none, .mv (.t 26)⟩, []),
  (⟨(some 28), (some (27, true)), .mv (.t 6)⟩, []),
  (⟨(some 29), (some (27, true)), .len (.t 28)⟩, []),
  (⟨(some 30), (some (27, true)), .bin .eql (.t 29) (.c (.int .i64 0))⟩, []),
  (⟨(some 31), none, .pick (.t 27) (.t 30) (.c (.bool false))⟩, []),
  (⟨(some 32), none, .mv (.t 31)⟩, []),
  (⟨(some 33), (some (32, true)), .mv (.t 7)⟩, []),
  (⟨(some 34), (some (32, true)), .bin .eql (.t 33) (.c (.int .i64 1))⟩, []),
  (⟨(some 35), (some (32, true)), .mv (.t 34)⟩, []),
  (⟨(some 36), (some (35, false)), .mv (.t 7)⟩, []),
  (⟨(some 37), (some (35, false)), .bin .eql (.t 36) (.c (.int .i64 2))⟩, []),
  (⟨(some 38), (some (32, true)), .pick (.t 35) (.c (.bool true)) (.t 37)⟩, []),
  (⟨(some 39), (some (32, true)), .mv (.t 38)⟩, []),
  (⟨(some 40), (some (39, false)), .mv (.t 7)⟩, []),
  (⟨(some 41), (some (39, false)), .bin .eql (.t 40) (.c (.int .i64 13))⟩, []),
  (⟨(some 42), (some (32, true)), .pick (.t 39) (.c (.bool true)) (.t 41)⟩, []),
  (⟨(some 43), none, .pick (.t 32) (.t 42) (.c (.bool false))⟩, []),
  (⟨(some 4), none, .mv (.t 43)⟩, [])] (some ([4], []))
abbrev l10r7 : LC := .reg false [(⟨(some 8), none, .mv (.c (.int .i64 0))⟩, [])] (some ([0, 8, 5, 6], []))
abbrev l10r8 : LC := .reg false [(⟨(some 9), none, .mv (.c (.int .i64 0))⟩, [])] (some ([9, 0, 8, 5, 6], []))
abbrev l10r9 : LC := .reg false [(⟨(some 44), none, .mv (.t 9)⟩, []),
  (⟨(some 45), none, .mv (.t 0)⟩, []),
  (⟨(some 46), none, .len (.t 45)⟩, []),
  (⟨(some 47), none, .bin .lss (.t 44) (.t 46)⟩, [])] (some ([0, 5, 6, 9, 8, 47], []))
abbrev l10r10 : LC := .reg false [(⟨(some 50), none, .mv (.t 8)⟩, []),
  (⟨(some 51), none, .mv (.t 0)⟩, []),
  (⟨(some 52), none, .mv (.t 9)⟩, []),
  (⟨(some 53), none, .iad 3 (.t 51) (.t 52)⟩, []),
  (⟨(some 54), none, .fad 2 (.t 53)⟩, []),
  (⟨(some 55), none, .load 1 false (.t 54)⟩, []),
  (⟨(some 56), none, .mm true (.t 55) (.c (.int .i64 1))⟩, []),
  (⟨(some 57), none, .bin .add (.t 50) (.t 56)⟩, []),
  (⟨(some 8), none, .mv (.t 57)⟩, [])] (some ([0, 8, 5, 6, 9], []))
abbrev l10r11 : LC := .reg false [(⟨(some 48), none, .mv (.t 9)⟩, []),
  (⟨(some 49), none, .bin .add (.t 48) (.c (.int .i64 1))⟩, []),
  (⟨(some 9), none, .mv (.t 49)⟩, [])] (some ([9, 0, 8, 5, 6], []))
abbrev l10r12 : LC := (.seq (.seq l10r9 (.cond (.t 47) .skip (.exit 0))) (.seq (.block 1 l10r10) l10r11))
abbrev l10r13 : LC := .reg false [(⟨(some 58), none, .call 24 []⟩, []),
  (⟨(some 59), none, .mv (.t 58)⟩, []),
  (⟨(some 60), (some (59, true)), .mv (.t 6)⟩, []),
  (⟨(some 61), (some (59, true)), .len (.t 60)⟩, []),
  (⟨(some 62), (some (59, true)), .mv (.t 8)⟩, []),
  (⟨(some 63), (some (59, true)), .bin .eql (.t 61) (.t 62)⟩, []),
  (⟨(some 64), none, .pick (.t 59) (.t 63) (.c (.bool false))⟩, []),
  (⟨(some 65), none, .mv (.t 64)⟩, []),
  (⟨(some 66), (some (65, true)), .mv (.t 8)⟩, []),
  (⟨(some 67), (some (65, true)), .mv (.t 5)⟩, []),
  (⟨(some 68), (some (65, true)), .bin .leq (.t 66) (.t 67)⟩, []),
  (⟨(some 69), none, .pick (.t 65) (.t 68) (.c (.bool false))⟩, []),
  (⟨(some 4), none, .mv (.t 69)⟩, [])] (some ([4], []))
/-- steamer/steamerlaw11.MatchRaw : 2 parameters, results in [4] of 70 slots -/
abbrev l10 : LC := (.seq l10r0 (.seq (.seq l10r1 (.cond (.t 12) (.seq l10r2 .ret) .skip)) (.seq l10r3 (.seq l10r4 (.seq (.seq l10r5 (.cond (.t 25) (.seq l10r6 .ret) .skip)) (.seq l10r7 (.seq (.seq l10r8 (.block 0 (.loop l10r12))) (.seq l10r13 .ret))))))))
def k10 (i : Nat) : Option Kp := match i with
  | 0 => (some ([0, 1], []))
  | 1 => (some ([0, 1, 12], []))
  | 2 => (some ([4], []))
  | 3 => (some ([0, 5], []))
  | 4 => (some ([7, 6, 0, 5], []))
  | 5 => (some ([7, 6, 0, 5, 25], []))
  | 6 => (some ([4], []))
  | 7 => (some ([0, 8, 5, 6], []))
  | 8 => (some ([9, 0, 8, 5, 6], []))
  | 9 => (some ([0, 5, 6, 9, 8, 47], []))
  | 10 => (some ([9, 0, 8, 5, 6], []))
  | 11 => (some ([0, 8, 5, 6, 9], []))
  | 12 => (some ([4], []))
  | _ => none
theorem f10_told : Try.prog.funcs[10]? = some Try.f10 := by kernel_rfl
theorem f10_results : resTmps Try.f10 = some [4] := by kernel_rfl
theorem f10_text : (Try.f10.body.bind (trC Try.prog 70 k10 1000)) = some l10 := by kernel_rfl

abbrev l24r0 : LC := .reg false [(⟨(some 0), none, .mv (.c (.bool false))⟩, [])] (some ([], []))
abbrev l24r1 : LC := .reg false [(⟨(some 14), none, .bslice 1 4 [(.int .u8 0)] [(0, (.c (.int .u8 97))), (1, (.c (.int .u8 97))), (2, (.c (.int .u8 97))), (3, (.c (.int .u8 97)))]⟩, []),
  (⟨(some 15), none, .mark (.t 14)⟩, []),
  (⟨(some 16), none, .call 28 [(.t 15)]⟩, []),
  (⟨(some 1), none, .mv (.t 16)⟩, [])] (some ([1], []))
abbrev l24r2 : LC := .reg false [(⟨(some 18), none, .mv (.t 1)⟩, []),
  (⟨(some 19), none, .call 32 [(.t 18), (.c (.int .i64 4))]⟩, []),
  (⟨(some 17), none, .mv (.t 19)⟩, []),
  (⟨(some 20), none, .ext 0 (.t 17)⟩, []),
  (⟨(some 21), none, .ext 1 (.t 17)⟩, []),
  (⟨(some 2), none, .mv (.t 20)⟩, []),
  (⟨(some 3), none, .mv (.t 21)⟩, [])] (some ([1, 2, 3], []))
abbrev l24r3 : LC := .reg false [(⟨(some 23), none, .mv (.t 1)⟩, []),
  (⟨(some 24), none, .call 32 [(.t 23), (.c (.int .i64 3))]⟩, []),
  (⟨(some 22), none, .mv (.t 24)⟩, []),
  (⟨(some 25), none, .ext 0 (.t 22)⟩, []),
  (⟨(some 26), none, .ext 1 (.t 22)⟩, []),
  (⟨(some 4), none, .mv (.t 25)⟩, []),
  (⟨(some 5), none, .mv (.t 26)⟩, [])] (some ([1, 5, 2, 3], []))
abbrev l24r4 : LC := .reg false [(⟨(some 28), none, .build [(.int .i64 0), (.int .i64 0), (.int .i64 0)] [(0, 1, (.c (.int .i64 (-1)))), (1, 1, (.c (.int .i64 1))), (2, 1, (.c (.int .i64 3)))]⟩, []),
  (⟨(some 29), none, .bslice 3 1 [(.int .i64 0), (.int .i64 0), (.int .i64 0)] [(0, (.t 28))]⟩, []),
  (⟨(some 30), none, .call 32 [(.t 29), (.c (.int .i64 9))]⟩, []),
  (⟨(some 27), none, .mv (.t 30)⟩, []),
  (⟨(some 31), none, .ext 0 (.t 27)⟩, []),
  (⟨(some 32), none, .ext 1 (.t 27)⟩, []),
  (⟨(some 6), none, .mv (.t 31)⟩, []),
  (⟨(some 7), none, .mv (.t 32)⟩, [])] (some ([1, 7, 5, 2, 3], []))
abbrev l24r5 : LC := .reg false [(⟨(some 34), none, .build [(.int .i64 0), (.int .i64 0), (.int .i64 0)] [(0, 1, (.c (.int .i64 256)))]⟩, []),
  (⟨(some 35), none, .bslice 3 1 [(.int .i64 0), (.int .i64 0), (.int .i64 0)] [(0, (.t 34))]⟩, []),
  (⟨(some 36), none, .call 32 [(.t 35), (.c (.int .i64 9))]⟩, []),
  (⟨(some 33), none, .mv (.t 36)⟩, []),
  (⟨(some 37), none, .ext 0 (.t 33)⟩, []),
  (⟨(some 38), none, .ext 1 (.t 33)⟩, []),
  (⟨(some 8), none, .mv (.t 37)⟩, []),
  (⟨(some 9), none, .mv (.t 38)⟩, [])] (some ([1, 9, 7, 5, 2, 3], []))
abbrev l24r6 : LC := .reg false [(⟨(some 40), none, .bslice 1 8 [(.int .u8 0)] [(0, (.c (.int .u8 97))), (1, (.c (.int .u8 98))), (2, (.c (.int .u8 99))), (3, (.c (.int .u8 97))), (4, (.c (.int .u8 98))), (5, (.c (.int .u8 99))), (6, (.c (.int .u8 97))), (7, (.c (.int .u8 98)))]⟩, []),
  (⟨(some 41), none, .mark (.t 40)⟩, []),
  (⟨(some 42), none, .call 26 [(.t 41), (.c (.int .i64 3))]⟩, []),
  (⟨(some 39), none, .mv (.t 42)⟩, []),
  (⟨(some 43), none, .ext 0 (.t 39)⟩, []),
  (⟨(some 44), none, .ext 1 (.t 39)⟩, []),
  (⟨(some 10), none, .mv (.t 43)⟩, []),
  (⟨(some 11), none, .mv (.t 44)⟩, [])] (some ([1, 11, 10, 9, 7, 5, 2, 3], []))
abbrev l24r7 : LC := .reg false [(⟨(some 46), none, .bslice 1 2 [(.int .u8 0)] [(0, (.c (.int .u8 97))), (1, (.c (.int .u8 98)))]⟩, []),
  (⟨(some 47), none, .mark (.t 46)⟩, []),
  (⟨(some 48), none, .call 26 [(.t 47), (.c (.int .i64 5))]⟩, []),
  (⟨(some 45), none, .mv (.t 48)⟩, []),
  (⟨(some 49), none, .ext 0 (.t 45)⟩, []),
  (⟨(some 50), none, .ext 1 (.t 45)⟩, []),
  (⟨(some 12), none, .mv (.t 49)⟩, []),
  (⟨(some 13), none, .mv (.t 50)⟩, [])] (some ([1, 13, 12, 11, 10, 9, 7, 5, 2, 3], []))
abbrev l24r8 : LC := .reg false [(⟨(some 51), none, .mv (.t 1)⟩, []),
  (⟨(some 52), none, .len (.t 51)⟩, []),
  (⟨(some 53), none, .bin .eql (.t 52) (.c (.int .i64 2))⟩, []),
  (⟨(some 54), none, .mv (.t 53)⟩, []),
  (⟨(some 55), (some (54, true)), .mv (.t 1)⟩, []),
  (⟨(some 56), (some (54, true)), .iad 3 (.t 55) (.c (.int .i64 0))⟩, []),
  (⟨(some 57), (some (54, true)), .load 3 true (.t 56)⟩, []),
  (⟨(some 58), (some (54, true)), .build [(.int .i64 0), (.int .i64 0), (.int .i64 0)] [(0, 1, (.c (.int .i64 97)))]⟩, []),
  (⟨(some 59), (some (54, true)), .eqs false [0, 0, 0] (.t 57) (.t 58)⟩, []),
  (⟨(some 60), none, .pick (.t 54) (.t 59) (.c (.bool false))⟩, []),
  (⟨(some 61), none, .mv (.t 60)⟩, []),
  (⟨(some 62), (some (61, true)), .mv (.t 1)⟩, []),
  (⟨(some 63), (some (61, true)), .iad 3 (.t 62) (.c (.int .i64 1))⟩, []),
  (⟨(some 64), (some (61, true)), .load 3 true (.t 63)⟩, []),
  (⟨(some 65), (some (61, true)), .build [(.int .i64 0), (.int .i64 0), (.int .i64 0)] [(0, 1, (.c (.int .i64 (-1)))), (1, 1, (.c (.int .i64 1))), (2, 1, (.c (.int .i64 3)))]⟩, []),
  (⟨(some 66), (some (61, true)), .eqs false [0, 0, 0] (.t 64) (.t 65)⟩, []),
  (⟨(some 67), none, .pick (.t 61) (.t 66) (.c (.bool false))⟩, []),
  (⟨(some 68), none, .mv (.t 67)⟩, []),
  (⟨(some 69), (some (68, true)), .mv (.t 3)⟩, []),
  (⟨(some 70), (some (68, true)), .bin .eql (.t 69) (.c (.int .i64 0))⟩, []),
  (⟨(some 71), none, .pick (.t 68) (.t 70) (.c (.bool false))⟩, []),
  (⟨(some 72), none, .mv (.t 71)⟩, []),
  (⟨(some 73), (some (72, true)), .mv (.t 2)⟩, []),
  (⟨(some 74), (some (72, true)), .toStr (.t 73)⟩, []),
  (⟨(some 75), (some (72, true)), .bin .eql (.t 74) (.c (.string ⟨#[97, 97, 97, 97]⟩))⟩, []),
  (⟨(some 76), none, .pick (.t 72) (.t 75) (.c (.bool false))⟩, []),
  (⟨(some 77), none, .mv (.t 76)⟩, []),
  (⟨(some 78), (some (77, true)), .mv (.t 5)⟩, []),
  (⟨(some 79), (some (77, true)), .bin .eql (.t 78) (.c (.int .i64 13))⟩, []),
  (⟨(some 80), none, .pick (.t 77) (.t 79) (.c (.bool false))⟩, []),
  (⟨(some 81), none, .mv (.t 80)⟩, []),
  (⟨(some 82), (some (81, true)), .mv (.t 7)⟩, []),
  (⟨(some 83), (some (81, true)), .bin .eql (.t 82) (.c (.int .i64 2))⟩, []),
  (⟨(some 84), none, .pick (.t 81) (.t 83) (.c (.bool false))⟩, []),
  (⟨(some 85), none, .mv (.t 84)⟩, []),
  (⟨(some 86), (some (85, true)), .mv (.t 9)⟩, []),
  (⟨(some 87), (some (85, true)), .bin .eql (.t 86) (.c (.int .i64 1))⟩, []),
  (⟨(some 88), none, .pick (.t 85) (.t 87) (.c (.bool false))⟩, []),
  (⟨(some 89), none, .mv (.t 88)⟩, []),
  (⟨(some 90), (some (89, true)), .mv (.t 10)⟩, []),
  (⟨(some 91), (some (89, true)), .bin .eql (.t 90) (.c (.int .i64 3))⟩, []),
  (⟨(some 92), none, .pick (.t 89) (.t 91) (.c (.bool false))⟩, []),
  (⟨(some 93), none, .mv (.t 92)⟩, []),
  (⟨(some 94), (some (93, true)), .mv (.t 11)⟩, []),
  (⟨(some 95), (some (93, true)), .bin .eql (.t 94) (.c (.int .i64 5))⟩, []),
  (⟨(some 96), none, .pick (.t 93) (.t 95) (.c (.bool false))⟩, []),
  (⟨(some 97), none, .mv (.t 96)⟩, []),
  (⟨(some 98), (some (97, true)), .mv (.t 12)⟩, []),
  (⟨(some 99), (some (97, true)), .bin .eql (.t 98) (.c (.int .i64 0))⟩, []),
  (⟨(some 100), none, .pick (.t 97) (.t 99) (.c (.bool false))⟩, []),
  (⟨(some 101), none, .mv (.t 100)⟩, []),
  (⟨(some 102), (some (101, true)), .mv (.t 13)⟩, []),
  (⟨(some 103), (some (101, true)), .bin .eql (.t 102) (.c (.int .i64 0))⟩, []),
  (⟨(some 104), none, .pick (.t 101) (.t 103) (.c (.bool false))⟩, []),
  (⟨(some 105), none, .mv (.t 104)⟩, []),
  (⟨(some 106), (some (105, true)), .mv (.t 1)⟩, []),
  (⟨(some 107), (some (105, true)), .iad 3 (.t 106) (.c (.int .i64 1))⟩, []),
  (⟨(some 108), (some (105, true)), .load 3 true (.t 107)⟩, []),
  (⟨(some 109), (some (105, true)), .call 30 [(.t 108)]⟩, []),
  (⟨(some 110), none, .pick (.t 105) (.t 109) (.c (.bool false))⟩, []),
  (⟨(some 111), none, .mv (.t 110)⟩, []),
  (⟨(some 112), (some (111, true)), .build [(.int .i64 0), (.int .i64 0), (.int .i64 0)] [(0, 1, (.c (.int .i64 (-1))))]⟩, []),
  (⟨(some 113), (some (111, true)), .call 30 [(.t 112)]⟩, []),
  (⟨(some 114), (some (111, true)), .un .not (.t 113)⟩, []),
  (⟨(some 115), none, .pick (.t 111) (.t 114) (.c (.bool false))⟩, []),
  (⟨(some 0), none, .mv (.t 115)⟩, [])] (some ([0], []))
/-- steamer/steamerlaw11.told : 0 parameters, results in [0] of 116 slots -/
abbrev l24 : LC := (.seq l24r0 (.seq l24r1 (.seq l24r2 (.seq l24r3 (.seq l24r4 (.seq l24r5 (.seq l24r6 (.seq l24r7 (.seq l24r8 .ret)))))))))
def k24 (i : Nat) : Option Kp := match i with
  | 0 => (some ([], []))
  | 1 => (some ([1], []))
  | 2 => (some ([1, 2, 3], []))
  | 3 => (some ([1, 5, 2, 3], []))
  | 4 => (some ([1, 7, 5, 2, 3], []))
  | 5 => (some ([1, 9, 7, 5, 2, 3], []))
  | 6 => (some ([1, 11, 10, 9, 7, 5, 2, 3], []))
  | 7 => (some ([1, 13, 12, 11, 10, 9, 7, 5, 2, 3], []))
  | 8 => (some ([0], []))
  | _ => none
theorem f24_told : Try.prog.funcs[24]? = some Try.f24 := by kernel_rfl
theorem f24_results : resTmps Try.f24 = some [0] := by kernel_rfl
theorem f24_text : (Try.f24.body.bind (trC Try.prog 116 k24 1000)) = some l24 := by kernel_rfl

abbrev l25r0 : LC := .reg false [(⟨(some 4), none, .mv (.c (.slice none 0 0))⟩, [])] (some ([0, 1], []))
abbrev l25r1 : LC := .reg false [(⟨(some 5), none, .mv (.c (.slice none 0 0))⟩, [])] (some ([5, 0, 1], [.slot 5 505 1]))
abbrev l25r2 : LC := .reg false [(⟨(some 6), none, .mv (.c (.int .i64 0))⟩, [])] (some ([6, 5, 0, 1], []))
abbrev l25r3 : LC := .reg false [(⟨(some 9), none, .mv (.t 6)⟩, []),
  (⟨(some 10), none, .mv (.t 0)⟩, []),
  (⟨(some 11), none, .len (.t 10)⟩, []),
  (⟨(some 12), none, .bin .lss (.t 9) (.t 11)⟩, []),
  (⟨(some 13), none, .mv (.t 12)⟩, []),
  (⟨(some 14), (some (13, true)), .mv (.t 5)⟩, []),
  (⟨(some 15), (some (13, true)), .len (.t 14)⟩, []),
  (⟨(some 16), (some (13, true)), .mv (.t 1)⟩, []),
  (⟨(some 17), (some (13, true)), .bin .lss (.t 15) (.t 16)⟩, []),
  (⟨(some 18), none, .pick (.t 13) (.t 17) (.c (.bool false))⟩, [])] (some ([0, 1, 6, 5, 18], []))
abbrev l25r4 : LC := .reg false [(⟨(some 21), none, .mv (.t 0)⟩, []),
  (⟨(some 22), none, .mv (.t 6)⟩, []),
  (⟨(some 23), none, .iad 1 (.t 21) (.t 22)⟩, []),
  (⟨(some 24), none, .load 1 false (.t 23)⟩, []),
  (⟨(some 25), none, .toInt .u64 (.t 24)⟩, []),
  (⟨(some 7), none, .mv (.t 25)⟩, [])] (some ([0, 1, 6, 7, 5], []))
abbrev l25r5 : LC := .reg false [(⟨(some 26), none, .mv (.t 7)⟩, []),
  (⟨(some 27), none, .bin .rem (.t 26) (.c (.int .u64 3))⟩, []),
  (⟨(some 28), none, .bin .eql (.t 27) (.c (.int .u64 0))⟩, []),
  (⟨(some 29), none, .mv (.t 28)⟩, []),
  (⟨(some 30), (some (29, true)), .mv (.t 5)⟩, []),
  (⟨(some 31), (some (29, true)), .len (.t 30)⟩, []),
  (⟨(some 32), (some (29, true)), .bin .gtr (.t 31) (.c (.int .i64 4))⟩, []),
  (⟨(some 33), none, .pick (.t 29) (.t 32) (.c (.bool false))⟩, [])] (some ([0, 1, 6, 7, 5, 33], []))
abbrev l25r6 : LC := .reg false [(⟨(some 34), none, .mv (.t 7)⟩, []),
  (⟨(some 35), none, .bin .quo (.t 34) (.c (.int .u64 3))⟩, []),
  (⟨(some 36), none, .mv (.t 5)⟩, []),
  (⟨(some 37), none, .len (.t 36)⟩, []),
  (⟨(some 38), none, .toInt .u64 (.t 37)⟩, []),
  (⟨(some 39), none, .bin .rem (.t 35) (.t 38)⟩, []),
  (⟨(some 40), none, .toInt .i64 (.t 39)⟩, []),
  (⟨(some 8), none, .mv (.t 40)⟩, [])] (some ([0, 1, 6, 7, 8, 5], []))
abbrev l25r7 : LC := .reg false [(⟨(some 41), none, .mv (.t 5)⟩, []),
  (⟨(some 42), none, .mv (.t 5)⟩, []),
  (⟨(some 43), none, .mv (.t 8)⟩, []),
  (⟨(some 44), none, .mv (.t 5)⟩, []),
  (⟨(some 45), none, .len (.t 44)⟩, []),
  (⟨(some 46), none, .mv (.t 8)⟩, []),
  (⟨(some 47), none, .mv (.t 7)⟩, []),
  (⟨(some 48), none, .bin .quo (.t 47) (.c (.int .u64 7))⟩, []),
  (⟨(some 49), none, .bin .rem (.t 48) (.c (.int .u64 40))⟩, []),
  (⟨(some 50), none, .toInt .i64 (.t 49)⟩, []),
  (⟨(some 51), none, .bin .add (.t 46) (.t 50)⟩, []),
  (⟨(some 52), none, .mm false (.t 45) (.t 51)⟩, []),
  (⟨(some 53), none, .slc 1 (.t 42) (some (.t 43)) (some (.t 52))⟩, []),
  (⟨(some 54), none, .app 1 1 [(.int .u8 0)] (.t 41) (.t 53)⟩, []),
  (⟨(some 5), none, .mv (.t 54)⟩, [])] (some ([5, 0, 1, 6], []))
abbrev l25r8 : LC := .reg false [(⟨(some 55), none, .mv (.t 5)⟩, []),
  (⟨(some 56), none, .mv (.t 7)⟩, []),
  (⟨(some 57), none, .bin .rem (.t 56) (.c (.int .u64 5))⟩, []),
  (⟨(some 58), none, .bin .add (.c (.int .u64 97)) (.t 57)⟩, []),
  (⟨(some 59), none, .toInt .u8 (.t 58)⟩, []),
  (⟨(some 60), none, .mv (.t 7)⟩, []),
  (⟨(some 61), none, .toInt .u8 (.t 60)⟩, []),
  (⟨(some 62), none, .bslice 1 2 [(.int .u8 0)] [(0, (.t 59)), (1, (.t 61))]⟩, []),
  (⟨(some 63), none, .app 1 1 [(.int .u8 0)] (.t 55) (.t 62)⟩, []),
  (⟨(some 5), none, .mv (.t 63)⟩, [])] (some ([5, 0, 1, 6], []))
abbrev l25r9 : LC := .reg false [(⟨(some 19), none, .mv (.t 6)⟩, []),
  (⟨(some 20), none, .bin .add (.t 19) (.c (.int .i64 1))⟩, []),
  (⟨(some 6), none, .mv (.t 20)⟩, [])] (some ([6, 5, 0, 1], []))
abbrev l25r10 : LC := (.seq (.seq l25r3 (.cond (.t 18) .skip (.exit 0))) (.seq (.block 1 (.seq l25r4 (.seq l25r5 (.cond (.t 33) (.seq l25r6 l25r7) l25r8)))) l25r9))
abbrev l25r11 : LC := .reg false [(⟨(some 64), none, .mv (.t 5)⟩, []),
  (⟨(some 65), none, .mv (.t 5)⟩, []),
  (⟨(some 66), none, .len (.t 65)⟩, []),
  (⟨(some 67), none, .mv (.t 1)⟩, []),
  (⟨(some 68), none, .mm false (.t 66) (.t 67)⟩, []),
  (⟨(some 69), none, .slc 1 (.t 64) none (some (.t 68))⟩, []),
  (⟨(some 4), none, .mv (.t 69)⟩, [])] (some ([4], []))
/-- steamer/steamerlaw11.Text : 2 parameters, results in [4] of 70 slots -/
abbrev l25 : LC := (.seq l25r0 (.seq l25r1 (.seq (.seq l25r2 (.block 0 (.loop l25r10))) (.seq l25r11 .ret))))
def k25 (i : Nat) : Option Kp := match i with
  | 0 => (some ([0, 1], []))
  | 1 => (some ([5, 0, 1], [.slot 5 505 1]))
  | 2 => (some ([6, 5, 0, 1], []))
  | 3 => (some ([0, 1, 6, 5, 18], []))
  | 4 => (some ([6, 5, 0, 1], []))
  | 5 => (some ([0, 1, 6, 7, 5], []))
  | 6 => (some ([0, 1, 6, 7, 5, 33], []))
  | 7 => (some ([0, 1, 6, 7, 8, 5], []))
  | 8 => (some ([5, 0, 1, 6], []))
  | 9 => (some ([5, 0, 1, 6], []))
  | 10 => (some ([4], []))
  | _ => none
theorem f25_told : Try.prog.funcs[25]? = some Try.f25 := by kernel_rfl
theorem f25_results : resTmps Try.f25 = some [4] := by kernel_rfl
theorem f25_text : (Try.f25.body.bind (trC Try.prog 70 k25 1000)) = some l25 := by kernel_rfl

abbrev l26r0 : LC := .reg false [(⟨(some 4), none, .mv (.c (.int .i64 0))⟩, []),
  (⟨(some 5), none, .mv (.c (.int .i64 0))⟩, [])] (some ([1, 0], []))
abbrev l26r1 : LC := .reg false [(⟨(some 10), none, .mv (.t 1)⟩, []),
  (⟨(some 11), none, .bin .lss (.t 10) (.c (.int .i64 0))⟩, []),
  (⟨(some 12), none, .mv (.t 11)⟩, []),
  (⟨(some 13), (some (12, false)), .mv (.t 1)⟩, []),
  (⟨(some 14), (some (12, false)), .mv (.t 0)⟩, []),
  (⟨(some 15), (some (12, false)), .len (.t 14)⟩, []),
  (⟨(some 16), (some (12, false)), .bin .geq (.t 13) (.t 15)⟩, []),
  (⟨(some 17), none, .pick (.t 12) (.c (.bool true)) (.t 16)⟩, [])] (some ([1, 0, 17], []))
abbrev l26r2 : LC := .reg false [(⟨(some 4), none, .mv (.c (.int .i64 0))⟩, []),
  (⟨(some 5), none, .mv (.c (.int .i64 0))⟩, [])] (some ([4, 5], []))
abbrev l26r3 : LC := .reg false [(⟨(some 6), none, .mv (.c (.int .i64 0))⟩, []),
  (⟨(some 7), none, .mv (.c (.int .i64 2))⟩, []),
  (⟨(some 8), none, .mv (.c (.int .i64 1))⟩, [])] (some ([1, 0, 8, 7, 6], []))
abbrev l26r4 : LC := .reg false [(⟨(some 18), none, .mv (.t 8)⟩, []),
  (⟨(some 19), none, .mv (.t 1)⟩, []),
  (⟨(some 20), none, .mm false (.t 19) (.c (.int .i64 1024))⟩, []),
  (⟨(some 21), none, .bin .leq (.t 18) (.t 20)⟩, [])] (some ([1, 0, 8, 7, 6, 21], []))
abbrev l26r5 : LC := .reg false [(⟨(some 22), none, .mv (.t 0)⟩, []),
  (⟨(some 23), none, .mv (.t 1)⟩, []),
  (⟨(some 24), none, .mv (.t 8)⟩, []),
  (⟨(some 25), none, .bin .sub (.t 23) (.t 24)⟩, []),
  (⟨(some 26), none, .mv (.t 1)⟩, []),
  (⟨(some 27), none, .call 35 [(.t 22), (.t 25), (.t 26)]⟩, []),
  (⟨(some 9), none, .mv (.t 27)⟩, [])] (some ([1, 0, 8, 9, 7, 6], []))
abbrev l26r6 : LC := .reg false [(⟨(some 28), none, .mv (.t 9)⟩, []),
  (⟨(some 29), none, .mv (.t 7)⟩, []),
  (⟨(some 30), none, .bin .gtr (.t 28) (.t 29)⟩, [])] (some ([1, 0, 8, 9, 7, 6, 30], []))
abbrev l26r7 : LC := .reg false [(⟨(some 31), none, .mv (.t 8)⟩, []),
  (⟨(some 32), none, .mv (.t 9)⟩, []),
  (⟨(some 6), none, .mv (.t 31)⟩, []),
  (⟨(some 7), none, .mv (.t 32)⟩, [])] (some ([7, 1, 0, 6, 8], []))
abbrev l26r8 : LC := .reg false [(⟨(some 33), none, .mv (.t 8)⟩, []),
  (⟨(some 34), none, .bin .add (.t 33) (.c (.int .i64 1))⟩, []),
  (⟨(some 8), none, .mv (.t 34)⟩, [])] (some ([8, 7, 1, 0, 6], []))
abbrev l26r9 : LC := .reg false [(⟨(some 35), none, .mv (.t 6)⟩, []),
  (⟨(some 36), none, .bin .eql (.t 35) (.c (.int .i64 0))⟩, [])] (some ([7, 6, 36], []))
abbrev l26r10 : LC := .reg false [(⟨(some 37), none, .mv (.t 6)⟩, []),
  (⟨(some 38), none, .mv (.t 7)⟩, []),
  (⟨(some 4), none, .mv (.t 37)⟩, []),
  (⟨(some 5), none, .mv (.t 38)⟩, [])] (some ([4, 5], []))
abbrev l26r11 : LC := (.seq (.seq l26r1 (.cond (.t 17) (.seq l26r2 .ret) .skip)) (.seq l26r3 (.seq .label (.seq (.seq l26r4 (.cond (.t 21) (.seq (.seq l26r5 (.seq l26r6 (.cond (.t 30) l26r7 .skip))) (.seq l26r8 (.goto 0))) .skip)) (.seq (.seq l26r9 (.cond (.t 36) (.seq l26r2 .ret) .skip)) (.seq l26r10 .ret))))))
abbrev l26r12 : LC := (.seq .skip (.seq (.seq l26r4 (.cond (.t 21) (.seq (.seq l26r5 (.seq l26r6 (.cond (.t 30) l26r7 .skip))) (.seq l26r8 (.goto 0))) .skip)) (.seq (.seq l26r9 (.cond (.t 36) (.seq l26r2 .ret) .skip)) (.seq l26r10 .ret))))
/-- steamer/match.Best : 2 parameters, results in [4, 5] of 39 slots -/
abbrev l26 : LC := (.seq l26r0 (.scope 0 l26r11 l26r12))
def k26 (i : Nat) : Option Kp := match i with
  | 0 => (some ([1, 0], []))
  | 1 => (some ([1, 0, 17], []))
  | 2 => (some ([4, 5], []))
  | 3 => (some ([1, 0, 8, 7, 6], []))
  | 4 => (some ([1, 0, 8, 7, 6, 21], []))
  | 5 => (some ([1, 0, 8, 9, 7, 6], []))
  | 6 => (some ([1, 0, 8, 9, 7, 6, 30], []))
  | 7 => (some ([7, 1, 0, 6, 8], []))
  | 8 => (some ([8, 7, 1, 0, 6], []))
  | 9 => (some ([7, 6, 36], []))
  | 10 => (some ([4, 5], []))
  | 11 => (some ([4, 5], []))
  | _ => none
theorem f26_told : Try.prog.funcs[26]? = some Try.f26 := by kernel_rfl
theorem f26_results : resTmps Try.f26 = some [4, 5] := by kernel_rfl
theorem f26_text : (Try.f26.body.bind (trC Try.prog 39 k26 1000)) = some l26 := by kernel_rfl

abbrev l27r0 : LC := .reg false [(⟨(some 4), none, .mv (.c (.int .i64 0))⟩, []),
  (⟨(some 5), none, .mv (.c (.int .i64 0))⟩, [])] (some ([1, 0], []))
abbrev l27r1 : LC := .reg false [(⟨(some 6), none, .mv (.c (.int .i64 0))⟩, []),
  (⟨(some 7), none, .mv (.c (.int .i64 0))⟩, [])] (some ([7, 1, 0, 6], []))
abbrev l27r2 : LC := .reg false [(⟨(some 8), none, .mv (.c (.int .i64 1))⟩, [])] (some ([8, 7, 1, 0, 6], []))
abbrev l27r3 : LC := .reg false [(⟨(some 10), none, .mv (.t 8)⟩, []),
  (⟨(some 11), none, .bin .leq (.t 10) (.c (.int .i64 1024))⟩, []),
  (⟨(some 12), none, .mv (.t 11)⟩, []),
  (⟨(some 13), (some (12, true)), .mv (.t 8)⟩, []),
  (⟨(some 14), (some (12, true)), .mv (.t 1)⟩, []),
  (⟨(some 15), (some (12, true)), .bin .leq (.t 13) (.t 14)⟩, []),
  (⟨(some 16), none, .pick (.t 12) (.t 15) (.c (.bool false))⟩, []),
  (⟨(some 17), none, .mv (.t 16)⟩, []),
  (⟨(some 18), (some (17, true)), .mv (.t 1)⟩, []),
  (⟨(some 19), (some (17, true)), .mv (.t 0)⟩, []),
  (⟨(some 20), (some (17, true)), .lenS (.t 19)⟩, []),
  (⟨(some 21), (some (17, true)), .bin .lss (.t 18) (.t 20)⟩, []),
  (⟨(some 22), none, .pick (.t 17) (.t 21) (.c (.bool false))⟩, [])] (some ([1, 0, 8, 7, 6, 22], []))
abbrev l27r4 : LC := .reg false [(⟨(some 9), none, .mv (.c (.int .i64 0))⟩, [])] (some ([9, 1, 0, 8, 7, 6], []))
abbrev l27r5 : LC := .reg false [(⟨(some 25), none, .mv (.t 9)⟩, []),
  (⟨(some 26), none, .bin .lss (.t 25) (.c (.int .i64 66))⟩, []),
  (⟨(some 27), none, .mv (.t 26)⟩, []),
  (⟨(some 28), (some (27, true)), .mv (.t 1)⟩, []),
  (⟨(some 29), (some (27, true)), .mv (.t 9)⟩, []),
  (⟨(some 30), (some (27, true)), .bin .add (.t 28) (.t 29)⟩, []),
  (⟨(some 31), (some (27, true)), .mv (.t 0)⟩, []),
  (⟨(some 32), (some (27, true)), .lenS (.t 31)⟩, []),
  (⟨(some 33), (some (27, true)), .bin .lss (.t 30) (.t 32)⟩, []),
  (⟨(some 34), none, .pick (.t 27) (.t 33) (.c (.bool false))⟩, []),
  (⟨(some 35), none, .mv (.t 34)⟩, []),
  (⟨(some 36), (some (35, true)), .mv (.t 0)⟩, []),
  (⟨(some 37), (some (35, true)), .mv (.t 1)⟩, []),
  (⟨(some 38), (some (35, true)), .mv (.t 9)⟩, []),
  (⟨(some 39), (some (35, true)), .bin .add (.t 37) (.t 38)⟩, []),
  (⟨(some 40), (some (35, true)), .ixs (.t 36) (.t 39)⟩, []),
  (⟨(some 41), (some (35, true)), .mv (.t 0)⟩, []),
  (⟨(some 42), (some (35, true)), .mv (.t 1)⟩, []),
  (⟨(some 43), (some (35, true)), .mv (.t 9)⟩, []),
  (⟨(some 44), (some (35, true)), .bin .add (.t 42) (.t 43)⟩, []),
  (⟨(some 45), (some (35, true)), .mv (.t 8)⟩, []),
  (⟨(some 46), (some (35, true)), .bin .sub (.t 44) (.t 45)⟩, []),
  (⟨(some 47), (some (35, true)), .ixs (.t 41) (.t 46)⟩, []),
  (⟨(some 48), (some (35, true)), .bin .eql (.t 40) (.t 47)⟩, []),
  (⟨(some 49), none, .pick (.t 35) (.t 48) (.c (.bool false))⟩, [])] (some ([1, 0, 8, 7, 6, 9, 49], []))
abbrev l27r6 : LC := .reg false [(⟨(some 50), none, .mv (.t 9)⟩, []),
  (⟨(some 51), none, .bin .add (.t 50) (.c (.int .i64 1))⟩, []),
  (⟨(some 9), none, .mv (.t 51)⟩, [])] (some ([9, 1, 0, 8, 7, 6], []))
abbrev l27r7 : LC := (.seq (.seq l27r5 (.cond (.t 49) .skip (.exit 2))) (.block 3 l27r6))
abbrev l27r8 : LC := .reg false [(⟨(some 52), none, .mv (.t 9)⟩, []),
  (⟨(some 53), none, .mv (.t 7)⟩, []),
  (⟨(some 54), none, .bin .gtr (.t 52) (.t 53)⟩, [])] (some ([1, 0, 8, 9, 7, 6, 54], []))
abbrev l27r9 : LC := .reg false [(⟨(some 55), none, .mv (.t 8)⟩, []),
  (⟨(some 56), none, .mv (.t 9)⟩, []),
  (⟨(some 6), none, .mv (.t 55)⟩, []),
  (⟨(some 7), none, .mv (.t 56)⟩, [])] (some ([7, 1, 0, 6, 8], []))
abbrev l27r10 : LC := .reg false [(⟨(some 23), none, .mv (.t 8)⟩, []),
  (⟨(some 24), none, .bin .add (.t 23) (.c (.int .i64 1))⟩, []),
  (⟨(some 8), none, .mv (.t 24)⟩, [])] (some ([8, 7, 1, 0, 6], []))
abbrev l27r11 : LC := (.seq (.seq l27r3 (.cond (.t 22) .skip (.exit 0))) (.seq (.block 1 (.seq l27r4 (.seq (.block 2 (.loop l27r7)) (.seq l27r8 (.cond (.t 54) l27r9 .skip))))) l27r10))
abbrev l27r12 : LC := .reg false [(⟨(some 57), none, .mv (.t 7)⟩, []),
  (⟨(some 58), none, .bin .lss (.t 57) (.c (.int .i64 3))⟩, [])] (some ([7, 6, 58], []))
abbrev l27r13 : LC := .reg false [(⟨(some 4), none, .mv (.c (.int .i64 0))⟩, []),
  (⟨(some 5), none, .mv (.c (.int .i64 0))⟩, [])] (some ([4, 5], []))
abbrev l27r14 : LC := .reg false [(⟨(some 59), none, .mv (.t 6)⟩, []),
  (⟨(some 60), none, .mv (.t 7)⟩, []),
  (⟨(some 4), none, .mv (.t 59)⟩, []),
  (⟨(some 5), none, .mv (.t 60)⟩, [])] (some ([4, 5], []))
/-- steamer/steamerref9.Best : 2 parameters, results in [4, 5] of 61 slots -/
abbrev l27 : LC := (.seq l27r0 (.seq l27r1 (.seq (.seq l27r2 (.block 0 (.loop l27r11))) (.seq (.seq l27r12 (.cond (.t 58) (.seq l27r13 .ret) .skip)) (.seq l27r14 .ret)))))
def k27 (i : Nat) : Option Kp := match i with
  | 0 => (some ([1, 0], []))
  | 1 => (some ([7, 1, 0, 6], []))
  | 2 => (some ([8, 7, 1, 0, 6], []))
  | 3 => (some ([1, 0, 8, 7, 6, 22], []))
  | 4 => (some ([8, 7, 1, 0, 6], []))
  | 5 => (some ([9, 1, 0, 8, 7, 6], []))
  | 6 => (some ([1, 0, 8, 7, 6, 9, 49], []))
  | 7 => (some ([9, 1, 0, 8, 7, 6], []))
  | 8 => (some ([1, 0, 8, 9, 7, 6, 54], []))
  | 9 => (some ([7, 1, 0, 6, 8], []))
  | 10 => (some ([7, 6, 58], []))
  | 11 => (some ([4, 5], []))
  | 12 => (some ([4, 5], []))
  | _ => none
theorem f27_told : Try.prog.funcs[27]? = some Try.f27 := by kernel_rfl
theorem f27_results : resTmps Try.f27 = some [4, 5] := by kernel_rfl
theorem f27_text : (Try.f27.body.bind (trC Try.prog 61 k27 1000)) = some l27 := by kernel_rfl

abbrev l28r0 : LC := .reg false [(⟨(some 2), none, .mv (.c (.slice none 0 0))⟩, [])] (some ([0], []))
abbrev l28r1 : LC := .reg false [(⟨(some 3), none, .mv (.c (.slice none 0 0))⟩, [])] (some ([0, 3], [.slot 3 503 3]))
abbrev l28r2 : LC := .reg false [(⟨(some 4), none, .mv (.c (.int .i64 0))⟩, [])] (some ([4, 0, 3], []))
abbrev l28r3 : LC := .reg false [(⟨(some 7), none, .mv (.t 4)⟩, []),
  (⟨(some 8), none, .mv (.t 0)⟩, []),
  (⟨(some 9), none, .len (.t 8)⟩, []),
  (⟨(some 10), none, .bin .lss (.t 7) (.t 9)⟩, [])] (some ([0, 4, 3, 10], []))
abbrev l28r4 : LC := .reg false [(⟨(some 12), none, .mv (.t 0)⟩, []),
  (⟨(some 13), none, .mv (.t 4)⟩, []),
  (⟨(some 14), none, .call 26 [(.t 12), (.t 13)]⟩, []),
  (⟨(some 11), none, .mv (.t 14)⟩, []),
  (⟨(some 15), none, .ext 0 (.t 11)⟩, []),
  (⟨(some 16), none, .ext 1 (.t 11)⟩, []),
  (⟨(some 5), none, .mv (.t 15)⟩, []),
  (⟨(some 6), none, .mv (.t 16)⟩, [])] (some ([0, 4, 3, 6, 5], []))
abbrev l28r5 : LC := .reg false [(⟨(some 17), none, .mv (.t 5)⟩, []),
  (⟨(some 18), none, .bin .eql (.t 17) (.c (.int .i64 0))⟩, [])] (some ([0, 4, 3, 6, 5, 18], []))
abbrev l28r6 : LC := .reg false [(⟨(some 19), none, .mv (.t 3)⟩, []),
  (⟨(some 20), none, .mv (.t 0)⟩, []),
  (⟨(some 21), none, .mv (.t 4)⟩, []),
  (⟨(some 22), none, .iad 1 (.t 20) (.t 21)⟩, []),
  (⟨(some 23), none, .load 1 false (.t 22)⟩, []),
  (⟨(some 24), none, .toInt .i64 (.t 23)⟩, []),
  (⟨(some 25), none, .build [(.int .i64 0), (.int .i64 0), (.int .i64 0)] [(0, 1, (.t 24))]⟩, []),
  (⟨(some 26), none, .bslice 3 1 [(.int .i64 0), (.int .i64 0), (.int .i64 0)] [(0, (.t 25))]⟩, []),
  (⟨(some 27), none, .app 3 24 [(.int .i64 0), (.int .i64 0), (.int .i64 0)] (.t 19) (.t 26)⟩, []),
  (⟨(some 3), none, .mv (.t 27)⟩, [])] (some ([0, 3, 4], []))
abbrev l28r7 : LC := .reg false [(⟨(some 28), none, .mv (.t 4)⟩, []),
  (⟨(some 29), none, .bin .add (.t 28) (.c (.int .i64 1))⟩, []),
  (⟨(some 4), none, .mv (.t 29)⟩, [])] (some ([4, 0, 3], []))
abbrev l28r8 : LC := .reg false [(⟨(some 30), none, .mv (.t 3)⟩, []),
  (⟨(some 31), none, .mv (.t 5)⟩, []),
  (⟨(some 32), none, .mv (.t 6)⟩, []),
  (⟨(some 33), none, .build [(.int .i64 0), (.int .i64 0), (.int .i64 0)] [(0, 1, (.c (.int .i64 (-1)))), (1, 1, (.t 31)), (2, 1, (.t 32))]⟩, []),
  (⟨(some 34), none, .bslice 3 1 [(.int .i64 0), (.int .i64 0), (.int .i64 0)] [(0, (.t 33))]⟩, []),
  (⟨(some 35), none, .app 3 24 [(.int .i64 0), (.int .i64 0), (.int .i64 0)] (.t 30) (.t 34)⟩, []),
  (⟨(some 3), none, .mv (.t 35)⟩, [])] (some ([0, 3, 6, 4], []))
abbrev l28r9 : LC := .reg false [(⟨(some 36), none, .mv (.t 4)⟩, []),
  (⟨(some 37), none, .mv (.t 6)⟩, []),
  (⟨(some 38), none, .bin .add (.t 36) (.t 37)⟩, []),
  (⟨(some 4), none, .mv (.t 38)⟩, [])] (some ([4, 0, 3], []))
abbrev l28r10 : LC := (.seq (.seq l28r3 (.cond (.t 10) .skip (.exit 0))) (.block 1 (.seq l28r4 (.seq (.seq l28r5 (.cond (.t 18) (.seq l28r6 (.seq l28r7 (.exit 1))) .skip)) (.seq l28r8 l28r9)))))
abbrev l28r11 : LC := .reg false [(⟨(some 39), none, .mv (.t 3)⟩, []),
  (⟨(some 2), none, .mv (.t 39)⟩, [])] (some ([2], []))
/-- steamer/match.All : 1 parameters, results in [2] of 40 slots -/
abbrev l28 : LC := (.seq l28r0 (.seq l28r1 (.seq (.seq l28r2 (.block 0 (.loop l28r10))) (.seq l28r11 .ret))))
def k28 (i : Nat) : Option Kp := match i with
  | 0 => (some ([0], []))
  | 1 => (some ([0, 3], [.slot 3 503 3]))
  | 2 => (some ([4, 0, 3], []))
  | 3 => (some ([0, 4, 3, 10], []))
  | 4 => (some ([0, 4, 3, 6, 5], []))
  | 5 => (some ([0, 4, 3, 6, 5, 18], []))
  | 6 => (some ([0, 3, 4], []))
  | 7 => (some ([4, 0, 3], []))
  | 8 => (some ([0, 3, 6, 4], []))
  | 9 => (some ([4, 0, 3], []))
  | 10 => (some ([2], []))
  | _ => none
theorem f28_told : Try.prog.funcs[28]? = some Try.f28 := by kernel_rfl
theorem f28_results : resTmps Try.f28 = some [2] := by kernel_rfl
theorem f28_text : (Try.f28.body.bind (trC Try.prog 40 k28 1000)) = some l28 := by kernel_rfl

abbrev l29r0 : LC := .reg false [(⟨(some 2), none, .mv (.c (.slice none 0 0))⟩, [])] (some ([0], []))
abbrev l29r1 : LC := .reg false [(⟨(some 3), none, .mv (.c (.slice none 0 0))⟩, [])] (some ([0, 3], [.slot 3 503 3]))
abbrev l29r2 : LC := .reg false [(⟨(some 4), none, .mv (.c (.int .i64 0))⟩, [])] (some ([4, 0, 3], []))
abbrev l29r3 : LC := .reg false [(⟨(some 7), none, .mv (.t 4)⟩, []),
  (⟨(some 8), none, .mv (.t 0)⟩, []),
  (⟨(some 9), none, .lenS (.t 8)⟩, []),
  (⟨(some 10), none, .bin .lss (.t 7) (.t 9)⟩, [])] (some ([0, 4, 3, 10], []))
abbrev l29r4 : LC := .reg false [(⟨(some 12), none, .mv (.t 0)⟩, []),
  (⟨(some 13), none, .mv (.t 4)⟩, []),
  (⟨(some 14), none, .call 27 [(.t 12), (.t 13)]⟩, []),
  (⟨(some 11), none, .mv (.t 14)⟩, []),
  (⟨(some 15), none, .ext 0 (.t 11)⟩, []),
  (⟨(some 16), none, .ext 1 (.t 11)⟩, []),
  (⟨(some 5), none, .mv (.t 15)⟩, []),
  (⟨(some 6), none, .mv (.t 16)⟩, [])] (some ([0, 4, 3, 6, 5], []))
abbrev l29r5 : LC := .reg false [(⟨(some 17), none, .mv (.t 6)⟩, []),
  (⟨(some 18), none, .bin .eql (.t 17) (.c (.int .i64 0))⟩, [])] (some ([0, 4, 3, 6, 5, 18], []))
abbrev l29r6 : LC := .reg false [(⟨(some 19), none, .mv (.t 3)⟩, []),
  (⟨(some 20), none, .mv (.t 0)⟩, []),
  (⟨(some 21), none, .mv (.t 4)⟩, []),
  (⟨(some 22), none, .ixs (.t 20) (.t 21)⟩, []),
  (⟨(some 23), none, .toInt .i64 (.t 22)⟩, []),
  (⟨(some 24), none, .build [(.int .i64 0), (.int .i64 0), (.int .i64 0)] [(0, 1, (.t 23))]⟩, []),
  (⟨(some 25), none, .bslice 3 1 [(.int .i64 0), (.int .i64 0), (.int .i64 0)] [(0, (.t 24))]⟩, []),
  (⟨(some 26), none, .app 3 24 [(.int .i64 0), (.int .i64 0), (.int .i64 0)] (.t 19) (.t 25)⟩, []),
  (⟨(some 3), none, .mv (.t 26)⟩, [])] (some ([0, 3, 4], []))
abbrev l29r7 : LC := .reg false [(⟨(some 27), none, .mv (.t 4)⟩, []),
  (⟨(some 28), none, .bin .add (.t 27) (.c (.int .i64 1))⟩, []),
  (⟨(some 4), none, .mv (.t 28)⟩, [])] (some ([4, 0, 3], []))
abbrev l29r8 : LC := .reg false [(⟨(some 29), none, .mv (.t 3)⟩, []),
  (⟨(some 30), none, .mv (.t 5)⟩, []),
  (⟨(some 31), none, .mv (.t 6)⟩, []),
  (⟨(some 32), none, .build [(.int .i64 0), (.int .i64 0), (.int .i64 0)] [(0, 1, (.c (.int .i64 (-1)))), (1, 1, (.t 30)), (2, 1, (.t 31))]⟩, []),
  (⟨(some 33), none, .bslice 3 1 [(.int .i64 0), (.int .i64 0), (.int .i64 0)] [(0, (.t 32))]⟩, []),
  (⟨(some 34), none, .app 3 24 [(.int .i64 0), (.int .i64 0), (.int .i64 0)] (.t 29) (.t 33)⟩, []),
  (⟨(some 3), none, .mv (.t 34)⟩, [])] (some ([0, 3, 6, 4], []))
abbrev l29r9 : LC := .reg false [(⟨(some 35), none, .mv (.t 4)⟩, []),
  (⟨(some 36), none, .mv (.t 6)⟩, []),
  (⟨(some 37), none, .bin .add (.t 35) (.t 36)⟩, []),
  (⟨(some 4), none, .mv (.t 37)⟩, [])] (some ([4, 0, 3], []))
abbrev l29r10 : LC := (.seq (.seq l29r3 (.cond (.t 10) .skip (.exit 0))) (.block 1 (.seq l29r4 (.seq (.seq l29r5 (.cond (.t 18) (.seq l29r6 (.seq l29r7 (.exit 1))) .skip)) (.seq l29r8 l29r9)))))
abbrev l29r11 : LC := .reg false [(⟨(some 38), none, .mv (.t 3)⟩, []),
  (⟨(some 2), none, .mv (.t 38)⟩, [])] (some ([2], []))
/-- steamer/steamerref9.Toks : 1 parameters, results in [2] of 39 slots -/
abbrev l29 : LC := (.seq l29r0 (.seq l29r1 (.seq (.seq l29r2 (.block 0 (.loop l29r10))) (.seq l29r11 .ret))))
def k29 (i : Nat) : Option Kp := match i with
  | 0 => (some ([0], []))
  | 1 => (some ([0, 3], [.slot 3 503 3]))
  | 2 => (some ([4, 0, 3], []))
  | 3 => (some ([0, 4, 3, 10], []))
  | 4 => (some ([0, 4, 3, 6, 5], []))
  | 5 => (some ([0, 4, 3, 6, 5, 18], []))
  | 6 => (some ([0, 3, 4], []))
  | 7 => (some ([4, 0, 3], []))
  | 8 => (some ([0, 3, 6, 4], []))
  | 9 => (some ([4, 0, 3], []))
  | 10 => (some ([2], []))
  | _ => none
theorem f29_told : Try.prog.funcs[29]? = some Try.f29 := by kernel_rfl
theorem f29_results : resTmps Try.f29 = some [2] := by kernel_rfl
theorem f29_text : (Try.f29.body.bind (trC Try.prog 39 k29 1000)) = some l29 := by kernel_rfl

abbrev l30r0 : LC := .reg false [(⟨(some 1), none, .box 3 (.t 0)⟩, []),
  (⟨(some 2), none, .mv (.c (.bool false))⟩, [])] (some ([1], []))
abbrev l30r1 : LC := .reg false [(⟨(some 3), none, .fad 0 (.t 1)⟩, []),
  (⟨(some 4), none, .load 1 false (.t 3)⟩, []),
  (⟨(some 5), none, .bin .eql (.t 4) (.c (.int .i64 (-1)))⟩, [])] (some ([1, 5], []))
abbrev l30r2 : LC := .reg false [(⟨(some 6), none, .fad 1 (.t 1)⟩, []),
  (⟨(some 7), none, .load 1 false (.t 6)⟩, []),
  (⟨(some 8), none, .bin .geq (.t 7) (.c (.int .i64 1))⟩, []),
  (⟨(some 9), none, .mv (.t 8)⟩, []),
  (⟨(some 10), (some (9, true)), .fad 1 (.t 1)⟩, []),
  (⟨(some 11), (some (9, true)), .load 1 false (.t 10)⟩, []),
  (⟨(some 12), (some (9, true)), .bin .leq (.t 11) (.c (.int .i64 1024))⟩, []),
  (⟨(some 13), none, .pick (.t 9) (.t 12) (.c (.bool false))⟩, []),
  (⟨(some 14), none, .mv (.t 13)⟩, []),
  (⟨(some 15), (some (14, true)), .fad 2 (.t 1)⟩, []),
  (⟨(some 16), (some (14, true)), .load 1 false (.t 15)⟩, []),
  (⟨(some 17), (some (14, true)), .bin .geq (.t 16) (.c (.int .i64 3))⟩, []),
  (⟨(some 18), none, .pick (.t 14) (.t 17) (.c (.bool false))⟩, []),
  (⟨(some 19), none, .mv (.t 18)⟩, []),
  (⟨(some 20), (some (19, true)), .fad 2 (.t 1)⟩, []),
  (⟨(some 21), (some (19, true)), .load 1 false (.t 20)⟩, []),
  (⟨(some 22), (some (19, true)), .bin .leq (.t 21) (.c (.int .i64 66))⟩, []),
  (⟨(some 23), none, .pick (.t 19) (.t 22) (.c (.bool false))⟩, []),
  (⟨(some 2), none, .mv (.t 23)⟩, [])] (some ([2], []))
abbrev l30r3 : LC := .reg false [(⟨(some 24), none, .fad 0 (.t 1)⟩, []),
  (⟨(some 25), none, .load 1 false (.t 24)⟩, []),
  (⟨(some 26), none, .bin .geq (.t 25) (.c (.int .i64 0))⟩, []),
  (⟨(some 27), none, .mv (.t 26)⟩, []),
  (⟨(some 28), (some (27, true)), .fad 0 (.t 1)⟩, []),
  (⟨(some 29), (some (27, true)), .load 1 false (.t 28)⟩, []),
  (⟨(some 30), (some (27, true)), .bin .leq (.t 29) (.c (.int .i64 255))⟩, []),
  (⟨(some 31), none, .pick (.t 27) (.t 30) (.c (.bool false))⟩, []),
  (⟨(some 32), none, .mv (.t 31)⟩, []),
  (⟨(some 33), (some (32, true)), .fad 1 (.t 1)⟩, []),
  (⟨(some 34), (some (32, true)), .load 1 false (.t 33)⟩, []),
  (⟨(some 35), (some (32, true)), .bin .eql (.t 34) (.c (.int .i64 0))⟩, []),
  (⟨(some 36), none, .pick (.t 32) (.t 35) (.c (.bool false))⟩, []),
  (⟨(some 37), none, .mv (.t 36)⟩, []),
  (⟨(some 38), (some (37, true)), .fad 2 (.t 1)⟩, []),
  (⟨(some 39), (some (37, true)), .load 1 false (.t 38)⟩, []),
  (⟨(some 40), (some (37, true)), .bin .eql (.t 39) (.c (.int .i64 0))⟩, []),
  (⟨(some 41), none, .pick (.t 37) (.t 40) (.c (.bool false))⟩, []),
  (⟨(some 2), none, .mv (.t 41)⟩, [])] (some ([2], []))
/-- steamer/match.May : 1 parameters, results in [2] of 42 slots -/
abbrev l30 : LC := (.seq l30r0 (.seq (.seq l30r1 (.cond (.t 5) (.seq l30r2 .ret) .skip)) (.seq l30r3 .ret)))
def k30 (i : Nat) : Option Kp := match i with
  | 0 => (some ([1], []))
  | 1 => (some ([1, 5], []))
  | 2 => (some ([2], []))
  | 3 => (some ([2], []))
  | _ => none
theorem f30_told : Try.prog.funcs[30]? = some Try.f30 := by kernel_rfl
theorem f30_results : resTmps Try.f30 = some [2] := by kernel_rfl
theorem f30_text : (Try.f30.body.bind (trC Try.prog 42 k30 1000)) = some l30 := by kernel_rfl

abbrev l31r0 : LC := .reg false [(⟨(some 1), none, .box 3 (.t 0)⟩, []),
  (⟨(some 2), none, .mv (.c (.bool false))⟩, [])] (some ([1], []))
abbrev l31r1 : LC := .reg false [(⟨(some 3), none, .fad 0 (.t 1)⟩, []),
  (⟨(some 4), none, .load 1 false (.t 3)⟩, []),
  (⟨(some 5), none, .bin .geq (.t 4) (.c (.int .i64 0))⟩, [])] (some ([1, 5], []))
abbrev l31r2 : LC := .reg false [(⟨(some 6), none, .fad 0 (.t 1)⟩, []),
  (⟨(some 7), none, .load 1 false (.t 6)⟩, []),
  (⟨(some 8), none, .bin .leq (.t 7) (.c (.int .i64 255))⟩, []),
  (⟨(some 9), none, .mv (.t 8)⟩, []),
  (⟨(some 10), (some (9, true)), .fad 1 (.t 1)⟩, []),
  (⟨(some 11), (some (9, true)), .load 1 false (.t 10)⟩, []),
  (⟨(some 12), (some (9, true)), .bin .eql (.t 11) (.c (.int .i64 0))⟩, []),
  (⟨(some 13), none, .pick (.t 9) (.t 12) (.c (.bool false))⟩, []),
  (⟨(some 14), none, .mv (.t 13)⟩, []),
  (⟨(some 15), (some (14, true)), .fad 2 (.t 1)⟩, []),
  (⟨(some 16), (some (14, true)), .load 1 false (.t 15)⟩, []),
  (⟨(some 17), (some (14, true)), .bin .eql (.t 16) (.c (.int .i64 0))⟩, []),
  (⟨(some 18), none, .pick (.t 14) (.t 17) (.c (.bool false))⟩, []),
  (⟨(some 2), none, .mv (.t 18)⟩, [])] (some ([2], []))
abbrev l31r3 : LC := .reg false [(⟨(some 19), none, .fad 0 (.t 1)⟩, []),
  (⟨(some 20), none, .load 1 false (.t 19)⟩, []),
  (⟨(some 21), none, .bin .eql (.t 20) (.c (.int .i64 (-1)))⟩, []),
  (⟨(some 22), none, .mv (.t 21)⟩, []),
  (⟨(some 23), (some (22, true)), .fad 1 (.t 1)⟩, []),
  (⟨(some 24), (some (22, true)), .load 1 false (.t 23)⟩, []),
  (⟨(some 25), (some (22, true)), .bin .geq (.t 24) (.c (.int .i64 1))⟩, []),
  (⟨(some 26), none, .pick (.t 22) (.t 25) (.c (.bool false))⟩, []),
  (⟨(some 27), none, .mv (.t 26)⟩, []),
  (⟨(some 28), (some (27, true)), .fad 1 (.t 1)⟩, []),
  (⟨(some 29), (some (27, true)), .load 1 false (.t 28)⟩, []),
  (⟨(some 30), (some (27, true)), .bin .leq (.t 29) (.c (.int .i64 1024))⟩, []),
  (⟨(some 31), none, .pick (.t 27) (.t 30) (.c (.bool false))⟩, []),
  (⟨(some 32), none, .mv (.t 31)⟩, []),
  (⟨(some 33), (some (32, true)), .fad 2 (.t 1)⟩, []),
  (⟨(some 34), (some (32, true)), .load 1 false (.t 33)⟩, []),
  (⟨(some 35), (some (32, true)), .bin .geq (.t 34) (.c (.int .i64 3))⟩, []),
  (⟨(some 36), none, .pick (.t 32) (.t 35) (.c (.bool false))⟩, []),
  (⟨(some 37), none, .mv (.t 36)⟩, []),
  (⟨(some 38), (some (37, true)), .fad 2 (.t 1)⟩, []),
  (⟨(some 39), (some (37, true)), .load 1 false (.t 38)⟩, []),
  (⟨(some 40), (some (37, true)), .bin .leq (.t 39) (.c (.int .i64 66))⟩, []),
  (⟨(some 41), none, .pick (.t 37) (.t 40) (.c (.bool false))⟩, []),
  (⟨(some 2), none, .mv (.t 41)⟩, [])] (some ([2], []))
/-- steamer/steamerref9.MayTok : 1 parameters, results in [2] of 42 slots -/
abbrev l31 : LC := (.seq l31r0 (.seq (.seq l31r1 (.cond (.t 5) (.seq l31r2 .ret) .skip)) (.seq l31r3 .ret)))
def k31 (i : Nat) : Option Kp := match i with
  | 0 => (some ([1], []))
  | 1 => (some ([1, 5], []))
  | 2 => (some ([2], []))
  | 3 => (some ([2], []))
  | _ => none
theorem f31_told : Try.prog.funcs[31]? = some Try.f31 := by kernel_rfl
theorem f31_results : resTmps Try.f31 = some [2] := by kernel_rfl
theorem f31_text : (Try.f31.body.bind (trC Try.prog 42 k31 1000)) = some l31 := by kernel_rfl

abbrev l32r0 : LC := .reg false [(⟨(some 4), none, .mv (.c (.slice none 0 0))⟩, []),
  (⟨(some 5), none, .mv (.c (.int .i64 0))⟩, [])] (some ([1, 0], []))
abbrev l32r1 : LC := .reg false [(⟨(some 6), none, .mv (.c (.slice none 0 0))⟩, [])] (some ([6, 1, 0], [.slot 6 506 1]))
abbrev l32r2 : LC := .reg false [(⟨(some 9), none, .mv (.t 0)⟩, []),
  (⟨(some 10), none, .len (.t 9)⟩, []),
  (⟨(some 11), none, .mv (.c (.int .i64 0))⟩, [])] (some ([11, 6, 1, 9, 10], []))
abbrev l32r3 : LC := .reg false [(⟨(some 12), none, .bin .lss (.t 11) (.t 10)⟩, [])] (some ([1, 9, 10, 11, 6, 12], []))
abbrev l32r4 : LC := .reg false [(⟨(some 13), none, .iad 3 (.t 9) (.t 11)⟩, []),
  (⟨(some 14), none, .load 3 true (.t 13)⟩, []),
  (⟨(some 8), none, .alloc [(.int .i64 0), (.int .i64 0), (.int .i64 0)]⟩, []),
  (⟨none, none, .store 3 (.t 8) (.t 14)⟩, [])] (some ([8, 1, 9, 10, 11, 6], []))
abbrev l32r5 : LC := .reg false [(⟨(some 16), none, .load 3 true (.t 8)⟩, []),
  (⟨(some 17), none, .call 30 [(.t 16)]⟩, []),
  (⟨(some 18), none, .un .not (.t 17)⟩, []),
  (⟨(some 15), none, .mv (.t 18)⟩, [])] (some ([8, 1, 9, 10, 11, 6, 15], []))
abbrev l32r6 : LC := .reg false [(⟨(some 4), none, .mv (.c (.slice none 0 0))⟩, []),
  (⟨(some 5), none, .mv (.c (.int .i64 1))⟩, [])] (some ([4, 5], [.slot 4 504 1]))
abbrev l32r7 : LC := .reg false [(⟨(some 20), none, .fad 1 (.t 8)⟩, []),
  (⟨(some 21), none, .load 1 false (.t 20)⟩, []),
  (⟨(some 22), none, .mv (.t 6)⟩, []),
  (⟨(some 23), none, .len (.t 22)⟩, []),
  (⟨(some 24), none, .bin .gtr (.t 21) (.t 23)⟩, []),
  (⟨(some 19), none, .mv (.t 24)⟩, [])] (some ([8, 1, 9, 10, 11, 6, 19], []))
abbrev l32r8 : LC := .reg false [(⟨(some 4), none, .mv (.c (.slice none 0 0))⟩, []),
  (⟨(some 5), none, .mv (.c (.int .i64 2))⟩, [])] (some ([4, 5], [.slot 4 504 1]))
abbrev l32r9 : LC := .reg false [(⟨(some 26), none, .mv (.t 6)⟩, []),
  (⟨(some 27), none, .len (.t 26)⟩, []),
  (⟨(some 28), none, .fad 2 (.t 8)⟩, []),
  (⟨(some 29), none, .load 1 false (.t 28)⟩, []),
  (⟨(some 30), none, .mm true (.t 29) (.c (.int .i64 1))⟩, []),
  (⟨(some 31), none, .bin .add (.t 27) (.t 30)⟩, []),
  (⟨(some 32), none, .mv (.t 1)⟩, []),
  (⟨(some 33), none, .bin .gtr (.t 31) (.t 32)⟩, []),
  (⟨(some 25), none, .mv (.t 33)⟩, [])] (some ([8, 1, 9, 10, 11, 6, 25], []))
abbrev l32r10 : LC := .reg false [(⟨(some 4), none, .mv (.c (.slice none 0 0))⟩, []),
  (⟨(some 5), none, .mv (.c (.int .i64 13))⟩, [])] (some ([4, 5], [.slot 4 504 1]))
abbrev l32r11 : LC := .reg false [(⟨(some 35), none, .fad 0 (.t 8)⟩, []),
  (⟨(some 36), none, .load 1 false (.t 35)⟩, []),
  (⟨(some 37), none, .bin .geq (.t 36) (.c (.int .i64 0))⟩, []),
  (⟨(some 34), none, .mv (.t 37)⟩, [])] (some ([8, 1, 9, 10, 11, 6, 34], []))
abbrev l32r12 : LC := .reg false [(⟨(some 38), none, .mv (.t 6)⟩, []),
  (⟨(some 39), none, .fad 0 (.t 8)⟩, []),
  (⟨(some 40), none, .load 1 false (.t 39)⟩, []),
  (⟨(some 41), none, .toInt .u8 (.t 40)⟩, []),
  (⟨(some 42), none, .bslice 1 1 [(.int .u8 0)] [(0, (.t 41))]⟩, []),
  (⟨(some 43), none, .app 1 1 [(.int .u8 0)] (.t 38) (.t 42)⟩, []),
  (⟨(some 6), none, .mv (.t 43)⟩, [])] (some ([8, 6, 1, 9, 10, 11], []))
abbrev l32r13 : LC := .reg false [(⟨(some 44), none, .fad 2 (.t 8)⟩, []),
  (⟨(some 45), none, .load 1 false (.t 44)⟩, []),
  (⟨(some 46), none, .mv (.c (.int .i64 0))⟩, [])] (some ([46, 8, 6, 1, 9, 10, 11, 45], []))
abbrev l32r14 : LC := .reg false [(⟨(some 47), none, .bin .lss (.t 46) (.t 45)⟩, [])] (some ([8, 1, 9, 10, 11, 45, 46, 6, 47], []))
abbrev l32r15 : LC := .reg false [(⟨(some 48), none, .mv (.t 6)⟩, []),
  (⟨(some 49), none, .mv (.t 6)⟩, []),
  (⟨(some 50), none, .mv (.t 6)⟩, []),
  (⟨(some 51), none, .len (.t 50)⟩, []),
  (⟨(some 52), none, .fad 1 (.t 8)⟩, []),
  (⟨(some 53), none, .load 1 false (.t 52)⟩, []),
  (⟨(some 54), none, .bin .sub (.t 51) (.t 53)⟩, []),
  (⟨(some 55), none, .iad 1 (.t 49) (.t 54)⟩, []),
  (⟨(some 56), none, .load 1 false (.t 55)⟩, []),
  (⟨(some 57), none, .bslice 1 1 [(.int .u8 0)] [(0, (.t 56))]⟩, []),
  (⟨(some 58), none, .app 1 1 [(.int .u8 0)] (.t 48) (.t 57)⟩, []),
  (⟨(some 6), none, .mv (.t 58)⟩, [])] (some ([8, 6, 1, 9, 10, 11, 45, 46], []))
abbrev l32r16 : LC := .reg false [(⟨(some 59), none, .bin .add (.t 46) (.c (.int .i64 1))⟩, []),
  (⟨(some 46), none, .mv (.t 59)⟩, [])] (some ([46, 8, 6, 1, 9, 10, 11, 45], []))
abbrev l32r17 : LC := (.seq l32r14 (.seq (.cond (.t 47) .skip (.exit 3)) (.seq (.block 4 l32r15) l32r16)))
abbrev l32r18 : LC := .reg false [(⟨(some 60), none, .bin .add (.t 11) (.c (.int .i64 1))⟩, []),
  (⟨(some 11), none, .mv (.t 60)⟩, [])] (some ([11, 6, 1, 9, 10], []))
abbrev l32r19 : LC := (.seq l32r3 (.seq (.cond (.t 12) .skip (.exit 0)) (.seq (.block 1 (.seq l32r4 (.seq (.block 2 (.seq l32r5 (.cond (.t 15) (.seq l32r6 .ret) (.seq l32r7 (.cond (.t 19) (.seq l32r8 .ret) (.seq l32r9 (.cond (.t 25) (.seq l32r10 .ret) (.seq l32r11 (.cond (.t 34) l32r12 .skip))))))))) (.seq l32r13 (.block 3 (.loop l32r17)))))) l32r18)))
abbrev l32r20 : LC := .reg false [(⟨(some 61), none, .mv (.t 6)⟩, []),
  (⟨(some 4), none, .mv (.t 61)⟩, []),
  (⟨(some 5), none, .mv (.c (.int .i64 0))⟩, [])] (some ([4, 5], []))
/-- steamer/match.Join : 2 parameters, results in [4, 5] of 62 slots -/
abbrev l32 : LC := (.seq l32r0 (.seq l32r1 (.seq (.seq l32r2 (.block 0 (.loop l32r19))) (.seq l32r20 .ret))))
def k32 (i : Nat) : Option Kp := match i with
  | 0 => (some ([1, 0], []))
  | 1 => (some ([6, 1, 0], [.slot 6 506 1]))
  | 2 => (some ([11, 6, 1, 9, 10], []))
  | 3 => (some ([1, 9, 10, 11, 6, 12], []))
  | 4 => (some ([8, 1, 9, 10, 11, 6], []))
  | 5 => (some ([8, 1, 9, 10, 11, 6, 15], []))
  | 6 => (some ([4, 5], [.slot 4 504 1]))
  | 7 => (some ([8, 1, 9, 10, 11, 6, 19], []))
  | 8 => (some ([4, 5], [.slot 4 504 1]))
  | 9 => (some ([8, 1, 9, 10, 11, 6, 25], []))
  | 10 => (some ([4, 5], [.slot 4 504 1]))
  | 11 => (some ([8, 1, 9, 10, 11, 6, 34], []))
  | 12 => (some ([8, 6, 1, 9, 10, 11], []))
  | 13 => (some ([46, 8, 6, 1, 9, 10, 11, 45], []))
  | 14 => (some ([8, 1, 9, 10, 11, 45, 46, 6, 47], []))
  | 15 => (some ([8, 6, 1, 9, 10, 11, 45, 46], []))
  | 16 => (some ([46, 8, 6, 1, 9, 10, 11, 45], []))
  | 17 => (some ([11, 6, 1, 9, 10], []))
  | 18 => (some ([4, 5], []))
  | _ => none
theorem f32_told : Try.prog.funcs[32]? = some Try.f32 := by kernel_rfl
theorem f32_results : resTmps Try.f32 = some [4, 5] := by kernel_rfl
theorem f32_text : (Try.f32.body.bind (trC Try.prog 62 k32 1000)) = some l32 := by kernel_rfl

abbrev l33r0 : LC := .reg false [(⟨(some 4), none, .mv (.c (.string ⟨#[]⟩))⟩, []),
  (⟨(some 5), none, .mv (.c (.int .i64 0))⟩, [])] (some ([1, 0], []))
abbrev l33r1 : LC := .reg false [(⟨(some 6), none, .mv (.c (.slice none 0 0))⟩, [])] (some ([6, 1, 0], [.slot 6 506 1]))
abbrev l33r2 : LC := .reg false [(⟨(some 7), none, .mv (.c (.int .i64 0))⟩, [])] (some ([7, 6, 1, 0], []))
abbrev l33r3 : LC := .reg false [(⟨(some 10), none, .mv (.t 7)⟩, []),
  (⟨(some 11), none, .mv (.t 0)⟩, []),
  (⟨(some 12), none, .len (.t 11)⟩, []),
  (⟨(some 13), none, .bin .lss (.t 10) (.t 12)⟩, [])] (some ([1, 0, 7, 6, 13], []))
abbrev l33r4 : LC := .reg false [(⟨(some 16), none, .mv (.t 0)⟩, []),
  (⟨(some 17), none, .mv (.t 7)⟩, []),
  (⟨(some 18), none, .iad 3 (.t 16) (.t 17)⟩, []),
  (⟨(some 19), none, .load 3 true (.t 18)⟩, []),
  (⟨(some 8), none, .alloc [(.int .i64 0), (.int .i64 0), (.int .i64 0)]⟩, []),
  (⟨none, none, .store 3 (.t 8) (.t 19)⟩, [])] (some ([8, 1, 0, 7, 6], []))
abbrev l33r5 : LC := .reg false [(⟨(some 21), none, .load 3 true (.t 8)⟩, []),
  (⟨(some 22), none, .call 31 [(.t 21)]⟩, []),
  (⟨(some 23), none, .un .not (.t 22)⟩, []),
  (⟨(some 20), none, .mv (.t 23)⟩, [])] (some ([8, 1, 0, 7, 6, 20], []))
abbrev l33r6 : LC := .reg false [(⟨(some 4), none, .mv (.c (.string ⟨#[]⟩))⟩, []),
  (⟨(some 5), none, .mv (.c (.int .i64 1))⟩, [])] (some ([4, 5], []))
abbrev l33r7 : LC := .reg false [(⟨(some 25), none, .fad 1 (.t 8)⟩, []),
  (⟨(some 26), none, .load 1 false (.t 25)⟩, []),
  (⟨(some 27), none, .mv (.t 6)⟩, []),
  (⟨(some 28), none, .len (.t 27)⟩, []),
  (⟨(some 29), none, .bin .gtr (.t 26) (.t 28)⟩, []),
  (⟨(some 24), none, .mv (.t 29)⟩, [])] (some ([8, 1, 0, 7, 6, 24], []))
abbrev l33r8 : LC := .reg false [(⟨(some 4), none, .mv (.c (.string ⟨#[]⟩))⟩, []),
  (⟨(some 5), none, .mv (.c (.int .i64 2))⟩, [])] (some ([4, 5], []))
abbrev l33r9 : LC := .reg false [(⟨(some 31), none, .mv (.t 6)⟩, []),
  (⟨(some 32), none, .len (.t 31)⟩, []),
  (⟨(some 33), none, .fad 2 (.t 8)⟩, []),
  (⟨(some 34), none, .load 1 false (.t 33)⟩, []),
  (⟨(some 35), none, .mm true (.t 34) (.c (.int .i64 1))⟩, []),
  (⟨(some 36), none, .bin .add (.t 32) (.t 35)⟩, []),
  (⟨(some 37), none, .mv (.t 1)⟩, []),
  (⟨(some 38), none, .mm true (.t 37) (.c (.int .i64 0))⟩, []),
  (⟨(some 39), none, .bin .gtr (.t 36) (.t 38)⟩, []),
  (⟨(some 30), none, .mv (.t 39)⟩, [])] (some ([8, 1, 0, 7, 6, 30], []))
abbrev l33r10 : LC := .reg false [(⟨(some 4), none, .mv (.c (.string ⟨#[]⟩))⟩, []),
  (⟨(some 5), none, .mv (.c (.int .i64 13))⟩, [])] (some ([4, 5], []))
abbrev l33r11 : LC := .reg false [(⟨(some 40), none, .fad 0 (.t 8)⟩, []),
  (⟨(some 41), none, .load 1 false (.t 40)⟩, []),
  (⟨(some 42), none, .bin .geq (.t 41) (.c (.int .i64 0))⟩, [])] (some ([8, 1, 0, 7, 6, 42], []))
abbrev l33r12 : LC := .reg false [(⟨(some 43), none, .mv (.t 6)⟩, []),
  (⟨(some 44), none, .fad 0 (.t 8)⟩, []),
  (⟨(some 45), none, .load 1 false (.t 44)⟩, []),
  (⟨(some 46), none, .toInt .u8 (.t 45)⟩, []),
  (⟨(some 47), none, .bslice 1 1 [(.int .u8 0)] [(0, (.t 46))]⟩, []),
  (⟨(some 48), none, .app 1 1 [(.int .u8 0)] (.t 43) (.t 47)⟩, []),
  (⟨(some 6), none, .mv (.t 48)⟩, [])] (some ([8, 6, 1, 0, 7], []))
abbrev l33r13 : LC := .reg false [(⟨(some 9), none, .mv (.c (.int .i64 0))⟩, [])] (some ([9, 8, 6, 1, 0, 7], []))
abbrev l33r14 : LC := .reg false [(⟨(some 49), none, .mv (.t 9)⟩, []),
  (⟨(some 50), none, .fad 2 (.t 8)⟩, []),
  (⟨(some 51), none, .load 1 false (.t 50)⟩, []),
  (⟨(some 52), none, .bin .lss (.t 49) (.t 51)⟩, [])] (some ([8, 1, 0, 7, 9, 6, 52], []))
abbrev l33r15 : LC := .reg false [(⟨(some 55), none, .mv (.t 6)⟩, []),
  (⟨(some 56), none, .mv (.t 6)⟩, []),
  (⟨(some 57), none, .mv (.t 6)⟩, []),
  (⟨(some 58), none, .len (.t 57)⟩, []),
  (⟨(some 59), none, .fad 1 (.t 8)⟩, []),
  (⟨(some 60), none, .load 1 false (.t 59)⟩, []),
  (⟨(some 61), none, .bin .sub (.t 58) (.t 60)⟩, []),
  (⟨(some 62), none, .iad 1 (.t 56) (.t 61)⟩, []),
  (⟨(some 63), none, .load 1 false (.t 62)⟩, []),
  (⟨(some 64), none, .bslice 1 1 [(.int .u8 0)] [(0, (.t 63))]⟩, []),
  (⟨(some 65), none, .app 1 1 [(.int .u8 0)] (.t 55) (.t 64)⟩, []),
  (⟨(some 6), none, .mv (.t 65)⟩, [])] (some ([8, 6, 1, 0, 7, 9], []))
abbrev l33r16 : LC := .reg false [(⟨(some 53), none, .mv (.t 9)⟩, []),
  (⟨(some 54), none, .bin .add (.t 53) (.c (.int .i64 1))⟩, []),
  (⟨(some 9), none, .mv (.t 54)⟩, [])] (some ([9, 8, 6, 1, 0, 7], []))
abbrev l33r17 : LC := (.seq (.seq l33r14 (.cond (.t 52) .skip (.exit 3))) (.seq (.block 4 l33r15) l33r16))
abbrev l33r18 : LC := .reg false [(⟨(some 14), none, .mv (.t 7)⟩, []),
  (⟨(some 15), none, .bin .add (.t 14) (.c (.int .i64 1))⟩, []),
  (⟨(some 7), none, .mv (.t 15)⟩, [])] (some ([7, 6, 1, 0], []))
abbrev l33r19 : LC := (.seq (.seq l33r3 (.cond (.t 13) .skip (.exit 0))) (.seq (.block 1 (.seq l33r4 (.seq (.block 2 (.seq l33r5 (.cond (.t 20) (.seq l33r6 .ret) (.seq l33r7 (.cond (.t 24) (.seq l33r8 .ret) (.seq l33r9 (.cond (.t 30) (.seq l33r10 .ret) .skip))))))) (.seq (.seq l33r11 (.cond (.t 42) l33r12 .skip)) (.seq l33r13 (.block 3 (.loop l33r17))))))) l33r18))
abbrev l33r20 : LC := .reg false [(⟨(some 66), none, .mv (.t 6)⟩, []),
  (⟨(some 67), none, .toStr (.t 66)⟩, []),
  (⟨(some 4), none, .mv (.t 67)⟩, []),
  (⟨(some 5), none, .mv (.c (.int .i64 0))⟩, [])] (some ([4, 5], []))
/-- steamer/steamerref9.Join : 2 parameters, results in [4, 5] of 68 slots -/
abbrev l33 : LC := (.seq l33r0 (.seq l33r1 (.seq (.seq l33r2 (.block 0 (.loop l33r19))) (.seq l33r20 .ret))))
def k33 (i : Nat) : Option Kp := match i with
  | 0 => (some ([1, 0], []))
  | 1 => (some ([6, 1, 0], [.slot 6 506 1]))
  | 2 => (some ([7, 6, 1, 0], []))
  | 3 => (some ([1, 0, 7, 6, 13], []))
  | 4 => (some ([7, 6, 1, 0], []))
  | 5 => (some ([8, 1, 0, 7, 6], []))
  | 6 => (some ([8, 1, 0, 7, 6, 20], []))
  | 7 => (some ([4, 5], []))
  | 8 => (some ([8, 1, 0, 7, 6, 24], []))
  | 9 => (some ([4, 5], []))
  | 10 => (some ([8, 1, 0, 7, 6, 30], []))
  | 11 => (some ([4, 5], []))
  | 12 => (some ([8, 1, 0, 7, 6, 42], []))
  | 13 => (some ([8, 6, 1, 0, 7], []))
  | 14 => (some ([9, 8, 6, 1, 0, 7], []))
  | 15 => (some ([8, 1, 0, 7, 9, 6, 52], []))
  | 16 => (some ([9, 8, 6, 1, 0, 7], []))
  | 17 => (some ([8, 6, 1, 0, 7, 9], []))
  | 18 => (some ([4, 5], []))
  | _ => none
theorem f33_told : Try.prog.funcs[33]? = some Try.f33 := by kernel_rfl
theorem f33_results : resTmps Try.f33 = some [4, 5] := by kernel_rfl
theorem f33_text : (Try.f33.body.bind (trC Try.prog 68 k33 1000)) = some l33 := by kernel_rfl

abbrev l34r0 : LC := .reg false [(⟨(some 2), none, .mv (.c (.slice none 0 0))⟩, [])] (some ([0], []))
abbrev l34r1 : LC := .reg false [(⟨(some 3), none, .mv (.c (.slice none 0 0))⟩, [])] (some ([0, 3], [.slot 3 503 3]))
abbrev l34r2 : LC := .reg false [(⟨(some 4), none, .mv (.c (.int .i64 0))⟩, [])] (some ([4, 0, 3], []))
abbrev l34r3 : LC := .reg false [(⟨(some 5), none, .mv (.t 4)⟩, []),
  (⟨(some 6), none, .mv (.t 0)⟩, []),
  (⟨(some 7), none, .len (.t 6)⟩, []),
  (⟨(some 8), none, .bin .lss (.t 5) (.t 7)⟩, [])] (some ([0, 4, 3, 8], []))
abbrev l34r4 : LC := .reg true [(⟨(some 11), none, .mv (.t 3)⟩, []),
  (⟨(some 12), none, .mv (.t 0)⟩, []),
  (⟨(some 13), none, .mv (.t 4)⟩, []),
  (⟨(some 14), none, .iad 3 (.t 12) (.t 13)⟩, []),
  (⟨(some 15), none, .fad 0 (.t 14)⟩, []),
  (⟨(some 16), none, .load 1 false (.t 15)⟩, []),
  (⟨(some 17), none, .mv (.t 0)⟩, []),
  (⟨(some 18), none, .mv (.t 4)⟩, []),
  (⟨(some 19), none, .iad 3 (.t 17) (.t 18)⟩, []),
  (⟨(some 20), none, .fad 1 (.t 19)⟩, []),
  (⟨(some 21), none, .load 1 false (.t 20)⟩, []),
  (⟨(some 22), none, .mv (.t 0)⟩, []),
  (⟨(some 23), none, .mv (.t 4)⟩, []),
  (⟨(some 24), none, .iad 3 (.t 22) (.t 23)⟩, []),
  (⟨(some 25), none, .fad 2 (.t 24)⟩, []),
  (⟨(some 26), none, .load 1 false (.t 25)⟩, []),
  (⟨(some 27), none, .build [(.int .i64 0), (.int .i64 0), (.int .i64 0)] [(0, 1, (.t 16)), (1, 1, (.t 21)), (2, 1, (.t 26))]⟩, []),
  (⟨(some 28), none, .bslice 3 1 [(.int .i64 0), (.int .i64 0), (.int .i64 0)] [(0, (.t 27))]⟩, [0]),
  (⟨(some 29), none, .app 3 24 [(.int .i64 0), (.int .i64 0), (.int .i64 0)] (.t 11) (.t 28)⟩, []),
  (⟨(some 3), none, .mv (.t 29)⟩, [])] (some ([0, 3, 4], []))
abbrev l34r5 : LC := .reg false [(⟨(some 9), none, .mv (.t 4)⟩, []),
  (⟨(some 10), none, .bin .add (.t 9) (.c (.int .i64 1))⟩, []),
  (⟨(some 4), none, .mv (.t 10)⟩, [])] (some ([4, 0, 3], []))
abbrev l34r6 : LC := (.seq (.seq l34r3 (.cond (.t 8) .skip (.exit 0))) (.seq (.block 1 l34r4) l34r5))
abbrev l34r7 : LC := .reg false [(⟨(some 30), none, .mv (.t 3)⟩, []),
  (⟨(some 2), none, .mv (.t 30)⟩, [])] (some ([2], []))
/-- steamer/steamerlaw11.of : 1 parameters, results in [2] of 31 slots -/
abbrev l34 : LC := (.seq l34r0 (.seq l34r1 (.seq (.seq l34r2 (.block 0 (.loop l34r6))) (.seq l34r7 .ret))))
def k34 (i : Nat) : Option Kp := match i with
  | 0 => (some ([0], []))
  | 1 => (some ([0, 3], [.slot 3 503 3]))
  | 2 => (some ([4, 0, 3], []))
  | 3 => (some ([0, 4, 3, 8], []))
  | 4 => (some ([4, 0, 3], []))
  | 5 => (some ([0, 3, 4], []))
  | 6 => (some ([2], []))
  | _ => none
theorem f34_told : Try.prog.funcs[34]? = some Try.f34 := by kernel_rfl
theorem f34_results : resTmps Try.f34 = some [2] := by kernel_rfl
theorem f34_text : (Try.f34.body.bind (trC Try.prog 31 k34 1000)) = some l34 := by kernel_rfl

abbrev l35r0 : LC := .reg false [(⟨(some 6), none, .mv (.c (.int .i64 0))⟩, [])] (some ([2, 0, 1], []))
abbrev l35r1 : LC := .reg false [(⟨(some 7), none, .mv (.c (.int .i64 0))⟩, [])] (some ([7, 2, 0, 1], []))
abbrev l35r2 : LC := .reg false [(⟨(some 8), none, .mv (.t 7)⟩, []),
  (⟨(some 9), none, .bin .lss (.t 8) (.c (.int .i64 66))⟩, []),
  (⟨(some 10), none, .mv (.t 9)⟩, []),
  (⟨(some 11), (some (10, true)), .mv (.t 2)⟩, []),
  (⟨(some 12), (some (10, true)), .mv (.t 7)⟩, []),
  (⟨(some 13), (some (10, true)), .bin .add (.t 11) (.t 12)⟩, []),
  (⟨(some 14), (some (10, true)), .mv (.t 0)⟩, []),
  (⟨(some 15), (some (10, true)), .len (.t 14)⟩, []),
  (⟨(some 16), (some (10, true)), .bin .lss (.t 13) (.t 15)⟩, []),
  (⟨(some 17), none, .pick (.t 10) (.t 16) (.c (.bool false))⟩, []),
  (⟨(some 18), none, .mv (.t 17)⟩, []),
  (⟨(some 19), (some (18, true)), .mv (.t 0)⟩, []),
  (⟨(some 20), (some (18, true)), .mv (.t 1)⟩, []),
  (⟨(some 21), (some (18, true)), .mv (.t 7)⟩, []),
  (⟨(some 22), (some (18, true)), .bin .add (.t 20) (.t 21)⟩, []),
  (⟨(some 23), (some (18, true)), .iad 1 (.t 19) (.t 22)⟩, []),
  (⟨(some 24), (some (18, true)), .load 1 false (.t 23)⟩, []),
  (⟨(some 25), (some (18, true)), .mv (.t 0)⟩, []),
  (⟨(some 26), (some (18, true)), .mv (.t 2)⟩, []),
  (⟨(some 27), (some (18, true)), .mv (.t 7)⟩, []),
  (⟨(some 28), (some (18, true)), .bin .add (.t 26) (.t 27)⟩, []),
  (⟨(some 29), (some (18, true)), .iad 1 (.t 25) (.t 28)⟩, []),
  (⟨(some 30), (some (18, true)), .load 1 false (.t 29)⟩, []),
  (⟨(some 31), (some (18, true)), .bin .eql (.t 24) (.t 30)⟩, []),
  (⟨(some 32), none, .pick (.t 18) (.t 31) (.c (.bool false))⟩, [])] (some ([2, 0, 1, 7, 32], []))
abbrev l35r3 : LC := .reg false [(⟨(some 33), none, .mv (.t 7)⟩, []),
  (⟨(some 34), none, .bin .add (.t 33) (.c (.int .i64 1))⟩, []),
  (⟨(some 7), none, .mv (.t 34)⟩, [])] (some ([7, 2, 0, 1], []))
abbrev l35r4 : LC := (.seq (.seq l35r2 (.cond (.t 32) .skip (.exit 0))) (.block 1 l35r3))
abbrev l35r5 : LC := .reg false [(⟨(some 35), none, .mv (.t 7)⟩, []),
  (⟨(some 6), none, .mv (.t 35)⟩, [])] (some ([6], []))
/-- steamer/match.long : 3 parameters, results in [6] of 36 slots -/
abbrev l35 : LC := (.seq l35r0 (.seq l35r1 (.seq (.block 0 (.loop l35r4)) (.seq l35r5 .ret))))
def k35 (i : Nat) : Option Kp := match i with
  | 0 => (some ([2, 0, 1], []))
  | 1 => (some ([7, 2, 0, 1], []))
  | 2 => (some ([2, 0, 1, 7, 32], []))
  | 3 => (some ([7, 2, 0, 1], []))
  | 4 => (some ([6], []))
  | _ => none
theorem f35_told : Try.prog.funcs[35]? = some Try.f35 := by kernel_rfl
theorem f35_results : resTmps Try.f35 = some [6] := by kernel_rfl
theorem f35_text : (Try.f35.body.bind (trC Try.prog 36 k35 1000)) = some l35 := by kernel_rfl

end Go.Proofs.Mt
