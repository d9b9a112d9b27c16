import Derived.Test.YthbonnlhoaeflaaEngS
import Derived.Test.YthbonnlhoaeflaaProg
set_option linter.unusedVariables false
set_option linter.unusedSimpArgs false
namespace Go.Proofs.Ex
open Go.RowKit Go.Lib Go.Eng Go.Proofs
set_option maxRecDepth 100000
abbrev l61r0 : LC := .reg false [(⟨(some 25), none, .mv (.t 2)⟩, []),
  (⟨(some 26), none, .mv (.t 1)⟩, []),
  (⟨(some 27), none, .bin .sub (.t 25) (.t 26)⟩, []),
  (⟨(some 28), none, .bin .eql (.t 27) (.c (.int .i64 1))⟩, [])] (some ([1, 0, 4, 3, 2, 28], []))
abbrev l61r1 : LC := .reg false [(⟨(some 29), none, .mv (.t 2)⟩, []),
  (⟨(some 10), none, .mv (.t 29)⟩, [])] (some ([1, 0, 4, 10, 3], []))
abbrev l61r2 : LC := .reg false [(⟨(some 30), none, .mv (.t 3)⟩, []),
  (⟨(some 11), none, .mv (.t 30)⟩, [])] (some ([1, 0, 4, 11, 10], []))
abbrev l61r3 : LC := .reg false [(⟨(some 31), none, .mv (.t 10)⟩, []),
  (⟨(some 32), none, .mv (.t 11)⟩, []),
  (⟨(some 33), none, .bin .lss (.t 31) (.t 32)⟩, [])] (some ([1, 0, 4, 11, 10, 33], []))
abbrev l61r4 : LC := .reg false [(⟨(some 34), none, .mv (.t 10)⟩, []),
  (⟨(some 35), none, .mv (.t 11)⟩, []),
  (⟨(some 36), none, .bin .add (.t 34) (.t 35)⟩, []),
  (⟨(some 37), none, .toInt .u64 (.t 36)⟩, []),
  (⟨(some 38), none, .bin .shr (.t 37) (.c (.int .u64 1))⟩, []),
  (⟨(some 39), none, .toInt .i64 (.t 38)⟩, []),
  (⟨(some 12), none, .mv (.t 39)⟩, [])] (some ([1, 0, 4, 11, 12, 10], []))
abbrev l61r5 : LC := .reg false [(⟨(some 40), none, .mv (.t 4)⟩, []),
  (⟨(some 41), none, .mv (.t 0)⟩, []),
  (⟨(some 42), none, .mv (.t 12)⟩, []),
  (⟨(some 43), none, .iad 1 (.t 41) (.t 42)⟩, []),
  (⟨(some 44), none, .load 1 false (.t 43)⟩, []),
  (⟨(some 45), none, .mv (.t 0)⟩, []),
  (⟨(some 46), none, .mv (.t 1)⟩, []),
  (⟨(some 47), none, .iad 1 (.t 45) (.t 46)⟩, []),
  (⟨(some 48), none, .load 1 false (.t 47)⟩, []),
  (⟨(some 49), none, .callv (.t 40) [(.t 44), (.t 48)]⟩, []),
  (⟨(some 50), none, .bin .lss (.t 49) (.c (.int .i64 0))⟩, [])] (some ([1, 0, 4, 11, 12, 10, 50], []))
abbrev l61r6 : LC := .reg false [(⟨(some 51), none, .mv (.t 12)⟩, []),
  (⟨(some 52), none, .bin .add (.t 51) (.c (.int .i64 1))⟩, []),
  (⟨(some 10), none, .mv (.t 52)⟩, [])] (some ([1, 0, 4, 11, 10], []))
abbrev l61r7 : LC := .reg false [(⟨(some 53), none, .mv (.t 12)⟩, []),
  (⟨(some 11), none, .mv (.t 53)⟩, [])] (some ([1, 0, 4, 11, 10], []))
abbrev l61r8 : LC := (.seq (.seq l61r3 (.cond (.t 33) .skip (.exit 0))) (.block 1 (.seq l61r4 (.seq l61r5 (.cond (.t 50) l61r6 l61r7)))))
abbrev l61r9 : LC := .reg false [(⟨(some 54), none, .mv (.t 1)⟩, []),
  (⟨(some 13), none, .mv (.t 54)⟩, [])] (some ([13, 0, 10], []))
abbrev l61r10 : LC := .reg false [(⟨(some 55), none, .mv (.t 13)⟩, []),
  (⟨(some 56), none, .mv (.t 10)⟩, []),
  (⟨(some 57), none, .bin .sub (.t 56) (.c (.int .i64 1))⟩, []),
  (⟨(some 58), none, .bin .lss (.t 55) (.t 57)⟩, [])] (some ([0, 10, 13, 58], []))
abbrev l61r11 : LC := .reg true [(⟨(some 61), none, .mv (.t 0)⟩, []),
  (⟨(some 62), none, .mv (.t 13)⟩, []),
  (⟨(some 63), none, .mv (.t 0)⟩, []),
  (⟨(some 64), none, .mv (.t 13)⟩, []),
  (⟨(some 65), none, .bin .add (.t 64) (.c (.int .i64 1))⟩, []),
  (⟨(some 66), none, .mv (.t 0)⟩, []),
  (⟨(some 67), none, .mv (.t 13)⟩, []),
  (⟨(some 68), none, .bin .add (.t 67) (.c (.int .i64 1))⟩, []),
  (⟨(some 69), none, .iad 1 (.t 66) (.t 68)⟩, []),
  (⟨(some 70), none, .load 1 false (.t 69)⟩, []),
  (⟨(some 71), none, .mv (.t 0)⟩, []),
  (⟨(some 72), none, .mv (.t 13)⟩, []),
  (⟨(some 73), none, .iad 1 (.t 71) (.t 72)⟩, []),
  (⟨(some 74), none, .load 1 false (.t 73)⟩, []),
  (⟨(some 75), none, .iad 1 (.t 61) (.t 62)⟩, []),
  (⟨none, none, .store 1 (.t 75) (.t 70)⟩, [2, 3, 4]),
  (⟨(some 76), none, .iad 1 (.t 63) (.t 65)⟩, []),
  (⟨none, none, .store 1 (.t 76) (.t 74)⟩, [])] (some ([0, 10, 13], []))
abbrev l61r12 : LC := .reg false [(⟨(some 59), none, .mv (.t 13)⟩, []),
  (⟨(some 60), none, .bin .add (.t 59) (.c (.int .i64 1))⟩, []),
  (⟨(some 13), none, .mv (.t 60)⟩, [])] (some ([13, 0, 10], []))
abbrev l61r13 : LC := (.seq (.seq l61r10 (.cond (.t 58) .skip (.exit 2))) (.seq (.block 3 l61r11) l61r12))
abbrev l61r14 : LC := .reg false [(⟨(some 77), none, .mv (.t 3)⟩, []),
  (⟨(some 78), none, .mv (.t 2)⟩, []),
  (⟨(some 79), none, .bin .sub (.t 77) (.t 78)⟩, []),
  (⟨(some 80), none, .bin .eql (.t 79) (.c (.int .i64 1))⟩, [])] (some ([0, 2, 4, 1, 3, 80], []))
abbrev l61r15 : LC := .reg false [(⟨(some 81), none, .mv (.t 1)⟩, []),
  (⟨(some 14), none, .mv (.t 81)⟩, [])] (some ([0, 2, 4, 14], []))
abbrev l61r16 : LC := .reg false [(⟨(some 82), none, .mv (.t 2)⟩, []),
  (⟨(some 15), none, .mv (.t 82)⟩, [])] (some ([0, 2, 4, 15, 14], []))
abbrev l61r17 : LC := .reg false [(⟨(some 83), none, .mv (.t 14)⟩, []),
  (⟨(some 84), none, .mv (.t 15)⟩, []),
  (⟨(some 85), none, .bin .lss (.t 83) (.t 84)⟩, [])] (some ([0, 2, 4, 15, 14, 85], []))
abbrev l61r18 : LC := .reg false [(⟨(some 86), none, .mv (.t 14)⟩, []),
  (⟨(some 87), none, .mv (.t 15)⟩, []),
  (⟨(some 88), none, .bin .add (.t 86) (.t 87)⟩, []),
  (⟨(some 89), none, .toInt .u64 (.t 88)⟩, []),
  (⟨(some 90), none, .bin .shr (.t 89) (.c (.int .u64 1))⟩, []),
  (⟨(some 91), none, .toInt .i64 (.t 90)⟩, []),
  (⟨(some 16), none, .mv (.t 91)⟩, [])] (some ([0, 2, 4, 15, 16, 14], []))
abbrev l61r19 : LC := .reg false [(⟨(some 92), none, .mv (.t 4)⟩, []),
  (⟨(some 93), none, .mv (.t 0)⟩, []),
  (⟨(some 94), none, .mv (.t 2)⟩, []),
  (⟨(some 95), none, .iad 1 (.t 93) (.t 94)⟩, []),
  (⟨(some 96), none, .load 1 false (.t 95)⟩, []),
  (⟨(some 97), none, .mv (.t 0)⟩, []),
  (⟨(some 98), none, .mv (.t 16)⟩, []),
  (⟨(some 99), none, .iad 1 (.t 97) (.t 98)⟩, []),
  (⟨(some 100), none, .load 1 false (.t 99)⟩, []),
  (⟨(some 101), none, .callv (.t 92) [(.t 96), (.t 100)]⟩, []),
  (⟨(some 102), none, .bin .lss (.t 101) (.c (.int .i64 0))⟩, []),
  (⟨(some 103), none, .un .not (.t 102)⟩, [])] (some ([0, 2, 4, 15, 16, 14, 103], []))
abbrev l61r20 : LC := .reg false [(⟨(some 104), none, .mv (.t 16)⟩, []),
  (⟨(some 105), none, .bin .add (.t 104) (.c (.int .i64 1))⟩, []),
  (⟨(some 14), none, .mv (.t 105)⟩, [])] (some ([0, 2, 4, 15, 14], []))
abbrev l61r21 : LC := .reg false [(⟨(some 106), none, .mv (.t 16)⟩, []),
  (⟨(some 15), none, .mv (.t 106)⟩, [])] (some ([0, 2, 4, 15, 14], []))
abbrev l61r22 : LC := (.seq (.seq l61r17 (.cond (.t 85) .skip (.exit 4))) (.block 5 (.seq l61r18 (.seq l61r19 (.cond (.t 103) l61r20 l61r21)))))
abbrev l61r23 : LC := .reg false [(⟨(some 107), none, .mv (.t 2)⟩, []),
  (⟨(some 17), none, .mv (.t 107)⟩, [])] (some ([17, 0, 14], []))
abbrev l61r24 : LC := .reg false [(⟨(some 108), none, .mv (.t 17)⟩, []),
  (⟨(some 109), none, .mv (.t 14)⟩, []),
  (⟨(some 110), none, .bin .gtr (.t 108) (.t 109)⟩, [])] (some ([0, 14, 17, 110], []))
abbrev l61r25 : LC := .reg true [(⟨(some 113), none, .mv (.t 0)⟩, []),
  (⟨(some 114), none, .mv (.t 17)⟩, []),
  (⟨(some 115), none, .mv (.t 0)⟩, []),
  (⟨(some 116), none, .mv (.t 17)⟩, []),
  (⟨(some 117), none, .bin .sub (.t 116) (.c (.int .i64 1))⟩, []),
  (⟨(some 118), none, .mv (.t 0)⟩, []),
  (⟨(some 119), none, .mv (.t 17)⟩, []),
  (⟨(some 120), none, .bin .sub (.t 119) (.c (.int .i64 1))⟩, []),
  (⟨(some 121), none, .iad 1 (.t 118) (.t 120)⟩, []),
  (⟨(some 122), none, .load 1 false (.t 121)⟩, []),
  (⟨(some 123), none, .mv (.t 0)⟩, []),
  (⟨(some 124), none, .mv (.t 17)⟩, []),
  (⟨(some 125), none, .iad 1 (.t 123) (.t 124)⟩, []),
  (⟨(some 126), none, .load 1 false (.t 125)⟩, []),
  (⟨(some 127), none, .iad 1 (.t 113) (.t 114)⟩, []),
  (⟨none, none, .store 1 (.t 127) (.t 122)⟩, [2, 3, 4]),
  (⟨(some 128), none, .iad 1 (.t 115) (.t 117)⟩, []),
  (⟨none, none, .store 1 (.t 128) (.t 126)⟩, [])] (some ([0, 14, 17], []))
abbrev l61r26 : LC := .reg false [(⟨(some 111), none, .mv (.t 17)⟩, []),
  (⟨(some 112), none, .bin .sub (.t 111) (.c (.int .i64 1))⟩, []),
  (⟨(some 17), none, .mv (.t 112)⟩, [])] (some ([17, 0, 14], []))
abbrev l61r27 : LC := (.seq (.seq l61r24 (.cond (.t 110) .skip (.exit 6))) (.seq (.block 7 l61r25) l61r26))
abbrev l61r28 : LC := .reg false [(⟨(some 129), none, .mv (.t 1)⟩, []),
  (⟨(some 130), none, .mv (.t 3)⟩, []),
  (⟨(some 131), none, .bin .add (.t 129) (.t 130)⟩, []),
  (⟨(some 132), none, .toInt .u64 (.t 131)⟩, []),
  (⟨(some 133), none, .bin .shr (.t 132) (.c (.int .u64 1))⟩, []),
  (⟨(some 134), none, .toInt .i64 (.t 133)⟩, []),
  (⟨(some 18), none, .mv (.t 134)⟩, [])] (some ([0, 4, 3, 18, 1, 2], []))
abbrev l61r29 : LC := .reg false [(⟨(some 135), none, .mv (.t 18)⟩, []),
  (⟨(some 136), none, .mv (.t 2)⟩, []),
  (⟨(some 137), none, .bin .add (.t 135) (.t 136)⟩, []),
  (⟨(some 19), none, .mv (.t 137)⟩, [])] (some ([0, 4, 3, 18, 1, 2, 19], []))
abbrev l61r30 : LC := .reg false [(⟨(some 20), none, .mv (.c (.int .i64 0))⟩, []),
  (⟨(some 21), none, .mv (.c (.int .i64 0))⟩, [])] (some ([0, 4, 3, 18, 1, 2, 19], []))
abbrev l61r31 : LC := .reg false [(⟨(some 138), none, .mv (.t 2)⟩, []),
  (⟨(some 139), none, .mv (.t 18)⟩, []),
  (⟨(some 140), none, .bin .gtr (.t 138) (.t 139)⟩, [])] (some ([0, 4, 3, 18, 1, 2, 19, 140], []))
abbrev l61r32 : LC := .reg false [(⟨(some 141), none, .mv (.t 19)⟩, []),
  (⟨(some 142), none, .mv (.t 3)⟩, []),
  (⟨(some 143), none, .bin .sub (.t 141) (.t 142)⟩, []),
  (⟨(some 20), none, .mv (.t 143)⟩, [])] (some ([0, 4, 20, 3, 18, 1, 2, 19], []))
abbrev l61r33 : LC := .reg false [(⟨(some 144), none, .mv (.t 18)⟩, []),
  (⟨(some 21), none, .mv (.t 144)⟩, [])] (some ([0, 4, 21, 20, 3, 18, 1, 2, 19], []))
abbrev l61r34 : LC := .reg false [(⟨(some 145), none, .mv (.t 1)⟩, []),
  (⟨(some 20), none, .mv (.t 145)⟩, [])] (some ([0, 4, 20, 3, 18, 1, 2, 19], []))
abbrev l61r35 : LC := .reg false [(⟨(some 146), none, .mv (.t 2)⟩, []),
  (⟨(some 21), none, .mv (.t 146)⟩, [])] (some ([0, 4, 21, 20, 3, 18, 1, 2, 19], []))
abbrev l61r36 : LC := .reg false [(⟨(some 147), none, .mv (.t 19)⟩, []),
  (⟨(some 148), none, .bin .sub (.t 147) (.c (.int .i64 1))⟩, []),
  (⟨(some 22), none, .mv (.t 148)⟩, [])] (some ([0, 22, 4, 21, 20, 3, 18, 1, 2, 19], []))
abbrev l61r37 : LC := .reg false [(⟨(some 149), none, .mv (.t 20)⟩, []),
  (⟨(some 150), none, .mv (.t 21)⟩, []),
  (⟨(some 151), none, .bin .lss (.t 149) (.t 150)⟩, [])] (some ([0, 22, 4, 21, 3, 18, 1, 2, 19, 20, 151], []))
abbrev l61r38 : LC := .reg false [(⟨(some 152), none, .mv (.t 20)⟩, []),
  (⟨(some 153), none, .mv (.t 21)⟩, []),
  (⟨(some 154), none, .bin .add (.t 152) (.t 153)⟩, []),
  (⟨(some 155), none, .toInt .u64 (.t 154)⟩, []),
  (⟨(some 156), none, .bin .shr (.t 155) (.c (.int .u64 1))⟩, []),
  (⟨(some 157), none, .toInt .i64 (.t 156)⟩, []),
  (⟨(some 23), none, .mv (.t 157)⟩, [])] (some ([0, 22, 4, 21, 3, 18, 1, 2, 19, 23, 20], []))
abbrev l61r39 : LC := .reg false [(⟨(some 158), none, .mv (.t 4)⟩, []),
  (⟨(some 159), none, .mv (.t 0)⟩, []),
  (⟨(some 160), none, .mv (.t 22)⟩, []),
  (⟨(some 161), none, .mv (.t 23)⟩, []),
  (⟨(some 162), none, .bin .sub (.t 160) (.t 161)⟩, []),
  (⟨(some 163), none, .iad 1 (.t 159) (.t 162)⟩, []),
  (⟨(some 164), none, .load 1 false (.t 163)⟩, []),
  (⟨(some 165), none, .mv (.t 0)⟩, []),
  (⟨(some 166), none, .mv (.t 23)⟩, []),
  (⟨(some 167), none, .iad 1 (.t 165) (.t 166)⟩, []),
  (⟨(some 168), none, .load 1 false (.t 167)⟩, []),
  (⟨(some 169), none, .callv (.t 158) [(.t 164), (.t 168)]⟩, []),
  (⟨(some 170), none, .bin .lss (.t 169) (.c (.int .i64 0))⟩, []),
  (⟨(some 171), none, .un .not (.t 170)⟩, [])] (some ([0, 22, 4, 21, 3, 18, 1, 2, 19, 23, 20, 171], []))
abbrev l61r40 : LC := .reg false [(⟨(some 172), none, .mv (.t 23)⟩, []),
  (⟨(some 173), none, .bin .add (.t 172) (.c (.int .i64 1))⟩, []),
  (⟨(some 20), none, .mv (.t 173)⟩, [])] (some ([0, 22, 4, 21, 20, 3, 18, 1, 2, 19], []))
abbrev l61r41 : LC := .reg false [(⟨(some 174), none, .mv (.t 23)⟩, []),
  (⟨(some 21), none, .mv (.t 174)⟩, [])] (some ([0, 22, 4, 21, 20, 3, 18, 1, 2, 19], []))
abbrev l61r42 : LC := (.seq (.seq l61r37 (.cond (.t 151) .skip (.exit 8))) (.block 9 (.seq l61r38 (.seq l61r39 (.cond (.t 171) l61r40 l61r41)))))
abbrev l61r43 : LC := .reg false [(⟨(some 175), none, .mv (.t 19)⟩, []),
  (⟨(some 176), none, .mv (.t 20)⟩, []),
  (⟨(some 177), none, .bin .sub (.t 175) (.t 176)⟩, []),
  (⟨(some 24), none, .mv (.t 177)⟩, [])] (some ([4, 3, 24, 18, 0, 20, 1, 2], []))
abbrev l61r44 : LC := .reg false [(⟨(some 178), none, .mv (.t 20)⟩, []),
  (⟨(some 179), none, .mv (.t 2)⟩, []),
  (⟨(some 180), none, .bin .lss (.t 178) (.t 179)⟩, []),
  (⟨(some 181), none, .mv (.t 180)⟩, []),
  (⟨(some 182), (some (181, true)), .mv (.t 2)⟩, []),
  (⟨(some 183), (some (181, true)), .mv (.t 24)⟩, []),
  (⟨(some 184), (some (181, true)), .bin .lss (.t 182) (.t 183)⟩, []),
  (⟨(some 185), none, .pick (.t 181) (.t 184) (.c (.bool false))⟩, [])] (some ([4, 3, 24, 18, 0, 20, 1, 2, 185], []))
abbrev l61r45 : LC := .reg false [(⟨(some 186), none, .mv (.t 0)⟩, []),
  (⟨(some 187), none, .mv (.t 20)⟩, []),
  (⟨(some 188), none, .mv (.t 2)⟩, []),
  (⟨(some 189), none, .mv (.t 24)⟩, []),
  (⟨(some 190), none, .mv (.t 4)⟩, []),
  (⟨(some 191), none, .call 67 [(.t 186), (.t 187), (.t 188), (.t 189), (.t 190)]⟩, [])] (some ([4, 3, 24, 18, 0, 20, 1], []))
abbrev l61r46 : LC := .reg false [(⟨(some 192), none, .mv (.t 1)⟩, []),
  (⟨(some 193), none, .mv (.t 20)⟩, []),
  (⟨(some 194), none, .bin .lss (.t 192) (.t 193)⟩, []),
  (⟨(some 195), none, .mv (.t 194)⟩, []),
  (⟨(some 196), (some (195, true)), .mv (.t 20)⟩, []),
  (⟨(some 197), (some (195, true)), .mv (.t 18)⟩, []),
  (⟨(some 198), (some (195, true)), .bin .lss (.t 196) (.t 197)⟩, []),
  (⟨(some 199), none, .pick (.t 195) (.t 198) (.c (.bool false))⟩, [])] (some ([4, 3, 24, 18, 0, 20, 1, 199], []))
abbrev l61r47 : LC := .reg false [(⟨(some 200), none, .mv (.t 0)⟩, []),
  (⟨(some 201), none, .mv (.t 1)⟩, []),
  (⟨(some 202), none, .mv (.t 20)⟩, []),
  (⟨(some 203), none, .mv (.t 18)⟩, []),
  (⟨(some 204), none, .mv (.t 4)⟩, []),
  (⟨(some 205), none, .call 61 [(.t 200), (.t 201), (.t 202), (.t 203), (.t 204)]⟩, [])] (some ([4, 3, 24, 18, 0], []))
abbrev l61r48 : LC := .reg false [(⟨(some 206), none, .mv (.t 18)⟩, []),
  (⟨(some 207), none, .mv (.t 24)⟩, []),
  (⟨(some 208), none, .bin .lss (.t 206) (.t 207)⟩, []),
  (⟨(some 209), none, .mv (.t 208)⟩, []),
  (⟨(some 210), (some (209, true)), .mv (.t 24)⟩, []),
  (⟨(some 211), (some (209, true)), .mv (.t 3)⟩, []),
  (⟨(some 212), (some (209, true)), .bin .lss (.t 210) (.t 211)⟩, []),
  (⟨(some 213), none, .pick (.t 209) (.t 212) (.c (.bool false))⟩, [])] (some ([4, 3, 24, 18, 0, 213], []))
abbrev l61r49 : LC := .reg false [(⟨(some 214), none, .mv (.t 0)⟩, []),
  (⟨(some 215), none, .mv (.t 18)⟩, []),
  (⟨(some 216), none, .mv (.t 24)⟩, []),
  (⟨(some 217), none, .mv (.t 3)⟩, []),
  (⟨(some 218), none, .mv (.t 4)⟩, []),
  (⟨(some 219), none, .call 61 [(.t 214), (.t 215), (.t 216), (.t 217), (.t 218)]⟩, [])] (some ([], []))
/-- slices.symMergeCmpFunc[complex128] : 5 parameters, results in [] of 220 slots -/
abbrev l61 : LC := (.seq (.seq l61r0 (.cond (.t 28) (.seq l61r1 (.seq l61r2 (.seq (.block 0 (.loop l61r8)) (.seq (.seq l61r9 (.block 2 (.loop l61r13))) .ret)))) .skip)) (.seq (.seq l61r14 (.cond (.t 80) (.seq l61r15 (.seq l61r16 (.seq (.block 4 (.loop l61r22)) (.seq (.seq l61r23 (.block 6 (.loop l61r27))) .ret)))) .skip)) (.seq l61r28 (.seq l61r29 (.seq l61r30 (.seq (.seq l61r31 (.cond (.t 140) (.seq l61r32 l61r33) (.seq l61r34 l61r35))) (.seq l61r36 (.seq (.block 8 (.loop l61r42)) (.seq l61r43 (.seq (.seq l61r44 (.cond (.t 185) l61r45 .skip)) (.seq (.seq l61r46 (.cond (.t 199) l61r47 .skip)) (.seq l61r48 (.cond (.t 213) l61r49 .skip)))))))))))))
def k61 (i : Nat) : Option Kp := match i with
  | 0 => (some ([1, 0, 4, 3, 2, 28], []))
  | 1 => (some ([1, 0, 4, 10, 3], []))
  | 2 => (some ([1, 0, 4, 11, 10], []))
  | 3 => (some ([1, 0, 4, 11, 10, 33], []))
  | 4 => (some ([1, 0, 4, 11, 12, 10], []))
  | 5 => (some ([1, 0, 4, 11, 12, 10, 50], []))
  | 6 => (some ([1, 0, 4, 11, 10], []))
  | 7 => (some ([1, 0, 4, 11, 10], []))
  | 8 => (some ([13, 0, 10], []))
  | 9 => (some ([0, 10, 13, 58], []))
  | 10 => (some ([13, 0, 10], []))
  | 11 => (some ([0, 10, 13], []))
  | 12 => (some ([0, 2, 4, 1, 3, 80], []))
  | 13 => (some ([0, 2, 4, 14], []))
  | 14 => (some ([0, 2, 4, 15, 14], []))
  | 15 => (some ([0, 2, 4, 15, 14, 85], []))
  | 16 => (some ([0, 2, 4, 15, 16, 14], []))
  | 17 => (some ([0, 2, 4, 15, 16, 14, 103], []))
  | 18 => (some ([0, 2, 4, 15, 14], []))
  | 19 => (some ([0, 2, 4, 15, 14], []))
  | 20 => (some ([17, 0, 14], []))
  | 21 => (some ([0, 14, 17, 110], []))
  | 22 => (some ([17, 0, 14], []))
  | 23 => (some ([0, 14, 17], []))
  | 24 => (some ([0, 4, 3, 18, 1, 2], []))
  | 25 => (some ([0, 4, 3, 18, 1, 2, 19], []))
  | 26 => (some ([0, 4, 3, 18, 1, 2, 19], []))
  | 27 => (some ([0, 4, 3, 18, 1, 2, 19, 140], []))
  | 28 => (some ([0, 4, 20, 3, 18, 1, 2, 19], []))
  | 29 => (some ([0, 4, 21, 20, 3, 18, 1, 2, 19], []))
  | 30 => (some ([0, 4, 20, 3, 18, 1, 2, 19], []))
  | 31 => (some ([0, 4, 21, 20, 3, 18, 1, 2, 19], []))
  | 32 => (some ([0, 22, 4, 21, 20, 3, 18, 1, 2, 19], []))
  | 33 => (some ([0, 22, 4, 21, 3, 18, 1, 2, 19, 20, 151], []))
  | 34 => (some ([0, 22, 4, 21, 3, 18, 1, 2, 19, 23, 20], []))
  | 35 => (some ([0, 22, 4, 21, 3, 18, 1, 2, 19, 23, 20, 171], []))
  | 36 => (some ([0, 22, 4, 21, 20, 3, 18, 1, 2, 19], []))
  | 37 => (some ([0, 22, 4, 21, 20, 3, 18, 1, 2, 19], []))
  | 38 => (some ([4, 3, 24, 18, 0, 20, 1, 2], []))
  | 39 => (some ([4, 3, 24, 18, 0, 20, 1, 2, 185], []))
  | 40 => (some ([4, 3, 24, 18, 0, 20, 1], []))
  | 41 => (some ([4, 3, 24, 18, 0, 20, 1, 199], []))
  | 42 => (some ([4, 3, 24, 18, 0], []))
  | 43 => (some ([4, 3, 24, 18, 0, 213], []))
  | 44 => (some ([], []))
  | _ => none
theorem f61_told : Try.prog.funcs[61]? = some Try.f61 := by kernel_rfl
theorem f61_results : resTmps Try.f61 = some [] := by kernel_rfl
theorem f61_text : (Try.f61.body.bind (trC Try.prog 220 k61 1000)) = some l61 := by kernel_rfl

abbrev l67r0 : LC := .reg false [(⟨(some 12), none, .mv (.t 2)⟩, []),
  (⟨(some 13), none, .mv (.t 1)⟩, []),
  (⟨(some 14), none, .bin .sub (.t 12) (.t 13)⟩, []),
  (⟨(some 10), none, .mv (.t 14)⟩, [])] (some ([10, 4, 2, 0, 3], []))
abbrev l67r1 : LC := .reg false [(⟨(some 15), none, .mv (.t 3)⟩, []),
  (⟨(some 16), none, .mv (.t 2)⟩, []),
  (⟨(some 17), none, .bin .sub (.t 15) (.t 16)⟩, []),
  (⟨(some 11), none, .mv (.t 17)⟩, [])] (some ([11, 10, 4, 2, 0], []))
abbrev l67r2 : LC := .reg false [(⟨(some 18), none, .mv (.t 10)⟩, []),
  (⟨(some 19), none, .mv (.t 11)⟩, []),
  (⟨(some 20), none, .bin .neq (.t 18) (.t 19)⟩, [])] (some ([11, 4, 2, 0, 10, 20], []))
abbrev l67r3 : LC := .reg false [(⟨(some 21), none, .mv (.t 10)⟩, []),
  (⟨(some 22), none, .mv (.t 11)⟩, []),
  (⟨(some 23), none, .bin .gtr (.t 21) (.t 22)⟩, [])] (some ([11, 4, 2, 0, 10, 23], []))
abbrev l67r4 : LC := .reg false [(⟨(some 24), none, .mv (.t 0)⟩, []),
  (⟨(some 25), none, .mv (.t 2)⟩, []),
  (⟨(some 26), none, .mv (.t 10)⟩, []),
  (⟨(some 27), none, .bin .sub (.t 25) (.t 26)⟩, []),
  (⟨(some 28), none, .mv (.t 2)⟩, []),
  (⟨(some 29), none, .mv (.t 11)⟩, []),
  (⟨(some 30), none, .mv (.t 4)⟩, []),
  (⟨(some 31), none, .call 70 [(.t 24), (.t 27), (.t 28), (.t 29), (.t 30)]⟩, [])] (some ([11, 4, 2, 0, 10], []))
abbrev l67r5 : LC := .reg false [(⟨(some 32), none, .mv (.t 10)⟩, []),
  (⟨(some 33), none, .mv (.t 11)⟩, []),
  (⟨(some 34), none, .bin .sub (.t 32) (.t 33)⟩, []),
  (⟨(some 10), none, .mv (.t 34)⟩, [])] (some ([11, 10, 4, 2, 0], []))
abbrev l67r6 : LC := .reg false [(⟨(some 35), none, .mv (.t 0)⟩, []),
  (⟨(some 36), none, .mv (.t 2)⟩, []),
  (⟨(some 37), none, .mv (.t 10)⟩, []),
  (⟨(some 38), none, .bin .sub (.t 36) (.t 37)⟩, []),
  (⟨(some 39), none, .mv (.t 2)⟩, []),
  (⟨(some 40), none, .mv (.t 11)⟩, []),
  (⟨(some 41), none, .bin .add (.t 39) (.t 40)⟩, []),
  (⟨(some 42), none, .mv (.t 10)⟩, []),
  (⟨(some 43), none, .bin .sub (.t 41) (.t 42)⟩, []),
  (⟨(some 44), none, .mv (.t 10)⟩, []),
  (⟨(some 45), none, .mv (.t 4)⟩, []),
  (⟨(some 46), none, .call 70 [(.t 35), (.t 38), (.t 43), (.t 44), (.t 45)]⟩, [])] (some ([10, 4, 2, 0, 11], []))
abbrev l67r7 : LC := .reg false [(⟨(some 47), none, .mv (.t 11)⟩, []),
  (⟨(some 48), none, .mv (.t 10)⟩, []),
  (⟨(some 49), none, .bin .sub (.t 47) (.t 48)⟩, []),
  (⟨(some 11), none, .mv (.t 49)⟩, [])] (some ([11, 10, 4, 2, 0], []))
abbrev l67r8 : LC := (.seq (.seq l67r2 (.cond (.t 20) .skip (.exit 0))) (.block 1 (.seq l67r3 (.cond (.t 23) (.seq l67r4 l67r5) (.seq l67r6 l67r7)))))
abbrev l67r9 : LC := .reg false [(⟨(some 50), none, .mv (.t 0)⟩, []),
  (⟨(some 51), none, .mv (.t 2)⟩, []),
  (⟨(some 52), none, .mv (.t 10)⟩, []),
  (⟨(some 53), none, .bin .sub (.t 51) (.t 52)⟩, []),
  (⟨(some 54), none, .mv (.t 2)⟩, []),
  (⟨(some 55), none, .mv (.t 10)⟩, []),
  (⟨(some 56), none, .mv (.t 4)⟩, []),
  (⟨(some 57), none, .call 70 [(.t 50), (.t 53), (.t 54), (.t 55), (.t 56)]⟩, [])] (some ([], []))
/-- slices.rotateCmpFunc[complex128] : 5 parameters, results in [] of 58 slots -/
abbrev l67 : LC := (.seq l67r0 (.seq l67r1 (.seq (.block 0 (.loop l67r8)) l67r9)))
def k67 (i : Nat) : Option Kp := match i with
  | 0 => (some ([10, 4, 2, 0, 3], []))
  | 1 => (some ([11, 10, 4, 2, 0], []))
  | 2 => (some ([11, 4, 2, 0, 10, 20], []))
  | 3 => (some ([11, 4, 2, 0, 10, 23], []))
  | 4 => (some ([11, 4, 2, 0, 10], []))
  | 5 => (some ([11, 10, 4, 2, 0], []))
  | 6 => (some ([10, 4, 2, 0, 11], []))
  | 7 => (some ([11, 10, 4, 2, 0], []))
  | 8 => (some ([], []))
  | _ => none
theorem f67_told : Try.prog.funcs[67]? = some Try.f67 := by kernel_rfl
theorem f67_results : resTmps Try.f67 = some [] := by kernel_rfl
theorem f67_text : (Try.f67.body.bind (trC Try.prog 58 k67 1000)) = some l67 := by kernel_rfl

abbrev l70r0 : LC := .reg false [(⟨(some 10), none, .mv (.c (.int .i64 0))⟩, [])] (some ([10, 1, 0, 2, 3], []))
abbrev l70r1 : LC := .reg false [(⟨(some 11), none, .mv (.t 10)⟩, []),
  (⟨(some 12), none, .mv (.t 3)⟩, []),
  (⟨(some 13), none, .bin .lss (.t 11) (.t 12)⟩, [])] (some ([1, 0, 2, 3, 10, 13], []))
abbrev l70r2 : LC := .reg true [(⟨(some 16), none, .mv (.t 0)⟩, []),
  (⟨(some 17), none, .mv (.t 1)⟩, []),
  (⟨(some 18), none, .mv (.t 10)⟩, []),
  (⟨(some 19), none, .bin .add (.t 17) (.t 18)⟩, []),
  (⟨(some 20), none, .mv (.t 0)⟩, []),
  (⟨(some 21), none, .mv (.t 2)⟩, []),
  (⟨(some 22), none, .mv (.t 10)⟩, []),
  (⟨(some 23), none, .bin .add (.t 21) (.t 22)⟩, []),
  (⟨(some 24), none, .mv (.t 0)⟩, []),
  (⟨(some 25), none, .mv (.t 2)⟩, []),
  (⟨(some 26), none, .mv (.t 10)⟩, []),
  (⟨(some 27), none, .bin .add (.t 25) (.t 26)⟩, []),
  (⟨(some 28), none, .iad 1 (.t 24) (.t 27)⟩, []),
  (⟨(some 29), none, .load 1 false (.t 28)⟩, []),
  (⟨(some 30), none, .mv (.t 0)⟩, []),
  (⟨(some 31), none, .mv (.t 1)⟩, []),
  (⟨(some 32), none, .mv (.t 10)⟩, []),
  (⟨(some 33), none, .bin .add (.t 31) (.t 32)⟩, []),
  (⟨(some 34), none, .iad 1 (.t 30) (.t 33)⟩, []),
  (⟨(some 35), none, .load 1 false (.t 34)⟩, []),
  (⟨(some 36), none, .iad 1 (.t 16) (.t 19)⟩, []),
  (⟨none, none, .store 1 (.t 36) (.t 29)⟩, [4, 5, 6, 7]),
  (⟨(some 37), none, .iad 1 (.t 20) (.t 23)⟩, []),
  (⟨none, none, .store 1 (.t 37) (.t 35)⟩, [])] (some ([1, 0, 2, 3, 10], []))
abbrev l70r3 : LC := .reg false [(⟨(some 14), none, .mv (.t 10)⟩, []),
  (⟨(some 15), none, .bin .add (.t 14) (.c (.int .i64 1))⟩, []),
  (⟨(some 10), none, .mv (.t 15)⟩, [])] (some ([10, 1, 0, 2, 3], []))
abbrev l70r4 : LC := (.seq (.seq l70r1 (.cond (.t 13) .skip (.exit 0))) (.seq (.block 1 l70r2) l70r3))
/-- slices.swapRangeCmpFunc[complex128] : 5 parameters, results in [] of 38 slots -/
abbrev l70 : LC := (.seq l70r0 (.block 0 (.loop l70r4)))
def k70 (i : Nat) : Option Kp := match i with
  | 0 => (some ([10, 1, 0, 2, 3], []))
  | 1 => (some ([1, 0, 2, 3, 10, 13], []))
  | 2 => (some ([10, 1, 0, 2, 3], []))
  | 3 => (some ([1, 0, 2, 3, 10], []))
  | _ => none
theorem f70_told : Try.prog.funcs[70]? = some Try.f70 := by kernel_rfl
theorem f70_results : resTmps Try.f70 = some [] := by kernel_rfl
theorem f70_text : (Try.f70.body.bind (trC Try.prog 38 k70 1000)) = some l70 := by kernel_rfl

end Go.Proofs.Ex
