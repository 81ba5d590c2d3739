/- The functions of the seat, as the abstract machine has them: printed by gen.py from Lean's print of the program. -/
import Derived.Test.YtpbaaidmgfbdbaaAM11
set_option linter.unusedVariables false
namespace Go.AM.Fn
open Go.AM

/-! function 3: "woggle/wogglelaw10.QueueSame" -/
def r3_0 : List AOper := [
  ⟨some 3, none, .a (.box (.tmp 0)), []⟩,
  ⟨some 6, none, .p (.mov (.const (.bool false))), []⟩]
def r3_1 : List AOper := [
  ⟨some 27, none, .p (.aaddr 2 1 (.tmp 3) (.const (.int .i64 0))), []⟩,
  ⟨some 28, none, .l 1 false (.tmp 27), []⟩,
  ⟨some 29, none, .p (.conv .i64 (.tmp 28)), []⟩,
  ⟨some 30, none, .p (.bin .rem (.tmp 29) (.const (.int .i64 4))), []⟩,
  ⟨some 31, none, .p (.bin .add (.tmp 30) (.const (.int .i64 1))), []⟩,
  ⟨some 32, none, .a (.bslice (made [.int .i64 0] 0) 0 []), []⟩,
  ⟨some 7, none, .p (.mov (.tmp 31)), []⟩,
  ⟨some 8, none, .p (.mov (.tmp 32)), []⟩]
def r3_2 : List AOper := [
  ⟨some 9, none, .p (.mov (.const (.int .i64 0))), []⟩]
def r3_3 : List AOper := [
  ⟨some 33, none, .p (.mov (.tmp 9)), []⟩,
  ⟨some 34, none, .p (.mov (.tmp 1)), []⟩,
  ⟨some 35, none, .p (.len (.tmp 34)), []⟩,
  ⟨some 36, none, .p (.bin .lss (.tmp 33) (.tmp 35)), []⟩,
  ⟨some 37, none, .p (.mov (.tmp 36)), []⟩,
  ⟨some 38, some (37, true), .p (.mov (.tmp 9)), []⟩,
  ⟨some 39, some (37, true), .p (.bin .lss (.tmp 38) (.const (.int .i64 200))), []⟩,
  ⟨some 40, none, .p (.pick (.tmp 37) (.tmp 39) (.const (.bool false))), []⟩]
def r3_5 : List AOper := [
  ⟨some 43, none, .p (.mov (.tmp 8)), []⟩,
  ⟨some 44, none, .p (.mov (.tmp 1)), []⟩,
  ⟨some 45, none, .p (.mov (.tmp 9)), []⟩,
  ⟨some 46, none, .p (.iaddr 1 (.tmp 44) (.tmp 45)), []⟩,
  ⟨some 47, none, .l 1 false (.tmp 46), []⟩,
  ⟨some 48, none, .p (.conv .i64 (.tmp 47)), []⟩,
  ⟨some 49, none, .p (.mov (.tmp 7)), []⟩,
  ⟨some 50, none, .p (.bin .rem (.tmp 48) (.tmp 49)), []⟩,
  ⟨some 51, none, .a (.bslice (made [.int .i64 0] 1) 1 [(0, 1, (.tmp 50))]), []⟩,
  ⟨some 52, none, .e (.append 1 8 (.tmp 43) (.tmp 51)), []⟩,
  ⟨some 8, none, .p (.mov (.tmp 52)), []⟩]
def r3_4 : List AOper := [
  ⟨some 41, none, .p (.mov (.tmp 9)), []⟩,
  ⟨some 42, none, .p (.bin .add (.tmp 41) (.const (.int .i64 1))), []⟩,
  ⟨some 9, none, .p (.mov (.tmp 42)), []⟩]
def b3_1 : ACode := .seq (.seq (.region r3_3) (.cond (.tmp 40) (.skip) (.exit 0))) (.seq (.block 1 (.region r3_5)) (.region r3_4))
def r3_6 : List AOper := [
  ⟨some 54, none, .p (.mov (.tmp 7)), []⟩,
  ⟨some 55, none, .p (.mov (.tmp 2)), []⟩,
  ⟨some 56, none, .c (.func 6) [(.tmp 54), (.tmp 55)], []⟩,
  ⟨some 53, none, .p (.mov (.tmp 56)), []⟩,
  ⟨some 57, none, .p (.ext (.tmp 53) 0), []⟩,
  ⟨some 58, none, .p (.ext (.tmp 53) 1), []⟩,
  ⟨some 10, none, .p (.mov (.tmp 57)), []⟩,
  ⟨some 11, none, .p (.mov (.tmp 58)), []⟩]
def r3_7 : List AOper := [
  ⟨some 60, none, .p (.mov (.tmp 7)), []⟩,
  ⟨some 61, none, .p (.mov (.tmp 2)), []⟩,
  ⟨some 62, none, .c (.func 6) [(.tmp 60), (.tmp 61)], []⟩,
  ⟨some 59, none, .p (.mov (.tmp 62)), []⟩,
  ⟨some 63, none, .p (.ext (.tmp 59) 0), []⟩,
  ⟨some 64, none, .p (.ext (.tmp 59) 1), []⟩,
  ⟨some 12, none, .p (.mov (.tmp 63)), []⟩,
  ⟨some 13, none, .p (.mov (.tmp 64)), []⟩]
def r3_8 : List AOper := [
  ⟨some 65, none, .p (.mov (.tmp 10)), []⟩,
  ⟨some 66, none, .p (.eqv false .ptr (.tmp 65) (.const (.pointer none))), []⟩,
  ⟨some 67, none, .p (.mov (.tmp 66)), []⟩,
  ⟨some 68, some (67, false), .p (.mov (.tmp 11)), []⟩,
  ⟨some 69, some (67, false), .p (.bin .neq (.tmp 68) (.const (.int .i64 0))), []⟩,
  ⟨some 70, none, .p (.pick (.tmp 67) (.const (.bool true)) (.tmp 69)), []⟩,
  ⟨some 71, none, .p (.mov (.tmp 70)), []⟩,
  ⟨some 72, some (71, false), .p (.mov (.tmp 12)), []⟩,
  ⟨some 73, some (71, false), .p (.eqv false .ptr (.tmp 72) (.const (.pointer none))), []⟩,
  ⟨some 74, none, .p (.pick (.tmp 71) (.const (.bool true)) (.tmp 73)), []⟩,
  ⟨some 75, none, .p (.mov (.tmp 74)), []⟩,
  ⟨some 76, some (75, false), .p (.mov (.tmp 13)), []⟩,
  ⟨some 77, some (75, false), .p (.bin .neq (.tmp 76) (.const (.int .i64 0))), []⟩,
  ⟨some 78, none, .p (.pick (.tmp 75) (.const (.bool true)) (.tmp 77)), []⟩,
  ⟨some 79, none, .p (.mov (.tmp 78)), []⟩,
  ⟨some 80, some (79, false), .c (.func 7) [], []⟩,
  ⟨some 81, some (79, false), .p (.not (.tmp 80)), []⟩,
  ⟨some 82, none, .p (.pick (.tmp 79) (.const (.bool true)) (.tmp 81)), []⟩]
def r3_9 : List AOper := [
  ⟨some 6, none, .p (.mov (.const (.bool false))), []⟩]
def r3_10 : List AOper := [
  ⟨some 83, none, .p (.aaddr 2 1 (.tmp 3) (.const (.int .i64 1))), []⟩,
  ⟨some 84, none, .l 1 false (.tmp 83), []⟩,
  ⟨some 85, none, .p (.conv .i64 (.tmp 84)), []⟩,
  ⟨some 86, none, .p (.mov (.tmp 8)), []⟩,
  ⟨some 87, none, .p (.len (.tmp 86)), []⟩,
  ⟨some 88, none, .p (.bin .add (.tmp 87) (.const (.int .i64 1))), []⟩,
  ⟨some 89, none, .p (.bin .rem (.tmp 85) (.tmp 88)), []⟩,
  ⟨some 14, none, .p (.mov (.tmp 89)), []⟩]
def r3_11 : List AOper := [
  ⟨some 91, none, .p (.mov (.tmp 10)), []⟩,
  ⟨some 92, none, .p (.mov (.tmp 8)), []⟩,
  ⟨some 93, none, .c (.func 8) [(.tmp 91), (.tmp 92)], []⟩,
  ⟨some 90, none, .p (.mov (.tmp 93)), []⟩,
  ⟨some 94, none, .p (.ext (.tmp 90) 0), []⟩,
  ⟨some 95, none, .p (.ext (.tmp 90) 1), []⟩,
  ⟨some 15, none, .p (.mov (.tmp 94)), []⟩,
  ⟨some 16, none, .p (.mov (.tmp 95)), []⟩]
def r3_12 : List AOper := [
  ⟨some 97, none, .p (.mov (.tmp 12)), []⟩,
  ⟨some 98, none, .p (.mov (.tmp 8)), []⟩,
  ⟨some 99, none, .p (.mov (.tmp 14)), []⟩,
  ⟨some 100, none, .p (.slice 1 (.tmp 98) none (some (.tmp 99)) none), []⟩,
  ⟨some 101, none, .c (.func 8) [(.tmp 97), (.tmp 100)], []⟩,
  ⟨some 96, none, .p (.mov (.tmp 101)), []⟩,
  ⟨some 102, none, .p (.ext (.tmp 96) 0), []⟩,
  ⟨some 103, none, .p (.ext (.tmp 96) 1), []⟩,
  ⟨some 17, none, .p (.mov (.tmp 102)), []⟩,
  ⟨some 18, none, .p (.mov (.tmp 103)), []⟩]
def r3_13 : List AOper := [
  ⟨some 104, none, .p (.mov (.tmp 12)), []⟩,
  ⟨some 105, none, .c (.func 9) [(.tmp 104)], []⟩,
  ⟨some 19, none, .p (.mov (.tmp 105)), []⟩]
def r3_14 : List AOper := [
  ⟨some 106, none, .p (.mov (.tmp 19)), []⟩,
  ⟨some 107, none, .p (.eqv false .ptr (.tmp 106) (.const (.pointer none))), []⟩,
  ⟨some 108, none, .p (.mov (.tmp 107)), []⟩,
  ⟨some 109, some (108, false), .p (.mov (.tmp 16)), []⟩,
  ⟨some 110, some (108, false), .p (.bin .neq (.tmp 109) (.const (.int .i64 0))), []⟩,
  ⟨some 111, none, .p (.pick (.tmp 108) (.const (.bool true)) (.tmp 110)), []⟩,
  ⟨some 112, none, .p (.mov (.tmp 111)), []⟩,
  ⟨some 113, some (112, false), .p (.mov (.tmp 18)), []⟩,
  ⟨some 114, some (112, false), .p (.bin .neq (.tmp 113) (.const (.int .i64 0))), []⟩,
  ⟨some 115, none, .p (.pick (.tmp 112) (.const (.bool true)) (.tmp 114)), []⟩]
def r3_15 : List AOper := [
  ⟨some 6, none, .p (.mov (.const (.bool false))), []⟩]
def r3_16 : List AOper := [
  ⟨some 116, none, .a (.bslice (made [.int .i64 0] 0) 0 []), []⟩,
  ⟨some 20, none, .p (.mov (.tmp 116)), []⟩]
def r3_17 : List AOper := [
  ⟨some 117, none, .p (.mov (.tmp 8)), []⟩,
  ⟨some 118, none, .p (.len (.tmp 117)), []⟩,
  ⟨some 119, none, .p (.bin .sub (.tmp 118) (.const (.int .i64 1))), []⟩,
  ⟨some 21, none, .p (.mov (.tmp 119)), []⟩]
def r3_18 : List AOper := [
  ⟨some 120, none, .p (.mov (.tmp 21)), []⟩,
  ⟨some 121, none, .p (.bin .geq (.tmp 120) (.const (.int .i64 0))), []⟩]
def r3_20 : List AOper := [
  ⟨some 124, none, .p (.mov (.tmp 20)), []⟩,
  ⟨some 125, none, .p (.mov (.tmp 8)), []⟩,
  ⟨some 126, none, .p (.mov (.tmp 21)), []⟩,
  ⟨some 127, none, .p (.iaddr 1 (.tmp 125) (.tmp 126)), []⟩,
  ⟨some 128, none, .l 1 false (.tmp 127), []⟩,
  ⟨some 129, none, .a (.bslice (made [.int .i64 0] 1) 1 [(0, 1, (.tmp 128))]), []⟩,
  ⟨some 130, none, .e (.append 1 8 (.tmp 124) (.tmp 129)), []⟩,
  ⟨some 20, none, .p (.mov (.tmp 130)), []⟩]
def r3_19 : List AOper := [
  ⟨some 122, none, .p (.mov (.tmp 21)), []⟩,
  ⟨some 123, none, .p (.bin .sub (.tmp 122) (.const (.int .i64 1))), []⟩,
  ⟨some 21, none, .p (.mov (.tmp 123)), []⟩]
def b3_2 : ACode := .seq (.seq (.region r3_18) (.cond (.tmp 121) (.skip) (.exit 2))) (.seq (.block 3 (.region r3_20)) (.region r3_19))
def r3_21 : List AOper := [
  ⟨some 132, none, .p (.mov (.tmp 19)), []⟩,
  ⟨some 133, none, .p (.mov (.tmp 20)), []⟩,
  ⟨some 134, none, .c (.func 8) [(.tmp 132), (.tmp 133)], []⟩,
  ⟨some 131, none, .p (.mov (.tmp 134)), []⟩,
  ⟨some 135, none, .p (.ext (.tmp 131) 0), []⟩,
  ⟨some 136, none, .p (.ext (.tmp 131) 1), []⟩,
  ⟨some 22, none, .p (.mov (.tmp 135)), []⟩,
  ⟨some 23, none, .p (.mov (.tmp 136)), []⟩]
def r3_22 : List AOper := [
  ⟨some 137, none, .p (.mov (.tmp 23)), []⟩,
  ⟨some 138, none, .p (.bin .neq (.tmp 137) (.const (.int .i64 0))), []⟩]
def r3_23 : List AOper := [
  ⟨some 6, none, .p (.mov (.const (.bool false))), []⟩]
def r3_24 : List AOper := [
  ⟨some 140, none, .p (.mov (.tmp 12)), []⟩,
  ⟨some 141, none, .p (.mov (.tmp 8)), []⟩,
  ⟨some 142, none, .p (.mov (.tmp 14)), []⟩,
  ⟨some 143, none, .p (.slice 1 (.tmp 141) (some (.tmp 142)) none none), []⟩,
  ⟨some 144, none, .c (.func 8) [(.tmp 140), (.tmp 143)], []⟩,
  ⟨some 139, none, .p (.mov (.tmp 144)), []⟩,
  ⟨some 145, none, .p (.ext (.tmp 139) 0), []⟩,
  ⟨some 146, none, .p (.ext (.tmp 139) 1), []⟩,
  ⟨some 24, none, .p (.mov (.tmp 145)), []⟩,
  ⟨some 25, none, .p (.mov (.tmp 146)), []⟩]
def r3_25 : List AOper := [
  ⟨some 147, none, .p (.mov (.tmp 25)), []⟩,
  ⟨some 148, none, .p (.bin .neq (.tmp 147) (.const (.int .i64 0))), []⟩,
  ⟨some 149, none, .p (.mov (.tmp 148)), []⟩,
  ⟨some 150, some (149, false), .p (.mov (.tmp 15)), []⟩,
  ⟨some 151, some (149, false), .p (.mov (.tmp 17)), []⟩,
  ⟨some 152, some (149, false), .p (.mov (.tmp 24)), []⟩,
  ⟨some 153, some (149, false), .p (.mx (.tmp 151) (.tmp 152)), []⟩,
  ⟨some 154, some (149, false), .p (.bin .neq (.tmp 150) (.tmp 153)), []⟩,
  ⟨some 155, none, .p (.pick (.tmp 149) (.const (.bool true)) (.tmp 154)), []⟩,
  ⟨some 156, none, .p (.mov (.tmp 155)), []⟩,
  ⟨some 157, some (156, false), .p (.mov (.tmp 10)), []⟩,
  ⟨some 158, some (156, false), .c (.func 10) [(.tmp 157)], []⟩,
  ⟨some 159, some (156, false), .p (.mov (.tmp 12)), []⟩,
  ⟨some 160, some (156, false), .c (.func 10) [(.tmp 159)], []⟩,
  ⟨some 161, some (156, false), .p (.bin .neq (.tmp 158) (.tmp 160)), []⟩,
  ⟨some 162, none, .p (.pick (.tmp 156) (.const (.bool true)) (.tmp 161)), []⟩,
  ⟨some 163, none, .p (.mov (.tmp 162)), []⟩,
  ⟨some 164, some (163, false), .p (.mov (.tmp 10)), []⟩,
  ⟨some 165, some (163, false), .c (.func 12) [(.tmp 164)], []⟩,
  ⟨some 166, some (163, false), .p (.mov (.tmp 12)), []⟩,
  ⟨some 167, some (163, false), .c (.func 12) [(.tmp 166)], []⟩,
  ⟨some 168, some (163, false), .c (.func 11) [(.tmp 165), (.tmp 167)], []⟩,
  ⟨some 169, some (163, false), .p (.not (.tmp 168)), []⟩,
  ⟨some 170, none, .p (.pick (.tmp 163) (.const (.bool true)) (.tmp 169)), []⟩]
def r3_26 : List AOper := [
  ⟨some 6, none, .p (.mov (.const (.bool false))), []⟩]
def r3_27 : List AOper := [
  ⟨some 26, none, .p (.mov (.const (.int .i64 0))), []⟩]
def r3_28 : List AOper := [
  ⟨some 171, none, .p (.mov (.tmp 26)), []⟩,
  ⟨some 172, none, .p (.mov (.tmp 7)), []⟩,
  ⟨some 173, none, .p (.bin .lss (.tmp 171) (.tmp 172)), []⟩]
def r3_30 : List AOper := [
  ⟨some 176, none, .p (.mov (.tmp 10)), []⟩,
  ⟨some 177, none, .p (.mov (.tmp 26)), []⟩,
  ⟨some 178, none, .c (.func 13) [(.tmp 176), (.tmp 177)], []⟩,
  ⟨some 179, none, .p (.mov (.tmp 12)), []⟩,
  ⟨some 180, none, .p (.mov (.tmp 26)), []⟩,
  ⟨some 181, none, .c (.func 13) [(.tmp 179), (.tmp 180)], []⟩,
  ⟨some 182, none, .p (.bin .neq (.tmp 178) (.tmp 181)), []⟩,
  ⟨some 183, none, .p (.mov (.tmp 182)), []⟩,
  ⟨some 184, some (183, false), .p (.mov (.tmp 10)), []⟩,
  ⟨some 185, some (183, false), .p (.mov (.tmp 26)), []⟩,
  ⟨some 186, some (183, false), .c (.func 14) [(.tmp 184), (.tmp 185)], []⟩,
  ⟨some 187, some (183, false), .p (.mov (.tmp 12)), []⟩,
  ⟨some 188, some (183, false), .p (.mov (.tmp 26)), []⟩,
  ⟨some 189, some (183, false), .c (.func 14) [(.tmp 187), (.tmp 188)], []⟩,
  ⟨some 190, some (183, false), .p (.bin .neq (.tmp 186) (.tmp 189)), []⟩,
  ⟨some 191, none, .p (.pick (.tmp 183) (.const (.bool true)) (.tmp 190)), []⟩,
  ⟨some 192, none, .p (.mov (.tmp 191)), []⟩,
  ⟨some 193, some (192, false), .p (.mov (.tmp 10)), []⟩,
  ⟨some 194, some (192, false), .p (.mov (.tmp 26)), []⟩,
  ⟨some 195, some (192, false), .c (.func 15) [(.tmp 193), (.tmp 194)], []⟩,
  ⟨some 196, some (192, false), .p (.mov (.tmp 12)), []⟩,
  ⟨some 197, some (192, false), .p (.mov (.tmp 26)), []⟩,
  ⟨some 198, some (192, false), .c (.func 15) [(.tmp 196), (.tmp 197)], []⟩,
  ⟨some 199, some (192, false), .p (.eqv true .bool (.tmp 195) (.tmp 198)), []⟩,
  ⟨some 200, none, .p (.pick (.tmp 192) (.const (.bool true)) (.tmp 199)), []⟩]
def r3_31 : List AOper := [
  ⟨some 6, none, .p (.mov (.const (.bool false))), []⟩]
def r3_29 : List AOper := [
  ⟨some 174, none, .p (.mov (.tmp 26)), []⟩,
  ⟨some 175, none, .p (.bin .add (.tmp 174) (.const (.int .i64 1))), []⟩,
  ⟨some 26, none, .p (.mov (.tmp 175)), []⟩]
def b3_3 : ACode := .seq (.seq (.region r3_28) (.cond (.tmp 173) (.skip) (.exit 4))) (.seq (.block 5 (.seq (.region r3_30) (.cond (.tmp 200) (.seq (.region r3_31) (.ret)) (.skip)))) (.region r3_29))
def r3_32 : List AOper := [
  ⟨some 6, none, .p (.mov (.const (.bool true))), []⟩]
def f3 : AFn := { body := .seq (.region r3_0) (.seq (.region r3_1) (.seq (.seq (.region r3_2) (.block 0 (.loop b3_1))) (.seq (.region r3_6) (.seq (.region r3_7) (.seq (.seq (.region r3_8) (.cond (.tmp 82) (.seq (.region r3_9) (.ret)) (.skip))) (.seq (.region r3_10) (.seq (.region r3_11) (.seq (.region r3_12) (.seq (.region r3_13) (.seq (.seq (.region r3_14) (.cond (.tmp 115) (.seq (.region r3_15) (.ret)) (.skip))) (.seq (.region r3_16) (.seq (.seq (.region r3_17) (.block 2 (.loop b3_2))) (.seq (.seq (.region r3_21) (.seq (.region r3_22) (.cond (.tmp 138) (.seq (.region r3_23) (.ret)) (.skip)))) (.seq (.region r3_24) (.seq (.seq (.region r3_25) (.cond (.tmp 170) (.seq (.region r3_26) (.ret)) (.skip))) (.seq (.seq (.region r3_27) (.block 4 (.loop b3_3))) (.seq (.region r3_32) (.ret)))))))))))))))))), results := [.tmp 6], n := 201 }

/-! function 4: "woggle/wogglelaw10.QueueNobody" -/
def r4_0 : List AOper := [
  ⟨some 4, none, .p (.mov (.const (.bool false))), []⟩]
def r4_1 : List AOper := [
  ⟨some 5, none, .p (.mov (.const (.pointer none))), []⟩]
def r4_2 : List AOper := [
  ⟨some 12, none, .p (.mov (.tmp 5)), []⟩,
  ⟨some 13, none, .p (.build [.slice none 0 0, .bool false, .int .i64 0] []), []⟩,
  ⟨some 14, none, .a (.box (.tmp 13)), []⟩,
  ⟨some 15, none, .a (.bslice (made [.pointer none] 2) 2 [(0, 1, (.tmp 12)), (1, 1, (.tmp 14))]), []⟩,
  ⟨some 16, none, .p (.len (.tmp 15)), []⟩,
  ⟨some 17, none, .p (.mov (.const (.int .i64 0))), []⟩]
def r4_3 : List AOper := [
  ⟨some 18, none, .p (.bin .lss (.tmp 17) (.tmp 16)), []⟩]
def r4_4 : List AOper := [
  ⟨some 19, none, .p (.iaddr 1 (.tmp 15) (.tmp 17)), []⟩,
  ⟨some 20, none, .l 1 false (.tmp 19), []⟩,
  ⟨some 7, none, .p (.mov (.tmp 20)), []⟩]
def r4_5 : List AOper := [
  ⟨some 22, none, .p (.mov (.tmp 7)), []⟩,
  ⟨some 23, none, .p (.mov (.tmp 0)), []⟩,
  ⟨some 24, none, .c (.func 16) [(.tmp 22), (.tmp 23)], []⟩,
  ⟨some 21, none, .p (.mov (.tmp 24)), []⟩,
  ⟨some 25, none, .p (.ext (.tmp 21) 0), []⟩,
  ⟨some 26, none, .p (.ext (.tmp 21) 1), []⟩,
  ⟨some 8, none, .p (.mov (.tmp 25)), []⟩,
  ⟨some 9, none, .p (.mov (.tmp 26)), []⟩]
def r4_6 : List AOper := [
  ⟨some 28, none, .p (.mov (.tmp 7)), []⟩,
  ⟨some 29, none, .p (.mov (.tmp 1)), []⟩,
  ⟨some 30, none, .p (.mov (.tmp 1)), []⟩,
  ⟨some 31, none, .p (.len (.tmp 30)), []⟩,
  ⟨some 32, none, .p (.mn (.tmp 31) (.const (.int .i64 9))), []⟩,
  ⟨some 33, none, .p (.slice 1 (.tmp 29) none (some (.tmp 32)) none), []⟩,
  ⟨some 34, none, .c (.func 8) [(.tmp 28), (.tmp 33)], []⟩,
  ⟨some 27, none, .p (.mov (.tmp 34)), []⟩,
  ⟨some 35, none, .p (.ext (.tmp 27) 0), []⟩,
  ⟨some 36, none, .p (.ext (.tmp 27) 1), []⟩,
  ⟨some 10, none, .p (.mov (.tmp 35)), []⟩,
  ⟨some 11, none, .p (.mov (.tmp 36)), []⟩]
def r4_7 : List AOper := [
  ⟨some 37, none, .p (.mov (.tmp 7)), []⟩,
  ⟨some 38, none, .p (.mov (.tmp 0)), []⟩,
  ⟨some 39, none, .c (.func 17) [(.tmp 37), (.tmp 38)], []⟩,
  ⟨some 40, none, .p (.bin .neq (.tmp 39) (.const (.int .i64 6))), []⟩,
  ⟨some 41, none, .p (.mov (.tmp 40)), []⟩,
  ⟨some 42, some (41, false), .p (.mov (.tmp 8)), []⟩,
  ⟨some 43, none, .p (.pick (.tmp 41) (.const (.bool true)) (.tmp 42)), []⟩,
  ⟨some 44, none, .p (.mov (.tmp 43)), []⟩,
  ⟨some 45, some (44, false), .p (.mov (.tmp 9)), []⟩,
  ⟨some 46, some (44, false), .p (.bin .neq (.tmp 45) (.const (.int .i64 6))), []⟩,
  ⟨some 47, none, .p (.pick (.tmp 44) (.const (.bool true)) (.tmp 46)), []⟩,
  ⟨some 48, none, .p (.mov (.tmp 47)), []⟩,
  ⟨some 49, some (48, false), .p (.mov (.tmp 10)), []⟩,
  ⟨some 50, some (48, false), .p (.bin .neq (.tmp 49) (.const (.int .i64 0))), []⟩,
  ⟨some 51, none, .p (.pick (.tmp 48) (.const (.bool true)) (.tmp 50)), []⟩,
  ⟨some 52, none, .p (.mov (.tmp 51)), []⟩,
  ⟨some 53, some (52, false), .p (.mov (.tmp 11)), []⟩,
  ⟨some 54, some (52, false), .p (.bin .neq (.tmp 53) (.const (.int .i64 6))), []⟩,
  ⟨some 55, none, .p (.pick (.tmp 52) (.const (.bool true)) (.tmp 54)), []⟩,
  ⟨some 56, none, .p (.mov (.tmp 55)), []⟩,
  ⟨some 57, some (56, false), .p (.mov (.tmp 7)), []⟩,
  ⟨some 58, some (56, false), .c (.func 12) [(.tmp 57)], []⟩,
  ⟨some 59, some (56, false), .p (.len (.tmp 58)), []⟩,
  ⟨some 60, some (56, false), .p (.bin .neq (.tmp 59) (.const (.int .i64 0))), []⟩,
  ⟨some 61, none, .p (.pick (.tmp 56) (.const (.bool true)) (.tmp 60)), []⟩,
  ⟨some 62, none, .p (.mov (.tmp 61)), []⟩,
  ⟨some 63, some (62, false), .p (.mov (.tmp 7)), []⟩,
  ⟨some 64, some (62, false), .p (.mov (.tmp 0)), []⟩,
  ⟨some 65, some (62, false), .c (.func 13) [(.tmp 63), (.tmp 64)], []⟩,
  ⟨some 66, some (62, false), .p (.bin .neq (.tmp 65) (.const (.int .i64 (-1)))), []⟩,
  ⟨some 67, none, .p (.pick (.tmp 62) (.const (.bool true)) (.tmp 66)), []⟩,
  ⟨some 68, none, .p (.mov (.tmp 67)), []⟩,
  ⟨some 69, some (68, false), .p (.mov (.tmp 7)), []⟩,
  ⟨some 70, some (68, false), .p (.mov (.tmp 0)), []⟩,
  ⟨some 71, some (68, false), .c (.func 14) [(.tmp 69), (.tmp 70)], []⟩,
  ⟨some 72, some (68, false), .p (.bin .neq (.tmp 71) (.const (.int .i64 (-1)))), []⟩,
  ⟨some 73, none, .p (.pick (.tmp 68) (.const (.bool true)) (.tmp 72)), []⟩,
  ⟨some 74, none, .p (.mov (.tmp 73)), []⟩,
  ⟨some 75, some (74, false), .p (.mov (.tmp 7)), []⟩,
  ⟨some 76, some (74, false), .p (.mov (.tmp 0)), []⟩,
  ⟨some 77, some (74, false), .c (.func 15) [(.tmp 75), (.tmp 76)], []⟩,
  ⟨some 78, none, .p (.pick (.tmp 74) (.const (.bool true)) (.tmp 77)), []⟩,
  ⟨some 79, none, .p (.mov (.tmp 78)), []⟩,
  ⟨some 80, some (79, false), .p (.mov (.tmp 7)), []⟩,
  ⟨some 81, some (79, false), .c (.func 10) [(.tmp 80)], []⟩,
  ⟨some 82, some (79, false), .p (.bin .neq (.tmp 81) (.const (.int .i64 0))), []⟩,
  ⟨some 83, none, .p (.pick (.tmp 79) (.const (.bool true)) (.tmp 82)), []⟩,
  ⟨some 84, none, .p (.mov (.tmp 83)), []⟩,
  ⟨some 85, some (84, false), .p (.mov (.tmp 7)), []⟩,
  ⟨some 86, some (84, false), .c (.func 9) [(.tmp 85)], []⟩,
  ⟨some 87, some (84, false), .p (.eqv true .ptr (.tmp 86) (.const (.pointer none))), []⟩,
  ⟨some 88, none, .p (.pick (.tmp 84) (.const (.bool true)) (.tmp 87)), []⟩]
def r4_8 : List AOper := [
  ⟨some 4, none, .p (.mov (.const (.bool false))), []⟩]
def r4_9 : List AOper := [
  ⟨some 89, none, .p (.bin .add (.tmp 17) (.const (.int .i64 1))), []⟩,
  ⟨some 17, none, .p (.mov (.tmp 89)), []⟩]
def b4_1 : ACode := .seq (.region r4_3) (.seq (.cond (.tmp 18) (.skip) (.exit 0)) (.seq (.block 1 (.seq (.region r4_4) (.seq (.region r4_5) (.seq (.region r4_6) (.seq (.region r4_7) (.cond (.tmp 88) (.seq (.region r4_8) (.ret)) (.skip))))))) (.region r4_9)))
def r4_10 : List AOper := [
  ⟨some 90, none, .c (.func 7) [], []⟩,
  ⟨some 4, none, .p (.mov (.tmp 90)), []⟩]
def f4 : AFn := { body := .seq (.region r4_0) (.seq (.region r4_1) (.seq (.seq (.region r4_2) (.block 0 (.loop b4_1))) (.seq (.region r4_10) (.ret)))), results := [.tmp 4], n := 91 }

/-! function 5: "woggle/wogglelaw10.QueueClashes" -/
def r5_0 : List AOper := [
  ⟨some 2, none, .p (.mov (.const (.bool false))), []⟩]
def r5_1 : List AOper := [
  ⟨some 14, none, .p (.mov (.tmp 0)), []⟩,
  ⟨some 15, none, .c (.func 18) [(.tmp 14)], []⟩,
  ⟨some 13, none, .p (.mov (.tmp 15)), []⟩,
  ⟨some 16, none, .p (.ext (.tmp 13) 0), []⟩,
  ⟨some 17, none, .p (.ext (.tmp 13) 1), []⟩,
  ⟨some 3, none, .p (.mov (.tmp 16)), []⟩,
  ⟨some 4, none, .p (.mov (.tmp 17)), []⟩]
def r5_2 : List AOper := [
  ⟨some 18, none, .p (.mov (.tmp 0)), []⟩,
  ⟨some 19, none, .p (.bin .lss (.tmp 18) (.const (.int .i64 2))), []⟩,
  ⟨some 20, none, .p (.mov (.tmp 19)), []⟩,
  ⟨some 21, some (20, false), .p (.mov (.tmp 0)), []⟩,
  ⟨some 22, some (20, false), .p (.bin .gtr (.tmp 21) (.const (.int .i64 4))), []⟩,
  ⟨some 23, none, .p (.pick (.tmp 20) (.const (.bool true)) (.tmp 22)), []⟩]
def r5_3 : List AOper := [
  ⟨some 24, none, .p (.mov (.tmp 3)), []⟩,
  ⟨some 25, none, .p (.len (.tmp 24)), []⟩,
  ⟨some 26, none, .p (.bin .eql (.tmp 25) (.const (.int .i64 0))), []⟩,
  ⟨some 27, none, .p (.mov (.tmp 26)), []⟩,
  ⟨some 28, some (27, true), .p (.mov (.tmp 4)), []⟩,
  ⟨some 29, some (27, true), .p (.bin .eql (.tmp 28) (.const (.int .i64 1))), []⟩,
  ⟨some 30, none, .p (.pick (.tmp 27) (.tmp 29) (.const (.bool false))), []⟩,
  ⟨some 31, none, .p (.mov (.tmp 30)), []⟩,
  ⟨some 32, some (31, true), .c (.func 7) [], []⟩,
  ⟨some 33, none, .p (.pick (.tmp 31) (.tmp 32) (.const (.bool false))), []⟩,
  ⟨some 2, none, .p (.mov (.tmp 33)), []⟩]
def r5_4 : List AOper := [
  ⟨some 34, none, .p (.mov (.tmp 4)), []⟩,
  ⟨some 35, none, .p (.bin .neq (.tmp 34) (.const (.int .i64 0))), []⟩,
  ⟨some 36, none, .p (.mov (.tmp 35)), []⟩,
  ⟨some 37, some (36, false), .p (.mov (.tmp 3)), []⟩,
  ⟨some 38, some (36, false), .p (.len (.tmp 37)), []⟩,
  ⟨some 39, some (36, false), .p (.bin .gtr (.tmp 38) (.const (.int .i64 100))), []⟩,
  ⟨some 40, none, .p (.pick (.tmp 36) (.const (.bool true)) (.tmp 39)), []⟩,
  ⟨some 41, none, .p (.mov (.tmp 40)), []⟩,
  ⟨some 42, some (41, false), .c (.func 7) [], []⟩,
  ⟨some 43, some (41, false), .p (.not (.tmp 42)), []⟩,
  ⟨some 44, none, .p (.pick (.tmp 41) (.const (.bool true)) (.tmp 43)), []⟩]
def r5_5 : List AOper := [
  ⟨some 2, none, .p (.mov (.const (.bool false))), []⟩]
def r5_6 : List AOper := [
  ⟨some 45, none, .p (.mov (.tmp 0)), []⟩,
  ⟨some 46, none, .c (.func 19) [(.tmp 45), (.const (.bool true))], []⟩,
  ⟨some 5, none, .a (.var [.slice none 0 0, .bool false, .int .i64 0]), []⟩,
  ⟨none, none, .e (.store 3 (.tmp 5) (.tmp 46)), []⟩]
def r5_7 : List AOper := [
  ⟨some 6, none, .p (.mov (.const (.int .i64 0))), []⟩]
def r5_8 : List AOper := [
  ⟨some 47, none, .p (.mov (.tmp 6)), []⟩,
  ⟨some 48, none, .p (.mov (.tmp 3)), []⟩,
  ⟨some 49, none, .p (.len (.tmp 48)), []⟩,
  ⟨some 50, none, .p (.bin .lss (.tmp 47) (.tmp 49)), []⟩]
def r5_10 : List AOper := [
  ⟨some 53, none, .l 3 true (.tmp 5), []⟩,
  ⟨some 54, none, .p (.mov (.tmp 3)), []⟩,
  ⟨some 55, none, .p (.mov (.tmp 6)), []⟩,
  ⟨some 56, none, .p (.iaddr 1 (.tmp 54) (.tmp 55)), []⟩,
  ⟨some 57, none, .l 1 false (.tmp 56), []⟩,
  ⟨some 58, none, .c (.func 20) [(.tmp 53), (.tmp 57)], []⟩,
  ⟨some 59, none, .p (.not (.tmp 58)), []⟩]
def r5_11 : List AOper := [
  ⟨some 2, none, .p (.mov (.const (.bool false))), []⟩]
def r5_9 : List AOper := [
  ⟨some 51, none, .p (.mov (.tmp 6)), []⟩,
  ⟨some 52, none, .p (.bin .add (.tmp 51) (.const (.int .i64 1))), []⟩,
  ⟨some 6, none, .p (.mov (.tmp 52)), []⟩]
def b5_1 : ACode := .seq (.seq (.region r5_8) (.cond (.tmp 50) (.skip) (.exit 0))) (.seq (.block 1 (.seq (.region r5_10) (.cond (.tmp 59) (.seq (.region r5_11) (.ret)) (.skip)))) (.region r5_9))
def r5_12 : List AOper := [
  ⟨some 61, none, .l 3 true (.tmp 5), []⟩,
  ⟨some 62, none, .p (.mov (.tmp 3)), []⟩,
  ⟨some 63, none, .c (.func 21) [(.tmp 61), (.tmp 62)], []⟩,
  ⟨some 60, none, .p (.mov (.tmp 63)), []⟩,
  ⟨some 64, none, .p (.ext (.tmp 60) 0), []⟩,
  ⟨some 65, none, .p (.ext (.tmp 60) 1), []⟩,
  ⟨some 7, none, .a (.var [.slice none 0 0, .bool false, .int .i64 0]), []⟩,
  ⟨none, none, .e (.store 3 (.tmp 7) (.tmp 64)), []⟩,
  ⟨some 8, none, .p (.mov (.tmp 65)), []⟩]
def r5_13 : List AOper := [
  ⟨some 67, none, .p (.mov (.tmp 0)), []⟩,
  ⟨some 68, none, .c (.func 6) [(.tmp 67), (.const (.bool true))], []⟩,
  ⟨some 66, none, .p (.mov (.tmp 68)), []⟩,
  ⟨some 69, none, .p (.ext (.tmp 66) 0), []⟩,
  ⟨some 70, none, .p (.ext (.tmp 66) 1), []⟩,
  ⟨some 9, none, .p (.mov (.tmp 69)), []⟩,
  ⟨some 10, none, .p (.mov (.tmp 70)), []⟩]
def r5_14 : List AOper := [
  ⟨some 71, none, .p (.mov (.tmp 9)), []⟩,
  ⟨some 72, none, .p (.eqv false .ptr (.tmp 71) (.const (.pointer none))), []⟩,
  ⟨some 73, none, .p (.mov (.tmp 72)), []⟩,
  ⟨some 74, some (73, false), .p (.mov (.tmp 10)), []⟩,
  ⟨some 75, some (73, false), .p (.bin .neq (.tmp 74) (.const (.int .i64 0))), []⟩,
  ⟨some 76, none, .p (.pick (.tmp 73) (.const (.bool true)) (.tmp 75)), []⟩]
def r5_15 : List AOper := [
  ⟨some 2, none, .p (.mov (.const (.bool false))), []⟩]
def r5_16 : List AOper := [
  ⟨some 78, none, .p (.mov (.tmp 9)), []⟩,
  ⟨some 79, none, .p (.mov (.tmp 3)), []⟩,
  ⟨some 80, none, .c (.func 8) [(.tmp 78), (.tmp 79)], []⟩,
  ⟨some 77, none, .p (.mov (.tmp 80)), []⟩,
  ⟨some 81, none, .p (.ext (.tmp 77) 0), []⟩,
  ⟨some 82, none, .p (.ext (.tmp 77) 1), []⟩,
  ⟨some 11, none, .p (.mov (.tmp 81)), []⟩,
  ⟨some 12, none, .p (.mov (.tmp 82)), []⟩]
def r5_17 : List AOper := [
  ⟨some 83, none, .p (.mov (.tmp 8)), []⟩,
  ⟨some 84, none, .p (.bin .gtr (.tmp 83) (.const (.int .i64 1))), []⟩,
  ⟨some 85, none, .p (.mov (.tmp 84)), []⟩,
  ⟨some 86, some (85, true), .p (.mov (.tmp 11)), []⟩,
  ⟨some 87, some (85, true), .p (.mov (.tmp 8)), []⟩,
  ⟨some 88, some (85, true), .p (.bin .eql (.tmp 86) (.tmp 87)), []⟩,
  ⟨some 89, none, .p (.pick (.tmp 85) (.tmp 88) (.const (.bool false))), []⟩,
  ⟨some 90, none, .p (.mov (.tmp 89)), []⟩,
  ⟨some 91, some (90, true), .p (.mov (.tmp 12)), []⟩,
  ⟨some 92, some (90, true), .p (.bin .eql (.tmp 91) (.const (.int .i64 0))), []⟩,
  ⟨some 93, none, .p (.pick (.tmp 90) (.tmp 92) (.const (.bool false))), []⟩,
  ⟨some 2, none, .p (.mov (.tmp 93)), []⟩]
def f5 : AFn := { body := .seq (.region r5_0) (.seq (.region r5_1) (.seq (.seq (.region r5_2) (.cond (.tmp 23) (.seq (.region r5_3) (.ret)) (.skip))) (.seq (.seq (.region r5_4) (.cond (.tmp 44) (.seq (.region r5_5) (.ret)) (.skip))) (.seq (.region r5_6) (.seq (.seq (.region r5_7) (.block 0 (.loop b5_1))) (.seq (.region r5_12) (.seq (.region r5_13) (.seq (.seq (.region r5_14) (.cond (.tmp 76) (.seq (.region r5_15) (.ret)) (.skip))) (.seq (.region r5_16) (.seq (.region r5_17) (.ret))))))))))), results := [.tmp 2], n := 94 }

/-! function 6: "woggle/queue.New" -/
def r6_0 : List AOper := [
  ⟨some 4, none, .p (.mov (.const (.pointer none))), []⟩,
  ⟨some 5, none, .p (.mov (.const (.int .i64 0))), []⟩]
def r6_1 : List AOper := [
  ⟨some 6, none, .p (.mov (.tmp 0)), []⟩,
  ⟨some 7, none, .p (.bin .lss (.tmp 6) (.const (.int .i64 1))), []⟩,
  ⟨some 8, none, .p (.mov (.tmp 7)), []⟩,
  ⟨some 9, some (8, false), .p (.mov (.tmp 0)), []⟩,
  ⟨some 10, some (8, false), .p (.bin .gtr (.tmp 9) (.const (.int .i64 4))), []⟩,
  ⟨some 11, none, .p (.pick (.tmp 8) (.const (.bool true)) (.tmp 10)), []⟩]
def r6_2 : List AOper := [
  ⟨some 4, none, .p (.mov (.const (.pointer none))), []⟩,
  ⟨some 5, none, .p (.mov (.const (.int .i64 1))), []⟩]
def r6_3 : List AOper := [
  ⟨some 12, none, .p (.build [] []), []⟩,
  ⟨some 13, none, .p (.mkif 61 (.tmp 12)), []⟩,
  ⟨some 14, none, .p (.build [.bool false, .int .i64 0, .nilIface] [(2, 1, (.tmp 13))]), []⟩,
  ⟨some 15, none, .a (.bslice (made [.bool false, .int .i64 0, .nilIface] 3) 1 [(0, 3, (.tmp 14))]), []⟩,
  ⟨some 16, none, .p (.mov (.tmp 0)), []⟩,
  ⟨some 17, none, .c (.func 22) [(.tmp 15), (.tmp 16)], []⟩,
  ⟨some 18, none, .p (.mov (.tmp 1)), []⟩,
  ⟨some 19, none, .p (.build [.slice none 0 0, .bool false, .int .i64 0] [(0, 1, (.tmp 17)), (1, 1, (.tmp 18))]), []⟩,
  ⟨some 20, none, .a (.box (.tmp 19)), []⟩,
  ⟨some 4, none, .p (.mov (.tmp 20)), []⟩,
  ⟨some 5, none, .p (.mov (.const (.int .i64 0))), []⟩]
def f6 : AFn := { body := .seq (.region r6_0) (.seq (.seq (.region r6_1) (.cond (.tmp 11) (.seq (.region r6_2) (.ret)) (.skip))) (.seq (.region r6_3) (.ret))), results := [.tmp 4, .tmp 5], n := 21 }

/-! function 7: "woggle/wogglelaw10.lives" -/
def r7_0 : List AOper := [
  ⟨some 0, none, .p (.mov (.const (.bool false))), []⟩]
def r7_1 : List AOper := [
  ⟨some 10, none, .c (.func 6) [(.const (.int .i64 1)), (.const (.bool false))], []⟩,
  ⟨some 9, none, .p (.mov (.tmp 10)), []⟩,
  ⟨some 11, none, .p (.ext (.tmp 9) 0), []⟩,
  ⟨some 12, none, .p (.ext (.tmp 9) 1), []⟩,
  ⟨some 1, none, .p (.mov (.tmp 11)), []⟩,
  ⟨some 2, none, .p (.mov (.tmp 12)), []⟩]
def r7_2 : List AOper := [
  ⟨some 13, none, .p (.mov (.tmp 1)), []⟩,
  ⟨some 14, none, .p (.eqv false .ptr (.tmp 13) (.const (.pointer none))), []⟩,
  ⟨some 15, none, .p (.mov (.tmp 14)), []⟩,
  ⟨some 16, some (15, false), .p (.mov (.tmp 2)), []⟩,
  ⟨some 17, some (15, false), .p (.bin .neq (.tmp 16) (.const (.int .i64 0))), []⟩,
  ⟨some 18, none, .p (.pick (.tmp 15) (.const (.bool true)) (.tmp 17)), []⟩]
def r7_3 : List AOper := [
  ⟨some 0, none, .p (.mov (.const (.bool false))), []⟩]
def r7_4 : List AOper := [
  ⟨some 20, none, .p (.mov (.tmp 1)), []⟩,
  ⟨some 21, none, .a (.bslice (made [.int .i64 0] 7) 7 [(0, 1, (.const (.int .i64 0))), (1, 1, (.const (.int .i64 0))), (2, 1, (.const (.int .i64 0))), (3, 1, (.const (.int .i64 0))), (4, 1, (.const (.int .i64 0))), (5, 1, (.const (.int .i64 0))), (6, 1, (.const (.int .i64 0)))]), []⟩,
  ⟨some 22, none, .c (.func 8) [(.tmp 20), (.tmp 21)], []⟩,
  ⟨some 19, none, .p (.mov (.tmp 22)), []⟩,
  ⟨some 23, none, .p (.ext (.tmp 19) 0), []⟩,
  ⟨some 24, none, .p (.ext (.tmp 19) 1), []⟩,
  ⟨some 3, none, .p (.mov (.tmp 23)), []⟩,
  ⟨some 4, none, .p (.mov (.tmp 24)), []⟩]
def r7_5 : List AOper := [
  ⟨some 26, none, .c (.func 6) [(.const (.int .i64 2)), (.const (.bool false))], []⟩,
  ⟨some 25, none, .p (.mov (.tmp 26)), []⟩,
  ⟨some 27, none, .p (.ext (.tmp 25) 0), []⟩,
  ⟨some 28, none, .p (.ext (.tmp 25) 1), []⟩,
  ⟨some 5, none, .p (.mov (.tmp 27)), []⟩,
  ⟨some 6, none, .p (.mov (.tmp 28)), []⟩]
def r7_6 : List AOper := [
  ⟨some 29, none, .p (.mov (.tmp 5)), []⟩,
  ⟨some 30, none, .p (.eqv false .ptr (.tmp 29) (.const (.pointer none))), []⟩,
  ⟨some 31, none, .p (.mov (.tmp 30)), []⟩,
  ⟨some 32, some (31, false), .p (.mov (.tmp 6)), []⟩,
  ⟨some 33, some (31, false), .p (.bin .neq (.tmp 32) (.const (.int .i64 0))), []⟩,
  ⟨some 34, none, .p (.pick (.tmp 31) (.const (.bool true)) (.tmp 33)), []⟩]
def r7_7 : List AOper := [
  ⟨some 0, none, .p (.mov (.const (.bool false))), []⟩]
def r7_8 : List AOper := [
  ⟨some 36, none, .p (.mov (.tmp 5)), []⟩,
  ⟨some 37, none, .a (.bslice (made [.int .i64 0] 6) 6 [(0, 1, (.const (.int .i64 0))), (1, 1, (.const (.int .i64 0))), (2, 1, (.const (.int .i64 0))), (3, 1, (.const (.int .i64 0))), (4, 1, (.const (.int .i64 0))), (5, 1, (.const (.int .i64 0)))]), []⟩,
  ⟨some 38, none, .c (.func 8) [(.tmp 36), (.tmp 37)], []⟩,
  ⟨some 35, none, .p (.mov (.tmp 38)), []⟩,
  ⟨some 39, none, .p (.ext (.tmp 35) 0), []⟩,
  ⟨some 40, none, .p (.ext (.tmp 35) 1), []⟩,
  ⟨some 7, none, .p (.mov (.tmp 39)), []⟩,
  ⟨some 8, none, .p (.mov (.tmp 40)), []⟩]
def r7_9 : List AOper := [
  ⟨some 41, none, .p (.mov (.tmp 3)), []⟩,
  ⟨some 42, none, .p (.bin .eql (.tmp 41) (.const (.int .i64 1))), []⟩,
  ⟨some 43, none, .p (.mov (.tmp 42)), []⟩,
  ⟨some 44, some (43, true), .p (.mov (.tmp 4)), []⟩,
  ⟨some 45, some (43, true), .p (.bin .eql (.tmp 44) (.const (.int .i64 0))), []⟩,
  ⟨some 46, none, .p (.pick (.tmp 43) (.tmp 45) (.const (.bool false))), []⟩,
  ⟨some 47, none, .p (.mov (.tmp 46)), []⟩,
  ⟨some 48, some (47, true), .p (.mov (.tmp 1)), []⟩,
  ⟨some 49, some (47, true), .c (.func 12) [(.tmp 48)], []⟩,
  ⟨some 50, some (47, true), .a (.bslice (made [.int .i64 0] 1) 1 [(0, 1, (.const (.int .i64 0)))]), []⟩,
  ⟨some 51, some (47, true), .c (.func 11) [(.tmp 49), (.tmp 50)], []⟩,
  ⟨some 52, none, .p (.pick (.tmp 47) (.tmp 51) (.const (.bool false))), []⟩,
  ⟨some 53, none, .p (.mov (.tmp 52)), []⟩,
  ⟨some 54, some (53, true), .p (.mov (.tmp 1)), []⟩,
  ⟨some 55, some (53, true), .c (.func 10) [(.tmp 54)], []⟩,
  ⟨some 56, some (53, true), .p (.bin .eql (.tmp 55) (.const (.int .i64 1))), []⟩,
  ⟨some 57, none, .p (.pick (.tmp 53) (.tmp 56) (.const (.bool false))), []⟩,
  ⟨some 58, none, .p (.mov (.tmp 57)), []⟩,
  ⟨some 59, some (58, true), .p (.mov (.tmp 7)), []⟩,
  ⟨some 60, some (58, true), .p (.bin .eql (.tmp 59) (.const (.int .i64 0))), []⟩,
  ⟨some 61, none, .p (.pick (.tmp 58) (.tmp 60) (.const (.bool false))), []⟩,
  ⟨some 62, none, .p (.mov (.tmp 61)), []⟩,
  ⟨some 63, some (62, true), .p (.mov (.tmp 8)), []⟩,
  ⟨some 64, some (62, true), .p (.bin .eql (.tmp 63) (.const (.int .i64 0))), []⟩,
  ⟨some 65, none, .p (.pick (.tmp 62) (.tmp 64) (.const (.bool false))), []⟩,
  ⟨some 66, none, .p (.mov (.tmp 65)), []⟩,
  ⟨some 67, some (66, true), .p (.mov (.tmp 5)), []⟩,
  ⟨some 68, some (66, true), .c (.func 13) [(.tmp 67), (.const (.int .i64 0))], []⟩,
  ⟨some 69, some (66, true), .p (.bin .eql (.tmp 68) (.const (.int .i64 5))), []⟩,
  ⟨some 70, none, .p (.pick (.tmp 66) (.tmp 69) (.const (.bool false))), []⟩,
  ⟨some 71, none, .p (.mov (.tmp 70)), []⟩,
  ⟨some 72, some (71, true), .p (.mov (.tmp 5)), []⟩,
  ⟨some 73, some (71, true), .c (.func 14) [(.tmp 72), (.const (.int .i64 0))], []⟩,
  ⟨some 74, some (71, true), .p (.bin .eql (.tmp 73) (.const (.int .i64 1))), []⟩,
  ⟨some 75, none, .p (.pick (.tmp 71) (.tmp 74) (.const (.bool false))), []⟩,
  ⟨some 76, none, .p (.mov (.tmp 75)), []⟩,
  ⟨some 77, some (76, true), .p (.mov (.tmp 5)), []⟩,
  ⟨some 78, some (76, true), .c (.func 17) [(.tmp 77), (.const (.int .i64 0))], []⟩,
  ⟨some 79, some (76, true), .p (.bin .eql (.tmp 78) (.const (.int .i64 7))), []⟩,
  ⟨some 80, none, .p (.pick (.tmp 76) (.tmp 79) (.const (.bool false))), []⟩,
  ⟨some 0, none, .p (.mov (.tmp 80)), []⟩]
def f7 : AFn := { body := .seq (.region r7_0) (.seq (.region r7_1) (.seq (.seq (.region r7_2) (.cond (.tmp 18) (.seq (.region r7_3) (.ret)) (.skip))) (.seq (.region r7_4) (.seq (.region r7_5) (.seq (.seq (.region r7_6) (.cond (.tmp 34) (.seq (.region r7_7) (.ret)) (.skip))) (.seq (.region r7_8) (.seq (.region r7_9) (.ret)))))))), results := [.tmp 0], n := 81 }

/-! function 8: "(*woggle/queue.Shop).Run" -/
def r8_0 : List AOper := [
  ⟨some 2, none, .a (.box (.tmp 0)), []⟩,
  ⟨some 4, none, .p (.mov (.const (.int .i64 0))), []⟩,
  ⟨some 5, none, .p (.mov (.const (.int .i64 0))), []⟩]
def r8_1 : List AOper := [
  ⟨some 10, none, .l 1 false (.tmp 2), []⟩,
  ⟨some 11, none, .c (.func 23) [(.tmp 10)], []⟩,
  ⟨some 12, none, .p (.not (.tmp 11)), []⟩,
  ⟨some 9, none, .p (.mov (.tmp 12)), []⟩]
def r8_2 : List AOper := [
  ⟨some 4, none, .p (.mov (.const (.int .i64 0))), []⟩,
  ⟨some 5, none, .p (.mov (.const (.int .i64 6))), []⟩]
def r8_3 : List AOper := [
  ⟨some 14, none, .p (.mov (.tmp 1)), []⟩,
  ⟨some 15, none, .p (.len (.tmp 14)), []⟩,
  ⟨some 16, none, .p (.bin .gtr (.tmp 15) (.const (.int .i64 4000))), []⟩,
  ⟨some 13, none, .p (.mov (.tmp 16)), []⟩]
def r8_4 : List AOper := [
  ⟨some 4, none, .p (.mov (.const (.int .i64 0))), []⟩,
  ⟨some 5, none, .p (.mov (.const (.int .i64 3))), []⟩]
def r8_5 : List AOper := [
  ⟨some 18, none, .p (.mov (.tmp 1)), []⟩,
  ⟨some 19, none, .p (.mkfn 25 [] [(.tmp 2)]), []⟩,
  ⟨some 20, none, .c (.func 24) [(.tmp 18), (.tmp 19)], []⟩,
  ⟨some 17, none, .p (.mov (.tmp 20)), []⟩]
def r8_6 : List AOper := [
  ⟨some 4, none, .p (.mov (.const (.int .i64 0))), []⟩,
  ⟨some 5, none, .p (.mov (.const (.int .i64 1))), []⟩]
def r8_7 : List AOper := [
  ⟨some 21, none, .l 1 false (.tmp 2), []⟩,
  ⟨some 22, none, .c (.func 12) [(.tmp 21)], []⟩,
  ⟨some 23, none, .p (.len (.tmp 22)), []⟩,
  ⟨some 6, none, .p (.mov (.tmp 23)), []⟩]
def r8_8 : List AOper := [
  ⟨some 24, none, .p (.mov (.tmp 1)), []⟩,
  ⟨some 25, none, .p (.len (.tmp 24)), []⟩,
  ⟨some 26, none, .p (.mov (.const (.int .i64 0))), []⟩]
def r8_9 : List AOper := [
  ⟨some 27, none, .p (.bin .lss (.tmp 26) (.tmp 25)), []⟩]
def r8_10 : List AOper := [
  ⟨some 28, none, .p (.iaddr 1 (.tmp 24) (.tmp 26)), []⟩,
  ⟨some 29, none, .l 1 false (.tmp 28), []⟩,
  ⟨some 8, none, .p (.mov (.tmp 29)), []⟩]
def r8_11 : List AOper := [
  ⟨some 30, none, .l 1 false (.tmp 2), []⟩,
  ⟨some 31, none, .p (.mov (.tmp 8)), []⟩,
  ⟨some 32, none, .c (.func 17) [(.tmp 30), (.tmp 31)], []⟩,
  ⟨some 33, none, .p (.bin .neq (.tmp 32) (.const (.int .i64 0))), []⟩]
def r8_12 : List AOper := [
  ⟨some 34, none, .l 1 false (.tmp 2), []⟩,
  ⟨some 35, none, .p (.mov (.tmp 8)), []⟩,
  ⟨some 36, none, .c (.func 16) [(.tmp 34), (.tmp 35)], []⟩]
def r8_13 : List AOper := [
  ⟨some 37, none, .p (.mov (.tmp 6)), []⟩,
  ⟨some 38, none, .l 1 false (.tmp 2), []⟩,
  ⟨some 39, none, .c (.func 12) [(.tmp 38)], []⟩,
  ⟨some 40, none, .p (.len (.tmp 39)), []⟩,
  ⟨some 41, none, .p (.mx (.tmp 37) (.tmp 40)), []⟩,
  ⟨some 6, none, .p (.mov (.tmp 41)), []⟩]
def r8_14 : List AOper := [
  ⟨some 42, none, .p (.bin .add (.tmp 26) (.const (.int .i64 1))), []⟩,
  ⟨some 26, none, .p (.mov (.tmp 42)), []⟩]
def b8_1 : ACode := .seq (.region r8_9) (.seq (.cond (.tmp 27) (.skip) (.exit 1)) (.seq (.block 2 (.seq (.region r8_10) (.seq (.seq (.region r8_11) (.cond (.tmp 33) (.region r8_12) (.skip))) (.region r8_13)))) (.region r8_14)))
def r8_15 : List AOper := [
  ⟨some 43, none, .p (.mov (.tmp 6)), []⟩,
  ⟨some 4, none, .p (.mov (.tmp 43)), []⟩,
  ⟨some 5, none, .p (.mov (.const (.int .i64 0))), []⟩]
def f8 : AFn := { body := .seq (.region r8_0) (.seq (.block 0 (.seq (.region r8_1) (.cond (.tmp 9) (.seq (.region r8_2) (.ret)) (.seq (.region r8_3) (.cond (.tmp 13) (.seq (.region r8_4) (.ret)) (.seq (.region r8_5) (.cond (.tmp 17) (.seq (.region r8_6) (.ret)) (.skip)))))))) (.seq (.region r8_7) (.seq (.seq (.region r8_8) (.block 1 (.loop b8_1))) (.seq (.region r8_15) (.ret))))), results := [.tmp 4, .tmp 5], n := 44 }

/-! function 9: "(*woggle/queue.Shop).Clone" -/
def r9_0 : List AOper := [
  ⟨some 2, none, .p (.mov (.const (.pointer none))), []⟩]
def r9_1 : List AOper := [
  ⟨some 4, none, .p (.mov (.tmp 0)), []⟩,
  ⟨some 5, none, .c (.func 23) [(.tmp 4)], []⟩,
  ⟨some 6, none, .p (.not (.tmp 5)), []⟩]
def r9_2 : List AOper := [
  ⟨some 2, none, .p (.mov (.const (.pointer none))), []⟩]
def r9_3 : List AOper := [
  ⟨some 7, none, .p (.mov (.tmp 0)), []⟩,
  ⟨some 8, none, .p (.nilc (.tmp 7)), []⟩,
  ⟨some 9, none, .l 3 true (.tmp 8), []⟩,
  ⟨some 3, none, .a (.var [.slice none 0 0, .bool false, .int .i64 0]), []⟩,
  ⟨none, none, .e (.store 3 (.tmp 3) (.tmp 9)), []⟩]
def r9_4 : List AOper := [
  ⟨some 10, none, .p (.mov (.tmp 0)), []⟩,
  ⟨some 11, none, .p (.nilc (.tmp 10)), []⟩,
  ⟨some 12, none, .p (.faddr 0 (.tmp 11)), []⟩,
  ⟨some 13, none, .l 1 false (.tmp 12), []⟩,
  ⟨some 14, none, .c (.func 27) [(.tmp 13)], []⟩,
  ⟨some 15, none, .p (.faddr 0 (.tmp 3)), []⟩,
  ⟨none, none, .e (.store 1 (.tmp 15) (.tmp 14)), []⟩]
def r9_5 : List AOper := [
  ⟨some 2, none, .p (.mov (.tmp 3)), []⟩]
def f9 : AFn := { body := .seq (.region r9_0) (.seq (.seq (.region r9_1) (.cond (.tmp 6) (.seq (.region r9_2) (.ret)) (.skip))) (.seq (.region r9_3) (.seq (.region r9_4) (.seq (.region r9_5) (.ret))))), results := [.tmp 2], n := 16 }

/-! function 10: "(*woggle/queue.Shop).Taken" -/
def r10_0 : List AOper := [
  ⟨some 2, none, .p (.mov (.const (.int .i64 0))), []⟩]
def r10_1 : List AOper := [
  ⟨some 3, none, .p (.mov (.tmp 0)), []⟩,
  ⟨some 4, none, .c (.func 23) [(.tmp 3)], []⟩,
  ⟨some 5, none, .p (.not (.tmp 4)), []⟩]
def r10_2 : List AOper := [
  ⟨some 2, none, .p (.mov (.const (.int .i64 0))), []⟩]
def r10_3 : List AOper := [
  ⟨some 6, none, .p (.mov (.tmp 0)), []⟩,
  ⟨some 7, none, .p (.nilc (.tmp 6)), []⟩,
  ⟨some 8, none, .p (.faddr 2 (.tmp 7)), []⟩,
  ⟨some 9, none, .l 1 false (.tmp 8), []⟩,
  ⟨some 2, none, .p (.mov (.tmp 9)), []⟩]
def f10 : AFn := { body := .seq (.region r10_0) (.seq (.seq (.region r10_1) (.cond (.tmp 5) (.seq (.region r10_2) (.ret)) (.skip))) (.seq (.region r10_3) (.ret))), results := [.tmp 2], n := 10 }

/-! function 11: "woggle/woggleref01.Same" -/
def r11_0 : List AOper := [
  ⟨some 4, none, .p (.mov (.const (.bool false))), []⟩]
def r11_1 : List AOper := [
  ⟨some 5, none, .p (.mov (.tmp 0)), []⟩,
  ⟨some 6, none, .p (.mov (.tmp 1)), []⟩,
  ⟨some 7, none, .c (.func 28) [(.tmp 5), (.tmp 6)], []⟩,
  ⟨some 8, none, .p (.not (.tmp 7)), []⟩,
  ⟨some 9, none, .p (.mov (.tmp 8)), []⟩,
  ⟨some 10, some (9, true), .p (.mov (.tmp 1)), []⟩,
  ⟨some 11, some (9, true), .p (.mov (.tmp 0)), []⟩,
  ⟨some 12, some (9, true), .c (.func 28) [(.tmp 10), (.tmp 11)], []⟩,
  ⟨some 13, some (9, true), .p (.not (.tmp 12)), []⟩,
  ⟨some 14, none, .p (.pick (.tmp 9) (.tmp 13) (.const (.bool false))), []⟩,
  ⟨some 4, none, .p (.mov (.tmp 14)), []⟩]
def f11 : AFn := { body := .seq (.region r11_0) (.seq (.region r11_1) (.ret)), results := [.tmp 4], n := 15 }

/-! function 12: "(*woggle/queue.Shop).Inside" -/
def r12_0 : List AOper := [
  ⟨some 2, none, .p (.mov (.const (.slice none 0 0))), []⟩]
def r12_1 : List AOper := [
  ⟨some 6, none, .p (.mov (.tmp 0)), []⟩,
  ⟨some 7, none, .c (.func 23) [(.tmp 6)], []⟩,
  ⟨some 8, none, .p (.not (.tmp 7)), []⟩]
def r12_2 : List AOper := [
  ⟨some 2, none, .p (.mov (.const (.slice none 0 0))), []⟩]
def r12_3 : List AOper := [
  ⟨some 3, none, .p (.mov (.const (.slice none 0 0))), []⟩]
def r12_4 : List AOper := [
  ⟨some 9, none, .p (.mov (.tmp 0)), []⟩,
  ⟨some 10, none, .p (.nilc (.tmp 9)), []⟩,
  ⟨some 11, none, .p (.faddr 0 (.tmp 10)), []⟩,
  ⟨some 12, none, .l 1 false (.tmp 11), []⟩,
  ⟨some 13, none, .p (.len (.tmp 12)), []⟩,
  ⟨some 14, none, .p (.mov (.const (.int .i64 0))), []⟩]
def r12_5 : List AOper := [
  ⟨some 15, none, .p (.bin .lss (.tmp 14) (.tmp 13)), []⟩]
def r12_6 : List AOper := [
  ⟨some 16, none, .p (.mov (.tmp 14)), []⟩,
  ⟨some 17, none, .p (.iaddr 3 (.tmp 12) (.tmp 14)), []⟩,
  ⟨some 18, none, .l 3 true (.tmp 17), []⟩,
  ⟨some 5, none, .a (.var [.bool false, .int .i64 0, .nilIface]), []⟩,
  ⟨some 4, none, .p (.mov (.tmp 16)), []⟩,
  ⟨none, none, .e (.store 3 (.tmp 5) (.tmp 18)), []⟩]
def r12_7 : List AOper := [
  ⟨some 19, none, .p (.faddr 2 (.tmp 5)), []⟩,
  ⟨some 20, none, .l 1 false (.tmp 19), []⟩,
  ⟨some 21, none, .p (.build [] []), []⟩,
  ⟨some 22, none, .p (.mkif 64 (.tmp 21)), []⟩,
  ⟨some 23, none, .p (.eqi false [60, 61, 64, 66, 71] (.tmp 20) (.tmp 22)), []⟩]
def r12_8 : List AOper := [
  ⟨some 24, none, .p (.mov (.tmp 3)), []⟩,
  ⟨some 25, none, .p (.mov (.tmp 4)), []⟩,
  ⟨some 26, none, .a (.bslice (made [.int .i64 0] 1) 1 [(0, 1, (.tmp 25))]), []⟩,
  ⟨some 27, none, .e (.append 1 8 (.tmp 24) (.tmp 26)), []⟩,
  ⟨some 3, none, .p (.mov (.tmp 27)), []⟩]
def r12_9 : List AOper := [
  ⟨some 28, none, .p (.bin .add (.tmp 14) (.const (.int .i64 1))), []⟩,
  ⟨some 14, none, .p (.mov (.tmp 28)), []⟩]
def b12_1 : ACode := .seq (.region r12_5) (.seq (.cond (.tmp 15) (.skip) (.exit 0)) (.seq (.block 1 (.seq (.region r12_6) (.seq (.region r12_7) (.cond (.tmp 23) (.region r12_8) (.skip))))) (.region r12_9)))
def r12_10 : List AOper := [
  ⟨some 29, none, .p (.mov (.tmp 3)), []⟩,
  ⟨some 2, none, .p (.mov (.tmp 29)), []⟩]
def f12 : AFn := { body := .seq (.region r12_0) (.seq (.seq (.region r12_1) (.cond (.tmp 8) (.seq (.region r12_2) (.ret)) (.skip))) (.seq (.region r12_3) (.seq (.seq (.region r12_4) (.block 0 (.loop b12_1))) (.seq (.region r12_10) (.ret))))), results := [.tmp 2], n := 30 }

/-! function 13: "(*woggle/queue.Shop).Stage" -/
def r13_0 : List AOper := [
  ⟨some 4, none, .p (.mov (.const (.int .i64 0))), []⟩]
def r13_1 : List AOper := [
  ⟨some 5, none, .p (.mov (.tmp 0)), []⟩,
  ⟨some 6, none, .p (.mov (.tmp 1)), []⟩,
  ⟨some 7, none, .c (.func 26) [(.tmp 5), (.tmp 6)], []⟩,
  ⟨some 8, none, .p (.bin .neq (.tmp 7) (.const (.int .i64 0))), []⟩]
def r13_2 : List AOper := [
  ⟨some 4, none, .p (.mov (.const (.int .i64 (-1)))), []⟩]
def r13_3 : List AOper := [
  ⟨some 9, none, .p (.mov (.tmp 0)), []⟩,
  ⟨some 10, none, .p (.nilc (.tmp 9)), []⟩,
  ⟨some 11, none, .p (.faddr 0 (.tmp 10)), []⟩,
  ⟨some 12, none, .l 1 false (.tmp 11), []⟩,
  ⟨some 13, none, .p (.mov (.tmp 1)), []⟩,
  ⟨some 14, none, .p (.iaddr 3 (.tmp 12) (.tmp 13)), []⟩,
  ⟨some 15, none, .p (.faddr 2 (.tmp 14)), []⟩,
  ⟨some 16, none, .l 1 false (.tmp 15), []⟩,
  ⟨some 17, none, .i (.tmp 16) [(61, 53), (64, 54), (66, 55), (68, 56), (70, 57), (71, 58), (73, 59), (74, 60)] [], []⟩,
  ⟨some 4, none, .p (.mov (.tmp 17)), []⟩]
def f13 : AFn := { body := .seq (.region r13_0) (.seq (.seq (.region r13_1) (.cond (.tmp 8) (.seq (.region r13_2) (.ret)) (.skip))) (.seq (.region r13_3) (.ret))), results := [.tmp 4], n := 18 }

/-! function 14: "(*woggle/queue.Shop).Number" -/
def r14_0 : List AOper := [
  ⟨some 4, none, .p (.mov (.const (.int .i64 0))), []⟩]
def r14_1 : List AOper := [
  ⟨some 5, none, .p (.mov (.tmp 0)), []⟩,
  ⟨some 6, none, .p (.mov (.tmp 1)), []⟩,
  ⟨some 7, none, .c (.func 26) [(.tmp 5), (.tmp 6)], []⟩,
  ⟨some 8, none, .p (.bin .neq (.tmp 7) (.const (.int .i64 0))), []⟩]
def r14_2 : List AOper := [
  ⟨some 4, none, .p (.mov (.const (.int .i64 (-1)))), []⟩]
def r14_3 : List AOper := [
  ⟨some 9, none, .p (.mov (.tmp 0)), []⟩,
  ⟨some 10, none, .p (.nilc (.tmp 9)), []⟩,
  ⟨some 11, none, .p (.faddr 0 (.tmp 10)), []⟩,
  ⟨some 12, none, .l 1 false (.tmp 11), []⟩,
  ⟨some 13, none, .p (.mov (.tmp 1)), []⟩,
  ⟨some 14, none, .p (.iaddr 3 (.tmp 12) (.tmp 13)), []⟩,
  ⟨some 15, none, .p (.faddr 1 (.tmp 14)), []⟩,
  ⟨some 16, none, .l 1 false (.tmp 15), []⟩,
  ⟨some 4, none, .p (.mov (.tmp 16)), []⟩]
def f14 : AFn := { body := .seq (.region r14_0) (.seq (.seq (.region r14_1) (.cond (.tmp 8) (.seq (.region r14_2) (.ret)) (.skip))) (.seq (.region r14_3) (.ret))), results := [.tmp 4], n := 17 }

/-! function 15: "(*woggle/queue.Shop).Choosing" -/
def r15_0 : List AOper := [
  ⟨some 4, none, .p (.mov (.const (.bool false))), []⟩]
def r15_1 : List AOper := [
  ⟨some 5, none, .p (.mov (.tmp 0)), []⟩,
  ⟨some 6, none, .p (.mov (.tmp 1)), []⟩,
  ⟨some 7, none, .c (.func 26) [(.tmp 5), (.tmp 6)], []⟩,
  ⟨some 8, none, .p (.bin .eql (.tmp 7) (.const (.int .i64 0))), []⟩,
  ⟨some 9, none, .p (.mov (.tmp 8)), []⟩,
  ⟨some 10, some (9, true), .p (.mov (.tmp 0)), []⟩,
  ⟨some 11, some (9, true), .p (.nilc (.tmp 10)), []⟩,
  ⟨some 12, some (9, true), .p (.faddr 0 (.tmp 11)), []⟩,
  ⟨some 13, some (9, true), .l 1 false (.tmp 12), []⟩,
  ⟨some 14, some (9, true), .p (.mov (.tmp 1)), []⟩,
  ⟨some 15, some (9, true), .p (.iaddr 3 (.tmp 13) (.tmp 14)), []⟩,
  ⟨some 16, some (9, true), .p (.faddr 0 (.tmp 15)), []⟩,
  ⟨some 17, some (9, true), .l 1 false (.tmp 16), []⟩,
  ⟨some 18, none, .p (.pick (.tmp 9) (.tmp 17) (.const (.bool false))), []⟩,
  ⟨some 4, none, .p (.mov (.tmp 18)), []⟩]
def f15 : AFn := { body := .seq (.region r15_0) (.seq (.region r15_1) (.ret)), results := [.tmp 4], n := 19 }

/-! function 16: "(*woggle/queue.Shop).Step" -/
def r16_0 : List AOper := [
  ⟨some 4, none, .p (.mov (.const (.bool false))), []⟩,
  ⟨some 5, none, .p (.mov (.const (.int .i64 0))), []⟩]
def r16_1 : List AOper := [
  ⟨some 17, none, .p (.mov (.tmp 0)), []⟩,
  ⟨some 18, none, .p (.mov (.tmp 1)), []⟩,
  ⟨some 19, none, .c (.func 26) [(.tmp 17), (.tmp 18)], []⟩,
  ⟨some 6, none, .p (.mov (.tmp 19)), []⟩]
def r16_2 : List AOper := [
  ⟨some 20, none, .p (.mov (.tmp 6)), []⟩,
  ⟨some 21, none, .p (.bin .neq (.tmp 20) (.const (.int .i64 0))), []⟩]
def r16_3 : List AOper := [
  ⟨some 22, none, .p (.mov (.tmp 6)), []⟩,
  ⟨some 4, none, .p (.mov (.const (.bool false))), []⟩,
  ⟨some 5, none, .p (.mov (.tmp 22)), []⟩]
def r16_4 : List AOper := [
  ⟨some 23, none, .p (.mov (.tmp 0)), []⟩,
  ⟨some 24, none, .p (.nilc (.tmp 23)), []⟩,
  ⟨some 25, none, .p (.faddr 0 (.tmp 24)), []⟩,
  ⟨some 26, none, .l 1 false (.tmp 25), []⟩,
  ⟨some 27, none, .p (.len (.tmp 26)), []⟩,
  ⟨some 7, none, .p (.mov (.tmp 27)), []⟩]
def r16_5 : List AOper := [
  ⟨some 28, none, .p (.mov (.tmp 0)), []⟩,
  ⟨some 29, none, .p (.nilc (.tmp 28)), []⟩,
  ⟨some 30, none, .p (.faddr 0 (.tmp 29)), []⟩,
  ⟨some 31, none, .l 1 false (.tmp 30), []⟩,
  ⟨some 32, none, .p (.mov (.tmp 1)), []⟩,
  ⟨some 33, none, .p (.iaddr 3 (.tmp 31) (.tmp 32)), []⟩,
  ⟨some 8, none, .p (.mov (.tmp 33)), []⟩]
def r16_6 : List AOper := [
  ⟨some 34, none, .p (.mov (.tmp 8)), []⟩,
  ⟨some 35, none, .p (.nilc (.tmp 34)), []⟩,
  ⟨some 36, none, .p (.faddr 2 (.tmp 35)), []⟩,
  ⟨some 37, none, .l 1 false (.tmp 36), []⟩]
def r16_7 : List AOper := [
  ⟨some 38, none, .p (.tas 61 (.agg #[]) true (.tmp 37)), []⟩,
  ⟨some 39, none, .p (.ext (.tmp 38) 1), []⟩,
  ⟨some 40, none, .p (.ext (.tmp 38) 0), []⟩]
def r16_8 : List AOper := [
  ⟨some 9, none, .a (.var []), []⟩,
  ⟨none, none, .e (.store 0 (.tmp 9) (.tmp 40)), []⟩]
def r16_9 : List AOper := [
  ⟨some 4, none, .p (.mov (.const (.bool false))), []⟩,
  ⟨some 5, none, .p (.mov (.const (.int .i64 5))), []⟩]
def r16_10 : List AOper := [
  ⟨some 41, none, .p (.tas 66 (.agg #[]) true (.tmp 37)), []⟩,
  ⟨some 42, none, .p (.ext (.tmp 41) 1), []⟩,
  ⟨some 43, none, .p (.ext (.tmp 41) 0), []⟩]
def r16_11 : List AOper := [
  ⟨some 10, none, .a (.var []), []⟩,
  ⟨none, none, .e (.store 0 (.tmp 10) (.tmp 43)), []⟩]
def r16_12 : List AOper := [
  ⟨some 44, none, .p (.mov (.tmp 8)), []⟩,
  ⟨some 45, none, .p (.mov (.tmp 8)), []⟩,
  ⟨some 46, none, .p (.build [.int .i64 0, .int .i64 0] []), []⟩,
  ⟨some 47, none, .p (.mkif 68 (.tmp 46)), []⟩,
  ⟨some 48, none, .p (.nilc (.tmp 44)), []⟩,
  ⟨some 49, none, .p (.faddr 0 (.tmp 48)), []⟩,
  ⟨none, none, .e (.store 1 (.tmp 49) (.const (.bool true))), []⟩,
  ⟨some 50, none, .p (.nilc (.tmp 45)), []⟩,
  ⟨some 51, none, .p (.faddr 2 (.tmp 50)), []⟩,
  ⟨none, none, .e (.store 1 (.tmp 51) (.tmp 47)), []⟩]
def r16_13 : List AOper := [
  ⟨some 52, none, .p (.tas 68 (.agg #[.int .i64 0, .int .i64 0]) true (.tmp 37)), []⟩,
  ⟨some 53, none, .p (.ext (.tmp 52) 1), []⟩,
  ⟨some 54, none, .p (.ext (.tmp 52) 0), []⟩]
def r16_14 : List AOper := [
  ⟨some 11, none, .a (.var [.int .i64 0, .int .i64 0]), []⟩,
  ⟨none, none, .e (.store 2 (.tmp 11) (.tmp 54)), []⟩]
def r16_15 : List AOper := [
  ⟨some 55, none, .p (.faddr 1 (.tmp 11)), []⟩,
  ⟨some 56, none, .l 1 false (.tmp 55), []⟩,
  ⟨some 57, none, .p (.mov (.tmp 0)), []⟩,
  ⟨some 58, none, .p (.nilc (.tmp 57)), []⟩,
  ⟨some 59, none, .p (.faddr 0 (.tmp 58)), []⟩,
  ⟨some 60, none, .l 1 false (.tmp 59), []⟩,
  ⟨some 61, none, .p (.faddr 0 (.tmp 11)), []⟩,
  ⟨some 62, none, .l 1 false (.tmp 61), []⟩,
  ⟨some 63, none, .p (.iaddr 3 (.tmp 60) (.tmp 62)), []⟩,
  ⟨some 64, none, .p (.faddr 1 (.tmp 63)), []⟩,
  ⟨some 65, none, .l 1 false (.tmp 64), []⟩,
  ⟨some 66, none, .p (.mx (.tmp 56) (.tmp 65)), []⟩,
  ⟨some 67, none, .p (.faddr 1 (.tmp 11)), []⟩,
  ⟨none, none, .e (.store 1 (.tmp 67) (.tmp 66)), []⟩]
def r16_16 : List AOper := [
  ⟨some 68, none, .p (.faddr 0 (.tmp 11)), []⟩,
  ⟨some 69, none, .l 1 false (.tmp 68), []⟩,
  ⟨some 70, none, .p (.bin .add (.tmp 69) (.const (.int .i64 1))), []⟩,
  ⟨some 71, none, .p (.faddr 0 (.tmp 11)), []⟩,
  ⟨none, none, .e (.store 1 (.tmp 71) (.tmp 70)), []⟩]
def r16_17 : List AOper := [
  ⟨some 72, none, .p (.faddr 0 (.tmp 11)), []⟩,
  ⟨some 73, none, .l 1 false (.tmp 72), []⟩,
  ⟨some 74, none, .p (.mov (.tmp 7)), []⟩,
  ⟨some 75, none, .p (.bin .eql (.tmp 73) (.tmp 74)), []⟩]
def r16_18 : List AOper := [
  ⟨some 76, none, .p (.mov (.tmp 8)), []⟩,
  ⟨some 77, none, .p (.faddr 1 (.tmp 11)), []⟩,
  ⟨some 78, none, .l 1 false (.tmp 77), []⟩,
  ⟨some 79, none, .p (.build [.int .i64 0] [(0, 1, (.tmp 78))]), []⟩,
  ⟨some 80, none, .p (.mkif 70 (.tmp 79)), []⟩,
  ⟨some 81, none, .p (.nilc (.tmp 76)), []⟩,
  ⟨some 82, none, .p (.faddr 2 (.tmp 81)), []⟩,
  ⟨none, none, .e (.store 1 (.tmp 82) (.tmp 80)), []⟩]
def r16_19 : List AOper := [
  ⟨some 83, none, .p (.mov (.tmp 8)), []⟩,
  ⟨some 84, none, .l 2 true (.tmp 11), []⟩,
  ⟨some 85, none, .p (.mkif 68 (.tmp 84)), []⟩,
  ⟨some 86, none, .p (.nilc (.tmp 83)), []⟩,
  ⟨some 87, none, .p (.faddr 2 (.tmp 86)), []⟩,
  ⟨none, none, .e (.store 1 (.tmp 87) (.tmp 85)), []⟩]
def r16_20 : List AOper := [
  ⟨some 88, none, .p (.tas 70 (.agg #[.int .i64 0]) true (.tmp 37)), []⟩,
  ⟨some 89, none, .p (.ext (.tmp 88) 1), []⟩,
  ⟨some 90, none, .p (.ext (.tmp 88) 0), []⟩]
def r16_21 : List AOper := [
  ⟨some 12, none, .a (.var [.int .i64 0]), []⟩,
  ⟨none, none, .e (.store 1 (.tmp 12) (.tmp 90)), []⟩]
def r16_22 : List AOper := [
  ⟨some 91, none, .p (.mov (.tmp 8)), []⟩,
  ⟨some 92, none, .p (.mov (.tmp 8)), []⟩,
  ⟨some 93, none, .p (.faddr 0 (.tmp 12)), []⟩,
  ⟨some 94, none, .l 1 false (.tmp 93), []⟩,
  ⟨some 95, none, .p (.bin .add (.tmp 94) (.const (.int .i64 1))), []⟩,
  ⟨some 96, none, .p (.build [] []), []⟩,
  ⟨some 97, none, .p (.mkif 71 (.tmp 96)), []⟩,
  ⟨some 98, none, .p (.nilc (.tmp 91)), []⟩,
  ⟨some 99, none, .p (.faddr 1 (.tmp 98)), []⟩,
  ⟨none, none, .e (.store 1 (.tmp 99) (.tmp 95)), []⟩,
  ⟨some 100, none, .p (.nilc (.tmp 92)), []⟩,
  ⟨some 101, none, .p (.faddr 2 (.tmp 100)), []⟩,
  ⟨none, none, .e (.store 1 (.tmp 101) (.tmp 97)), []⟩]
def r16_23 : List AOper := [
  ⟨some 102, none, .p (.tas 71 (.agg #[]) true (.tmp 37)), []⟩,
  ⟨some 103, none, .p (.ext (.tmp 102) 1), []⟩,
  ⟨some 104, none, .p (.ext (.tmp 102) 0), []⟩]
def r16_24 : List AOper := [
  ⟨some 13, none, .a (.var []), []⟩,
  ⟨none, none, .e (.store 0 (.tmp 13) (.tmp 104)), []⟩]
def r16_25 : List AOper := [
  ⟨some 105, none, .p (.mov (.tmp 8)), []⟩,
  ⟨some 106, none, .p (.mov (.tmp 8)), []⟩,
  ⟨some 107, none, .p (.build [.int .i64 0] []), []⟩,
  ⟨some 108, none, .p (.mkif 73 (.tmp 107)), []⟩,
  ⟨some 109, none, .p (.nilc (.tmp 105)), []⟩,
  ⟨some 110, none, .p (.faddr 0 (.tmp 109)), []⟩,
  ⟨none, none, .e (.store 1 (.tmp 110) (.const (.bool false))), []⟩,
  ⟨some 111, none, .p (.nilc (.tmp 106)), []⟩,
  ⟨some 112, none, .p (.faddr 2 (.tmp 111)), []⟩,
  ⟨none, none, .e (.store 1 (.tmp 112) (.tmp 108)), []⟩]
def r16_26 : List AOper := [
  ⟨some 113, none, .p (.tas 73 (.agg #[.int .i64 0]) true (.tmp 37)), []⟩,
  ⟨some 114, none, .p (.ext (.tmp 113) 1), []⟩,
  ⟨some 115, none, .p (.ext (.tmp 113) 0), []⟩]
def r16_27 : List AOper := [
  ⟨some 14, none, .a (.var [.int .i64 0]), []⟩,
  ⟨none, none, .e (.store 1 (.tmp 14) (.tmp 115)), []⟩]
def r16_29 : List AOper := [
  ⟨some 124, none, .p (.faddr 0 (.tmp 14)), []⟩,
  ⟨some 125, none, .l 1 false (.tmp 124), []⟩,
  ⟨some 126, none, .p (.mov (.tmp 7)), []⟩,
  ⟨some 127, none, .p (.bin .eql (.tmp 125) (.tmp 126)), []⟩,
  ⟨some 123, none, .p (.mov (.tmp 127)), []⟩]
def r16_30 : List AOper := [
  ⟨some 128, none, .p (.mov (.tmp 8)), []⟩,
  ⟨some 129, none, .p (.build [] []), []⟩,
  ⟨some 130, none, .p (.mkif 64 (.tmp 129)), []⟩,
  ⟨some 131, none, .p (.nilc (.tmp 128)), []⟩,
  ⟨some 132, none, .p (.faddr 2 (.tmp 131)), []⟩,
  ⟨none, none, .e (.store 1 (.tmp 132) (.tmp 130)), []⟩]
def r16_31 : List AOper := [
  ⟨some 133, none, .p (.mov (.tmp 0)), []⟩,
  ⟨some 134, none, .p (.nilc (.tmp 133)), []⟩,
  ⟨some 135, none, .p (.faddr 2 (.tmp 134)), []⟩,
  ⟨some 136, none, .l 1 false (.tmp 135), []⟩,
  ⟨some 137, none, .p (.bin .add (.tmp 136) (.const (.int .i64 1))), []⟩,
  ⟨some 138, none, .p (.nilc (.tmp 133)), []⟩,
  ⟨some 139, none, .p (.faddr 2 (.tmp 138)), []⟩,
  ⟨none, none, .e (.store 1 (.tmp 139) (.tmp 137)), []⟩]
def r16_32 : List AOper := [
  ⟨some 141, none, .p (.faddr 0 (.tmp 14)), []⟩,
  ⟨some 142, none, .l 1 false (.tmp 141), []⟩,
  ⟨some 143, none, .p (.mov (.tmp 1)), []⟩,
  ⟨some 144, none, .p (.bin .eql (.tmp 142) (.tmp 143)), []⟩,
  ⟨some 140, none, .p (.mov (.tmp 144)), []⟩]
def r16_33 : List AOper := [
  ⟨some 145, none, .p (.mov (.tmp 8)), []⟩,
  ⟨some 146, none, .p (.faddr 0 (.tmp 14)), []⟩,
  ⟨some 147, none, .l 1 false (.tmp 146), []⟩,
  ⟨some 148, none, .p (.bin .add (.tmp 147) (.const (.int .i64 1))), []⟩,
  ⟨some 149, none, .p (.build [.int .i64 0] [(0, 1, (.tmp 148))]), []⟩,
  ⟨some 150, none, .p (.mkif 73 (.tmp 149)), []⟩,
  ⟨some 151, none, .p (.nilc (.tmp 145)), []⟩,
  ⟨some 152, none, .p (.faddr 2 (.tmp 151)), []⟩,
  ⟨none, none, .e (.store 1 (.tmp 152) (.tmp 150)), []⟩]
def r16_34 : List AOper := [
  ⟨some 154, none, .p (.mov (.tmp 0)), []⟩,
  ⟨some 155, none, .p (.nilc (.tmp 154)), []⟩,
  ⟨some 156, none, .p (.faddr 0 (.tmp 155)), []⟩,
  ⟨some 157, none, .l 1 false (.tmp 156), []⟩,
  ⟨some 158, none, .p (.faddr 0 (.tmp 14)), []⟩,
  ⟨some 159, none, .l 1 false (.tmp 158), []⟩,
  ⟨some 160, none, .p (.iaddr 3 (.tmp 157) (.tmp 159)), []⟩,
  ⟨some 161, none, .p (.faddr 0 (.tmp 160)), []⟩,
  ⟨some 162, none, .l 1 false (.tmp 161), []⟩,
  ⟨some 163, none, .p (.mov (.tmp 162)), []⟩,
  ⟨some 164, some (163, true), .p (.mov (.tmp 0)), []⟩,
  ⟨some 165, some (163, true), .p (.nilc (.tmp 164)), []⟩,
  ⟨some 166, some (163, true), .p (.faddr 1 (.tmp 165)), []⟩,
  ⟨some 167, some (163, true), .l 1 false (.tmp 166), []⟩,
  ⟨some 168, some (163, true), .p (.not (.tmp 167)), []⟩,
  ⟨some 169, none, .p (.pick (.tmp 163) (.tmp 168) (.const (.bool false))), []⟩,
  ⟨some 153, none, .p (.mov (.tmp 169)), []⟩]
def r16_35 : List AOper := [
  ⟨some 4, none, .p (.mov (.const (.bool false))), []⟩,
  ⟨some 5, none, .p (.mov (.const (.int .i64 0))), []⟩]
def r16_28 : List AOper := [
  ⟨some 116, none, .p (.mov (.tmp 8)), []⟩,
  ⟨some 117, none, .p (.faddr 0 (.tmp 14)), []⟩,
  ⟨some 118, none, .l 1 false (.tmp 117), []⟩,
  ⟨some 119, none, .p (.build [.int .i64 0] [(0, 1, (.tmp 118))]), []⟩,
  ⟨some 120, none, .p (.mkif 74 (.tmp 119)), []⟩,
  ⟨some 121, none, .p (.nilc (.tmp 116)), []⟩,
  ⟨some 122, none, .p (.faddr 2 (.tmp 121)), []⟩,
  ⟨none, none, .e (.store 1 (.tmp 122) (.tmp 120)), []⟩]
def r16_36 : List AOper := [
  ⟨some 170, none, .p (.tas 74 (.agg #[.int .i64 0]) true (.tmp 37)), []⟩,
  ⟨some 171, none, .p (.ext (.tmp 170) 1), []⟩,
  ⟨some 172, none, .p (.ext (.tmp 170) 0), []⟩]
def r16_37 : List AOper := [
  ⟨some 15, none, .a (.var [.int .i64 0]), []⟩,
  ⟨none, none, .e (.store 1 (.tmp 15) (.tmp 172)), []⟩]
def r16_38 : List AOper := [
  ⟨some 173, none, .p (.mov (.tmp 0)), []⟩,
  ⟨some 174, none, .p (.faddr 0 (.tmp 15)), []⟩,
  ⟨some 175, none, .l 1 false (.tmp 174), []⟩,
  ⟨some 176, none, .p (.mov (.tmp 1)), []⟩,
  ⟨some 177, none, .c (.func 29) [(.tmp 173), (.tmp 175), (.tmp 176)], []⟩]
def r16_39 : List AOper := [
  ⟨some 4, none, .p (.mov (.const (.bool false))), []⟩,
  ⟨some 5, none, .p (.mov (.const (.int .i64 0))), []⟩]
def r16_40 : List AOper := [
  ⟨some 178, none, .p (.mov (.tmp 8)), []⟩,
  ⟨some 179, none, .p (.faddr 0 (.tmp 15)), []⟩,
  ⟨some 180, none, .l 1 false (.tmp 179), []⟩,
  ⟨some 181, none, .p (.bin .add (.tmp 180) (.const (.int .i64 1))), []⟩,
  ⟨some 182, none, .p (.build [.int .i64 0] [(0, 1, (.tmp 181))]), []⟩,
  ⟨some 183, none, .p (.mkif 73 (.tmp 182)), []⟩,
  ⟨some 184, none, .p (.nilc (.tmp 178)), []⟩,
  ⟨some 185, none, .p (.faddr 2 (.tmp 184)), []⟩,
  ⟨none, none, .e (.store 1 (.tmp 185) (.tmp 183)), []⟩]
def r16_41 : List AOper := [
  ⟨some 186, none, .p (.tas 64 (.agg #[]) true (.tmp 37)), []⟩,
  ⟨some 187, none, .p (.ext (.tmp 186) 1), []⟩,
  ⟨some 188, none, .p (.ext (.tmp 186) 0), []⟩]
def r16_42 : List AOper := [
  ⟨some 16, none, .a (.var []), []⟩,
  ⟨none, none, .e (.store 0 (.tmp 16) (.tmp 188)), []⟩]
def r16_43 : List AOper := [
  ⟨some 189, none, .p (.mov (.tmp 8)), []⟩,
  ⟨some 190, none, .p (.mov (.tmp 8)), []⟩,
  ⟨some 191, none, .p (.build [] []), []⟩,
  ⟨some 192, none, .p (.mkif 61 (.tmp 191)), []⟩,
  ⟨some 193, none, .p (.nilc (.tmp 189)), []⟩,
  ⟨some 194, none, .p (.faddr 1 (.tmp 193)), []⟩,
  ⟨none, none, .e (.store 1 (.tmp 194) (.const (.int .i64 0))), []⟩,
  ⟨some 195, none, .p (.nilc (.tmp 190)), []⟩,
  ⟨some 196, none, .p (.faddr 2 (.tmp 195)), []⟩,
  ⟨none, none, .e (.store 1 (.tmp 196) (.tmp 192)), []⟩]
def r16_44 : List AOper := [
  ⟨some 4, none, .p (.mov (.const (.bool true))), []⟩,
  ⟨some 5, none, .p (.mov (.const (.int .i64 0))), []⟩]
def f16 : AFn := { body := .seq (.region r16_0) (.seq (.seq (.region r16_1) (.seq (.region r16_2) (.cond (.tmp 21) (.seq (.region r16_3) (.ret)) (.skip)))) (.seq (.region r16_4) (.seq (.region r16_5) (.seq (.seq (.region r16_6) (.block 0 (.seq (.region r16_7) (.cond (.tmp 39) (.seq (.region r16_8) (.seq (.region r16_9) (.ret))) (.seq (.region r16_10) (.cond (.tmp 42) (.seq (.region r16_11) (.region r16_12)) (.seq (.region r16_13) (.cond (.tmp 53) (.seq (.region r16_14) (.seq (.region r16_15) (.seq (.region r16_16) (.seq (.region r16_17) (.cond (.tmp 75) (.region r16_18) (.region r16_19)))))) (.seq (.region r16_20) (.cond (.tmp 89) (.seq (.region r16_21) (.region r16_22)) (.seq (.region r16_23) (.cond (.tmp 103) (.seq (.region r16_24) (.region r16_25)) (.seq (.region r16_26) (.cond (.tmp 114) (.seq (.region r16_27) (.block 1 (.seq (.region r16_29) (.cond (.tmp 123) (.seq (.region r16_30) (.region r16_31)) (.seq (.region r16_32) (.cond (.tmp 140) (.region r16_33) (.seq (.region r16_34) (.cond (.tmp 153) (.seq (.region r16_35) (.ret)) (.region r16_28))))))))) (.seq (.region r16_36) (.cond (.tmp 171) (.seq (.region r16_37) (.seq (.seq (.region r16_38) (.cond (.tmp 177) (.seq (.region r16_39) (.ret)) (.skip))) (.region r16_40))) (.seq (.region r16_41) (.cond (.tmp 187) (.seq (.region r16_42) (.region r16_43)) (.skip))))))))))))))))))) (.seq (.region r16_44) (.ret)))))), results := [.tmp 4, .tmp 5], n := 197 }

/-! function 17: "(*woggle/queue.Shop).Want" -/
def r17_0 : List AOper := [
  ⟨some 4, none, .p (.mov (.const (.int .i64 0))), []⟩]
def r17_1 : List AOper := [
  ⟨some 6, none, .p (.mov (.tmp 0)), []⟩,
  ⟨some 7, none, .p (.mov (.tmp 1)), []⟩,
  ⟨some 8, none, .c (.func 26) [(.tmp 6), (.tmp 7)], []⟩,
  ⟨some 5, none, .p (.mov (.tmp 8)), []⟩]
def r17_2 : List AOper := [
  ⟨some 9, none, .p (.mov (.tmp 5)), []⟩,
  ⟨some 10, none, .p (.bin .neq (.tmp 9) (.const (.int .i64 0))), []⟩]
def r17_3 : List AOper := [
  ⟨some 11, none, .p (.mov (.tmp 5)), []⟩,
  ⟨some 4, none, .p (.mov (.tmp 11)), []⟩]
def r17_4 : List AOper := [
  ⟨some 12, none, .p (.mov (.tmp 0)), []⟩,
  ⟨some 13, none, .p (.nilc (.tmp 12)), []⟩,
  ⟨some 14, none, .p (.faddr 0 (.tmp 13)), []⟩,
  ⟨some 15, none, .l 1 false (.tmp 14), []⟩,
  ⟨some 16, none, .p (.mov (.tmp 1)), []⟩,
  ⟨some 17, none, .p (.iaddr 3 (.tmp 15) (.tmp 16)), []⟩,
  ⟨some 18, none, .p (.faddr 2 (.tmp 17)), []⟩,
  ⟨some 19, none, .l 1 false (.tmp 18), []⟩,
  ⟨some 20, none, .p (.build [] []), []⟩,
  ⟨some 21, none, .p (.mkif 61 (.tmp 20)), []⟩,
  ⟨some 22, none, .p (.eqi true [60, 61, 64, 66, 71] (.tmp 19) (.tmp 21)), []⟩]
def r17_5 : List AOper := [
  ⟨some 4, none, .p (.mov (.const (.int .i64 7))), []⟩]
def r17_6 : List AOper := [
  ⟨some 23, none, .p (.mov (.tmp 0)), []⟩,
  ⟨some 24, none, .p (.nilc (.tmp 23)), []⟩,
  ⟨some 25, none, .p (.faddr 0 (.tmp 24)), []⟩,
  ⟨some 26, none, .l 1 false (.tmp 25), []⟩,
  ⟨some 27, none, .p (.mov (.tmp 1)), []⟩,
  ⟨some 28, none, .p (.build [] []), []⟩,
  ⟨some 29, none, .p (.mkif 66 (.tmp 28)), []⟩,
  ⟨some 30, none, .p (.iaddr 3 (.tmp 26) (.tmp 27)), []⟩,
  ⟨some 31, none, .p (.faddr 2 (.tmp 30)), []⟩,
  ⟨none, none, .e (.store 1 (.tmp 31) (.tmp 29)), []⟩]
def r17_7 : List AOper := [
  ⟨some 4, none, .p (.mov (.const (.int .i64 0))), []⟩]
def f17 : AFn := { body := .seq (.region r17_0) (.seq (.seq (.region r17_1) (.seq (.region r17_2) (.cond (.tmp 10) (.seq (.region r17_3) (.ret)) (.skip)))) (.seq (.seq (.region r17_4) (.cond (.tmp 22) (.seq (.region r17_5) (.ret)) (.skip))) (.seq (.region r17_6) (.seq (.region r17_7) (.ret))))), results := [.tmp 4], n := 32 }

/-! function 18: "woggle/queue.Clash" -/
def r18_0 : List AOper := [
  ⟨some 2, none, .p (.mov (.const (.slice none 0 0))), []⟩,
  ⟨some 3, none, .p (.mov (.const (.int .i64 0))), []⟩]
def r18_1 : List AOper := [
  ⟨some 9, none, .p (.mov (.tmp 0)), []⟩,
  ⟨some 10, none, .p (.bin .lss (.tmp 9) (.const (.int .i64 2))), []⟩,
  ⟨some 11, none, .p (.mov (.tmp 10)), []⟩,
  ⟨some 12, some (11, false), .p (.mov (.tmp 0)), []⟩,
  ⟨some 13, some (11, false), .p (.bin .gtr (.tmp 12) (.const (.int .i64 4))), []⟩,
  ⟨some 14, none, .p (.pick (.tmp 11) (.const (.bool true)) (.tmp 13)), []⟩]
def r18_2 : List AOper := [
  ⟨some 2, none, .p (.mov (.const (.slice none 0 0))), []⟩,
  ⟨some 3, none, .p (.mov (.const (.int .i64 1))), []⟩]
def r18_3 : List AOper := [
  ⟨some 16, none, .p (.mov (.tmp 0)), []⟩,
  ⟨some 17, none, .c (.func 6) [(.tmp 16), (.const (.bool true))], []⟩,
  ⟨some 15, none, .p (.mov (.tmp 17)), []⟩,
  ⟨some 18, none, .p (.ext (.tmp 15) 0), []⟩,
  ⟨some 19, none, .p (.ext (.tmp 15) 1), []⟩,
  ⟨some 4, none, .p (.mov (.tmp 18)), []⟩,
  ⟨some 5, none, .p (.mov (.tmp 19)), []⟩]
def r18_4 : List AOper := [
  ⟨some 6, none, .p (.mov (.const (.slice none 0 0))), []⟩]
def r18_5 : List AOper := [
  ⟨some 20, none, .p (.mov (.tmp 4)), []⟩,
  ⟨some 21, none, .c (.func 13) [(.tmp 20), (.const (.int .i64 0))], []⟩,
  ⟨some 22, none, .p (.bin .neq (.tmp 21) (.const (.int .i64 3))), []⟩]
def r18_6 : List AOper := [
  ⟨some 23, none, .p (.mov (.tmp 6)), []⟩,
  ⟨some 24, none, .a (.bslice (made [.int .i64 0] 1) 1 [(0, 1, (.const (.int .i64 0)))]), []⟩,
  ⟨some 25, none, .e (.append 1 8 (.tmp 23) (.tmp 24)), []⟩,
  ⟨some 6, none, .p (.mov (.tmp 25)), []⟩]
def r18_7 : List AOper := [
  ⟨some 26, none, .p (.mov (.tmp 4)), []⟩,
  ⟨some 27, none, .a (.bslice (made [.int .i64 0] 1) 1 [(0, 1, (.const (.int .i64 0)))]), []⟩,
  ⟨some 28, none, .c (.func 8) [(.tmp 26), (.tmp 27)], []⟩]
def b18_1 : ACode := .seq (.seq (.region r18_5) (.cond (.tmp 22) (.skip) (.exit 0))) (.block 1 (.seq (.region r18_6) (.region r18_7)))
def r18_8 : List AOper := [
  ⟨some 29, none, .a (.bslice (made [.int .i64 0] 2) 2 [(0, 1, (.const (.int .i64 1))), (1, 1, (.const (.int .i64 0)))]), []⟩,
  ⟨some 30, none, .p (.len (.tmp 29)), []⟩,
  ⟨some 31, none, .p (.mov (.const (.int .i64 0))), []⟩]
def r18_9 : List AOper := [
  ⟨some 32, none, .p (.bin .lss (.tmp 31) (.tmp 30)), []⟩]
def r18_10 : List AOper := [
  ⟨some 33, none, .p (.iaddr 1 (.tmp 29) (.tmp 31)), []⟩,
  ⟨some 34, none, .l 1 false (.tmp 33), []⟩,
  ⟨some 8, none, .p (.mov (.tmp 34)), []⟩]
def r18_11 : List AOper := [
  ⟨some 35, none, .p (.mov (.tmp 4)), []⟩,
  ⟨some 36, none, .p (.mov (.tmp 8)), []⟩,
  ⟨some 37, none, .c (.func 13) [(.tmp 35), (.tmp 36)], []⟩,
  ⟨some 38, none, .p (.bin .neq (.tmp 37) (.const (.int .i64 7))), []⟩]
def r18_12 : List AOper := [
  ⟨some 39, none, .p (.mov (.tmp 6)), []⟩,
  ⟨some 40, none, .p (.mov (.tmp 8)), []⟩,
  ⟨some 41, none, .a (.bslice (made [.int .i64 0] 1) 1 [(0, 1, (.tmp 40))]), []⟩,
  ⟨some 42, none, .e (.append 1 8 (.tmp 39) (.tmp 41)), []⟩,
  ⟨some 6, none, .p (.mov (.tmp 42)), []⟩]
def r18_13 : List AOper := [
  ⟨some 43, none, .p (.mov (.tmp 4)), []⟩,
  ⟨some 44, none, .p (.mov (.tmp 8)), []⟩,
  ⟨some 45, none, .a (.bslice (made [.int .i64 0] 1) 1 [(0, 1, (.tmp 44))]), []⟩,
  ⟨some 46, none, .c (.func 8) [(.tmp 43), (.tmp 45)], []⟩]
def b18_2 : ACode := .seq (.seq (.region r18_11) (.cond (.tmp 38) (.skip) (.exit 4))) (.block 5 (.seq (.region r18_12) (.region r18_13)))
def r18_14 : List AOper := [
  ⟨some 47, none, .p (.bin .add (.tmp 31) (.const (.int .i64 1))), []⟩,
  ⟨some 31, none, .p (.mov (.tmp 47)), []⟩]
def b18_3 : ACode := .seq (.region r18_9) (.seq (.cond (.tmp 32) (.skip) (.exit 2)) (.seq (.block 3 (.seq (.region r18_10) (.block 4 (.loop b18_2)))) (.region r18_14)))
def r18_15 : List AOper := [
  ⟨some 48, none, .p (.mov (.tmp 6)), []⟩,
  ⟨some 2, none, .p (.mov (.tmp 48)), []⟩,
  ⟨some 3, none, .p (.mov (.const (.int .i64 0))), []⟩]
def f18 : AFn := { body := .seq (.region r18_0) (.seq (.seq (.region r18_1) (.cond (.tmp 14) (.seq (.region r18_2) (.ret)) (.skip))) (.seq (.region r18_3) (.seq (.region r18_4) (.seq (.block 0 (.loop b18_1)) (.seq (.seq (.region r18_8) (.block 2 (.loop b18_3))) (.seq (.region r18_15) (.ret))))))), results := [.tmp 2, .tmp 3], n := 49 }

/-! function 19: "woggle/woggleref10.New" -/
def r19_0 : List AOper := [
  ⟨some 4, none, .a (.var [.slice none 0 0, .bool false, .int .i64 0]), []⟩]
def r19_1 : List AOper := [
  ⟨some 5, none, .p (.mov (.tmp 0)), []⟩,
  ⟨some 6, none, .a (.mslice 40 [.bool false, .int .i64 0, .int .i64 0, .int .i64 0, .int .i64 0] (.tmp 5) (.tmp 5)), []⟩,
  ⟨some 7, none, .p (.mov (.tmp 1)), []⟩,
  ⟨some 8, none, .p (.build [.slice none 0 0, .bool false, .int .i64 0] [(0, 1, (.tmp 6)), (1, 1, (.tmp 7))]), []⟩,
  ⟨none, none, .e (.store 3 (.tmp 4) (.tmp 8)), []⟩]
def f19 : AFn := { body := .seq (.region r19_0) (.seq (.region r19_1) (.ret)), results := [.cell 3 true 4], n := 9 }

/-! function 20: "(woggle/woggleref10.Shop).There" -/
def r20_0 : List AOper := [
  ⟨some 2, none, .a (.box (.tmp 0)), []⟩,
  ⟨some 4, none, .p (.mov (.const (.bool false))), []⟩]
def r20_1 : List AOper := [
  ⟨some 5, none, .p (.mov (.tmp 1)), []⟩,
  ⟨some 6, none, .p (.bin .geq (.tmp 5) (.const (.int .i64 0))), []⟩,
  ⟨some 7, none, .p (.mov (.tmp 6)), []⟩,
  ⟨some 8, some (7, true), .p (.mov (.tmp 1)), []⟩,
  ⟨some 9, some (7, true), .p (.faddr 0 (.tmp 2)), []⟩,
  ⟨some 10, some (7, true), .l 1 false (.tmp 9), []⟩,
  ⟨some 11, some (7, true), .p (.len (.tmp 10)), []⟩,
  ⟨some 12, some (7, true), .p (.bin .lss (.tmp 8) (.tmp 11)), []⟩,
  ⟨some 13, none, .p (.pick (.tmp 7) (.tmp 12) (.const (.bool false))), []⟩,
  ⟨some 4, none, .p (.mov (.tmp 13)), []⟩]
def f20 : AFn := { body := .seq (.region r20_0) (.seq (.region r20_1) (.ret)), results := [.tmp 4], n := 14 }

/-! function 21: "(woggle/woggleref10.Shop).Run" -/
def r21_0 : List AOper := [
  ⟨some 2, none, .a (.box (.tmp 0)), []⟩,
  ⟨some 4, none, .a (.var [.slice none 0 0, .bool false, .int .i64 0]), []⟩,
  ⟨some 5, none, .p (.mov (.const (.int .i64 0))), []⟩]
def r21_1 : List AOper := [
  ⟨some 8, none, .l 3 true (.tmp 2), []⟩,
  ⟨some 9, none, .c (.func 30) [(.tmp 8)], []⟩,
  ⟨some 10, none, .p (.len (.tmp 9)), []⟩,
  ⟨some 6, none, .p (.mov (.tmp 10)), []⟩]
def r21_2 : List AOper := [
  ⟨some 7, none, .p (.mov (.const (.int .i64 0))), []⟩]
def r21_3 : List AOper := [
  ⟨some 11, none, .p (.mov (.tmp 7)), []⟩,
  ⟨some 12, none, .p (.mov (.tmp 1)), []⟩,
  ⟨some 13, none, .p (.len (.tmp 12)), []⟩,
  ⟨some 14, none, .p (.bin .lss (.tmp 11) (.tmp 13)), []⟩]
def r21_5 : List AOper := [
  ⟨some 17, none, .p (.faddr 0 (.tmp 2)), []⟩,
  ⟨some 18, none, .l 1 false (.tmp 17), []⟩,
  ⟨some 19, none, .p (.mov (.tmp 1)), []⟩,
  ⟨some 20, none, .p (.mov (.tmp 7)), []⟩,
  ⟨some 21, none, .p (.iaddr 1 (.tmp 19) (.tmp 20)), []⟩,
  ⟨some 22, none, .l 1 false (.tmp 21), []⟩,
  ⟨some 23, none, .p (.iaddr 5 (.tmp 18) (.tmp 22)), []⟩,
  ⟨some 24, none, .p (.faddr 2 (.tmp 23)), []⟩,
  ⟨some 25, none, .l 1 false (.tmp 24), []⟩,
  ⟨some 26, none, .p (.bin .eql (.tmp 25) (.const (.int .i64 0))), []⟩]
def r21_6 : List AOper := [
  ⟨some 27, none, .l 3 true (.tmp 2), []⟩,
  ⟨some 28, none, .p (.mov (.tmp 1)), []⟩,
  ⟨some 29, none, .p (.mov (.tmp 7)), []⟩,
  ⟨some 30, none, .p (.iaddr 1 (.tmp 28) (.tmp 29)), []⟩,
  ⟨some 31, none, .l 1 false (.tmp 30), []⟩,
  ⟨some 32, none, .c (.func 31) [(.tmp 27), (.tmp 31)], []⟩,
  ⟨none, none, .e (.store 3 (.tmp 2) (.tmp 32)), []⟩]
def r21_7 : List AOper := [
  ⟨some 34, none, .l 3 true (.tmp 2), []⟩,
  ⟨some 35, none, .p (.mov (.tmp 1)), []⟩,
  ⟨some 36, none, .p (.mov (.tmp 7)), []⟩,
  ⟨some 37, none, .p (.iaddr 1 (.tmp 35) (.tmp 36)), []⟩,
  ⟨some 38, none, .l 1 false (.tmp 37), []⟩,
  ⟨some 39, none, .c (.func 32) [(.tmp 34), (.tmp 38)], []⟩,
  ⟨some 33, none, .p (.mov (.tmp 39)), []⟩,
  ⟨some 40, none, .p (.ext (.tmp 33) 0), []⟩,
  ⟨some 41, none, .p (.ext (.tmp 33) 1), []⟩,
  ⟨none, none, .e (.store 3 (.tmp 2) (.tmp 40)), []⟩]
def r21_8 : List AOper := [
  ⟨some 42, none, .p (.mov (.tmp 6)), []⟩,
  ⟨some 43, none, .l 3 true (.tmp 2), []⟩,
  ⟨some 44, none, .c (.func 30) [(.tmp 43)], []⟩,
  ⟨some 45, none, .p (.len (.tmp 44)), []⟩,
  ⟨some 46, none, .p (.mx (.tmp 42) (.tmp 45)), []⟩,
  ⟨some 6, none, .p (.mov (.tmp 46)), []⟩]
def r21_4 : List AOper := [
  ⟨some 15, none, .p (.mov (.tmp 7)), []⟩,
  ⟨some 16, none, .p (.bin .add (.tmp 15) (.const (.int .i64 1))), []⟩,
  ⟨some 7, none, .p (.mov (.tmp 16)), []⟩]
def b21_1 : ACode := .seq (.seq (.region r21_3) (.cond (.tmp 14) (.skip) (.exit 0))) (.seq (.block 1 (.seq (.seq (.region r21_5) (.cond (.tmp 26) (.region r21_6) (.region r21_7))) (.region r21_8))) (.region r21_4))
def r21_9 : List AOper := [
  ⟨some 47, none, .l 3 true (.tmp 2), []⟩,
  ⟨some 48, none, .p (.mov (.tmp 6)), []⟩,
  ⟨none, none, .e (.store 3 (.tmp 4) (.tmp 47)), []⟩,
  ⟨some 5, none, .p (.mov (.tmp 48)), []⟩]
def f21 : AFn := { body := .seq (.region r21_0) (.seq (.region r21_1) (.seq (.seq (.region r21_2) (.block 0 (.loop b21_1))) (.seq (.region r21_9) (.ret)))), results := [.cell 3 true 4, .tmp 5], n := 49 }

/-! function 22: "slices.Repeat[[]woggle/queue.scout,woggle/queue.scout]" -/
def r22_0 : List AOper := [
  ⟨some 4, none, .p (.mov (.const (.slice none 0 0))), []⟩]
def r22_1 : List AOper := [
  ⟨some 9, none, .p (.mov (.tmp 1)), []⟩,
  ⟨some 10, none, .p (.bin .lss (.tmp 9) (.const (.int .i64 0))), []⟩]
def r22_2 : List AOper := [
  ⟨some 11, none, .p (.mkif 9 (.const (.string ⟨#[99, 97, 110, 110, 111, 116, 32, 98, 101, 32, 110, 101, 103, 97, 116, 105, 118, 101]⟩))), []⟩,
  ⟨none, none, .p (.stuck (.tmp 11)), []⟩]
def r22_3 : List AOper := [
  ⟨some 13, none, .p (.mov (.tmp 0)), []⟩,
  ⟨some 14, none, .p (.len (.tmp 13)), []⟩,
  ⟨some 15, none, .p (.conv .u64 (.tmp 14)), []⟩,
  ⟨some 16, none, .p (.mov (.tmp 1)), []⟩,
  ⟨some 17, none, .p (.conv .u64 (.tmp 16)), []⟩,
  ⟨some 18, none, .c (.func 33) [(.tmp 15), (.tmp 17)], []⟩,
  ⟨some 12, none, .p (.mov (.tmp 18)), []⟩,
  ⟨some 19, none, .p (.ext (.tmp 12) 0), []⟩,
  ⟨some 20, none, .p (.ext (.tmp 12) 1), []⟩,
  ⟨some 5, none, .p (.mov (.tmp 19)), []⟩,
  ⟨some 6, none, .p (.mov (.tmp 20)), []⟩]
def r22_4 : List AOper := [
  ⟨some 21, none, .p (.mov (.tmp 5)), []⟩,
  ⟨some 22, none, .p (.bin .gtr (.tmp 21) (.const (.int .u64 0))), []⟩,
  ⟨some 23, none, .p (.mov (.tmp 22)), []⟩,
  ⟨some 24, some (23, false), .p (.mov (.tmp 6)), []⟩,
  ⟨some 25, some (23, false), .p (.bin .gtr (.tmp 24) (.const (.int .u64 9223372036854775807))), []⟩,
  ⟨some 26, none, .p (.pick (.tmp 23) (.const (.bool true)) (.tmp 25)), []⟩]
def r22_5 : List AOper := [
  ⟨some 27, none, .p (.mkif 9 (.const (.string ⟨#[116, 104, 101, 32, 114, 101, 115, 117, 108, 116, 32, 111, 102, 32, 40, 108, 101, 110, 40, 120, 41, 32, 42, 32, 99, 111, 117, 110, 116, 41, 32, 111, 118, 101, 114, 102, 108, 111, 119, 115]⟩))), []⟩,
  ⟨none, none, .p (.stuck (.tmp 27)), []⟩]
def r22_6 : List AOper := [
  ⟨some 28, none, .p (.mov (.tmp 6)), []⟩,
  ⟨some 29, none, .p (.conv .i64 (.tmp 28)), []⟩,
  ⟨some 30, none, .a (.mslice 32 [.bool false, .int .i64 0, .nilIface] (.tmp 29) (.tmp 29)), []⟩,
  ⟨some 7, none, .p (.mov (.tmp 30)), []⟩]
def r22_7 : List AOper := [
  ⟨some 31, none, .p (.mov (.tmp 7)), []⟩,
  ⟨some 32, none, .p (.mov (.tmp 0)), []⟩,
  ⟨some 33, none, .e (.copy 3 (.tmp 31) (.tmp 32)), []⟩,
  ⟨some 8, none, .p (.mov (.tmp 33)), []⟩]
def r22_8 : List AOper := [
  ⟨some 34, none, .p (.mov (.tmp 8)), []⟩,
  ⟨some 35, none, .p (.mov (.tmp 7)), []⟩,
  ⟨some 36, none, .p (.len (.tmp 35)), []⟩,
  ⟨some 37, none, .p (.bin .lss (.tmp 34) (.tmp 36)), []⟩]
def r22_9 : List AOper := [
  ⟨some 38, none, .p (.mov (.tmp 8)), []⟩,
  ⟨some 39, none, .p (.mov (.tmp 7)), []⟩,
  ⟨some 40, none, .p (.mov (.tmp 8)), []⟩,
  ⟨some 41, none, .p (.slice 3 (.tmp 39) (some (.tmp 40)) none none), []⟩,
  ⟨some 42, none, .p (.mov (.tmp 7)), []⟩,
  ⟨some 43, none, .p (.mov (.tmp 8)), []⟩,
  ⟨some 44, none, .p (.slice 3 (.tmp 42) none (some (.tmp 43)) none), []⟩,
  ⟨some 45, none, .e (.copy 3 (.tmp 41) (.tmp 44)), []⟩,
  ⟨some 46, none, .p (.bin .add (.tmp 38) (.tmp 45)), []⟩,
  ⟨some 8, none, .p (.mov (.tmp 46)), []⟩]
def b22_1 : ACode := .seq (.seq (.region r22_8) (.cond (.tmp 37) (.skip) (.exit 0))) (.block 1 (.region r22_9))
def r22_10 : List AOper := [
  ⟨some 47, none, .p (.mov (.tmp 7)), []⟩,
  ⟨some 4, none, .p (.mov (.tmp 47)), []⟩]
def f22 : AFn := { body := .seq (.region r22_0) (.seq (.seq (.region r22_1) (.cond (.tmp 10) (.region r22_2) (.skip))) (.seq (.region r22_3) (.seq (.seq (.region r22_4) (.cond (.tmp 26) (.region r22_5) (.skip))) (.seq (.region r22_6) (.seq (.region r22_7) (.seq (.block 0 (.loop b22_1)) (.seq (.region r22_10) (.ret)))))))), results := [.tmp 4], n := 48 }

/-! function 23: "(*woggle/queue.Shop).made" -/
def r23_0 : List AOper := [
  ⟨some 2, none, .p (.mov (.const (.bool false))), []⟩]
def r23_1 : List AOper := [
  ⟨some 3, none, .p (.mov (.tmp 0)), []⟩,
  ⟨some 4, none, .p (.eqv true .ptr (.tmp 3) (.const (.pointer none))), []⟩,
  ⟨some 5, none, .p (.mov (.tmp 4)), []⟩,
  ⟨some 6, some (5, true), .p (.mov (.tmp 0)), []⟩,
  ⟨some 7, some (5, true), .p (.nilc (.tmp 6)), []⟩,
  ⟨some 8, some (5, true), .p (.faddr 0 (.tmp 7)), []⟩,
  ⟨some 9, some (5, true), .l 1 false (.tmp 8), []⟩,
  ⟨some 10, some (5, true), .p (.len (.tmp 9)), []⟩,
  ⟨some 11, some (5, true), .p (.bin .gtr (.tmp 10) (.const (.int .i64 0))), []⟩,
  ⟨some 12, none, .p (.pick (.tmp 5) (.tmp 11) (.const (.bool false))), []⟩,
  ⟨some 2, none, .p (.mov (.tmp 12)), []⟩]
def f23 : AFn := { body := .seq (.region r23_0) (.seq (.region r23_1) (.ret)), results := [.tmp 2], n := 13 }

/-! function 24: "slices.ContainsFunc[[]int,int]" -/
def r24_0 : List AOper := [
  ⟨some 4, none, .p (.mov (.const (.bool false))), []⟩]
def r24_1 : List AOper := [
  ⟨some 5, none, .p (.mov (.tmp 0)), []⟩,
  ⟨some 6, none, .p (.mov (.tmp 1)), []⟩,
  ⟨some 7, none, .c (.func 34) [(.tmp 5), (.tmp 6)], []⟩,
  ⟨some 8, none, .p (.bin .geq (.tmp 7) (.const (.int .i64 0))), []⟩,
  ⟨some 4, none, .p (.mov (.tmp 8)), []⟩]
def f24 : AFn := { body := .seq (.region r24_0) (.seq (.region r24_1) (.ret)), results := [.tmp 4], n := 9 }

/-! function 25: "(*woggle/queue.Shop).Run$1" -/
def r25_0 : List AOper := [
  ⟨some 3, none, .p (.mov (.const (.bool false))), []⟩]
def r25_1 : List AOper := [
  ⟨some 4, none, .l 1 false (.tmp 1), []⟩,
  ⟨some 5, none, .p (.mov (.tmp 0)), []⟩,
  ⟨some 6, none, .c (.func 26) [(.tmp 4), (.tmp 5)], []⟩,
  ⟨some 7, none, .p (.bin .neq (.tmp 6) (.const (.int .i64 0))), []⟩,
  ⟨some 3, none, .p (.mov (.tmp 7)), []⟩]
def f25 : AFn := { body := .seq (.region r25_0) (.seq (.region r25_1) (.ret)), results := [.tmp 3], n := 8 }

/-! function 26: "(*woggle/queue.Shop).check" -/
def r26_0 : List AOper := [
  ⟨some 4, none, .p (.mov (.const (.int .i64 0))), []⟩]
def r26_1 : List AOper := [
  ⟨some 6, none, .p (.mov (.tmp 0)), []⟩,
  ⟨some 7, none, .c (.func 23) [(.tmp 6)], []⟩,
  ⟨some 8, none, .p (.not (.tmp 7)), []⟩,
  ⟨some 5, none, .p (.mov (.tmp 8)), []⟩]
def r26_2 : List AOper := [
  ⟨some 4, none, .p (.mov (.const (.int .i64 6))), []⟩]
def r26_3 : List AOper := [
  ⟨some 10, none, .p (.mov (.tmp 1)), []⟩,
  ⟨some 11, none, .p (.bin .lss (.tmp 10) (.const (.int .i64 0))), []⟩,
  ⟨some 12, none, .p (.mov (.tmp 11)), []⟩,
  ⟨some 13, some (12, false), .p (.mov (.tmp 1)), []⟩,
  ⟨some 14, some (12, false), .p (.mov (.tmp 0)), []⟩,
  ⟨some 15, some (12, false), .p (.nilc (.tmp 14)), []⟩,
  ⟨some 16, some (12, false), .p (.faddr 0 (.tmp 15)), []⟩,
  ⟨some 17, some (12, false), .l 1 false (.tmp 16), []⟩,
  ⟨some 18, some (12, false), .p (.len (.tmp 17)), []⟩,
  ⟨some 19, some (12, false), .p (.bin .geq (.tmp 13) (.tmp 18)), []⟩,
  ⟨some 20, none, .p (.pick (.tmp 12) (.const (.bool true)) (.tmp 19)), []⟩,
  ⟨some 9, none, .p (.mov (.tmp 20)), []⟩]
def r26_4 : List AOper := [
  ⟨some 4, none, .p (.mov (.const (.int .i64 1))), []⟩]
def r26_5 : List AOper := [
  ⟨some 4, none, .p (.mov (.const (.int .i64 0))), []⟩]
def f26 : AFn := { body := .seq (.region r26_0) (.seq (.block 0 (.seq (.region r26_1) (.cond (.tmp 5) (.seq (.region r26_2) (.ret)) (.seq (.region r26_3) (.cond (.tmp 9) (.seq (.region r26_4) (.ret)) (.skip)))))) (.seq (.region r26_5) (.ret))), results := [.tmp 4], n := 21 }

/-! function 27: "slices.Clone[[]woggle/queue.scout,woggle/queue.scout]" -/
def r27_0 : List AOper := [
  ⟨some 2, none, .p (.mov (.const (.slice none 0 0))), []⟩]
def r27_1 : List AOper := [
  ⟨some 3, none, .p (.mov (.tmp 0)), []⟩,
  ⟨some 4, none, .p (.eqv false .slice (.tmp 3) (.const (.slice none 0 0))), []⟩]
def r27_2 : List AOper := [
  ⟨some 2, none, .p (.mov (.const (.slice none 0 0))), []⟩]
def r27_3 : List AOper := [
  ⟨some 5, none, .a (.bslice (made [.bool false, .int .i64 0, .nilIface] 0) 0 []), []⟩,
  ⟨some 6, none, .p (.mov (.tmp 0)), []⟩,
  ⟨some 7, none, .e (.append 3 32 (.tmp 5) (.tmp 6)), []⟩,
  ⟨some 2, none, .p (.mov (.tmp 7)), []⟩]
def f27 : AFn := { body := .seq (.region r27_0) (.seq (.seq (.region r27_1) (.cond (.tmp 4) (.seq (.region r27_2) (.ret)) (.skip))) (.seq (.region r27_3) (.ret))), results := [.tmp 2], n := 8 }

/-! function 28: "woggle/woggleref01.Before" -/
def r28_0 : List AOper := [
  ⟨some 4, none, .p (.mov (.const (.bool false))), []⟩]
def r28_1 : List AOper := [
  ⟨some 5, none, .p (.mov (.const (.int .i64 0))), []⟩]
def r28_2 : List AOper := [
  ⟨some 6, none, .p (.mov (.tmp 5)), []⟩,
  ⟨some 7, none, .p (.mov (.tmp 0)), []⟩,
  ⟨some 8, none, .p (.len (.tmp 7)), []⟩,
  ⟨some 9, none, .p (.bin .lss (.tmp 6) (.tmp 8)), []⟩,
  ⟨some 10, none, .p (.mov (.tmp 9)), []⟩,
  ⟨some 11, some (10, true), .p (.mov (.tmp 5)), []⟩,
  ⟨some 12, some (10, true), .p (.mov (.tmp 1)), []⟩,
  ⟨some 13, some (10, true), .p (.len (.tmp 12)), []⟩,
  ⟨some 14, some (10, true), .p (.bin .lss (.tmp 11) (.tmp 13)), []⟩,
  ⟨some 15, none, .p (.pick (.tmp 10) (.tmp 14) (.const (.bool false))), []⟩]
def r28_4 : List AOper := [
  ⟨some 18, none, .p (.mov (.tmp 0)), []⟩,
  ⟨some 19, none, .p (.mov (.tmp 5)), []⟩,
  ⟨some 20, none, .p (.iaddr 1 (.tmp 18) (.tmp 19)), []⟩,
  ⟨some 21, none, .l 1 false (.tmp 20), []⟩,
  ⟨some 22, none, .p (.mov (.tmp 1)), []⟩,
  ⟨some 23, none, .p (.mov (.tmp 5)), []⟩,
  ⟨some 24, none, .p (.iaddr 1 (.tmp 22) (.tmp 23)), []⟩,
  ⟨some 25, none, .l 1 false (.tmp 24), []⟩,
  ⟨some 26, none, .p (.bin .neq (.tmp 21) (.tmp 25)), []⟩]
def r28_5 : List AOper := [
  ⟨some 27, none, .p (.mov (.tmp 0)), []⟩,
  ⟨some 28, none, .p (.mov (.tmp 5)), []⟩,
  ⟨some 29, none, .p (.iaddr 1 (.tmp 27) (.tmp 28)), []⟩,
  ⟨some 30, none, .l 1 false (.tmp 29), []⟩,
  ⟨some 31, none, .p (.mov (.tmp 1)), []⟩,
  ⟨some 32, none, .p (.mov (.tmp 5)), []⟩,
  ⟨some 33, none, .p (.iaddr 1 (.tmp 31) (.tmp 32)), []⟩,
  ⟨some 34, none, .l 1 false (.tmp 33), []⟩,
  ⟨some 35, none, .p (.bin .lss (.tmp 30) (.tmp 34)), []⟩,
  ⟨some 4, none, .p (.mov (.tmp 35)), []⟩]
def r28_3 : List AOper := [
  ⟨some 16, none, .p (.mov (.tmp 5)), []⟩,
  ⟨some 17, none, .p (.bin .add (.tmp 16) (.const (.int .i64 1))), []⟩,
  ⟨some 5, none, .p (.mov (.tmp 17)), []⟩]
def b28_1 : ACode := .seq (.seq (.region r28_2) (.cond (.tmp 15) (.skip) (.exit 0))) (.seq (.block 1 (.seq (.region r28_4) (.cond (.tmp 26) (.seq (.region r28_5) (.ret)) (.skip)))) (.region r28_3))
def r28_6 : List AOper := [
  ⟨some 36, none, .p (.mov (.tmp 0)), []⟩,
  ⟨some 37, none, .p (.len (.tmp 36)), []⟩,
  ⟨some 38, none, .p (.mov (.tmp 1)), []⟩,
  ⟨some 39, none, .p (.len (.tmp 38)), []⟩,
  ⟨some 40, none, .p (.bin .lss (.tmp 37) (.tmp 39)), []⟩,
  ⟨some 4, none, .p (.mov (.tmp 40)), []⟩]
def f28 : AFn := { body := .seq (.region r28_0) (.seq (.seq (.region r28_1) (.block 0 (.loop b28_1))) (.seq (.region r28_6) (.ret))), results := [.tmp 4], n := 41 }

/-! function 29: "(*woggle/queue.Shop).first" -/
def r29_0 : List AOper := [
  ⟨some 6, none, .p (.mov (.const (.bool false))), []⟩]
def r29_1 : List AOper := [
  ⟨some 9, none, .p (.mov (.tmp 0)), []⟩,
  ⟨some 10, none, .p (.nilc (.tmp 9)), []⟩,
  ⟨some 11, none, .p (.faddr 0 (.tmp 10)), []⟩,
  ⟨some 12, none, .l 1 false (.tmp 11), []⟩,
  ⟨some 13, none, .p (.mov (.tmp 1)), []⟩,
  ⟨some 14, none, .p (.iaddr 3 (.tmp 12) (.tmp 13)), []⟩,
  ⟨some 15, none, .p (.faddr 1 (.tmp 14)), []⟩,
  ⟨some 16, none, .l 1 false (.tmp 15), []⟩,
  ⟨some 17, none, .p (.mov (.tmp 0)), []⟩,
  ⟨some 18, none, .p (.nilc (.tmp 17)), []⟩,
  ⟨some 19, none, .p (.faddr 0 (.tmp 18)), []⟩,
  ⟨some 20, none, .l 1 false (.tmp 19), []⟩,
  ⟨some 21, none, .p (.mov (.tmp 2)), []⟩,
  ⟨some 22, none, .p (.iaddr 3 (.tmp 20) (.tmp 21)), []⟩,
  ⟨some 23, none, .p (.faddr 1 (.tmp 22)), []⟩,
  ⟨some 24, none, .l 1 false (.tmp 23), []⟩,
  ⟨some 7, none, .p (.mov (.tmp 16)), []⟩,
  ⟨some 8, none, .p (.mov (.tmp 24)), []⟩]
def r29_2 : List AOper := [
  ⟨some 25, none, .p (.mov (.tmp 7)), []⟩,
  ⟨some 26, none, .p (.bin .neq (.tmp 25) (.const (.int .i64 0))), []⟩,
  ⟨some 27, none, .p (.mov (.tmp 26)), []⟩,
  ⟨some 28, some (27, true), .p (.mov (.tmp 7)), []⟩,
  ⟨some 29, some (27, true), .p (.mov (.tmp 8)), []⟩,
  ⟨some 30, some (27, true), .p (.bin .lss (.tmp 28) (.tmp 29)), []⟩,
  ⟨some 31, some (27, true), .p (.mov (.tmp 30)), []⟩,
  ⟨some 32, some (31, false), .p (.mov (.tmp 7)), []⟩,
  ⟨some 33, some (31, false), .p (.mov (.tmp 8)), []⟩,
  ⟨some 34, some (31, false), .p (.bin .eql (.tmp 32) (.tmp 33)), []⟩,
  ⟨some 35, some (31, false), .p (.mov (.tmp 34)), []⟩,
  ⟨some 36, some (35, true), .p (.mov (.tmp 1)), []⟩,
  ⟨some 37, some (35, true), .p (.mov (.tmp 2)), []⟩,
  ⟨some 38, some (35, true), .p (.bin .lss (.tmp 36) (.tmp 37)), []⟩,
  ⟨some 39, some (31, false), .p (.pick (.tmp 35) (.tmp 38) (.const (.bool false))), []⟩,
  ⟨some 40, some (27, true), .p (.pick (.tmp 31) (.const (.bool true)) (.tmp 39)), []⟩,
  ⟨some 41, none, .p (.pick (.tmp 27) (.tmp 40) (.const (.bool false))), []⟩,
  ⟨some 6, none, .p (.mov (.tmp 41)), []⟩]
def f29 : AFn := { body := .seq (.region r29_0) (.seq (.region r29_1) (.seq (.region r29_2) (.ret))), results := [.tmp 6], n := 42 }

/-! function 30: "(woggle/woggleref10.Shop).Inside" -/
def r30_0 : List AOper := [
  ⟨some 1, none, .a (.box (.tmp 0)), []⟩,
  ⟨some 2, none, .p (.mov (.const (.slice none 0 0))), []⟩]
def r30_1 : List AOper := [
  ⟨some 5, none, .a (.bslice (made [.int .i64 0] 0) 0 []), []⟩,
  ⟨some 3, none, .p (.mov (.tmp 5)), []⟩]
def r30_2 : List AOper := [
  ⟨some 4, none, .p (.mov (.const (.int .i64 0))), []⟩]
def r30_3 : List AOper := [
  ⟨some 6, none, .p (.mov (.tmp 4)), []⟩,
  ⟨some 7, none, .p (.faddr 0 (.tmp 1)), []⟩,
  ⟨some 8, none, .l 1 false (.tmp 7), []⟩,
  ⟨some 9, none, .p (.len (.tmp 8)), []⟩,
  ⟨some 10, none, .p (.bin .lss (.tmp 6) (.tmp 9)), []⟩]
def r30_5 : List AOper := [
  ⟨some 13, none, .p (.faddr 0 (.tmp 1)), []⟩,
  ⟨some 14, none, .l 1 false (.tmp 13), []⟩,
  ⟨some 15, none, .p (.mov (.tmp 4)), []⟩,
  ⟨some 16, none, .p (.iaddr 5 (.tmp 14) (.tmp 15)), []⟩,
  ⟨some 17, none, .p (.faddr 2 (.tmp 16)), []⟩,
  ⟨some 18, none, .l 1 false (.tmp 17), []⟩,
  ⟨some 19, none, .p (.bin .eql (.tmp 18) (.const (.int .i64 7))), []⟩]
def r30_6 : List AOper := [
  ⟨some 20, none, .p (.mov (.tmp 3)), []⟩,
  ⟨some 21, none, .p (.mov (.tmp 4)), []⟩,
  ⟨some 22, none, .a (.bslice (made [.int .i64 0] 1) 1 [(0, 1, (.tmp 21))]), []⟩,
  ⟨some 23, none, .e (.append 1 8 (.tmp 20) (.tmp 22)), []⟩,
  ⟨some 3, none, .p (.mov (.tmp 23)), []⟩]
def r30_4 : List AOper := [
  ⟨some 11, none, .p (.mov (.tmp 4)), []⟩,
  ⟨some 12, none, .p (.bin .add (.tmp 11) (.const (.int .i64 1))), []⟩,
  ⟨some 4, none, .p (.mov (.tmp 12)), []⟩]
def b30_1 : ACode := .seq (.seq (.region r30_3) (.cond (.tmp 10) (.skip) (.exit 0))) (.seq (.block 1 (.seq (.region r30_5) (.cond (.tmp 19) (.region r30_6) (.skip)))) (.region r30_4))
def r30_7 : List AOper := [
  ⟨some 24, none, .p (.mov (.tmp 3)), []⟩,
  ⟨some 2, none, .p (.mov (.tmp 24)), []⟩]
def f30 : AFn := { body := .seq (.region r30_0) (.seq (.region r30_1) (.seq (.seq (.region r30_2) (.block 0 (.loop b30_1))) (.seq (.region r30_7) (.ret)))), results := [.tmp 2], n := 25 }

/-! function 31: "(woggle/woggleref10.Shop).Want" -/
def r31_0 : List AOper := [
  ⟨some 2, none, .a (.box (.tmp 0)), []⟩,
  ⟨some 4, none, .a (.var [.slice none 0 0, .bool false, .int .i64 0]), []⟩]
def r31_1 : List AOper := [
  ⟨some 5, none, .l 3 true (.tmp 2), []⟩,
  ⟨some 6, none, .c (.func 35) [(.tmp 5)], []⟩,
  ⟨none, none, .e (.store 3 (.tmp 2) (.tmp 6)), []⟩]
def r31_2 : List AOper := [
  ⟨some 7, none, .p (.faddr 0 (.tmp 2)), []⟩,
  ⟨some 8, none, .l 1 false (.tmp 7), []⟩,
  ⟨some 9, none, .p (.mov (.tmp 1)), []⟩,
  ⟨some 10, none, .p (.iaddr 5 (.tmp 8) (.tmp 9)), []⟩,
  ⟨some 11, none, .p (.faddr 2 (.tmp 10)), []⟩,
  ⟨none, none, .e (.store 1 (.tmp 11) (.const (.int .i64 1))), []⟩]
def r31_3 : List AOper := [
  ⟨some 12, none, .l 3 true (.tmp 2), []⟩,
  ⟨none, none, .e (.store 3 (.tmp 4) (.tmp 12)), []⟩]
def f31 : AFn := { body := .seq (.region r31_0) (.seq (.region r31_1) (.seq (.region r31_2) (.seq (.region r31_3) (.ret)))), results := [.cell 3 true 4], n := 13 }

/-! function 32: "(woggle/woggleref10.Shop).Step" -/
def r32_0 : List AOper := [
  ⟨some 2, none, .a (.box (.tmp 0)), []⟩,
  ⟨some 4, none, .a (.var [.slice none 0 0, .bool false, .int .i64 0]), []⟩,
  ⟨some 5, none, .p (.mov (.const (.bool false))), []⟩]
def r32_1 : List AOper := [
  ⟨some 9, none, .l 3 true (.tmp 2), []⟩,
  ⟨some 10, none, .c (.func 35) [(.tmp 9)], []⟩,
  ⟨none, none, .e (.store 3 (.tmp 2) (.tmp 10)), []⟩]
def r32_2 : List AOper := [
  ⟨some 11, none, .p (.faddr 0 (.tmp 2)), []⟩,
  ⟨some 12, none, .l 1 false (.tmp 11), []⟩,
  ⟨some 13, none, .p (.mov (.tmp 1)), []⟩,
  ⟨some 14, none, .p (.iaddr 5 (.tmp 12) (.tmp 13)), []⟩,
  ⟨some 15, none, .l 5 true (.tmp 14), []⟩,
  ⟨some 16, none, .p (.faddr 0 (.tmp 2)), []⟩,
  ⟨some 17, none, .l 1 false (.tmp 16), []⟩,
  ⟨some 18, none, .p (.len (.tmp 17)), []⟩,
  ⟨some 6, none, .a (.var [.bool false, .int .i64 0, .int .i64 0, .int .i64 0, .int .i64 0]), []⟩,
  ⟨none, none, .e (.store 5 (.tmp 6) (.tmp 15)), [((.tmp 16), 1)]⟩,
  ⟨some 7, none, .p (.mov (.tmp 18)), []⟩]
def r32_3 : List AOper := [
  ⟨some 19, none, .p (.faddr 2 (.tmp 6)), []⟩,
  ⟨some 20, none, .l 1 false (.tmp 19), []⟩]
def r32_5 : List AOper := [
  ⟨some 24, none, .p (.bin .eql (.tmp 20) (.const (.int .i64 1))), []⟩,
  ⟨some 23, none, .p (.mov (.tmp 24)), []⟩]
def r32_6 : List AOper := [
  ⟨some 25, none, .p (.faddr 0 (.tmp 6)), []⟩,
  ⟨none, none, .e (.store 1 (.tmp 25) (.const (.bool true))), []⟩,
  ⟨some 26, none, .p (.faddr 4 (.tmp 6)), []⟩,
  ⟨none, none, .e (.store 1 (.tmp 26) (.const (.int .i64 0))), []⟩,
  ⟨some 27, none, .p (.faddr 3 (.tmp 6)), []⟩,
  ⟨none, none, .e (.store 1 (.tmp 27) (.const (.int .i64 0))), []⟩,
  ⟨some 28, none, .p (.faddr 2 (.tmp 6)), []⟩,
  ⟨none, none, .e (.store 1 (.tmp 28) (.const (.int .i64 2))), []⟩]
def r32_7 : List AOper := [
  ⟨some 30, none, .p (.bin .eql (.tmp 20) (.const (.int .i64 2))), []⟩,
  ⟨some 29, none, .p (.mov (.tmp 30)), []⟩]
def r32_8 : List AOper := [
  ⟨some 31, none, .p (.faddr 4 (.tmp 6)), []⟩,
  ⟨some 32, none, .l 1 false (.tmp 31), []⟩,
  ⟨some 33, none, .p (.faddr 0 (.tmp 2)), []⟩,
  ⟨some 34, none, .l 1 false (.tmp 33), []⟩,
  ⟨some 35, none, .p (.faddr 3 (.tmp 6)), []⟩,
  ⟨some 36, none, .l 1 false (.tmp 35), []⟩,
  ⟨some 37, none, .p (.iaddr 5 (.tmp 34) (.tmp 36)), []⟩,
  ⟨some 38, none, .p (.faddr 1 (.tmp 37)), []⟩,
  ⟨some 39, none, .l 1 false (.tmp 38), []⟩,
  ⟨some 40, none, .p (.mx (.tmp 32) (.tmp 39)), []⟩,
  ⟨some 41, none, .p (.faddr 4 (.tmp 6)), []⟩,
  ⟨none, none, .e (.store 1 (.tmp 41) (.tmp 40)), []⟩]
def r32_9 : List AOper := [
  ⟨some 42, none, .p (.faddr 3 (.tmp 6)), []⟩,
  ⟨some 43, none, .l 1 false (.tmp 42), []⟩,
  ⟨some 44, none, .p (.bin .add (.tmp 43) (.const (.int .i64 1))), []⟩,
  ⟨some 45, none, .p (.faddr 3 (.tmp 6)), []⟩,
  ⟨none, none, .e (.store 1 (.tmp 45) (.tmp 44)), []⟩]
def r32_10 : List AOper := [
  ⟨some 46, none, .p (.faddr 3 (.tmp 6)), []⟩,
  ⟨some 47, none, .l 1 false (.tmp 46), []⟩,
  ⟨some 48, none, .p (.mov (.tmp 7)), []⟩,
  ⟨some 49, none, .p (.bin .eql (.tmp 47) (.tmp 48)), []⟩]
def r32_11 : List AOper := [
  ⟨some 50, none, .p (.faddr 2 (.tmp 6)), []⟩,
  ⟨none, none, .e (.store 1 (.tmp 50) (.const (.int .i64 3))), []⟩]
def r32_12 : List AOper := [
  ⟨some 52, none, .p (.bin .eql (.tmp 20) (.const (.int .i64 3))), []⟩,
  ⟨some 51, none, .p (.mov (.tmp 52)), []⟩]
def r32_13 : List AOper := [
  ⟨some 53, none, .p (.faddr 4 (.tmp 6)), []⟩,
  ⟨some 54, none, .l 1 false (.tmp 53), []⟩,
  ⟨some 55, none, .p (.bin .add (.tmp 54) (.const (.int .i64 1))), []⟩,
  ⟨some 56, none, .p (.faddr 1 (.tmp 6)), []⟩,
  ⟨none, none, .e (.store 1 (.tmp 56) (.tmp 55)), []⟩,
  ⟨some 57, none, .p (.faddr 2 (.tmp 6)), []⟩,
  ⟨none, none, .e (.store 1 (.tmp 57) (.const (.int .i64 4))), []⟩]
def r32_14 : List AOper := [
  ⟨some 59, none, .p (.bin .eql (.tmp 20) (.const (.int .i64 4))), []⟩,
  ⟨some 58, none, .p (.mov (.tmp 59)), []⟩]
def r32_15 : List AOper := [
  ⟨some 60, none, .p (.faddr 0 (.tmp 6)), []⟩,
  ⟨none, none, .e (.store 1 (.tmp 60) (.const (.bool false))), []⟩,
  ⟨some 61, none, .p (.faddr 3 (.tmp 6)), []⟩,
  ⟨none, none, .e (.store 1 (.tmp 61) (.const (.int .i64 0))), []⟩,
  ⟨some 62, none, .p (.faddr 2 (.tmp 6)), []⟩,
  ⟨none, none, .e (.store 1 (.tmp 62) (.const (.int .i64 5))), []⟩]
def r32_16 : List AOper := [
  ⟨some 64, none, .p (.bin .eql (.tmp 20) (.const (.int .i64 5))), []⟩,
  ⟨some 63, none, .p (.mov (.tmp 64)), []⟩]
def r32_18 : List AOper := [
  ⟨some 67, none, .p (.faddr 3 (.tmp 6)), []⟩,
  ⟨some 68, none, .l 1 false (.tmp 67), []⟩,
  ⟨some 69, none, .p (.mov (.tmp 7)), []⟩,
  ⟨some 70, none, .p (.bin .eql (.tmp 68) (.tmp 69)), []⟩,
  ⟨some 66, none, .p (.mov (.tmp 70)), []⟩]
def r32_19 : List AOper := [
  ⟨some 71, none, .p (.faddr 2 (.tmp 6)), []⟩,
  ⟨none, none, .e (.store 1 (.tmp 71) (.const (.int .i64 7))), []⟩]
def r32_20 : List AOper := [
  ⟨some 72, none, .p (.faddr 2 (.tmp 2)), []⟩,
  ⟨some 73, none, .l 1 false (.tmp 72), []⟩,
  ⟨some 74, none, .p (.bin .add (.tmp 73) (.const (.int .i64 1))), []⟩,
  ⟨some 75, none, .p (.faddr 2 (.tmp 2)), []⟩,
  ⟨none, none, .e (.store 1 (.tmp 75) (.tmp 74)), []⟩]
def r32_21 : List AOper := [
  ⟨some 77, none, .p (.faddr 3 (.tmp 6)), []⟩,
  ⟨some 78, none, .l 1 false (.tmp 77), []⟩,
  ⟨some 79, none, .p (.mov (.tmp 1)), []⟩,
  ⟨some 80, none, .p (.bin .eql (.tmp 78) (.tmp 79)), []⟩,
  ⟨some 76, none, .p (.mov (.tmp 80)), []⟩]
def r32_22 : List AOper := [
  ⟨some 81, none, .p (.faddr 3 (.tmp 6)), []⟩,
  ⟨some 82, none, .l 1 false (.tmp 81), []⟩,
  ⟨some 83, none, .p (.bin .add (.tmp 82) (.const (.int .i64 1))), []⟩,
  ⟨some 84, none, .p (.faddr 3 (.tmp 6)), []⟩,
  ⟨none, none, .e (.store 1 (.tmp 84) (.tmp 83)), []⟩]
def r32_23 : List AOper := [
  ⟨some 86, none, .p (.faddr 1 (.tmp 2)), []⟩,
  ⟨some 87, none, .l 1 false (.tmp 86), []⟩,
  ⟨some 88, none, .p (.mov (.tmp 87)), []⟩,
  ⟨some 89, some (88, false), .p (.faddr 0 (.tmp 2)), []⟩,
  ⟨some 90, some (88, false), .l 1 false (.tmp 89), []⟩,
  ⟨some 91, some (88, false), .p (.faddr 3 (.tmp 6)), []⟩,
  ⟨some 92, some (88, false), .l 1 false (.tmp 91), []⟩,
  ⟨some 93, some (88, false), .p (.iaddr 5 (.tmp 90) (.tmp 92)), []⟩,
  ⟨some 94, some (88, false), .p (.faddr 0 (.tmp 93)), []⟩,
  ⟨some 95, some (88, false), .l 1 false (.tmp 94), []⟩,
  ⟨some 96, some (88, false), .p (.not (.tmp 95)), []⟩,
  ⟨some 97, none, .p (.pick (.tmp 88) (.const (.bool true)) (.tmp 96)), []⟩,
  ⟨some 85, none, .p (.mov (.tmp 97)), []⟩]
def r32_24 : List AOper := [
  ⟨some 98, none, .p (.faddr 2 (.tmp 6)), []⟩,
  ⟨none, none, .e (.store 1 (.tmp 98) (.const (.int .i64 6))), []⟩]
def r32_17 : List AOper := [
  ⟨some 65, none, .l 3 true (.tmp 2), []⟩,
  ⟨none, none, .e (.store 3 (.tmp 4) (.tmp 65)), []⟩,
  ⟨some 5, none, .p (.mov (.const (.bool false))), []⟩]
def r32_25 : List AOper := [
  ⟨some 100, none, .p (.bin .eql (.tmp 20) (.const (.int .i64 6))), []⟩,
  ⟨some 99, none, .p (.mov (.tmp 100)), []⟩]
def r32_26 : List AOper := [
  ⟨some 101, none, .p (.faddr 0 (.tmp 2)), []⟩,
  ⟨some 102, none, .l 1 false (.tmp 101), []⟩,
  ⟨some 103, none, .p (.faddr 3 (.tmp 6)), []⟩,
  ⟨some 104, none, .l 1 false (.tmp 103), []⟩,
  ⟨some 105, none, .p (.iaddr 5 (.tmp 102) (.tmp 104)), []⟩,
  ⟨some 106, none, .p (.faddr 1 (.tmp 105)), []⟩,
  ⟨some 107, none, .l 1 false (.tmp 106), []⟩,
  ⟨some 8, none, .p (.mov (.tmp 107)), []⟩]
def r32_27 : List AOper := [
  ⟨some 108, none, .p (.mov (.tmp 8)), []⟩,
  ⟨some 109, none, .p (.bin .neq (.tmp 108) (.const (.int .i64 0))), []⟩,
  ⟨some 110, none, .p (.mov (.tmp 109)), []⟩,
  ⟨some 111, some (110, true), .p (.mov (.tmp 8)), []⟩,
  ⟨some 112, some (110, true), .p (.faddr 1 (.tmp 6)), []⟩,
  ⟨some 113, some (110, true), .l 1 false (.tmp 112), []⟩,
  ⟨some 114, some (110, true), .p (.bin .lss (.tmp 111) (.tmp 113)), []⟩,
  ⟨some 115, some (110, true), .p (.mov (.tmp 114)), []⟩,
  ⟨some 116, some (115, false), .p (.mov (.tmp 8)), []⟩,
  ⟨some 117, some (115, false), .p (.faddr 1 (.tmp 6)), []⟩,
  ⟨some 118, some (115, false), .l 1 false (.tmp 117), []⟩,
  ⟨some 119, some (115, false), .p (.bin .eql (.tmp 116) (.tmp 118)), []⟩,
  ⟨some 120, some (115, false), .p (.mov (.tmp 119)), []⟩,
  ⟨some 121, some (120, true), .p (.faddr 3 (.tmp 6)), []⟩,
  ⟨some 122, some (120, true), .l 1 false (.tmp 121), []⟩,
  ⟨some 123, some (120, true), .p (.mov (.tmp 1)), []⟩,
  ⟨some 124, some (120, true), .p (.bin .lss (.tmp 122) (.tmp 123)), []⟩,
  ⟨some 125, some (115, false), .p (.pick (.tmp 120) (.tmp 124) (.const (.bool false))), []⟩,
  ⟨some 126, some (110, true), .p (.pick (.tmp 115) (.const (.bool true)) (.tmp 125)), []⟩,
  ⟨some 127, none, .p (.pick (.tmp 110) (.tmp 126) (.const (.bool false))), []⟩]
def r32_28 : List AOper := [
  ⟨some 128, none, .l 3 true (.tmp 2), []⟩,
  ⟨none, none, .e (.store 3 (.tmp 4) (.tmp 128)), []⟩,
  ⟨some 5, none, .p (.mov (.const (.bool false))), []⟩]
def r32_29 : List AOper := [
  ⟨some 129, none, .p (.faddr 3 (.tmp 6)), []⟩,
  ⟨some 130, none, .l 1 false (.tmp 129), []⟩,
  ⟨some 131, none, .p (.bin .add (.tmp 130) (.const (.int .i64 1))), []⟩,
  ⟨some 132, none, .p (.faddr 3 (.tmp 6)), []⟩,
  ⟨none, none, .e (.store 1 (.tmp 132) (.tmp 131)), []⟩]
def r32_30 : List AOper := [
  ⟨some 133, none, .p (.faddr 2 (.tmp 6)), []⟩,
  ⟨none, none, .e (.store 1 (.tmp 133) (.const (.int .i64 5))), []⟩]
def r32_4 : List AOper := [
  ⟨some 21, none, .p (.faddr 1 (.tmp 6)), []⟩,
  ⟨none, none, .e (.store 1 (.tmp 21) (.const (.int .i64 0))), []⟩,
  ⟨some 22, none, .p (.faddr 2 (.tmp 6)), []⟩,
  ⟨none, none, .e (.store 1 (.tmp 22) (.const (.int .i64 0))), []⟩]
def r32_31 : List AOper := [
  ⟨some 134, none, .p (.faddr 0 (.tmp 2)), []⟩,
  ⟨some 135, none, .l 1 false (.tmp 134), []⟩,
  ⟨some 136, none, .p (.mov (.tmp 1)), []⟩,
  ⟨some 137, none, .l 5 true (.tmp 6), []⟩,
  ⟨some 138, none, .p (.iaddr 5 (.tmp 135) (.tmp 136)), []⟩,
  ⟨none, none, .e (.store 5 (.tmp 138) (.tmp 137)), []⟩]
def r32_32 : List AOper := [
  ⟨some 139, none, .l 3 true (.tmp 2), []⟩,
  ⟨none, none, .e (.store 3 (.tmp 4) (.tmp 139)), []⟩,
  ⟨some 5, none, .p (.mov (.const (.bool true))), []⟩]
def f32 : AFn := { body := .seq (.region r32_0) (.seq (.region r32_1) (.seq (.region r32_2) (.seq (.seq (.region r32_3) (.block 0 (.seq (.region r32_5) (.cond (.tmp 23) (.region r32_6) (.seq (.region r32_7) (.cond (.tmp 29) (.seq (.region r32_8) (.seq (.region r32_9) (.seq (.region r32_10) (.cond (.tmp 49) (.region r32_11) (.skip))))) (.seq (.region r32_12) (.cond (.tmp 51) (.region r32_13) (.seq (.region r32_14) (.cond (.tmp 58) (.region r32_15) (.seq (.region r32_16) (.cond (.tmp 63) (.block 1 (.seq (.region r32_18) (.cond (.tmp 66) (.seq (.region r32_19) (.region r32_20)) (.seq (.region r32_21) (.cond (.tmp 76) (.region r32_22) (.seq (.region r32_23) (.cond (.tmp 85) (.region r32_24) (.seq (.region r32_17) (.ret))))))))) (.seq (.region r32_25) (.cond (.tmp 99) (.seq (.region r32_26) (.seq (.seq (.region r32_27) (.cond (.tmp 127) (.seq (.region r32_28) (.ret)) (.skip))) (.seq (.region r32_29) (.region r32_30)))) (.region r32_4))))))))))))))) (.seq (.region r32_31) (.seq (.region r32_32) (.ret)))))), results := [.cell 3 true 4, .tmp 5], n := 140 }

/-! function 33: "math/bits.Mul" -/
def r33_0 : List AOper := [
  ⟨some 4, none, .p (.mov (.const (.int .u64 0))), []⟩,
  ⟨some 5, none, .p (.mov (.const (.int .u64 0))), []⟩]
def r33_1 : List AOper := [
  ⟨some 11, none, .p (.mov (.tmp 0)), []⟩,
  ⟨some 12, none, .p (.conv .u32 (.tmp 11)), []⟩,
  ⟨some 13, none, .p (.mov (.tmp 1)), []⟩,
  ⟨some 14, none, .p (.conv .u32 (.tmp 13)), []⟩,
  ⟨some 15, none, .c (.func 36) [(.tmp 12), (.tmp 14)], []⟩,
  ⟨some 10, none, .p (.mov (.tmp 15)), []⟩,
  ⟨some 16, none, .p (.ext (.tmp 10) 0), []⟩,
  ⟨some 17, none, .p (.ext (.tmp 10) 1), []⟩,
  ⟨some 6, none, .p (.mov (.tmp 16)), []⟩,
  ⟨some 7, none, .p (.mov (.tmp 17)), []⟩]
def r33_2 : List AOper := [
  ⟨some 18, none, .p (.mov (.tmp 6)), []⟩,
  ⟨some 19, none, .p (.conv .u64 (.tmp 18)), []⟩,
  ⟨some 20, none, .p (.mov (.tmp 7)), []⟩,
  ⟨some 21, none, .p (.conv .u64 (.tmp 20)), []⟩,
  ⟨some 4, none, .p (.mov (.tmp 19)), []⟩,
  ⟨some 5, none, .p (.mov (.tmp 21)), []⟩]
def r33_3 : List AOper := [
  ⟨some 23, none, .p (.mov (.tmp 0)), []⟩,
  ⟨some 24, none, .p (.mov (.tmp 1)), []⟩,
  ⟨some 25, none, .c (.func 37) [(.tmp 23), (.tmp 24)], []⟩,
  ⟨some 22, none, .p (.mov (.tmp 25)), []⟩,
  ⟨some 26, none, .p (.ext (.tmp 22) 0), []⟩,
  ⟨some 27, none, .p (.ext (.tmp 22) 1), []⟩,
  ⟨some 8, none, .p (.mov (.tmp 26)), []⟩,
  ⟨some 9, none, .p (.mov (.tmp 27)), []⟩]
def r33_4 : List AOper := [
  ⟨some 28, none, .p (.mov (.tmp 8)), []⟩,
  ⟨some 29, none, .p (.mov (.tmp 9)), []⟩,
  ⟨some 4, none, .p (.mov (.tmp 28)), []⟩,
  ⟨some 5, none, .p (.mov (.tmp 29)), []⟩]
def f33 : AFn := { body := .seq (.region r33_0) (.seq (.cond (.const (.bool false)) (.seq (.region r33_1) (.seq (.region r33_2) (.ret))) (.skip)) (.seq (.region r33_3) (.seq (.region r33_4) (.ret)))), results := [.tmp 4, .tmp 5], n := 30 }

/-! function 34: "slices.IndexFunc[[]int,int]" -/
def r34_0 : List AOper := [
  ⟨some 4, none, .p (.mov (.const (.int .i64 0))), []⟩]
def r34_1 : List AOper := [
  ⟨some 6, none, .p (.mov (.tmp 0)), []⟩,
  ⟨some 7, none, .p (.len (.tmp 6)), []⟩,
  ⟨some 8, none, .p (.mov (.const (.int .i64 0))), []⟩]
def r34_2 : List AOper := [
  ⟨some 9, none, .p (.bin .lss (.tmp 8) (.tmp 7)), []⟩]
def r34_3 : List AOper := [
  ⟨some 10, none, .p (.mov (.tmp 8)), []⟩,
  ⟨some 5, none, .p (.mov (.tmp 10)), []⟩]
def r34_4 : List AOper := [
  ⟨some 11, none, .p (.mov (.tmp 1)), []⟩,
  ⟨some 12, none, .p (.mov (.tmp 0)), []⟩,
  ⟨some 13, none, .p (.mov (.tmp 5)), []⟩,
  ⟨some 14, none, .p (.iaddr 1 (.tmp 12) (.tmp 13)), []⟩,
  ⟨some 15, none, .l 1 false (.tmp 14), []⟩,
  ⟨some 16, none, .c (.tmp 11) [(.tmp 15)], []⟩]
def r34_5 : List AOper := [
  ⟨some 17, none, .p (.mov (.tmp 5)), []⟩,
  ⟨some 4, none, .p (.mov (.tmp 17)), []⟩]
def r34_6 : List AOper := [
  ⟨some 18, none, .p (.bin .add (.tmp 8) (.const (.int .i64 1))), []⟩,
  ⟨some 8, none, .p (.mov (.tmp 18)), []⟩]
def b34_1 : ACode := .seq (.region r34_2) (.seq (.cond (.tmp 9) (.skip) (.exit 0)) (.seq (.block 1 (.seq (.region r34_3) (.seq (.region r34_4) (.cond (.tmp 16) (.seq (.region r34_5) (.ret)) (.skip))))) (.region r34_6)))
def r34_7 : List AOper := [
  ⟨some 4, none, .p (.mov (.const (.int .i64 (-1)))), []⟩]
def f34 : AFn := { body := .seq (.region r34_0) (.seq (.seq (.region r34_1) (.block 0 (.loop b34_1))) (.seq (.region r34_7) (.ret))), results := [.tmp 4], n := 19 }

/-! function 35: "(woggle/woggleref10.Shop).Copy" -/
def r35_0 : List AOper := [
  ⟨some 1, none, .a (.box (.tmp 0)), []⟩,
  ⟨some 2, none, .a (.var [.slice none 0 0, .bool false, .int .i64 0]), []⟩]
def r35_1 : List AOper := [
  ⟨some 3, none, .a (.bslice (made [.bool false, .int .i64 0, .int .i64 0, .int .i64 0, .int .i64 0] 0) 0 []), []⟩,
  ⟨some 4, none, .p (.faddr 0 (.tmp 1)), []⟩,
  ⟨some 5, none, .l 1 false (.tmp 4), []⟩,
  ⟨some 6, none, .e (.append 5 40 (.tmp 3) (.tmp 5)), []⟩,
  ⟨some 7, none, .p (.faddr 0 (.tmp 1)), []⟩,
  ⟨none, none, .e (.store 1 (.tmp 7) (.tmp 6)), []⟩]
def r35_2 : List AOper := [
  ⟨some 8, none, .l 3 true (.tmp 1), []⟩,
  ⟨none, none, .e (.store 3 (.tmp 2) (.tmp 8)), []⟩]
def f35 : AFn := { body := .seq (.region r35_0) (.seq (.region r35_1) (.seq (.region r35_2) (.ret))), results := [.cell 3 true 2], n := 9 }

/-! function 36: "math/bits.Mul32" -/
def r36_0 : List AOper := [
  ⟨some 4, none, .p (.mov (.const (.int .u32 0))), []⟩,
  ⟨some 5, none, .p (.mov (.const (.int .u32 0))), []⟩]
def r36_1 : List AOper := [
  ⟨some 7, none, .p (.mov (.tmp 0)), []⟩,
  ⟨some 8, none, .p (.conv .u64 (.tmp 7)), []⟩,
  ⟨some 9, none, .p (.mov (.tmp 1)), []⟩,
  ⟨some 10, none, .p (.conv .u64 (.tmp 9)), []⟩,
  ⟨some 11, none, .p (.bin .mul (.tmp 8) (.tmp 10)), []⟩,
  ⟨some 6, none, .p (.mov (.tmp 11)), []⟩]
def r36_2 : List AOper := [
  ⟨some 12, none, .p (.mov (.tmp 6)), []⟩,
  ⟨some 13, none, .p (.bin .shr (.tmp 12) (.const (.int .u64 32))), []⟩,
  ⟨some 14, none, .p (.conv .u32 (.tmp 13)), []⟩,
  ⟨some 15, none, .p (.mov (.tmp 6)), []⟩,
  ⟨some 16, none, .p (.conv .u32 (.tmp 15)), []⟩,
  ⟨some 4, none, .p (.mov (.tmp 14)), []⟩,
  ⟨some 5, none, .p (.mov (.tmp 16)), []⟩]
def f36 : AFn := { body := .seq (.region r36_0) (.seq (.region r36_1) (.seq (.region r36_2) (.ret))), results := [.tmp 4, .tmp 5], n := 17 }

/-! function 37: "math/bits.Mul64" -/
def r37_0 : List AOper := [
  ⟨some 4, none, .p (.mov (.const (.int .u64 0))), []⟩,
  ⟨some 5, none, .p (.mov (.const (.int .u64 0))), []⟩]
def r37_1 : List AOper := [
  ⟨some 14, none, .p (.mov (.tmp 0)), []⟩,
  ⟨some 15, none, .p (.bin .and (.tmp 14) (.const (.int .u64 4294967295))), []⟩,
  ⟨some 6, none, .p (.mov (.tmp 15)), []⟩]
def r37_2 : List AOper := [
  ⟨some 16, none, .p (.mov (.tmp 0)), []⟩,
  ⟨some 17, none, .p (.bin .shr (.tmp 16) (.const (.int .u64 32))), []⟩,
  ⟨some 7, none, .p (.mov (.tmp 17)), []⟩]
def r37_3 : List AOper := [
  ⟨some 18, none, .p (.mov (.tmp 1)), []⟩,
  ⟨some 19, none, .p (.bin .and (.tmp 18) (.const (.int .u64 4294967295))), []⟩,
  ⟨some 8, none, .p (.mov (.tmp 19)), []⟩]
def r37_4 : List AOper := [
  ⟨some 20, none, .p (.mov (.tmp 1)), []⟩,
  ⟨some 21, none, .p (.bin .shr (.tmp 20) (.const (.int .u64 32))), []⟩,
  ⟨some 9, none, .p (.mov (.tmp 21)), []⟩]
def r37_5 : List AOper := [
  ⟨some 22, none, .p (.mov (.tmp 6)), []⟩,
  ⟨some 23, none, .p (.mov (.tmp 8)), []⟩,
  ⟨some 24, none, .p (.bin .mul (.tmp 22) (.tmp 23)), []⟩,
  ⟨some 10, none, .p (.mov (.tmp 24)), []⟩]
def r37_6 : List AOper := [
  ⟨some 25, none, .p (.mov (.tmp 7)), []⟩,
  ⟨some 26, none, .p (.mov (.tmp 8)), []⟩,
  ⟨some 27, none, .p (.bin .mul (.tmp 25) (.tmp 26)), []⟩,
  ⟨some 28, none, .p (.mov (.tmp 10)), []⟩,
  ⟨some 29, none, .p (.bin .shr (.tmp 28) (.const (.int .u64 32))), []⟩,
  ⟨some 30, none, .p (.bin .add (.tmp 27) (.tmp 29)), []⟩,
  ⟨some 11, none, .p (.mov (.tmp 30)), []⟩]
def r37_7 : List AOper := [
  ⟨some 31, none, .p (.mov (.tmp 11)), []⟩,
  ⟨some 32, none, .p (.bin .and (.tmp 31) (.const (.int .u64 4294967295))), []⟩,
  ⟨some 12, none, .p (.mov (.tmp 32)), []⟩]
def r37_8 : List AOper := [
  ⟨some 33, none, .p (.mov (.tmp 11)), []⟩,
  ⟨some 34, none, .p (.bin .shr (.tmp 33) (.const (.int .u64 32))), []⟩,
  ⟨some 13, none, .p (.mov (.tmp 34)), []⟩]
def r37_9 : List AOper := [
  ⟨some 35, none, .p (.mov (.tmp 12)), []⟩,
  ⟨some 36, none, .p (.mov (.tmp 6)), []⟩,
  ⟨some 37, none, .p (.mov (.tmp 9)), []⟩,
  ⟨some 38, none, .p (.bin .mul (.tmp 36) (.tmp 37)), []⟩,
  ⟨some 39, none, .p (.bin .add (.tmp 35) (.tmp 38)), []⟩,
  ⟨some 12, none, .p (.mov (.tmp 39)), []⟩]
def r37_10 : List AOper := [
  ⟨some 40, none, .p (.mov (.tmp 7)), []⟩,
  ⟨some 41, none, .p (.mov (.tmp 9)), []⟩,
  ⟨some 42, none, .p (.bin .mul (.tmp 40) (.tmp 41)), []⟩,
  ⟨some 43, none, .p (.mov (.tmp 13)), []⟩,
  ⟨some 44, none, .p (.bin .add (.tmp 42) (.tmp 43)), []⟩,
  ⟨some 45, none, .p (.mov (.tmp 12)), []⟩,
  ⟨some 46, none, .p (.bin .shr (.tmp 45) (.const (.int .u64 32))), []⟩,
  ⟨some 47, none, .p (.bin .add (.tmp 44) (.tmp 46)), []⟩,
  ⟨some 4, none, .p (.mov (.tmp 47)), []⟩]
def r37_11 : List AOper := [
  ⟨some 48, none, .p (.mov (.tmp 0)), []⟩,
  ⟨some 49, none, .p (.mov (.tmp 1)), []⟩,
  ⟨some 50, none, .p (.bin .mul (.tmp 48) (.tmp 49)), []⟩,
  ⟨some 5, none, .p (.mov (.tmp 50)), []⟩]
def f37 : AFn := { body := .seq (.region r37_0) (.seq (.region r37_1) (.seq (.region r37_2) (.seq (.region r37_3) (.seq (.region r37_4) (.seq (.region r37_5) (.seq (.region r37_6) (.seq (.region r37_7) (.seq (.region r37_8) (.seq (.region r37_9) (.seq (.region r37_10) (.seq (.region r37_11) (.ret)))))))))))), results := [.tmp 4, .tmp 5], n := 51 }

/-! function 53: "(woggle/queue.idle).number" -/
def r53_0 : List AOper := [
  ⟨some 1, none, .a (.box (.tmp 0)), []⟩,
  ⟨some 2, none, .p (.mov (.const (.int .i64 0))), []⟩]
def r53_1 : List AOper := [
  ⟨some 2, none, .p (.mov (.const (.int .i64 0))), []⟩]
def f53 : AFn := { body := .seq (.region r53_0) (.seq (.region r53_1) (.ret)), results := [.tmp 2], n := 3 }

/-! function 54: "(woggle/queue.inside).number" -/
def r54_0 : List AOper := [
  ⟨some 1, none, .a (.box (.tmp 0)), []⟩,
  ⟨some 2, none, .p (.mov (.const (.int .i64 0))), []⟩]
def r54_1 : List AOper := [
  ⟨some 2, none, .p (.mov (.const (.int .i64 7))), []⟩]
def f54 : AFn := { body := .seq (.region r54_0) (.seq (.region r54_1) (.ret)), results := [.tmp 2], n := 3 }

/-! function 55: "(woggle/queue.announce).number" -/
def r55_0 : List AOper := [
  ⟨some 1, none, .a (.box (.tmp 0)), []⟩,
  ⟨some 2, none, .p (.mov (.const (.int .i64 0))), []⟩]
def r55_1 : List AOper := [
  ⟨some 2, none, .p (.mov (.const (.int .i64 1))), []⟩]
def f55 : AFn := { body := .seq (.region r55_0) (.seq (.region r55_1) (.ret)), results := [.tmp 2], n := 3 }

/-! function 56: "(woggle/queue.read).number" -/
def r56_0 : List AOper := [
  ⟨some 1, none, .a (.box (.tmp 0)), []⟩,
  ⟨some 2, none, .p (.mov (.const (.int .i64 0))), []⟩]
def r56_1 : List AOper := [
  ⟨some 2, none, .p (.mov (.const (.int .i64 2))), []⟩]
def f56 : AFn := { body := .seq (.region r56_0) (.seq (.region r56_1) (.ret)), results := [.tmp 2], n := 3 }

/-! function 57: "(woggle/queue.take).number" -/
def r57_0 : List AOper := [
  ⟨some 1, none, .a (.box (.tmp 0)), []⟩,
  ⟨some 2, none, .p (.mov (.const (.int .i64 0))), []⟩]
def r57_1 : List AOper := [
  ⟨some 2, none, .p (.mov (.const (.int .i64 3))), []⟩]
def f57 : AFn := { body := .seq (.region r57_0) (.seq (.region r57_1) (.ret)), results := [.tmp 2], n := 3 }

/-! function 58: "(woggle/queue.announced).number" -/
def r58_0 : List AOper := [
  ⟨some 1, none, .a (.box (.tmp 0)), []⟩,
  ⟨some 2, none, .p (.mov (.const (.int .i64 0))), []⟩]
def r58_1 : List AOper := [
  ⟨some 2, none, .p (.mov (.const (.int .i64 4))), []⟩]
def f58 : AFn := { body := .seq (.region r58_0) (.seq (.region r58_1) (.ret)), results := [.tmp 2], n := 3 }

/-! function 59: "(woggle/queue.choice).number" -/
def r59_0 : List AOper := [
  ⟨some 1, none, .a (.box (.tmp 0)), []⟩,
  ⟨some 2, none, .p (.mov (.const (.int .i64 0))), []⟩]
def r59_1 : List AOper := [
  ⟨some 2, none, .p (.mov (.const (.int .i64 5))), []⟩]
def f59 : AFn := { body := .seq (.region r59_0) (.seq (.region r59_1) (.ret)), results := [.tmp 2], n := 3 }

/-! function 60: "(woggle/queue.turn).number" -/
def r60_0 : List AOper := [
  ⟨some 1, none, .a (.box (.tmp 0)), []⟩,
  ⟨some 2, none, .p (.mov (.const (.int .i64 0))), []⟩]
def r60_1 : List AOper := [
  ⟨some 2, none, .p (.mov (.const (.int .i64 6))), []⟩]
def f60 : AFn := { body := .seq (.region r60_0) (.seq (.region r60_1) (.ret)), results := [.tmp 2], n := 3 }

def ord : FuncId → Nat → List Nat
  | 5, 10 => [0, 1, 2, 3, 4, 5, 6]
  | 16, 15 => [0, 1, 2, 3, 4, 5, 6, 7, 8, 9, 10, 11, 12, 13]
  | 16, 34 => [0, 1, 2, 3, 4, 5, 6, 7, 8, 9, 10, 11, 12, 13, 14, 15, 16]
  | 21, 5 => [0, 1, 2, 3, 4, 5, 6, 7, 8, 9]
  | 21, 6 => [0, 1, 2, 3, 4, 5, 6]
  | 21, 7 => [0, 1, 2, 3, 4, 5, 6, 7, 8, 9]
  | 22, 9 => [0, 1, 2, 3, 4, 5, 6, 7, 8, 9]
  | 28, 4 => [0, 1, 2, 3, 4, 5, 6, 7, 8]
  | 28, 5 => [0, 1, 2, 3, 4, 5, 6, 7, 8, 9]
  | 29, 1 => [0, 1, 2, 3, 4, 5, 6, 7, 8, 9, 10, 11, 12, 13, 14, 15, 16, 17]
  | 32, 2 => [0, 1, 2, 3, 4, 5, 6, 7, 8, 9, 10]
  | 32, 8 => [0, 1, 2, 3, 4, 5, 6, 7, 8, 9, 10, 11]
  | _, _ => []

def T : FuncId → Option AFn
  | 3 => some f3
  | 4 => some f4
  | 5 => some f5
  | 6 => some f6
  | 7 => some f7
  | 8 => some f8
  | 9 => some f9
  | 10 => some f10
  | 11 => some f11
  | 12 => some f12
  | 13 => some f13
  | 14 => some f14
  | 15 => some f15
  | 16 => some f16
  | 17 => some f17
  | 18 => some f18
  | 19 => some f19
  | 20 => some f20
  | 21 => some f21
  | 22 => some f22
  | 23 => some f23
  | 24 => some f24
  | 25 => some f25
  | 26 => some f26
  | 27 => some f27
  | 28 => some f28
  | 29 => some f29
  | 30 => some f30
  | 31 => some f31
  | 32 => some f32
  | 33 => some f33
  | 34 => some f34
  | 35 => some f35
  | 36 => some f36
  | 37 => some f37
  | 53 => some f53
  | 54 => some f54
  | 55 => some f55
  | 56 => some f56
  | 57 => some f57
  | 58 => some f58
  | 59 => some f59
  | 60 => some f60
  | _ => none
end Go.AM.Fn
